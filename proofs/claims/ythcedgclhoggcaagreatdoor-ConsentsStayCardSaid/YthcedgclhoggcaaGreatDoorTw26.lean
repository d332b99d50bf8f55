/- Contracts of functions of the program: each computes what its model says; the conditions stand at each. -/
import Derived.Test.YthcedgclhoggcaaGreatDoorTw25
import Derived.Test.YthcedgclhoggcaaGreatDoorTc3d
set_option linter.unusedSimpArgs false
set_option linter.unusedVariables false
set_option maxRecDepth 20000
set_option pp.deepTerms false
set_option pp.deepTerms.threshold 3
namespace Go.Proofs.YthcedgclhoggcaaGreatDoor
open Go Go.Ab Go.Pm Go.Cm
variable (G : Nat → AV) (H : Nat → Option AObj)
def cnoOf (u : List Stm) (purpose : T) (wait : Int) (g : Stm) : Int := ((confirmation u purpose g.at' (g.at' + wait)).getD noStm).no
def proofOut (u : List Stm) (purpose : T) (wait no : Int) (done : List Stm) : List Int := no :: (done.filter (fun g => decide (g.no = no))).map (cnoOf u purpose wait)
def proofL (q : Q) (l : List Stm) (x : Idn) : List Int :=
  if (answer q l x q.at').no = 0 then []
  else if (answer q l x q.at').why ≠ 2 ∨ ((termOf q.p q.purpose q.region q.channel).getD noTerm).wait = 0 then [(answer q l x q.at').no]
  else isort ltI (proofOut (upTo (saidBy l x q.channel) q.at') q.purpose ((termOf q.p q.purpose q.region q.channel).getD noTerm).wait (answer q l x q.at').no (upTo (saidBy l x q.channel) q.at'))
def proofOf (q : Q) (l : List Stm) (x : Idn) : List Int × Int := if checkAll q l 1 [x] ≠ 0 then ([], checkAll q l 1 [x]) else (proofL q l x, 0)
/-- What a run of Proof hands back. -/
def ProofR (H : Nat → Option AObj) (pe : List Int × Int) (r : AV) (H' : Nat → Option AObj) : Prop := (r = .tup [lsI pe.1, .int pe.2] ∧ H' = H ∧ pe.1 = []) ∨ ∃ o, r = .tup [.os o 0 pe.1.length, .int pe.2] ∧ H' o = some ⟨3, 1, pe.1.map IC⟩ ∧ Sub H H' ∧ H o = none ∧ pe.1 ≠ [] ∧ pe.1.length ≤ 2
set_option maxHeartbeats 1600000 in
theorem proof_run (hG : GOk G) (nzp nz : Bool) (p : List Purpose) (l : List Stm) (x : Idn) (purpose region : T) (channel at' : Int) (hP : SmallP p) (hpl : p.length ≤ 1000000) (hS : SmallS l) (hl : l.length ≤ 19) (hr : region.size ≤ 9223372036854775807) (hx : x.text.size < 4294967281) (hone : ∀ no, ((upTo (saidBy l x channel) at').filter (fun g => decide (g.no = no))).length ≤ 1) (k : Nat) : ACalls Tryz.prog G 21 [.ls nzp (p.map Purpose.c), .ls nz (l.map Stm.c), .agg x.c, .str purpose, .str region, .int channel, .int at'] H k fun r H' n' => ProofR H (proofOf ⟨p, nzp, purpose, region, channel, at'⟩ l x) r H' := by
  refine ACalls.start mix F21o (by simp) fun hlow => ?_
  generalize hq : (⟨p, nzp, purpose, region, channel, at'⟩ : Q) = q
  have e1 : q.p = p := by rw [← hq]
  have e2 : q.nz = nzp := by rw [← hq]
  have e3 : q.purpose = purpose := by rw [← hq]
  have e4 : q.region = region := by rw [← hq]
  have e5 : q.channel = channel := by rw [← hq]
  have e6 : q.at' = at' := by rw [← hq]
  clear hq
  subst e1 e2 e3 e4 e5 e6
  have hq := Qt.refl hlow
  have hchk : ∀ H, AFn Tryz.prog G 40 [.agg q.c, .ls nz (l.map Stm.c), .int 1, .ls true [[.int x.kind, .str x.text]]] H (.int (checkAll q l 1 [x])) := fun H => by
    obtain ⟨m, cs, hGm⟩ := hG.maxLen
    exact checkAll_c G H hGm nz true q l 1 [x] hP hpl hS hr (by simp) (by simpa using hx)
  simp -dsimp -implicitDefEqProofs (disch := omega) only [↓wpre, push_cast, reduceCtorEq, ↓reduceIte, Nat.reduceEqDiff, Nat.reduceLeDiff, Nat.reduceAdd, Nat.reduceLT, Int.reduceEq, Int.reduceLT, Int.reduceLE, Int.reduceNeg, Int.reduceAdd, c21o]
  refine (hchk _).x fun n1 hn1 => ?_
  by_cases h0 : checkAll q l 1 [x] = 0
  case neg =>
    simp -dsimp -implicitDefEqProofs (disch := omega) only [↓wpre, push_cast, reduceCtorEq, ↓reduceIte, Nat.reduceEqDiff, Nat.reduceLeDiff, Nat.reduceAdd, Nat.reduceLT, Int.reduceEq, Int.reduceLT, Int.reduceLE, Int.reduceNeg, Int.reduceAdd, h0]
    exact fin_intro (by exact (Qt.mono (n := k) (by repeat (first | exact hq | refine Qt.hu ?_ (by omega))) (Nat.le_refl _)).1) (.inl ⟨by rw [proofOf, if_pos (by simpa using h0)]; rfl, rfl, by rw [proofOf, if_pos (by simpa using h0)]⟩)
  have e : proofOf q l x = (proofL q l x, 0) := by rw [proofOf, if_neg (by simpa using h0)]
  rw [e]
  clear e
  have h1 : Cm.check q.p l = 0 := by grind [checkAll]
  have h2 : q.check = 0 := by grind [checkAll]
  have h3 := check_all h1
  have h4 := checkPolicy_all h3.1
  have h5 := qcheck_all h2
  have hsl : (saidBy l x q.channel).length ≤ 19 := by rw [saidBy, isort_length]; exact Nat.le_trans (List.length_filter_le _ _) (by omega)
  have htb : ∀ u, termOf q.p q.purpose q.region q.channel = some u → 0 ≤ u.days ∧ u.days ≤ 2000 ∧ 0 ≤ u.wait ∧ u.wait ≤ 100000 := fun u hu => by
    obtain ⟨p, hp, ht⟩ := termOf_mem hu
    exact (h4 p hp).2 u ht
  have hsb : ∀ s ∈ saidBy l x q.channel, 0 ≤ s.at' ∧ s.at' ≤ 4321439 := fun s hs => h3.2 s (saidBy_mem hs)
  simp -dsimp -implicitDefEqProofs (disch := omega) only [↓wpre, push_cast, reduceCtorEq, ↓reduceIte, Nat.reduceEqDiff, Nat.reduceLeDiff, Nat.reduceAdd, Nat.reduceLT, Int.reduceEq, Int.reduceLT, Int.reduceLE, Int.reduceNeg, Int.reduceAdd, h0]
  refine AFn.x (ask_c G _ nz q l x hl hpl (fun p hp => by have := (h4 p hp).1; omega)) fun n2 hn2 => ?_
  simp -dsimp -implicitDefEqProofs (disch := omega) only [↓wpre, push_cast, reduceCtorEq, ↓reduceIte, Nat.reduceEqDiff, Nat.reduceLeDiff, Nat.reduceAdd, Nat.reduceLT, Int.reduceEq, Int.reduceLT, Int.reduceLE, Int.reduceNeg, Int.reduceAdd, lsOf]
  refine AFn.x (answer_c G _ _ (termOf q.p q.purpose q.region q.channel) q.purpose (saidBy l x q.channel) q.at' (by omega) (fun u hu => by have := htb u hu; omega) (fun s hs => by have := hsb s hs; omega) (by omega)) fun n3 hn3 => ?_
  have ha : answerL (termOf q.p q.purpose q.region q.channel) q.purpose (saidBy l x q.channel) q.at' = answer q l x q.at' := rfl
  rw [ha]
  generalize hpr : proofL q l x = pl
  unfold proofL at hpr
  generalize answer q l x q.at' = a at hpr ⊢
  by_cases hno : a.no = 0
  · rw [if_pos hno] at hpr
    simp -dsimp -implicitDefEqProofs (disch := omega) only [↓wpre, push_cast, reduceCtorEq, ↓reduceIte, Nat.reduceEqDiff, Nat.reduceLeDiff, Nat.reduceAdd, Nat.reduceLT, Int.reduceEq, Int.reduceLT, Int.reduceLE, Int.reduceNeg, Int.reduceAdd, hno]
    exact fin_intro (by exact (Qt.mono (n := k) (by repeat (first | exact hq | refine Qt.hu ?_ (by omega))) (Nat.le_refl _)).1) (.inl ⟨by rw [← hpr]; rfl, rfl, by rw [← hpr]⟩)
  rw [if_neg hno] at hpr
  by_cases hw : a.why ≠ 2 ∨ ((termOf q.p q.purpose q.region q.channel).getD noTerm).wait = 0
  · rw [if_pos hw] at hpr
    subst hpr
    simp -dsimp -implicitDefEqProofs (disch := omega) only [↓wpre, push_cast, reduceCtorEq, ↓reduceIte, Nat.reduceEqDiff, Nat.reduceLeDiff, Nat.reduceAdd, Nat.reduceLT, Int.reduceEq, Int.reduceLT, Int.reduceLE, Int.reduceNeg, Int.reduceAdd, hno]
    repeat' (first | ((first | with_reducible refine cnd_ndec (fun hc => ?_) (fun hc => ?_) | with_reducible refine cnd_dec (fun hc => ?_) (fun hc => ?_) | with_reducible refine cnd_nb (fun hc => ?_) (fun hc => ?_) | with_reducible refine cnd_intro (fun hc => ?_) (fun hc => ?_)) <;> (first | (exfalso; omega) | (try simp -dsimp -implicitDefEqProofs (disch := omega) only [↓wpre, push_cast, reduceCtorEq, ↓reduceIte, Nat.reduceEqDiff, Nat.reduceLeDiff, Nat.reduceAdd, Nat.reduceLT, Int.reduceEq, Int.reduceLT, Int.reduceLE, Int.reduceNeg, Int.reduceAdd, hc, true_and]))) | (with_reducible refine anyN_intro fun n' hn' => ?_; try simp -dsimp -implicitDefEqProofs (disch := omega) only [↓wpre, push_cast, reduceCtorEq, ↓reduceIte, Nat.reduceEqDiff, Nat.reduceLeDiff, Nat.reduceAdd, Nat.reduceLT, Int.reduceEq, Int.reduceLT, Int.reduceLE, Int.reduceNeg, Int.reduceAdd, true_and]) | fail)
    all_goals first
      | (exfalso; omega)
      | (refine fin_intro (Sub.refl _) (.inr ⟨n3 + 1, rfl, ?_, by exact (Qt.mono (n := k) (by repeat (first | exact hq | refine Qt.hu ?_ (by omega))) (Nat.le_refl _)).1, ?_, by simp, by simp⟩)
         · simp -dsimp -implicitDefEqProofs (disch := omega) only [↓wpre, push_cast, reduceCtorEq, ↓reduceIte, Nat.reduceEqDiff, Nat.reduceLeDiff, Nat.reduceAdd, Nat.reduceLT, Int.reduceEq, Int.reduceLT, Int.reduceLE, Int.reduceNeg, Int.reduceAdd, true_and]; try rfl
         · cases hx : H (n3 + 1) with
           | none => rfl
           | some o => exact absurd (hlow _ o hx) (by omega))
      | trace_state
  rw [if_neg hw] at hpr
  have hw1 : a.why = 2 := by omega
  have hw2 : ¬ ((termOf q.p q.purpose q.region q.channel).getD noTerm).wait = 0 := by omega
  simp -dsimp -implicitDefEqProofs (disch := omega) only [↓wpre, push_cast, reduceCtorEq, ↓reduceIte, Nat.reduceEqDiff, Nat.reduceLeDiff, Nat.reduceAdd, Nat.reduceLT, Int.reduceEq, Int.reduceLT, Int.reduceLE, Int.reduceNeg, Int.reduceAdd, hno, hw1, hw2]
  refine (upTo_c G _ _ (saidBy l x q.channel) q.at' (by omega) (by omega)).x fun n4 hn4 => ?_
  simp -dsimp -implicitDefEqProofs (disch := omega) only [↓wpre, push_cast, reduceCtorEq, ↓reduceIte, Nat.reduceEqDiff, Nat.reduceLeDiff, Nat.reduceAdd, Nat.reduceLT, Int.reduceEq, Int.reduceLT, Int.reduceLE, Int.reduceNeg, Int.reduceAdd, true_and]
  have hul : (upTo (saidBy l x q.channel) q.at').length ≤ 19 := by rw [upTo, List.length_take]; omega
  have hub : ∀ s ∈ upTo (saidBy l x q.channel) q.at', 0 ≤ s.at' ∧ s.at' ≤ 4321439 := fun s hs => hsb s (List.mem_of_mem_take hs)
  have hone' := hone a.no
  have hwb : 0 ≤ ((termOf q.p q.purpose q.region q.channel).getD noTerm).wait ∧ ((termOf q.p q.purpose q.region q.channel).getD noTerm).wait ≤ 100000 := by
    cases ht : termOf q.p q.purpose q.region q.channel with
    | none => simp [noTerm]
    | some u => have := htb u ht; simp; omega
  generalize upTo (saidBy l x q.channel) q.at' = u at hul hub hone' hpr ⊢
  refine xw_loopJ (σ := List Stm × List Stm × Nat) (fun t => [(3, .str q.purpose), (18, .op n2 0 0), (19, .op n3 0 0), (20, .os t.2.2 0 (proofOut u q.purpose ((termOf q.p q.purpose q.region q.channel).getD noTerm).wait a.no t.1).length), (21, .ls (!((saidBy l x q.channel).map Stm.c).isEmpty) (u.map Stm.c)), (67, .ls (!((saidBy l x q.channel).map Stm.c).isEmpty) (u.map Stm.c)), (68, .int u.length), (69, .int t.1.length)]) (fun t H' n' => u = t.1 ++ t.2.1 ∧ H' n2 = some ⟨89, 8, [askedC (termOf q.p q.purpose q.region q.channel) q.purpose (lsOf ((saidBy l x q.channel).map Stm.c))]⟩ ∧ H' n3 = some ⟨37, 3, [a.c]⟩ ∧ H' t.2.2 = some ⟨3, 1, (proofOut u q.purpose ((termOf q.p q.purpose q.region q.channel).getD noTerm).wait a.no t.1).map IC⟩ ∧ Qt H H' k ∧ n3 < t.2.2 ∧ t.2.2 < n') (fun t => t.2.1.length) ([], u, n3 + 1) ⟨rfl, by simp -dsimp -implicitDefEqProofs (disch := omega) only [↓wpre, push_cast, reduceCtorEq, ↓reduceIte, Nat.reduceEqDiff, Nat.reduceLeDiff, Nat.reduceAdd, Nat.reduceLT, Int.reduceEq, Int.reduceLT, Int.reduceLE, Int.reduceNeg, Int.reduceAdd, lsOf], by simp -dsimp -implicitDefEqProofs (disch := omega) only [↓wpre, push_cast, reduceCtorEq, ↓reduceIte, Nat.reduceEqDiff, Nat.reduceLeDiff, Nat.reduceAdd, Nat.reduceLT, Int.reduceEq, Int.reduceLT, Int.reduceLE, Int.reduceNeg, Int.reduceAdd, hw1]; try simp [Answer.c, hw1], by simp -dsimp -implicitDefEqProofs (disch := omega) only [↓wpre, push_cast, reduceCtorEq, ↓reduceIte, Nat.reduceEqDiff, Nat.reduceLeDiff, Nat.reduceAdd, Nat.reduceLT, Int.reduceEq, Int.reduceLT, Int.reduceLE, Int.reduceNeg, Int.reduceAdd, true_and]; rfl, by exact Qt.mono (n := k) (by repeat (first | exact hq | refine Qt.hu ?_ (by omega))) (by omega), Nat.lt_succ_self _, by (first | omega | (dsimp only; omega))⟩ (by simp -dsimp -implicitDefEqProofs (disch := omega) only [↓wpre, push_cast, reduceCtorEq, ↓reduceIte, Nat.reduceEqDiff, Nat.reduceLeDiff, Nat.reduceAdd, Nat.reduceLT, Int.reduceEq, Int.reduceLT, Int.reduceLE, Int.reduceNeg, Int.reduceAdd, true_and]; try rfl) ?_
  clear hq
  rintro ⟨d, b, oid⟩ fr H' m1 ⟨hab, hk2, hk3, hko, hq, hlo, hmo⟩ hh
  simp only [has_nil, has_cons, and_true] at hh hko hlo hmo hab
  have hdl : (d.filter (fun g => decide (g.no = a.no))).length ≤ 1 := by
    rw [hab, List.filter_append, List.length_append] at hone'
    omega
  have hpo : (proofOut u q.purpose ((termOf q.p q.purpose q.region q.channel).getD noTerm).wait a.no d).length ≤ 2 := by
    simp only [proofOut, List.length_cons, List.length_map]
    omega
  cases b with
  | nil =>
    rw [List.append_nil] at hab
    subst hab
    simp -dsimp -implicitDefEqProofs (disch := omega) only [↓wpre, push_cast, reduceCtorEq, ↓reduceIte, Nat.reduceEqDiff, Nat.reduceLeDiff, Nat.reduceAdd, Nat.reduceLT, Int.reduceEq, Int.reduceLT, Int.reduceLE, Int.reduceNeg, Int.reduceAdd, hh]
    refine (sortI_c G _ oid (proofOut u q.purpose ((termOf q.p q.purpose q.region q.channel).getD noTerm).wait a.no u) (by omega) _ hko).x fun r H2 m2 h => ?_
    subst h
    simp -dsimp -implicitDefEqProofs (disch := omega) only [↓wpre, push_cast, reduceCtorEq, ↓reduceIte, Nat.reduceEqDiff, Nat.reduceLeDiff, Nat.reduceAdd, Nat.reduceLT, Int.reduceEq, Int.reduceLT, Int.reduceLE, Int.reduceNeg, Int.reduceAdd, hh]
    have hl2 : pl.length = (proofOut u q.purpose ((termOf q.p q.purpose q.region q.channel).getD noTerm).wait a.no u).length := by rw [← hpr, isort_length]
    refine fin_intro (Sub.refl _) (.inr ⟨oid, by rw [hl2], by rw [hu_same, hpr], (hq.hu (by omega)).1, ?_, fun e => ?_, by show pl.length ≤ 2; rw [hl2]; exact hpo⟩)
    · cases hx : H oid with
      | none => rfl
      | some o => exact absurd (hlow _ o hx) (by omega)
    · have e : pl = [] := e
      rw [e] at hl2
      simp [proofOut] at hl2
  | cons g b =>
    have hul' : d.length + (b.length + 1) ≤ 19 := by rw [hab] at hul; simpa using hul
    have hlt : (d.length : Int) < u.length := by rw [hab]; simp only [List.length_append, List.length_cons]; omega
    have hgb := hub g (by rw [hab]; simp)
    have hget : u[d.length]? = some g := by rw [hab]; simp
    simp -dsimp -implicitDefEqProofs (disch := omega) only [↓wpre, push_cast, reduceCtorEq, ↓reduceIte, Nat.reduceEqDiff, Nat.reduceLeDiff, Nat.reduceAdd, Nat.reduceLT, Int.reduceEq, Int.reduceLT, Int.reduceLE, Int.reduceNeg, Int.reduceAdd, hh, hlt, even_stms', aidx_at _ hget, hk3]
    by_cases hg : g.no = a.no
    · have hpd : proofOut u q.purpose ((termOf q.p q.purpose q.region q.channel).getD noTerm).wait a.no (d ++ [g]) = proofOut u q.purpose ((termOf q.p q.purpose q.region q.channel).getD noTerm).wait a.no d ++ [cnoOf u q.purpose ((termOf q.p q.purpose q.region q.channel).getD noTerm).wait g] := by
        simp [proofOut, List.filter_append, hg]
      simp -dsimp -implicitDefEqProofs (disch := omega) only [↓wpre, push_cast, reduceCtorEq, ↓reduceIte, Nat.reduceEqDiff, Nat.reduceLeDiff, Nat.reduceAdd, Nat.reduceLT, Int.reduceEq, Int.reduceLT, Int.reduceLE, Int.reduceNeg, Int.reduceAdd, hh, hg, hk2, hk3]
      refine AFn.x (confirmation_c G _ _ u q.purpose g.at' (g.at' + ((termOf q.p q.purpose q.region q.channel).getD noTerm).wait) (by omega)) fun m2 hm2 => ?_
      simp -dsimp -implicitDefEqProofs (disch := omega) only [↓wpre, push_cast, reduceCtorEq, ↓reduceIte, Nat.reduceEqDiff, Nat.reduceLeDiff, Nat.reduceAdd, Nat.reduceLT, Int.reduceEq, Int.reduceLT, Int.reduceLE, Int.reduceNeg, Int.reduceAdd, hh]
      rw [xapp_os (rows := (proofOut u q.purpose ((termOf q.p q.purpose q.region q.channel).getD noTerm).wait a.no d).map IC) (len := (proofOut u q.purpose ((termOf q.p q.purpose q.region q.channel).getD noTerm).wait a.no d).length) (by simp -dsimp -implicitDefEqProofs (disch := omega) only [↓wpre, push_cast, reduceCtorEq, ↓reduceIte, Nat.reduceEqDiff, Nat.reduceLeDiff, Nat.reduceAdd, Nat.reduceLT, Int.reduceEq, Int.reduceLT, Int.reduceLE, Int.reduceNeg, Int.reduceAdd, hko]) (by simp) (by intro r hr; simp at hr; subst hr; exact ⟨rfl, rfl⟩) (by simp) (by simp only [List.length_cons, List.length_nil]; omega)]
      simp -dsimp -implicitDefEqProofs (disch := omega) only [↓wpre, push_cast, reduceCtorEq, ↓reduceIte, Nat.reduceEqDiff, Nat.reduceLeDiff, Nat.reduceAdd, Nat.reduceLT, Int.reduceEq, Int.reduceLT, Int.reduceLE, Int.reduceNeg, Int.reduceAdd, hh]
      refine againJ (d ++ [g], b, m2 + 1) (Nat.lt_succ_self _) ⟨by rw [hab]; simp, by simp -dsimp -implicitDefEqProofs (disch := omega) only [↓wpre, push_cast, reduceCtorEq, ↓reduceIte, Nat.reduceEqDiff, Nat.reduceLeDiff, Nat.reduceAdd, Nat.reduceLT, Int.reduceEq, Int.reduceLT, Int.reduceLE, Int.reduceNeg, Int.reduceAdd, hk2], by simp -dsimp -implicitDefEqProofs (disch := omega) only [↓wpre, push_cast, reduceCtorEq, ↓reduceIte, Nat.reduceEqDiff, Nat.reduceLeDiff, Nat.reduceAdd, Nat.reduceLT, Int.reduceEq, Int.reduceLT, Int.reduceLE, Int.reduceNeg, Int.reduceAdd, hk3], ?_, by exact Qt.mono (n := k) (by repeat (first | exact hq | refine Qt.hu ?_ (by omega))) (by omega), by dsimp only; omega, by dsimp only; omega⟩ (by simp -dsimp -implicitDefEqProofs (disch := omega) only [↓wpre, push_cast, reduceCtorEq, ↓reduceIte, Nat.reduceEqDiff, Nat.reduceLeDiff, Nat.reduceAdd, Nat.reduceLT, Int.reduceEq, Int.reduceLT, Int.reduceLE, Int.reduceNeg, Int.reduceAdd, hh]; simp [hpd])
      dsimp only
      rw [hu_same, hpd, List.map_append]
      rfl
    · have hpd : proofOut u q.purpose ((termOf q.p q.purpose q.region q.channel).getD noTerm).wait a.no (d ++ [g]) = proofOut u q.purpose ((termOf q.p q.purpose q.region q.channel).getD noTerm).wait a.no d := by
        simp [proofOut, List.filter_append, hg]
      simp -dsimp -implicitDefEqProofs (disch := omega) only [↓wpre, push_cast, reduceCtorEq, ↓reduceIte, Nat.reduceEqDiff, Nat.reduceLeDiff, Nat.reduceAdd, Nat.reduceLT, Int.reduceEq, Int.reduceLT, Int.reduceLE, Int.reduceNeg, Int.reduceAdd, hh, hg, hk3]
      refine againJ (d ++ [g], b, oid) (Nat.lt_succ_self _) ⟨by rw [hab]; simp, by simp -dsimp -implicitDefEqProofs (disch := omega) only [↓wpre, push_cast, reduceCtorEq, ↓reduceIte, Nat.reduceEqDiff, Nat.reduceLeDiff, Nat.reduceAdd, Nat.reduceLT, Int.reduceEq, Int.reduceLT, Int.reduceLE, Int.reduceNeg, Int.reduceAdd, hk2], by simp -dsimp -implicitDefEqProofs (disch := omega) only [↓wpre, push_cast, reduceCtorEq, ↓reduceIte, Nat.reduceEqDiff, Nat.reduceLeDiff, Nat.reduceAdd, Nat.reduceLT, Int.reduceEq, Int.reduceLT, Int.reduceLE, Int.reduceNeg, Int.reduceAdd, hk3], by rw [hpd]; simp -dsimp -implicitDefEqProofs (disch := omega) only [↓wpre, push_cast, reduceCtorEq, ↓reduceIte, Nat.reduceEqDiff, Nat.reduceLeDiff, Nat.reduceAdd, Nat.reduceLT, Int.reduceEq, Int.reduceLT, Int.reduceLE, Int.reduceNeg, Int.reduceAdd, hko], by exact Qt.mono (n := k) (by repeat (first | exact hq | refine Qt.hu ?_ (by omega))) (by omega), by dsimp only; omega, by dsimp only; omega⟩ (by simp -dsimp -implicitDefEqProofs (disch := omega) only [↓wpre, push_cast, reduceCtorEq, ↓reduceIte, Nat.reduceEqDiff, Nat.reduceLeDiff, Nat.reduceAdd, Nat.reduceLT, Int.reduceEq, Int.reduceLT, Int.reduceLE, Int.reduceNeg, Int.reduceAdd, hh]; simp [hpd])
end Go.Proofs.YthcedgclhoggcaaGreatDoor

