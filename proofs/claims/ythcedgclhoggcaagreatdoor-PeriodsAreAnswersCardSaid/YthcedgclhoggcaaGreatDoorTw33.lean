/- Contracts of functions of the program: each computes what its model says; the conditions stand at each. -/
import Derived.Test.YthcedgclhoggcaaGreatDoorTw32
set_option linter.unusedSimpArgs false
set_option linter.unusedVariables false
set_option maxRecDepth 20000
set_option pp.deepTerms false
set_option pp.deepTerms.threshold 3
namespace Go.Proofs.YthcedgclhoggcaaGreatDoor
open Go Go.Ab Go.Pm Go.Cm
variable (G : Nat → AV) (H : Nat → Option AObj)
/-- What a run of Periods hands back. -/
def PeriodR (H : Nat → Option AObj) (pe : List Per × Int) (r : AV) (H' : Nat → Option AObj) : Prop := (r = .tup [lsOf (pe.1.map Per.c), .int pe.2] ∧ H' = H) ∨ ∃ o, r = .tup [.os o 0 pe.1.length, .int pe.2] ∧ H' o = some ⟨61, 5, pe.1.map Per.c⟩ ∧ Sub H H' ∧ H o = none ∧ pe.1 ≠ []
set_option maxHeartbeats 1600000 in
theorem periods_run (hG : GOk G) (nzp nz : Bool) (p : List Purpose) (l : List Stm) (x : Idn) (purpose region : T) (channel : Int) (hP : SmallP p) (hpl : p.length ≤ 1000000) (hS : SmallS l) (hl : l.length ≤ 19) (hr : region.size ≤ 9223372036854775807) (hx : x.text.size < 4294967281) (k : Nat) : ACalls Tryz.prog G 24 [.ls nzp (p.map Purpose.c), .ls nz (l.map Stm.c), .agg x.c, .str purpose, .str region, .int channel] H k fun r H' n' => PeriodR H (periodsOf ⟨p, nzp, purpose, region, channel, 0⟩ l x) r H' := by
  refine ACalls.start mix F24o (by simp) fun hlow => ?_
  generalize hq : (⟨p, nzp, purpose, region, channel, 0⟩ : Q) = q
  have e1 : q.p = p := by rw [← hq]
  have e2 : q.nz = nzp := by rw [← hq]
  have e3 : q.purpose = purpose := by rw [← hq]
  have e4 : q.region = region := by rw [← hq]
  have e5 : q.channel = channel := by rw [← hq]
  have e6 : q.at' = 0 := by rw [← hq]
  clear hq
  subst e1 e2 e3 e4 e5
  have hq := Qt.refl hlow
  have hchk : ∀ H, AFn Tryz.prog G 40 [.agg [.ls q.nz (q.p.map Purpose.c), .str q.purpose, .str q.region, .int q.channel, .int 0], .ls nz (l.map Stm.c), .int 1, .ls true [[.int x.kind, .str x.text]]] H (.int (checkAll q l 1 [x])) := fun H => by
    obtain ⟨m, cs, hGm⟩ := hG.maxLen
    have h := checkAll_c G H hGm nz true q l 1 [x] hP hpl hS hr (by simp) (by simpa using hx)
    rw [Q.c, e6] at h
    exact h
  simp -dsimp -implicitDefEqProofs (disch := omega) only [↓wpre, push_cast, reduceCtorEq, ↓reduceIte, Nat.reduceEqDiff, Nat.reduceLeDiff, Nat.reduceAdd, Nat.reduceMul, Nat.reduceSub, Nat.reduceLT, Int.reduceEq, Int.reduceLT, Int.reduceLE, Int.reduceNeg, Int.reduceAdd, Int.reduceSub, c24o]
  refine (hchk _).x fun n1 hn1 => ?_
  by_cases h0 : checkAll q l 1 [x] = 0
  case neg =>
    simp -dsimp -implicitDefEqProofs (disch := omega) only [↓wpre, push_cast, reduceCtorEq, ↓reduceIte, Nat.reduceEqDiff, Nat.reduceLeDiff, Nat.reduceAdd, Nat.reduceMul, Nat.reduceSub, Nat.reduceLT, Int.reduceEq, Int.reduceLT, Int.reduceLE, Int.reduceNeg, Int.reduceAdd, Int.reduceSub, h0]
    exact fin_intro (by exact (Qt.mono (n := k) (by repeat (first | exact hq | refine Qt.hu ?_ (by omega))) (Nat.le_refl _)).1) (.inl ⟨by rw [periodsOf, if_pos (by simpa using h0)]; rfl, rfl⟩)
  have e : periodsOf q l x = (perGo (answer q l x) 0 (answer q l x 0) (momL ((termOf q.p q.purpose q.region q.channel).getD noTerm) q.purpose (saidBy l x q.channel)), 0) := by rw [periodsOf, if_neg (by simpa using h0)]
  rw [e]
  clear e
  have h1 : Cm.check q.p l = 0 := by grind [checkAll]
  have h2 : q.check = 0 := by grind [checkAll]
  have h3 := check_all h1
  have h4 := checkPolicy_all h3.1
  have h5 := qcheck_all h2
  have hsl : (saidBy l x q.channel).length ≤ 19 := by rw [saidBy, isort_length]; exact Nat.le_trans (List.length_filter_le _ _) (by omega)
  have htb : ∀ u, termOf q.p q.purpose q.region q.channel = some u → 0 ≤ u.days ∧ u.days ≤ 2000 ∧ 0 ≤ u.wait ∧ u.wait ≤ 100000 := fun u hu => by
    obtain ⟨p, hp, ht⟩ := termOf_mem hu
    exact (h4 p hp).2 u ht
  have htb2 : 0 ≤ ((termOf q.p q.purpose q.region q.channel).getD noTerm).days ∧ ((termOf q.p q.purpose q.region q.channel).getD noTerm).days ≤ 2000 ∧ 0 ≤ ((termOf q.p q.purpose q.region q.channel).getD noTerm).wait ∧ ((termOf q.p q.purpose q.region q.channel).getD noTerm).wait ≤ 100000 := by
    cases ht : termOf q.p q.purpose q.region q.channel with
    | none => simp [noTerm]
    | some u => have := htb u ht; simp; omega
  have hsb : ∀ s ∈ saidBy l x q.channel, 0 ≤ s.at' ∧ s.at' ≤ 4321439 := fun s hs => h3.2 s (saidBy_mem hs)
  have hans : ∀ H nz a, -4611686018427387904 ≤ a ∧ a ≤ 4611686018427387904 → AFn Tryz.prog G 42 [.agg (askedC (termOf q.p q.purpose q.region q.channel) q.purpose (.ls nz ((saidBy l x q.channel).map Stm.c))), .int a] H (.agg (answer q l x a).c) := fun H nz a ha =>
    answer_c G H nz (termOf q.p q.purpose q.region q.channel) q.purpose (saidBy l x q.channel) a (by omega) (fun u hu => by have := htb u hu; omega) (fun s hs => by have := hsb s hs; omega) ha
  have hmom : ∀ m ∈ momL ((termOf q.p q.purpose q.region q.channel).getD noTerm) q.purpose (saidBy l x q.channel), 0 ≤ m ∧ m < 4321440 := fun m hm => by
    obtain ⟨h1, h2⟩ := (momL_mem _ _ _ _).1 hm
    exact ⟨momRaw_low ⟨htb2.2.2.1, htb2.1⟩ (fun s hs => (hsb s hs).1) m h1, h2⟩
  have hml : (momL ((termOf q.p q.purpose q.region q.channel).getD noTerm) q.purpose (saidBy l x q.channel)).length ≤ 57 := by
    have h1 := compact_len (msortI (momRaw ((termOf q.p q.purpose q.region q.channel).getD noTerm) q.purpose (saidBy l x q.channel)))
    rw [msortI_length] at h1
    have h2 := momRaw_len ((termOf q.p q.purpose q.region q.channel).getD noTerm) q.purpose (saidBy l x q.channel)
    refine Nat.le_trans (List.length_filter_le _ _) (by omega)
  simp -dsimp -implicitDefEqProofs (disch := omega) only [↓wpre, push_cast, reduceCtorEq, ↓reduceIte, Nat.reduceEqDiff, Nat.reduceLeDiff, Nat.reduceAdd, Nat.reduceMul, Nat.reduceSub, Nat.reduceLT, Int.reduceEq, Int.reduceLT, Int.reduceLE, Int.reduceNeg, Int.reduceAdd, Int.reduceSub, h0]
  have hask : ∀ H, AFn Tryz.prog G 41 [.agg [.ls q.nz (q.p.map Purpose.c), .str q.purpose, .str q.region, .int q.channel, .int 0], .ls nz (l.map Stm.c), .agg x.c] H (.agg (askedC (termOf q.p q.purpose q.region q.channel) q.purpose (lsOf ((saidBy l x q.channel).map Stm.c)))) := fun H => by
    have h := ask_c G H nz q l x hl hpl (fun p hp => by have := (h4 p hp).1; omega)
    rw [Q.c, e6] at h
    exact h
  refine AFn.x (hask _) fun n2 hn2 => ?_
  simp -dsimp -implicitDefEqProofs (disch := omega) only [↓wpre, push_cast, reduceCtorEq, ↓reduceIte, Nat.reduceEqDiff, Nat.reduceLeDiff, Nat.reduceAdd, Nat.reduceMul, Nat.reduceSub, Nat.reduceLT, Int.reduceEq, Int.reduceLT, Int.reduceLE, Int.reduceNeg, Int.reduceAdd, Int.reduceSub, lsOf]
  refine AFn.x (hans _ _ 0 (by omega)) fun n3 hn3 => ?_
  simp -dsimp -implicitDefEqProofs (disch := omega) only [↓wpre, push_cast, reduceCtorEq, ↓reduceIte, Nat.reduceEqDiff, Nat.reduceLeDiff, Nat.reduceAdd, Nat.reduceMul, Nat.reduceSub, Nat.reduceLT, Int.reduceEq, Int.reduceLT, Int.reduceLE, Int.reduceNeg, Int.reduceAdd, Int.reduceSub, true_and]
  refine AFn.x (moments_c G _ _ (termOf q.p q.purpose q.region q.channel) q.purpose (saidBy l x q.channel) hsl htb2 hsb) fun n4 hn4 => ?_
  simp -dsimp -implicitDefEqProofs (disch := omega) only [↓wpre, push_cast, reduceCtorEq, ↓reduceIte, Nat.reduceEqDiff, Nat.reduceLeDiff, Nat.reduceAdd, Nat.reduceMul, Nat.reduceSub, Nat.reduceLT, Int.reduceEq, Int.reduceLT, Int.reduceLE, Int.reduceNeg, Int.reduceAdd, Int.reduceSub, true_and]
  generalize (!(saidBy l x q.channel).isEmpty) = nzm
  generalize hmsd : momL ((termOf q.p q.purpose q.region q.channel).getD noTerm) q.purpose (saidBy l x q.channel) = ms at hmom hml ⊢
  refine xw_loopJ (σ := List Int × List Int × List Per × Int × Answer × Nat) (fun t => [(16, .op n2 0 0), (17, .os t.2.2.2.2.2 0 (t.2.2.1.length + 1)), (45, .ls nzm (ms.map IC)), (46, .int ms.length), (47, .int t.1.length)]) (fun t H' n' => ms = t.1 ++ t.2.1 ∧ H' n2 = some ⟨89, 8, [askedC (termOf q.p q.purpose q.region q.channel) q.purpose (.ls (!((saidBy l x q.channel).map Stm.c).isEmpty) ((saidBy l x q.channel).map Stm.c))]⟩ ∧ (∃ R, R = (t.2.2.1 ++ [(⟨t.2.2.2.1, 4321440, t.2.2.2.2.1⟩ : Per)]).map Per.c ∧ H' t.2.2.2.2.2 = some ⟨61, 5, R⟩) ∧ Qt H H' k ∧ n2 < t.2.2.2.2.2 ∧ t.2.2.2.2.2 < n' ∧ t.2.2.1.length ≤ t.1.length ∧ perGo (answer q l x) 0 (answer q l x 0) ms = t.2.2.1 ++ perGo (answer q l x) t.2.2.2.1 t.2.2.2.2.1 t.2.1) (fun t => t.2.1.length) ([], ms, [], 0, answer q l x 0, n3) ⟨rfl, by simp -dsimp -implicitDefEqProofs (disch := omega) only [↓wpre, push_cast, reduceCtorEq, ↓reduceIte, Nat.reduceEqDiff, Nat.reduceLeDiff, Nat.reduceAdd, Nat.reduceMul, Nat.reduceSub, Nat.reduceLT, Int.reduceEq, Int.reduceLT, Int.reduceLE, Int.reduceNeg, Int.reduceAdd, Int.reduceSub, lsOf], ⟨_, rfl, by simp -dsimp -implicitDefEqProofs (disch := omega) only [↓wpre, push_cast, reduceCtorEq, ↓reduceIte, Nat.reduceEqDiff, Nat.reduceLeDiff, Nat.reduceAdd, Nat.reduceMul, Nat.reduceSub, Nat.reduceLT, Int.reduceEq, Int.reduceLT, Int.reduceLE, Int.reduceNeg, Int.reduceAdd, Int.reduceSub, lsOf]; try rfl⟩, by exact Qt.mono (n := k) (by repeat (first | exact hq | refine Qt.hu ?_ (by omega))) (by omega), by dsimp only; omega, by dsimp only; omega, Nat.le_refl _, rfl⟩ (by simp -dsimp -implicitDefEqProofs (disch := omega) only [↓wpre, push_cast, reduceCtorEq, ↓reduceIte, Nat.reduceEqDiff, Nat.reduceLeDiff, Nat.reduceAdd, Nat.reduceMul, Nat.reduceSub, Nat.reduceLT, Int.reduceEq, Int.reduceLT, Int.reduceLE, Int.reduceNeg, Int.reduceAdd, Int.reduceSub, true_and]; try rfl) ?_
  clear hq
  rintro ⟨d, b, dn, f, a, oid⟩ fr H' m1 ⟨hab, hk2, ⟨R, hR, hko⟩, hq, hlo, hmo, hdl, hpg⟩ hh
  simp only [has_nil, has_cons, and_true] at hh hab
  dsimp only at hR hko hlo hmo hdl hpg
  cases b with
  | nil =>
    rw [List.append_nil] at hab
    subst hab
    simp -dsimp -implicitDefEqProofs (disch := omega) only [↓wpre, push_cast, reduceCtorEq, ↓reduceIte, Nat.reduceEqDiff, Nat.reduceLeDiff, Nat.reduceAdd, Nat.reduceMul, Nat.reduceSub, Nat.reduceLT, Int.reduceEq, Int.reduceLT, Int.reduceLE, Int.reduceNeg, Int.reduceAdd, Int.reduceSub, hh]
    have hpe : perGo (answer q l x) f a [] = [⟨f, 4321440, a⟩] := rfl
    rw [hpe] at hpg
    refine fin_intro (Sub.refl _) (.inr ⟨oid, ?_, ?_, hq.1, ?_, ?_⟩)
    · dsimp only; rw [hpg]; simp
    · dsimp only; rw [hko, hR, hpg]
    · cases hx : H oid with
      | none => rfl
      | some o => exact absurd (hq.2 oid o hx) (by omega)
    · dsimp only; rw [hpg]; simp
  | cons m b =>
    have hml' : d.length + (b.length + 1) ≤ 57 := by rw [hab] at hml; simpa using hml
    have hlt : (d.length : Int) < ms.length := by rw [hab]; simp only [List.length_append, List.length_cons]; omega
    have hmb := hmom m (by rw [hab]; simp)
    have hget : ms[d.length]? = some m := by rw [hab]; simp
    have hg : R[dn.length]? = some [AV.int f, AV.int 4321440, AV.bool a.may, AV.int a.why, AV.int a.no] := by rw [hR]; exact at_mid Per.c dn [] ⟨f, 4321440, a⟩
    have hi1 : (dn.length : Int) + 1 - 1 = dn.length := by omega
    simp -dsimp -implicitDefEqProofs (disch := omega) only [↓wpre, push_cast, reduceCtorEq, ↓reduceIte, Nat.reduceEqDiff, Nat.reduceLeDiff, Nat.reduceAdd, Nat.reduceMul, Nat.reduceSub, Nat.reduceLT, Int.reduceEq, Int.reduceLT, Int.reduceLE, Int.reduceNeg, Int.reduceAdd, Int.reduceSub, hh, hlt, even_ints', aidx_at _ hget, hko, hi1, hk2]
    refine AFn.x (hans _ _ m (by omega)) fun n5 hn5 => ?_
    rw [perGo] at hpg
    simp -dsimp -implicitDefEqProofs (disch := omega) only [↓wpre, push_cast, reduceCtorEq, ↓reduceIte, Nat.reduceEqDiff, Nat.reduceLeDiff, Nat.reduceAdd, Nat.reduceMul, Nat.reduceSub, Nat.reduceLT, Int.reduceEq, Int.reduceLT, Int.reduceLE, Int.reduceNeg, Int.reduceAdd, Int.reduceSub, hh, hko, hg, Int.toNat_natCast, ans_eq]
    refine anyN_intro fun n6 hn6 => ?_
    simp -dsimp -implicitDefEqProofs (disch := omega) only [↓wpre, push_cast, reduceCtorEq, ↓reduceIte, Nat.reduceEqDiff, Nat.reduceLeDiff, Nat.reduceAdd, Nat.reduceMul, Nat.reduceSub, Nat.reduceLT, Int.reduceEq, Int.reduceLT, Int.reduceLE, Int.reduceNeg, Int.reduceAdd, Int.reduceSub, hh, ans_eq]
    by_cases he : answer q l x m = a
    · rw [if_pos he] at hpg
      simp -dsimp -implicitDefEqProofs (disch := omega) only [↓wpre, push_cast, reduceCtorEq, ↓reduceIte, Nat.reduceEqDiff, Nat.reduceLeDiff, Nat.reduceAdd, Nat.reduceMul, Nat.reduceSub, Nat.reduceLT, Int.reduceEq, Int.reduceLT, Int.reduceLE, Int.reduceNeg, Int.reduceAdd, Int.reduceSub, hh, he, decide_true, Bool.not_true]
      refine againJ (d ++ [m], b, dn, f, a, oid) (Nat.lt_succ_self _) ⟨by rw [hab]; simp, by simp -dsimp -implicitDefEqProofs (disch := omega) only [↓wpre, push_cast, reduceCtorEq, ↓reduceIte, Nat.reduceEqDiff, Nat.reduceLeDiff, Nat.reduceAdd, Nat.reduceMul, Nat.reduceSub, Nat.reduceLT, Int.reduceEq, Int.reduceLT, Int.reduceLE, Int.reduceNeg, Int.reduceAdd, Int.reduceSub, hk2], ⟨R, hR, by simp -dsimp -implicitDefEqProofs (disch := omega) only [↓wpre, push_cast, reduceCtorEq, ↓reduceIte, Nat.reduceEqDiff, Nat.reduceLeDiff, Nat.reduceAdd, Nat.reduceMul, Nat.reduceSub, Nat.reduceLT, Int.reduceEq, Int.reduceLT, Int.reduceLE, Int.reduceNeg, Int.reduceAdd, Int.reduceSub, hko]⟩, by exact Qt.mono (n := k) (by repeat (first | exact hq | refine Qt.hu ?_ (by omega))) (by omega), hlo, by dsimp only; omega, by simp only [List.length_append, List.length_cons, List.length_nil]; omega, hpg⟩ (by simp -dsimp -implicitDefEqProofs (disch := omega) only [↓wpre, push_cast, reduceCtorEq, ↓reduceIte, Nat.reduceEqDiff, Nat.reduceLeDiff, Nat.reduceAdd, Nat.reduceMul, Nat.reduceSub, Nat.reduceLT, Int.reduceEq, Int.reduceLT, Int.reduceLE, Int.reduceNeg, Int.reduceAdd, Int.reduceSub, hh]; try simp)
    · rw [if_neg he] at hpg
      obtain ⟨R2, hR2⟩ : ∃ R2, R2 = List.map Per.c (dn ++ [⟨f, m, a⟩]) := ⟨_, rfl⟩
      have hR2l : R2.length = dn.length + 1 := by rw [hR2]; simp
      have hset : R.set dn.length [AV.int f, AV.int m, AV.bool a.may, AV.int a.why, AV.int a.no] = R2 := by
        rw [hR, hR2]; exact set_mid Per.c dn [] ⟨f, 4321440, a⟩ ⟨f, m, a⟩
      simp -dsimp -implicitDefEqProofs (disch := omega) only [↓wpre, push_cast, reduceCtorEq, ↓reduceIte, Nat.reduceEqDiff, Nat.reduceLeDiff, Nat.reduceAdd, Nat.reduceMul, Nat.reduceSub, Nat.reduceLT, Int.reduceEq, Int.reduceLT, Int.reduceLE, Int.reduceNeg, Int.reduceAdd, Int.reduceSub, hh, he, decide_false, Bool.not_false, hko, hg, Int.toNat_natCast, hset]
      rw [xapp_os (rows := R2) (len := dn.length + 1) hu_same hR2l (by intro r hr; simp at hr; subst hr; exact ⟨rfl, rfl⟩) (by simp) (by simp only [List.length_cons, List.length_nil]; omega)]
      simp -dsimp -implicitDefEqProofs (disch := omega) only [↓wpre, push_cast, reduceCtorEq, ↓reduceIte, Nat.reduceEqDiff, Nat.reduceLeDiff, Nat.reduceAdd, Nat.reduceMul, Nat.reduceSub, Nat.reduceLT, Int.reduceEq, Int.reduceLT, Int.reduceLE, Int.reduceNeg, Int.reduceAdd, Int.reduceSub, hh]
      refine againJ (d ++ [m], b, dn ++ [⟨f, m, a⟩], m, answer q l x m, n6) (Nat.lt_succ_self _) ⟨by rw [hab]; simp, by simp -dsimp -implicitDefEqProofs (disch := omega) only [↓wpre, push_cast, reduceCtorEq, ↓reduceIte, Nat.reduceEqDiff, Nat.reduceLeDiff, Nat.reduceAdd, Nat.reduceMul, Nat.reduceSub, Nat.reduceLT, Int.reduceEq, Int.reduceLT, Int.reduceLE, Int.reduceNeg, Int.reduceAdd, Int.reduceSub, hk2], ⟨_, rfl, ?_⟩, by exact Qt.mono (n := k) (by repeat (first | exact hq | refine Qt.hu ?_ (by omega))) (by omega), by dsimp only; omega, by dsimp only; omega, by simp only [List.length_append, List.length_cons, List.length_nil]; omega, by rw [hpg]; simp⟩ (by simp -dsimp -implicitDefEqProofs (disch := omega) only [↓wpre, push_cast, reduceCtorEq, ↓reduceIte, Nat.reduceEqDiff, Nat.reduceLeDiff, Nat.reduceAdd, Nat.reduceMul, Nat.reduceSub, Nat.reduceLT, Int.reduceEq, Int.reduceLT, Int.reduceLE, Int.reduceNeg, Int.reduceAdd, Int.reduceSub, hh]; try simp)
      dsimp only
      rw [hu_same, hR2]
      simp
end Go.Proofs.YthcedgclhoggcaaGreatDoor
