/- Contracts of functions of the program: each computes what its model says; the conditions stand at each. -/
import Derived.Test.YthcedgclhoggcaaGreatDoorTw26
import Derived.Test.YthcedgclhoggcaaGreatDoorTw31
set_option linter.unusedSimpArgs false
set_option linter.unusedVariables false
set_option maxRecDepth 20000
set_option pp.deepTerms false
set_option pp.deepTerms.threshold 3
namespace Go.Proofs.YthcedgclhoggcaaGreatDoor
open Go Go.Ab Go.Pm Go.Cm
variable (G : Nat → AV) (H : Nat → Option AObj)
theorem ans_eq (a b : Answer) : (a.may == b.may && (decide (a.why = b.why) && decide (a.no = b.no))) = decide (a = b) := by
  cases a; cases b
  rw [Bool.eq_iff_iff]
  simp [Answer.mk.injEq]
set_option maxHeartbeats 1600000 in
theorem next_fn (hG : GOk G) (nzp nz : Bool) (p : List Purpose) (l : List Stm) (x : Idn) (purpose region : T) (channel at' : Int) (hP : SmallP p) (hpl : p.length ≤ 1000000) (hS : SmallS l) (hl : l.length ≤ 19) (hr : region.size ≤ 9223372036854775807) (hx : x.text.size < 4294967281) : AFn Tryz.prog G 26 [.ls nzp (p.map Purpose.c), .ls nz (l.map Stm.c), .agg x.c, .str purpose, .str region, .int channel, .int at'] H (.tup [.int (nextOf ⟨p, nzp, purpose, region, channel, at'⟩ l x).1, .int (nextOf ⟨p, nzp, purpose, region, channel, at'⟩ l x).2]) := by
  refine AFn.start mix F26 (by simp) fun k hlow => ?_
  generalize hq : (⟨p, nzp, purpose, region, channel, at'⟩ : Q) = q
  have e1 : q.p = p := by rw [← hq]
  have e2 : q.nz = nzp := by rw [← hq]
  have e3 : q.purpose = purpose := by rw [← hq]
  have e4 : q.region = region := by rw [← hq]
  have e5 : q.channel = channel := by rw [← hq]
  have e6 : q.at' = at' := by rw [← hq]
  clear hq
  subst e1 e2 e3 e4 e5 e6
  have hq := Qt.refl hlow
  have hchk : ∀ H, AFn Tryz.prog G 40 [.agg q.c, .ls nz (l.map Stm.c), .int 1, .ls true [[.int x.kind, .str x.text]]] H (.int (checkAll q l 1 [x])) := fun H => by
    obtain ⟨m, cs, hGm⟩ := hG.maxLen
    exact checkAll_c G H hGm nz true q l 1 [x] hP hpl hS hr (by simp) (by simpa using hx)
  simp -dsimp -implicitDefEqProofs (disch := omega) only [↓wpre, push_cast, reduceCtorEq, ↓reduceIte, Nat.reduceEqDiff, Nat.reduceLeDiff, Nat.reduceAdd, Nat.reduceMul, Nat.reduceSub, Nat.reduceLT, Int.reduceEq, Int.reduceLT, Int.reduceLE, Int.reduceNeg, Int.reduceAdd, Int.reduceSub, c26]
  refine (hchk _).x fun n1 hn1 => ?_
  by_cases h0 : checkAll q l 1 [x] = 0
  case neg =>
    simp -dsimp -implicitDefEqProofs (disch := omega) only [↓wpre, push_cast, reduceCtorEq, ↓reduceIte, Nat.reduceEqDiff, Nat.reduceLeDiff, Nat.reduceAdd, Nat.reduceMul, Nat.reduceSub, Nat.reduceLT, Int.reduceEq, Int.reduceLT, Int.reduceLE, Int.reduceNeg, Int.reduceAdd, Int.reduceSub, h0]
    exact ⟨by rw [nextOf, if_pos (by simpa using h0)], by exact (Qt.mono (n := k) (by repeat (first | exact hq | refine Qt.hu ?_ (by omega))) (Nat.le_refl _)).1⟩
  have e : nextOf q l x = (nextL (answer q l x) (momL ((termOf q.p q.purpose q.region q.channel).getD noTerm) q.purpose (saidBy l x q.channel)) q.at', 0) := by rw [nextOf, if_neg (by simpa using h0)]
  rw [e]
  clear e
  have h1 : Cm.check q.p l = 0 := by grind [checkAll]
  have h2 : q.check = 0 := by grind [checkAll]
  have h3 := check_all h1
  have h4 := checkPolicy_all h3.1
  have h5 := qcheck_all h2
  have hsl : (saidBy l x q.channel).length ≤ 19 := by rw [saidBy, isort_length]; exact Nat.le_trans (List.length_filter_le _ _) (by omega)
  have htb : ∀ u, termOf q.p q.purpose q.region q.channel = some u → 0 ≤ u.days ∧ u.days ≤ 2000 ∧ 0 ≤ u.wait ∧ u.wait ≤ 100000 := fun u hu => by
    obtain ⟨p, hp, ht⟩ := termOf_mem hu
    exact (h4 p hp).2 u ht
  have htb2 : 0 ≤ ((termOf q.p q.purpose q.region q.channel).getD noTerm).days ∧ ((termOf q.p q.purpose q.region q.channel).getD noTerm).days ≤ 2000 ∧ 0 ≤ ((termOf q.p q.purpose q.region q.channel).getD noTerm).wait ∧ ((termOf q.p q.purpose q.region q.channel).getD noTerm).wait ≤ 100000 := by
    cases ht : termOf q.p q.purpose q.region q.channel with
    | none => simp [noTerm]
    | some u => have := htb u ht; simp; omega
  have hsb : ∀ s ∈ saidBy l x q.channel, 0 ≤ s.at' ∧ s.at' ≤ 4321439 := fun s hs => h3.2 s (saidBy_mem hs)
  have hans : ∀ H nz a, -4611686018427387904 ≤ a ∧ a ≤ 4611686018427387904 → AFn Tryz.prog G 42 [.agg (askedC (termOf q.p q.purpose q.region q.channel) q.purpose (.ls nz ((saidBy l x q.channel).map Stm.c))), .int a] H (.agg (answer q l x a).c) := fun H nz a ha =>
    answer_c G H nz (termOf q.p q.purpose q.region q.channel) q.purpose (saidBy l x q.channel) a (by omega) (fun u hu => by have := htb u hu; omega) (fun s hs => by have := hsb s hs; omega) ha
  have hmom : ∀ m ∈ momL ((termOf q.p q.purpose q.region q.channel).getD noTerm) q.purpose (saidBy l x q.channel), 0 ≤ m ∧ m < 4321440 := fun m hm => by
    obtain ⟨h1, h2⟩ := (momL_mem _ _ _ _).1 hm
    exact ⟨momRaw_low ⟨htb2.2.2.1, htb2.1⟩ (fun s hs => (hsb s hs).1) m h1, h2⟩
  have hml : (momL ((termOf q.p q.purpose q.region q.channel).getD noTerm) q.purpose (saidBy l x q.channel)).length ≤ 57 := by
    have h1 := compact_len (msortI (momRaw ((termOf q.p q.purpose q.region q.channel).getD noTerm) q.purpose (saidBy l x q.channel)))
    rw [msortI_length] at h1
    have h2 := momRaw_len ((termOf q.p q.purpose q.region q.channel).getD noTerm) q.purpose (saidBy l x q.channel)
    refine Nat.le_trans (List.length_filter_le _ _) (by omega)
  simp -dsimp -implicitDefEqProofs (disch := omega) only [↓wpre, push_cast, reduceCtorEq, ↓reduceIte, Nat.reduceEqDiff, Nat.reduceLeDiff, Nat.reduceAdd, Nat.reduceMul, Nat.reduceSub, Nat.reduceLT, Int.reduceEq, Int.reduceLT, Int.reduceLE, Int.reduceNeg, Int.reduceAdd, Int.reduceSub, h0]
  refine AFn.x (ask_c G _ nz q l x hl hpl (fun p hp => by have := (h4 p hp).1; omega)) fun n2 hn2 => ?_
  simp -dsimp -implicitDefEqProofs (disch := omega) only [↓wpre, push_cast, reduceCtorEq, ↓reduceIte, Nat.reduceEqDiff, Nat.reduceLeDiff, Nat.reduceAdd, Nat.reduceMul, Nat.reduceSub, Nat.reduceLT, Int.reduceEq, Int.reduceLT, Int.reduceLE, Int.reduceNeg, Int.reduceAdd, Int.reduceSub, lsOf]
  refine AFn.x (hans _ _ q.at' (by omega)) fun n3 hn3 => ?_
  simp -dsimp -implicitDefEqProofs (disch := omega) only [↓wpre, push_cast, reduceCtorEq, ↓reduceIte, Nat.reduceEqDiff, Nat.reduceLeDiff, Nat.reduceAdd, Nat.reduceMul, Nat.reduceSub, Nat.reduceLT, Int.reduceEq, Int.reduceLT, Int.reduceLE, Int.reduceNeg, Int.reduceAdd, Int.reduceSub, true_and]
  refine AFn.x (moments_c G _ _ (termOf q.p q.purpose q.region q.channel) q.purpose (saidBy l x q.channel) hsl htb2 hsb) fun n4 hn4 => ?_
  simp -dsimp -implicitDefEqProofs (disch := omega) only [↓wpre, push_cast, reduceCtorEq, ↓reduceIte, Nat.reduceEqDiff, Nat.reduceLeDiff, Nat.reduceAdd, Nat.reduceMul, Nat.reduceSub, Nat.reduceLT, Int.reduceEq, Int.reduceLT, Int.reduceLE, Int.reduceNeg, Int.reduceAdd, Int.reduceSub, true_and]
  have hans2 : ∀ a, answer q l x a = answer q l x a := fun _ => rfl
  generalize (!(saidBy l x q.channel).isEmpty) = nzm
  generalize hmsd : momL ((termOf q.p q.purpose q.region q.channel).getD noTerm) q.purpose (saidBy l x q.channel) = ms at hmom hml ⊢
  refine xw_loopJ (σ := List Int × List Int) (fun t => [(6, .int q.at'), (18, .op n2 0 0), (19, .op n3 0 0), (44, .ls nzm (ms.map IC)), (45, .int ms.length), (46, .int t.1.length)]) (fun t H' n' => ms = t.1 ++ t.2 ∧ H' n2 = some ⟨89, 8, [askedC (termOf q.p q.purpose q.region q.channel) q.purpose (.ls (!((saidBy l x q.channel).map Stm.c).isEmpty) ((saidBy l x q.channel).map Stm.c))]⟩ ∧ H' n3 = some ⟨37, 3, [(answer q l x q.at').c]⟩ ∧ Qt H H' k ∧ ms.find? (fun m => decide (q.at' < m) && decide (answer q l x m ≠ answer q l x q.at')) = t.2.find? (fun m => decide (q.at' < m) && decide (answer q l x m ≠ answer q l x q.at'))) (fun t => t.2.length) ([], ms) ⟨rfl, by simp -dsimp -implicitDefEqProofs (disch := omega) only [↓wpre, push_cast, reduceCtorEq, ↓reduceIte, Nat.reduceEqDiff, Nat.reduceLeDiff, Nat.reduceAdd, Nat.reduceMul, Nat.reduceSub, Nat.reduceLT, Int.reduceEq, Int.reduceLT, Int.reduceLE, Int.reduceNeg, Int.reduceAdd, Int.reduceSub, lsOf], by simp -dsimp -implicitDefEqProofs (disch := omega) only [↓wpre, push_cast, reduceCtorEq, ↓reduceIte, Nat.reduceEqDiff, Nat.reduceLeDiff, Nat.reduceAdd, Nat.reduceMul, Nat.reduceSub, Nat.reduceLT, Int.reduceEq, Int.reduceLT, Int.reduceLE, Int.reduceNeg, Int.reduceAdd, Int.reduceSub, true_and], by exact Qt.mono (n := k) (by repeat (first | exact hq | refine Qt.hu ?_ (by omega))) (by omega), rfl⟩ (by simp -dsimp -implicitDefEqProofs (disch := omega) only [↓wpre, push_cast, reduceCtorEq, ↓reduceIte, Nat.reduceEqDiff, Nat.reduceLeDiff, Nat.reduceAdd, Nat.reduceMul, Nat.reduceSub, Nat.reduceLT, Int.reduceEq, Int.reduceLT, Int.reduceLE, Int.reduceNeg, Int.reduceAdd, Int.reduceSub, true_and]; try rfl) ?_
  clear hq
  rintro ⟨d, b⟩ fr H' m1 ⟨hab, hk2, hk3, hq, hfd⟩ hh
  simp only [has_nil, has_cons, and_true] at hh hab hfd
  cases b with
  | nil =>
    rw [List.append_nil] at hab
    subst hab
    simp -dsimp -implicitDefEqProofs (disch := omega) only [↓wpre, push_cast, reduceCtorEq, ↓reduceIte, Nat.reduceEqDiff, Nat.reduceLeDiff, Nat.reduceAdd, Nat.reduceMul, Nat.reduceSub, Nat.reduceLT, Int.reduceEq, Int.reduceLT, Int.reduceLE, Int.reduceNeg, Int.reduceAdd, Int.reduceSub, hh]
    refine ⟨?_, hq.1⟩
    rw [nextL, hfd]; rfl
  | cons m b =>
    have hml' : d.length + (b.length + 1) ≤ 57 := by rw [hab] at hml; simpa using hml
    have hlt : (d.length : Int) < ms.length := by rw [hab]; simp only [List.length_append, List.length_cons]; omega
    have hmb := hmom m (by rw [hab]; simp)
    have hget : ms[d.length]? = some m := by rw [hab]; simp
    rw [List.find?_cons] at hfd
    simp -dsimp -implicitDefEqProofs (disch := omega) only [↓wpre, push_cast, reduceCtorEq, ↓reduceIte, Nat.reduceEqDiff, Nat.reduceLeDiff, Nat.reduceAdd, Nat.reduceMul, Nat.reduceSub, Nat.reduceLT, Int.reduceEq, Int.reduceLT, Int.reduceLE, Int.reduceNeg, Int.reduceAdd, Int.reduceSub, hh, hlt, even_ints', aidx_at _ hget]
    by_cases hgt : q.at' < m
    · simp -dsimp -implicitDefEqProofs (disch := omega) only [↓wpre, push_cast, reduceCtorEq, ↓reduceIte, Nat.reduceEqDiff, Nat.reduceLeDiff, Nat.reduceAdd, Nat.reduceMul, Nat.reduceSub, Nat.reduceLT, Int.reduceEq, Int.reduceLT, Int.reduceLE, Int.reduceNeg, Int.reduceAdd, Int.reduceSub, hh, hgt, hk2, hk3]
      refine (xfn_intro (hans _ _ m (by omega)) ?_)
      simp -dsimp -implicitDefEqProofs (disch := omega) only [↓wpre, push_cast, reduceCtorEq, ↓reduceIte, Nat.reduceEqDiff, Nat.reduceLeDiff, Nat.reduceAdd, Nat.reduceMul, Nat.reduceSub, Nat.reduceLT, Int.reduceEq, Int.reduceLT, Int.reduceLE, Int.reduceNeg, Int.reduceAdd, Int.reduceSub, hh, hk2, hk3, ans_eq]
      refine anyN_intro fun m2 hm2 => ?_
      simp -dsimp -implicitDefEqProofs (disch := omega) only [↓wpre, push_cast, reduceCtorEq, ↓reduceIte, Nat.reduceEqDiff, Nat.reduceLeDiff, Nat.reduceAdd, Nat.reduceMul, Nat.reduceSub, Nat.reduceLT, Int.reduceEq, Int.reduceLT, Int.reduceLE, Int.reduceNeg, Int.reduceAdd, Int.reduceSub, hh, ans_eq]
      by_cases he : answer q l x m = answer q l x q.at'
      · have hp : (decide (q.at' < m) && decide (answer q l x m ≠ answer q l x q.at')) = false := by simp [he]
        rw [hp] at hfd
        simp -dsimp -implicitDefEqProofs (disch := omega) only [↓wpre, push_cast, reduceCtorEq, ↓reduceIte, Nat.reduceEqDiff, Nat.reduceLeDiff, Nat.reduceAdd, Nat.reduceMul, Nat.reduceSub, Nat.reduceLT, Int.reduceEq, Int.reduceLT, Int.reduceLE, Int.reduceNeg, Int.reduceAdd, Int.reduceSub, hh, he, decide_true, Bool.not_true]
        refine againJ (d ++ [m], b) (Nat.lt_succ_self _) ⟨by rw [hab]; simp, hk2, hk3, hq, hfd⟩ (by simp -dsimp -implicitDefEqProofs (disch := omega) only [↓wpre, push_cast, reduceCtorEq, ↓reduceIte, Nat.reduceEqDiff, Nat.reduceLeDiff, Nat.reduceAdd, Nat.reduceMul, Nat.reduceSub, Nat.reduceLT, Int.reduceEq, Int.reduceLT, Int.reduceLE, Int.reduceNeg, Int.reduceAdd, Int.reduceSub, hh]; try simp)
      · have hp : (decide (q.at' < m) && decide (answer q l x m ≠ answer q l x q.at')) = true := by simp [he, hgt]
        rw [hp] at hfd
        simp -dsimp -implicitDefEqProofs (disch := omega) only [↓wpre, push_cast, reduceCtorEq, ↓reduceIte, Nat.reduceEqDiff, Nat.reduceLeDiff, Nat.reduceAdd, Nat.reduceMul, Nat.reduceSub, Nat.reduceLT, Int.reduceEq, Int.reduceLT, Int.reduceLE, Int.reduceNeg, Int.reduceAdd, Int.reduceSub, hh, he, decide_false, Bool.not_false]
        refine ⟨?_, hq.1⟩
        rw [nextL, hfd]; rfl
    · have hp : (decide (q.at' < m) && decide (answer q l x m ≠ answer q l x q.at')) = false := by simp [hgt]
      rw [hp] at hfd
      simp -dsimp -implicitDefEqProofs (disch := omega) only [↓wpre, push_cast, reduceCtorEq, ↓reduceIte, Nat.reduceEqDiff, Nat.reduceLeDiff, Nat.reduceAdd, Nat.reduceMul, Nat.reduceSub, Nat.reduceLT, Int.reduceEq, Int.reduceLT, Int.reduceLE, Int.reduceNeg, Int.reduceAdd, Int.reduceSub, hh, hgt, hk2, hk3]
      refine anyN_intro fun m2 hm2 => ?_
      simp -dsimp -implicitDefEqProofs (disch := omega) only [↓wpre, push_cast, reduceCtorEq, ↓reduceIte, Nat.reduceEqDiff, Nat.reduceLeDiff, Nat.reduceAdd, Nat.reduceMul, Nat.reduceSub, Nat.reduceLT, Int.reduceEq, Int.reduceLT, Int.reduceLE, Int.reduceNeg, Int.reduceAdd, Int.reduceSub, hh]
      refine againJ (d ++ [m], b) (Nat.lt_succ_self _) ⟨by rw [hab]; simp, hk2, hk3, hq, hfd⟩ (by simp -dsimp -implicitDefEqProofs (disch := omega) only [↓wpre, push_cast, reduceCtorEq, ↓reduceIte, Nat.reduceEqDiff, Nat.reduceLeDiff, Nat.reduceAdd, Nat.reduceMul, Nat.reduceSub, Nat.reduceLT, Int.reduceEq, Int.reduceLT, Int.reduceLE, Int.reduceNeg, Int.reduceAdd, Int.reduceSub, hh]; try simp)
end Go.Proofs.YthcedgclhoggcaaGreatDoor
