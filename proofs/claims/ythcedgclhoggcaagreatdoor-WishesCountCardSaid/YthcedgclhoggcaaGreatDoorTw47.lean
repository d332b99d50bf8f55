/- Contracts of functions of the program: each computes what its model says; the conditions stand at each. -/
import Derived.Test.YthcedgclhoggcaaGreatDoorTw15
import Derived.Test.YthcedgclhoggcaaGreatDoorCl8
set_option linter.unusedSimpArgs false
set_option linter.unusedVariables false
set_option maxRecDepth 20000
set_option pp.deepTerms false
set_option pp.deepTerms.threshold 3
namespace Go.Proofs.YthcedgclhoggcaaGreatDoor
open Go Go.Ab Go.Pm Go.Cm
variable (G : Nat → AV) (H : Nat → Option AObj)
set_option maxHeartbeats 1600000 in
theorem wishes_c (hG : GOk G) (nz : Bool) (l : List Int) (n : Nat) : ACalls Tryz.prog G 7 [LL nz l] H n fun r H' n' => r = .bool true := by
  refine ACalls.start mix F7 (by simp) fun hlow => ?_
  simp -dsimp -implicitDefEqProofs (disch := omega) only [↓wpre, ↓wmap, push_cast, reduceCtorEq, ↓reduceIte, Nat.reduceEqDiff, Nat.reduceLeDiff, Nat.reduceAdd, Nat.reduceMul, Nat.reduceMod, Nat.reduceSub, Nat.reduceLT, Int.reduceEq, Int.reduceLT, Int.reduceLE, Int.reduceNeg, Int.reduceAdd, Int.reduceSub, c7]
  refine (rightPolicy_c G _ nz l 0 n hu_same (by omega)).x fun r a1 n1 hn1 h1 h2 h3 => ?_
  obtain ⟨p, rfl, hp⟩ := h3
  simp -dsimp -implicitDefEqProofs (disch := omega) only [↓wpre, ↓wmap, push_cast, reduceCtorEq, ↓reduceIte, Nat.reduceEqDiff, Nat.reduceLeDiff, Nat.reduceAdd, Nat.reduceMul, Nat.reduceMod, Nat.reduceSub, Nat.reduceLT, Int.reduceEq, Int.reduceLT, Int.reduceLE, Int.reduceNeg, Int.reduceAdd, Int.reduceSub, hu_hu]
  refine (range_c G _ nz l a1 0 12 n hu_same (by omega) (by omega)).x fun r a2 n2 hn2 h1' h2' h3 => ?_
  obtain ⟨many, rfl, hm⟩ := h3
  simp -dsimp -implicitDefEqProofs (disch := omega) only [↓wpre, ↓wmap, push_cast, reduceCtorEq, ↓reduceIte, Nat.reduceEqDiff, Nat.reduceLeDiff, Nat.reduceAdd, Nat.reduceMul, Nat.reduceMod, Nat.reduceSub, Nat.reduceLT, Int.reduceEq, Int.reduceLT, Int.reduceLE, Int.reduceNeg, Int.reduceAdd, Int.reduceSub, hu_hu]
  refine (rightStatements_c G _ hG nz true p hp.1 l a2 many n hu_same (by omega) (by omega)).x fun r a3 n3 hn3 h3 h4 h5 => ?_
  obtain ⟨lst, rfl, hR, hlen⟩ := h5
  simp -dsimp -implicitDefEqProofs (disch := omega) only [↓wpre, ↓wmap, push_cast, reduceCtorEq, ↓reduceIte, Nat.reduceEqDiff, Nat.reduceLeDiff, Nat.reduceAdd, Nat.reduceMul, Nat.reduceMod, Nat.reduceSub, Nat.reduceLT, Int.reduceEq, Int.reduceLT, Int.reduceLE, Int.reduceNeg, Int.reduceAdd, Int.reduceSub, hu_hu]
  refine (question_c G _ hG nz true p hp l a3 n hu_same (by omega)).x fun r a4 n4 hn4 h6 h7 h8 => ?_
  obtain ⟨q, hq, rfl⟩ := h8
  have hP : SmallP p := fun x hx => ⟨Nat.le_trans (hp.2 x hx).1 (by decide), fun t ht => Nat.le_trans ((hp.2 x hx).2 t ht) (by decide)⟩
  have hps := hp.1
  have hS : SmallS lst := fun s hs => by
    have h := (hR.each s hs).1
    have := (pool_small _ h.id).2.2
    refine ⟨by omega, ?_⟩
    rcases h.region with e | e <;> rw [e] <;> decide
  have hqr : q.region.size ≤ 9223372036854775807 := Nat.le_trans hq.2.2.1 (by decide)
  have hqx : q.x.text.size < 4294967281 := Nat.lt_of_le_of_lt hq.1.2.2 (by decide)
  simp -dsimp -implicitDefEqProofs (disch := omega) only [↓wpre, ↓wmap, push_cast, reduceCtorEq, ↓reduceIte, Nat.reduceEqDiff, Nat.reduceLeDiff, Nat.reduceAdd, Nat.reduceMul, Nat.reduceMod, Nat.reduceSub, Nat.reduceLT, Int.reduceEq, Int.reduceLT, Int.reduceLE, Int.reduceNeg, Int.reduceAdd, Int.reduceSub, hu_hu]
  refine (flip_c G _ nz l a4 2 n (by simp -dsimp -implicitDefEqProofs (disch := omega) only [↓wpre, ↓wmap, push_cast, reduceCtorEq, ↓reduceIte, Nat.reduceEqDiff, Nat.reduceLeDiff, Nat.reduceAdd, Nat.reduceMul, Nat.reduceMod, Nat.reduceSub, Nat.reduceLT, Int.reduceEq, Int.reduceLT, Int.reduceLE, Int.reduceNeg, Int.reduceAdd, Int.reduceSub, hu_same]) ⟨by omega, by omega⟩ (by omega)).x fun r a5 n5 hn5 k1 k2 k3 => ?_
  obtain ⟨want, rfl⟩ := k3
  simp -dsimp -implicitDefEqProofs (disch := omega) only [↓wpre, ↓wmap, push_cast, reduceCtorEq, ↓reduceIte, Nat.reduceEqDiff, Nat.reduceLeDiff, Nat.reduceAdd, Nat.reduceMul, Nat.reduceMod, Nat.reduceSub, Nat.reduceLT, Int.reduceEq, Int.reduceLT, Int.reduceLE, Int.reduceNeg, Int.reduceAdd, Int.reduceSub, hu_hu, lsOf]
  refine AFn.x (askFor_c G _ hG true _ want p lst q.x q.purpose q.region q.channel q.at' hP (by omega) hS (by omega) hqr hqx) fun n6 hn6 => ?_
  generalize hQ : (⟨p, true, q.purpose, q.region, q.channel, q.at'⟩ : Q) = Q0
  have eQ : Q0.p = p := by rw [← hQ]
  have eA : Q0.at' = q.at' := by rw [← hQ]
  obtain ⟨w1, w2⟩ := askFor_law Q0 lst q.x want (by omega)
  generalize askFor Q0 lst q.x want = ae at w1 w2
  obtain ⟨out, e⟩ := ae
  simp only at w1 w2
  by_cases he : e = 0
  case neg =>
    have ho := w1 he
    subst ho
    simp -dsimp -implicitDefEqProofs (disch := omega) only [↓wpre, ↓wmap, push_cast, reduceCtorEq, ↓reduceIte, Nat.reduceEqDiff, Nat.reduceLeDiff, Nat.reduceAdd, Nat.reduceMul, Nat.reduceMod, Nat.reduceSub, Nat.reduceLT, Int.reduceEq, Int.reduceLT, Int.reduceLE, Int.reduceNeg, Int.reduceAdd, Int.reduceSub, hu_hu, he, lsOf]
    refine AFn.x (consents_c G _ hG) fun n9 hn9 => ?_
    simp -dsimp -implicitDefEqProofs (disch := omega) only [↓wpre, ↓wmap, push_cast, reduceCtorEq, ↓reduceIte, Nat.reduceEqDiff, Nat.reduceLeDiff, Nat.reduceAdd, Nat.reduceMul, Nat.reduceMod, Nat.reduceSub, Nat.reduceLT, Int.reduceEq, Int.reduceLT, Int.reduceLE, Int.reduceNeg, Int.reduceAdd, Int.reduceSub, hu_hu]
    exact fin_intro (Sub.refl _) rfl
  subst he
  obtain ⟨w3, w4, w5, w6, w7, w8, w9⟩ := w2 rfl
  clear w1 w2
  rw [eQ] at w3 w4
  have hlo : (lst ++ out).length ≤ 14 := by rw [List.length_append]; omega
  have hSo : SmallS out := fun s hs => by
    obtain ⟨i1, i2, _⟩ := w9 s hs
    rw [i1, i2, ← hQ]
    exact ⟨hqx, hqr⟩
  have hSa : SmallS (lst ++ out) := fun s hs => by
    rcases List.mem_append.1 hs with h | h
    · exact hS s h
    · exact hSo s h
  have hm1 := mergeL_same (lst ++ out)
  have hSm : SmallS (mergeL (lst ++ out)) := fun s hs => by
    obtain ⟨s', i1, i2⟩ := hm1.2 s hs
    obtain ⟨f1, f2, f3, f4, f5, f6⟩ := kOf_fields i2
    have := hSa s' i1
    rw [f2, f4] at this
    exact this
  have hml := mergeL_len (lst ++ out)
  have hla : ∀ s ∈ lst ++ out, 0 ≤ s.at' := fun s hs => by
    rcases List.mem_append.1 hs with h | h
    · exact ((hR.each s h).1.at').1
    · exact (w9 s h).2.2
  have hlm : ∀ s ∈ mergeL (lst ++ out), 0 ≤ s.at' := fun s hs => by
    obtain ⟨s', i1, i2⟩ := hm1.2 s hs
    obtain ⟨f1, _⟩ := kOf_fields i2
    have := hla s' i1
    omega
  have hkeys := answer_keys Q0 hm1.1 hm1.2 hla hlm q.x Q0.at'
  have hmc : mergeL (out ++ lst) = mergeL (lst ++ out) := mergeL_congr (KSub.of_sub fun s h => by simp only [List.mem_append] at h ⊢; exact h.symm) (KSub.of_sub fun s h => by simp only [List.mem_append] at h ⊢; exact h.symm)
  have em1 : may Q0 (lst ++ out) q.x = (answer Q0 (lst ++ out) q.x Q0.at', 0) := by rw [may, if_neg (by simpa using w6)]
  have em2 : may Q0 (mergeL (lst ++ out)) q.x = (answer Q0 (mergeL (lst ++ out)) q.x Q0.at', 0) := by rw [may, if_neg (by simpa using w8)]
  have mayA : ∀ H', AFn Tryz.prog G 13 [.ls true (p.map Purpose.c), lsOf ((lst ++ out).map Stm.c), .agg q.x.c, .str q.purpose, .str q.region, .int q.channel, .int q.at'] H' (.tup [.agg (answer Q0 (lst ++ out) q.x Q0.at').c, .int 0]) := fun H' => by
    have := may_c G H' hG true (!((lst ++ out).map Stm.c).isEmpty) p (lst ++ out) q.x q.purpose q.region q.channel q.at' hP (by omega) hSa (by omega) hqr hqx
    rw [hQ, em1] at this
    exact this
  have mayB : ∀ H' nzm, AFn Tryz.prog G 13 [.ls true (p.map Purpose.c), .ls nzm ((mergeL (lst ++ out)).map Stm.c), .agg q.x.c, .str q.purpose, .str q.region, .int q.channel, .int q.at'] H' (.tup [.agg (answer Q0 (mergeL (lst ++ out)) q.x Q0.at').c, .int 0]) := fun H' nzm => by
    have := may_c G H' hG true nzm p (mergeL (lst ++ out)) q.x q.purpose q.region q.channel q.at' hP (by omega) hSm (by omega) hqr hqx
    rw [hQ, em2] at this
    exact this
  have mrg : ∀ H' (nza nzb : Bool) (a b : List Stm), SmallS a → SmallS b → a.length + b.length ≤ 3000 → Cm.check p a = 0 → Cm.check p b = 0 → AFn Tryz.prog G 30 [.ls true (p.map Purpose.c), .ls nza (a.map Stm.c), .ls nzb (b.map Stm.c)] H' (.tup [.ls (!(a ++ b).isEmpty) ((mergeL (a ++ b)).map Stm.c), .int 0]) := fun H' nza nzb a b k1 k2 k3 k4 k5 => by
    obtain ⟨m, cs, hGm⟩ := hG.maxLen
    exact merge_c G H' hGm true nza nzb p a b hP (by omega) k1 k2 k3 k4 k5
  have hcat : catL [(!(lst.map Stm.c).isEmpty, lst), (!(out.map Stm.c).isEmpty, out)] = lst ++ out := by simp [catL]
  generalize answer Q0 (lst ++ out) q.x Q0.at' = an at mayA w7 hkeys
  generalize answer Q0 (mergeL (lst ++ out)) q.x Q0.at' = bn at mayB hkeys
  simp -dsimp -implicitDefEqProofs (disch := omega) only [↓wpre, ↓wmap, push_cast, reduceCtorEq, ↓reduceIte, Nat.reduceEqDiff, Nat.reduceLeDiff, Nat.reduceAdd, Nat.reduceMul, Nat.reduceMod, Nat.reduceSub, Nat.reduceLT, Int.reduceEq, Int.reduceLT, Int.reduceLE, Int.reduceNeg, Int.reduceAdd, Int.reduceSub, hu_hu, lsOf]
  refine xareg_intro an.c rfl rfl ?_
  simp -dsimp -implicitDefEqProofs (disch := omega) only [↓wpre, ↓wmap, push_cast, reduceCtorEq, ↓reduceIte, Nat.reduceEqDiff, Nat.reduceLeDiff, Nat.reduceAdd, Nat.reduceMul, Nat.reduceMod, Nat.reduceSub, Nat.reduceLT, Int.reduceEq, Int.reduceLT, Int.reduceLE, Int.reduceNeg, Int.reduceAdd, Int.reduceSub, hu_hu, lsOf]
  refine xfnA_intro (fun H' _ => concat_c G H' [(!(lst.map Stm.c).isEmpty, lst), (!(out.map Stm.c).isEmpty, out)] (by simp) (by rw [hcat]; omega)) ?_
  rw [hcat]
  simp -dsimp -implicitDefEqProofs (disch := omega) only [↓wpre, ↓wmap, push_cast, reduceCtorEq, ↓reduceIte, Nat.reduceEqDiff, Nat.reduceLeDiff, Nat.reduceAdd, Nat.reduceMul, Nat.reduceMod, Nat.reduceSub, Nat.reduceLT, Int.reduceEq, Int.reduceLT, Int.reduceLE, Int.reduceNeg, Int.reduceAdd, Int.reduceSub, hu_hu]
  refine xfnA_intro (fun H' _ => mayA H') ?_
  simp -dsimp -implicitDefEqProofs (disch := omega) only [↓wpre, ↓wmap, push_cast, reduceCtorEq, ↓reduceIte, Nat.reduceEqDiff, Nat.reduceLeDiff, Nat.reduceAdd, Nat.reduceMul, Nat.reduceMod, Nat.reduceSub, Nat.reduceLT, Int.reduceEq, Int.reduceLT, Int.reduceLE, Int.reduceNeg, Int.reduceAdd, Int.reduceSub, hu_hu]
  refine anyM_intro fun m n7 hm1 hn7 => ?_
  simp -dsimp -implicitDefEqProofs (disch := omega) only [↓wpre, ↓wmap, push_cast, reduceCtorEq, ↓reduceIte, Nat.reduceEqDiff, Nat.reduceLeDiff, Nat.reduceAdd, Nat.reduceMul, Nat.reduceMod, Nat.reduceSub, Nat.reduceLT, Int.reduceEq, Int.reduceLT, Int.reduceLE, Int.reduceNeg, Int.reduceAdd, Int.reduceSub, hu_hu]
  by_cases hmw : an.may = want
  case' pos => simp -dsimp -implicitDefEqProofs (disch := omega) only [↓wpre, ↓wmap, push_cast, reduceCtorEq, ↓reduceIte, Nat.reduceEqDiff, Nat.reduceLeDiff, Nat.reduceAdd, Nat.reduceMul, Nat.reduceMod, Nat.reduceSub, Nat.reduceLT, Int.reduceEq, Int.reduceLT, Int.reduceLE, Int.reduceNeg, Int.reduceAdd, Int.reduceSub, hu_hu, hmw]
  case' neg =>
    obtain ⟨hwt, hwy⟩ := w7.resolve_left hmw
    have hb : (an.may == want) = false := by simpa using hmw
    simp -dsimp -implicitDefEqProofs (disch := omega) only [↓wpre, ↓wmap, push_cast, reduceCtorEq, ↓reduceIte, Nat.reduceEqDiff, Nat.reduceLeDiff, Nat.reduceAdd, Nat.reduceMul, Nat.reduceMod, Nat.reduceSub, Nat.reduceLT, Int.reduceEq, Int.reduceLT, Int.reduceLE, Int.reduceNeg, Int.reduceAdd, Int.reduceSub, hu_hu, hb]
    simp -dsimp -implicitDefEqProofs (disch := omega) only [↓wpre, ↓wmap, push_cast, reduceCtorEq, ↓reduceIte, Nat.reduceEqDiff, Nat.reduceLeDiff, Nat.reduceAdd, Nat.reduceMul, Nat.reduceMod, Nat.reduceSub, Nat.reduceLT, Int.reduceEq, Int.reduceLT, Int.reduceLE, Int.reduceNeg, Int.reduceAdd, Int.reduceSub, hu_hu, hwt, hwy]
  all_goals
    refine AFn.x (mrg _ (!(out.map Stm.c).isEmpty) (!(lst.map Stm.c).isEmpty) out lst hSo hS (by omega) w4 w3) fun n8 hn8 => ?_
    rw [hmc]
    simp -dsimp -implicitDefEqProofs (disch := omega) only [↓wpre, ↓wmap, push_cast, reduceCtorEq, ↓reduceIte, Nat.reduceEqDiff, Nat.reduceLeDiff, Nat.reduceAdd, Nat.reduceMul, Nat.reduceMod, Nat.reduceSub, Nat.reduceLT, Int.reduceEq, Int.reduceLT, Int.reduceLE, Int.reduceNeg, Int.reduceAdd, Int.reduceSub, hu_hu]
    refine AFn.x (mrg _ (!(lst.map Stm.c).isEmpty) (!(out.map Stm.c).isEmpty) lst out hS hSo (by omega) w3 w4) fun n9 hn9 => ?_
    simp -dsimp -implicitDefEqProofs (disch := omega) only [↓wpre, ↓wmap, push_cast, reduceCtorEq, ↓reduceIte, Nat.reduceEqDiff, Nat.reduceLeDiff, Nat.reduceAdd, Nat.reduceMul, Nat.reduceMod, Nat.reduceSub, Nat.reduceLT, Int.reduceEq, Int.reduceLT, Int.reduceLE, Int.reduceNeg, Int.reduceAdd, Int.reduceSub, hu_hu]
    have heq : ∀ H' nz1 nz2, AFn Tryz.prog G 31 [.ls nz1 ((mergeL (lst ++ out)).map Stm.c), .ls nz2 ((mergeL (lst ++ out)).map Stm.c)] H' (.bool true) := fun H' nz1 nz2 => by
      have := equalS_c G H' nz1 nz2 (mergeL (lst ++ out)) (mergeL (lst ++ out)) (by omega) (by omega)
      simpa using this
    refine AFn.x (heq _ _ _) fun n10 hn10 => ?_
    simp -dsimp -implicitDefEqProofs (disch := omega) only [↓wpre, ↓wmap, push_cast, reduceCtorEq, ↓reduceIte, Nat.reduceEqDiff, Nat.reduceLeDiff, Nat.reduceAdd, Nat.reduceMul, Nat.reduceMod, Nat.reduceSub, Nat.reduceLT, Int.reduceEq, Int.reduceLT, Int.reduceLE, Int.reduceNeg, Int.reduceAdd, Int.reduceSub, hu_hu]
    refine AFn.x (mayB _ _) fun n11 hn11 => ?_
    simp -dsimp -implicitDefEqProofs (disch := omega) only [↓wpre, ↓wmap, push_cast, reduceCtorEq, ↓reduceIte, Nat.reduceEqDiff, Nat.reduceLeDiff, Nat.reduceAdd, Nat.reduceMul, Nat.reduceMod, Nat.reduceSub, Nat.reduceLT, Int.reduceEq, Int.reduceLT, Int.reduceLE, Int.reduceNeg, Int.reduceAdd, Int.reduceSub, hu_hu, hkeys.1, hkeys.2]
    refine AFn.x (consents_c G _ hG) fun n12 hn12 => ?_
    simp -dsimp -implicitDefEqProofs (disch := omega) only [↓wpre, ↓wmap, push_cast, reduceCtorEq, ↓reduceIte, Nat.reduceEqDiff, Nat.reduceLeDiff, Nat.reduceAdd, Nat.reduceMul, Nat.reduceMod, Nat.reduceSub, Nat.reduceLT, Int.reduceEq, Int.reduceLT, Int.reduceLE, Int.reduceNeg, Int.reduceAdd, Int.reduceSub, hu_hu]
    exact fin_intro (Sub.refl _) rfl
end Go.Proofs.YthcedgclhoggcaaGreatDoor
