/- Contracts of functions of the program: each computes what its model says; the conditions stand at each. -/
import Derived.Test.YthcedgclhoggcaaGreatDoorTw27
set_option linter.unusedSimpArgs false
set_option linter.unusedVariables false
set_option maxRecDepth 20000
set_option pp.deepTerms false
set_option pp.deepTerms.threshold 3
namespace Go.Proofs.YthcedgclhoggcaaGreatDoor
open Go Go.Ab Go.Pm Go.Cm
variable (G : Nat → AV) (H : Nat → Option AObj)
theorem proof_c (hG : GOk G) (nzp nz : Bool) (p : List Purpose) (l : List Stm) (x : Idn) (purpose region : T) (channel at' : Int) (hP : SmallP p) (hpl : p.length ≤ 1000000) (hS : SmallS l) (hl : l.length ≤ 19) (hr : region.size ≤ 9223372036854775807) (hx : x.text.size < 4294967281) (hone : ∀ no, ((upTo (saidBy l x channel) at').filter (fun g => decide (g.no = no))).length ≤ 1) : AFn Tryz.prog G 21 [.ls nzp (p.map Purpose.c), .ls nz (l.map Stm.c), .agg x.c, .str purpose, .str region, .int channel, .int at'] H (.tup [lsI (proofOf ⟨p, nzp, purpose, region, channel, at'⟩ l x).1, .int (proofOf ⟨p, nzp, purpose, region, channel, at'⟩ l x).2]) := by
  intro n
  refine ACalls.frz (proof_run G H hG nzp nz p l x purpose region channel at' hP hpl hS hl hr hx hone n) ?_
  generalize proofOf ⟨p, nzp, purpose, region, channel, at'⟩ l x = pe
  rintro r H1 n1 (⟨rfl, rfl⟩ | ⟨o, rfl, h1, h2, h3, h4⟩)
  · exact ⟨fun _ => none, H1, 0, fun _ _ h => (by cases h), Sub.refl _, fun _ _ h => (by cases h), rfl, rfl⟩
  · refine ⟨only o ⟨3, 1, pe.1.map IC⟩, H, 2, only_sub h1, h2, fun j x hj => ?_, ?_, rfl⟩
    · unfold only at hj
      split at hj
      · rename_i e; subst e; exact h3
      · cases hj
    · show AV.tup [frz _ 1 (.os o 0 _), frz _ 1 (.lit _)] = _
      rw [frz_os_plain (by
        intro r hr
        obtain ⟨s, _, rfl⟩ := List.mem_map.1 hr
        rfl) (by simp)]
      cases hx : pe.1 with
      | nil => exact absurd hx h4
      | cons s r => rfl
set_option maxHeartbeats 1600000 in
theorem suffice_c (hG : GOk G) (nz : Bool) (l : List Int) (n : Nat) : ACalls Tryz.prog G 5 [LL nz l] H n fun r H' n' => r = .bool true := by
  refine ACalls.start mix F5 (by simp) fun hlow => ?_
  simp -dsimp -implicitDefEqProofs (disch := omega) only [↓wpre, push_cast, reduceCtorEq, ↓reduceIte, Nat.reduceEqDiff, Nat.reduceLeDiff, Nat.reduceAdd, Nat.reduceMul, Nat.reduceSub, Nat.reduceLT, Int.reduceEq, Int.reduceLT, Int.reduceLE, Int.reduceNeg, Int.reduceAdd, Int.reduceSub, c5]
  refine (rightPolicy_c G _ nz l 0 n hu_same (by omega)).x fun r a1 n1 hn1 h1 h2 h3 => ?_
  obtain ⟨p, rfl, hp⟩ := h3
  simp -dsimp -implicitDefEqProofs (disch := omega) only [↓wpre, push_cast, reduceCtorEq, ↓reduceIte, Nat.reduceEqDiff, Nat.reduceLeDiff, Nat.reduceAdd, Nat.reduceMul, Nat.reduceSub, Nat.reduceLT, Int.reduceEq, Int.reduceLT, Int.reduceLE, Int.reduceNeg, Int.reduceAdd, Int.reduceSub, hu_hu]
  refine (range_c G _ nz l a1 1 14 n hu_same (by omega) (by omega)).x fun r a2 n2 hn2 h1' h2' h3 => ?_
  obtain ⟨many, rfl, hm⟩ := h3
  simp -dsimp -implicitDefEqProofs (disch := omega) only [↓wpre, push_cast, reduceCtorEq, ↓reduceIte, Nat.reduceEqDiff, Nat.reduceLeDiff, Nat.reduceAdd, Nat.reduceMul, Nat.reduceSub, Nat.reduceLT, Int.reduceEq, Int.reduceLT, Int.reduceLE, Int.reduceNeg, Int.reduceAdd, Int.reduceSub, hu_hu]
  refine (rightStatements_c G _ hG nz true p hp.1 l a2 many n hu_same (by omega) (by omega)).x fun r a3 n3 hn3 h3 h4 h5 => ?_
  obtain ⟨lst, rfl, hR, hlen⟩ := h5
  simp -dsimp -implicitDefEqProofs (disch := omega) only [↓wpre, push_cast, reduceCtorEq, ↓reduceIte, Nat.reduceEqDiff, Nat.reduceLeDiff, Nat.reduceAdd, Nat.reduceMul, Nat.reduceSub, Nat.reduceLT, Int.reduceEq, Int.reduceLT, Int.reduceLE, Int.reduceNeg, Int.reduceAdd, Int.reduceSub, hu_hu]
  refine (question_c G _ hG nz true p hp l a3 n hu_same (by omega)).x fun r a4 n4 hn4 h6 h7 h8 => ?_
  obtain ⟨q, hq, rfl⟩ := h8
  have hl0 : lst ≠ [] := by intro e; subst e; simp at hlen; omega
  have hls : lsOf (lst.map Stm.c) = .ls true (lst.map Stm.c) := by
    cases lst with
    | nil => exact absurd rfl hl0
    | cons s r => rfl
  have hP : SmallP p := fun x hx => ⟨Nat.le_trans (hp.2 x hx).1 (by decide), fun t ht => Nat.le_trans ((hp.2 x hx).2 t ht) (by decide)⟩
  have hps := hp.1
  have hS : SmallS lst := fun s hs => by
    have h := (hR.each s hs).1
    have := (pool_small _ h.id).2.2
    refine ⟨by omega, ?_⟩
    rcases h.region with e | e <;> rw [e] <;> decide
  have hqr : q.region.size ≤ 9223372036854775807 := Nat.le_trans hq.2.2.1 (by decide)
  have hqx : q.x.text.size < 4294967281 := Nat.lt_of_le_of_lt hq.1.2.2 (by decide)
  simp -dsimp -implicitDefEqProofs (disch := omega) only [↓wpre, push_cast, reduceCtorEq, ↓reduceIte, Nat.reduceEqDiff, Nat.reduceLeDiff, Nat.reduceAdd, Nat.reduceMul, Nat.reduceSub, Nat.reduceLT, Int.reduceEq, Int.reduceLT, Int.reduceLE, Int.reduceNeg, Int.reduceAdd, Int.reduceSub, hu_hu, hls]
  refine AFn.x (may_c G _ hG true true p lst q.x q.purpose q.region q.channel q.at' hP (by omega) hS (by omega) hqr hqx) fun n5 hn5 => ?_
  simp -dsimp -implicitDefEqProofs (disch := omega) only [↓wpre, push_cast, reduceCtorEq, ↓reduceIte, Nat.reduceEqDiff, Nat.reduceLeDiff, Nat.reduceAdd, Nat.reduceMul, Nat.reduceSub, Nat.reduceLT, Int.reduceEq, Int.reduceLT, Int.reduceLE, Int.reduceNeg, Int.reduceAdd, Int.reduceSub, hu_hu]
  refine AFn.x (proof_c G _ hG true true p lst q.x q.purpose q.region q.channel q.at' hP (by omega) hS (by omega) hqr hqx (fun no => one_of (upTo_ne hR.rise _ _ _) no)) fun n6 hn6 => ?_
  generalize hQ : (⟨p, true, q.purpose, q.region, q.channel, q.at'⟩ : Q) = Q0
  have eQ : Q0.p = p := by rw [← hQ]
  have hmp := may_proof Q0 lst q.x (by rw [eQ]; exact hR) (by omega)
  by_cases h0 : checkAll Q0 lst 1 [q.x] = 0
  case neg =>
    have e1 : (may Q0 lst q.x).2 = checkAll Q0 lst 1 [q.x] := by rw [may, if_pos (by simpa using h0)]
    have e2 : (proofOf Q0 lst q.x).2 = checkAll Q0 lst 1 [q.x] := by rw [proofOf, if_pos (by simpa using h0)]
    simp -dsimp -implicitDefEqProofs (disch := omega) only [↓wpre, push_cast, reduceCtorEq, ↓reduceIte, Nat.reduceEqDiff, Nat.reduceLeDiff, Nat.reduceAdd, Nat.reduceMul, Nat.reduceSub, Nat.reduceLT, Int.reduceEq, Int.reduceLT, Int.reduceLE, Int.reduceNeg, Int.reduceAdd, Int.reduceSub, hu_hu, e1, e2, h0, lsI]
    refine AFn.x (consents_c G _ hG) fun n9 hn9 => ?_
    simp -dsimp -implicitDefEqProofs (disch := omega) only [↓wpre, push_cast, reduceCtorEq, ↓reduceIte, Nat.reduceEqDiff, Nat.reduceLeDiff, Nat.reduceAdd, Nat.reduceMul, Nat.reduceSub, Nat.reduceLT, Int.reduceEq, Int.reduceLT, Int.reduceLE, Int.reduceNeg, Int.reduceAdd, Int.reduceSub, hu_hu]
    exact fin_intro (Sub.refl _) rfl
  have e1 : (may Q0 lst q.x).2 = 0 := by rw [may, if_neg (by simpa using h0)]
  have e2 : proofOf Q0 lst q.x = (proofL Q0 lst q.x, 0) := by rw [proofOf, if_neg (by simpa using h0)]
  obtain ⟨m1, m2⟩ := hmp h0
  rw [e2]
  generalize proofL Q0 lst q.x = pl at m1 m2 ⊢
  have hpl1 : pl.length ≤ 1000000 := by
    rw [← m2]; exact Nat.le_trans (List.length_filter_le _ _) (by omega)
  simp -dsimp -implicitDefEqProofs (disch := omega) only [↓wpre, push_cast, reduceCtorEq, ↓reduceIte, Nat.reduceEqDiff, Nat.reduceLeDiff, Nat.reduceAdd, Nat.reduceMul, Nat.reduceSub, Nat.reduceLT, Int.reduceEq, Int.reduceLT, Int.reduceLE, Int.reduceNeg, Int.reduceAdd, Int.reduceSub, hu_hu, e1, lsI]
  refine (clone_c G _ lst hl0 (by omega) _).le.x fun r H6 n7 ⟨⟨e3, e4⟩, hn7⟩ => ?_
  subst e3 e4
  simp -dsimp -implicitDefEqProofs (disch := omega) only [↓wpre, push_cast, reduceCtorEq, ↓reduceIte, Nat.reduceEqDiff, Nat.reduceLeDiff, Nat.reduceAdd, Nat.reduceMul, Nat.reduceSub, Nat.reduceLT, Int.reduceEq, Int.reduceLT, Int.reduceLE, Int.reduceNeg, Int.reduceAdd, Int.reduceSub, hu_hu]
  refine ((deleteFunc_c G _ (n6 + 1 + 1) n6 ⟨22, 1, [[lsI pl]]⟩ (by omega) lst (by omega) 22 (fun s => !hasI s.no pl) (by rw [hu_ne (by omega)]; first | exact hu_same | (rw [hu_ne (by omega)]; exact hu_same)) (fun H2 h2 x => inProof_c G H2 x pl hpl1 n6 h2) hu_same _).le).x fun r H8 n8 ⟨⟨e5, jr, e6⟩, hn8⟩ => ?_
  subst e5 e6
  have hff : (lst.filter fun x => !(!hasI x.no pl)) = lst.filter fun x => hasI x.no pl := by simp
  rw [hff]
  have hS2 : SmallS (lst.filter fun s => hasI s.no pl) := fun s hs => hS s (List.mem_filter.1 hs).1
  simp -dsimp -implicitDefEqProofs (disch := omega) only [↓wpre, push_cast, reduceCtorEq, ↓reduceIte, Nat.reduceEqDiff, Nat.reduceLeDiff, Nat.reduceAdd, Nat.reduceMul, Nat.reduceSub, Nat.reduceLT, Int.reduceEq, Int.reduceLT, Int.reduceLE, Int.reduceNeg, Int.reduceAdd, Int.reduceSub, hu_hu]
  refine may_os G _ hG true p (lst.filter fun s => hasI s.no pl) jr (n6 + 1 + 1) hu_same q.x q.purpose q.region q.channel q.at' hP (by omega) hS2 (Nat.le_trans (List.length_filter_le _ _) (by omega)) hqr hqx fun n9 hn9 => ?_
  rw [hQ, m1]
  simp -dsimp -implicitDefEqProofs (disch := omega) only [↓wpre, push_cast, reduceCtorEq, ↓reduceIte, Nat.reduceEqDiff, Nat.reduceLeDiff, Nat.reduceAdd, Nat.reduceMul, Nat.reduceSub, Nat.reduceLT, Int.reduceEq, Int.reduceLT, Int.reduceLE, Int.reduceNeg, Int.reduceAdd, Int.reduceSub, hu_hu, e1, m2, lsI]

  refine AFn.x (consents_c G _ hG) fun n10 hn10 => ?_
  simp -dsimp -implicitDefEqProofs (disch := omega) only [↓wpre, push_cast, reduceCtorEq, ↓reduceIte, Nat.reduceEqDiff, Nat.reduceLeDiff, Nat.reduceAdd, Nat.reduceMul, Nat.reduceSub, Nat.reduceLT, Int.reduceEq, Int.reduceLT, Int.reduceLE, Int.reduceNeg, Int.reduceAdd, Int.reduceSub, hu_hu]
  first | exact fin_intro (Sub.refl _) rfl | trace_state
end Go.Proofs.YthcedgclhoggcaaGreatDoor
