/- Contracts of functions of the program: each computes what its model says; the conditions stand at each. -/
import Derived.Test.YtblhbafoncfhdaaGreatDoorPt5
import Derived.Test.YtblhbafoncfhdaaGreatDoorPe8
set_option linter.unusedSimpArgs false
set_option linter.unusedVariables false
set_option maxRecDepth 20000
set_option pp.deepTerms false
set_option pp.deepTerms.threshold 3
namespace Go.Proofs.YtblhbafoncfhdaaGreatDoor
open Go Go.Ab Go.Pm Go.Cm Go.El Go.Rm Go.Pp Go.Uf
variable (G : Nat → AV) (H : Nat → Option AObj)










theorem plain_mea (l : List Mea) : ∀ r ∈ l.map Mea.c, plain r = true := fun r hr => by
  obtain ⟨s, _, rfl⟩ := List.mem_map.1 hr; rfl
theorem fields5_c (hG : GOk G) (nz : Bool) (l : List Int) (a : Int) (i : Nat) (hi : H i = some (strm (LL nz l) a)) (ha : 0 ≤ a ∧ a ≤ 1099511625000) : SC G H 12 [.op i 0 0, .int 5] i (LL nz l) a 50 fun r => ∃ (b : Bool) (d : List Fld), r = .ls b (d.map Fld.c) ∧ (∀ f ∈ d, FldOk f) ∧ d.length ≤ 6 := by
  intro n
  refine low_of G H fun hlow => ACalls.frz (fields_run G H hG nz l a i hi ha 5 (by omega) n) ?_
  have hin := hlow i _ hi
  rintro r H1 n1 ⟨a', d, h1, h2, h3, h3', h4, ⟨h5, rfl⟩ | ⟨o, rfl, h5, h6, h7⟩⟩
  · exact ⟨fun _ => none, hu H i (some (strm (LL nz l) a')), 0, fun _ _ h => (by cases h), h4, fun _ _ h => (by cases h), a', h1, h2, rfl, false, d, by rw [h5]; rfl, h3, by omega⟩
  · refine ⟨Ab.only o ⟨78, 4, d.map Fld.c⟩, hu H i (some (strm (LL nz l) a')), 1, only_sub h5, h4, fun j x hj => ?_, a', h1, h2, rfl, true, d, ?_, h3, by omega⟩
    · unfold Ab.only at hj
      split at hj
      · rename_i e; subst e
        rw [hu_ne (by omega)]
        cases hx : H j with
        | none => rfl
        | some y => exact absurd (hlow j y hx) (by omega)
      · cases hj
    · rw [frz_os_plain (plain_fld _) (by simp)]
theorem measures_c (hG : GOk G) (nz : Bool) (l : List Int) (a : Int) (i : Nat) (hi : H i = some (strm (LL nz l) a)) (ha : 0 ≤ a ∧ a ≤ 1099511625000) : SC G H 11 [.op i 0 0] i (LL nz l) a 50 fun r => ∃ (b : Bool) (d : List Mea), r = .ls b (d.map Mea.c) ∧ (∀ m ∈ d, m.name.size ≤ 100) ∧ d.length ≤ 3 := by
  intro n
  refine low_of G H fun hlow => ACalls.frz (measures_run G H hG nz l a i hi ha n) ?_
  have hin := hlow i _ hi
  rintro r H1 n1 ⟨a', d, h1, h2, h3, h3', h4, ⟨h5, rfl⟩ | ⟨o, rfl, h5, h6, h7⟩⟩
  · exact ⟨fun _ => none, hu H i (some (strm (LL nz l) a')), 0, fun _ _ h => (by cases h), h4, fun _ _ h => (by cases h), a', h1, h2, rfl, false, d, by rw [h5]; rfl, h3, by omega⟩
  · refine ⟨Ab.only o ⟨119, 4, d.map Mea.c⟩, hu H i (some (strm (LL nz l) a')), 1, only_sub h5, h4, fun j x hj => ?_, a', h1, h2, rfl, true, d, ?_, h3, by omega⟩
    · unfold Ab.only at hj
      split at hj
      · rename_i e; subst e
        rw [hu_ne (by omega)]
        cases hx : H j with
        | none => rfl
        | some y => exact absurd (hlow j y hx) (by omega)
      · cases hj
    · rw [frz_os_plain (plain_mea _) (by simp)]
theorem text_size : ∀ t ∈ texts, t.size ≤ 201 := by
  have h : (texts.all fun t => decide (t.size ≤ 201)) = true := by decide +kernel
  intro t ht
  simpa using List.all_eq_true.1 h t ht
theorem smallF_of {d : List Fld} (h : ∀ f ∈ d, FldOk f) : SmallF d := fun f hf => by
  have h1 := h f hf
  have h2 := text_size _ h1.1
  have h3 := h1.2
  exact ⟨by omega, by omega⟩
set_option maxHeartbeats 6400000 in
theorem pointsTurn_c (hU : GU G) (nz : Bool) (l : List Int) (n : Nat) : ACalls Tryz.prog G 3 [LL nz l] H n fun r H' n' => r = .bool true := by
  have hG := hU.ok
  refine ACalls.start mix F3 (by simp) fun hlow => ?_
  simp -dsimp -implicitDefEqProofs (disch := omega) only [↓wpre, push_cast, reduceCtorEq, ↓reduceIte, Nat.reduceEqDiff, Nat.reduceLeDiff, Nat.reduceAdd, Nat.reduceLT, Int.reduceEq, Int.reduceLT, Int.reduceLE, Int.reduceNeg, Int.reduceAdd, c3]
  refine (measures_c G _ hG nz l 0 n hu_same (by omega)).x fun r a1 n1 hn1 h1 h2 h3 => ?_
  obtain ⟨zm, ms, rfl, hms, hml⟩ := h3
  simp -dsimp -implicitDefEqProofs (disch := omega) only [↓wpre, push_cast, reduceCtorEq, ↓reduceIte, Nat.reduceEqDiff, Nat.reduceLeDiff, Nat.reduceAdd, Nat.reduceLT, Int.reduceEq, Int.reduceLT, Int.reduceLE, Int.reduceNeg, Int.reduceAdd, hu_hu]
  refine (fields5_c G _ hG nz l a1 n hu_same (by omega)).x fun r a2 n2 hn2 k1 k2 k3 => ?_
  obtain ⟨za, fa, rfl, hfa, hfal⟩ := k3
  simp -dsimp -implicitDefEqProofs (disch := omega) only [↓wpre, push_cast, reduceCtorEq, ↓reduceIte, Nat.reduceEqDiff, Nat.reduceLeDiff, Nat.reduceAdd, Nat.reduceLT, Int.reduceEq, Int.reduceLT, Int.reduceLE, Int.reduceNeg, Int.reduceAdd, hu_hu]
  refine (fields5_c G _ hG nz l a2 n hu_same (by omega)).x fun r a3 n3 hn3 k1' k2' k3 => ?_
  obtain ⟨zb, fb, rfl, hfb, hfbl⟩ := k3
  have sa := smallF_of hfa
  have sb := smallF_of hfb
  have hmn : ∀ m ∈ ms, m.name.size ≤ 1000000 := fun m hm => by have := hms m hm; omega
  simp -dsimp -implicitDefEqProofs (disch := omega) only [↓wpre, push_cast, reduceCtorEq, ↓reduceIte, Nat.reduceEqDiff, Nat.reduceLeDiff, Nat.reduceAdd, Nat.reduceLT, Int.reduceEq, Int.reduceLT, Int.reduceLE, Int.reduceNeg, Int.reduceAdd, hu_hu]
  refine AFn.x (checkMeas_c G _ zm ms hmn (by omega)) fun n4 hn4 => ?_
  by_cases hcm : checkMeas ms = 0
  · by_cases hca : checkFields fa = 0
    · simp -dsimp -implicitDefEqProofs (disch := omega) only [↓wpre, push_cast, reduceCtorEq, ↓reduceIte, Nat.reduceEqDiff, Nat.reduceLeDiff, Nat.reduceAdd, Nat.reduceLT, Int.reduceEq, Int.reduceLT, Int.reduceLE, Int.reduceNeg, Int.reduceAdd, hcm]
      refine AFn.x (checkFields_c G _ hU za fa sa (by omega)) fun n5 hn5 => ?_
      by_cases hcb : checkFields fb = 0
      · simp -dsimp -implicitDefEqProofs (disch := omega) only [↓wpre, push_cast, reduceCtorEq, ↓reduceIte, Nat.reduceEqDiff, Nat.reduceLeDiff, Nat.reduceAdd, Nat.reduceLT, Int.reduceEq, Int.reduceLT, Int.reduceLE, Int.reduceNeg, Int.reduceAdd, hca]
        refine AFn.x (checkFields_c G _ hU zb fb sb (by omega)) fun n6 hn6 => ?_
        simp -dsimp -implicitDefEqProofs (disch := omega) only [↓wpre, push_cast, reduceCtorEq, ↓reduceIte, Nat.reduceEqDiff, Nat.reduceLeDiff, Nat.reduceAdd, Nat.reduceLT, Int.reduceEq, Int.reduceLT, Int.reduceLE, Int.reduceNeg, Int.reduceAdd, hcb]
        refine AFn.x (pointsAll_c G _ hU zm za zb ms fa fb hcm hca hcb hmn (by omega) sa sb (by omega) (by omega)) fun n7 hn7 => ?_
        simp -dsimp -implicitDefEqProofs (disch := omega) only [↓wpre, push_cast, reduceCtorEq, ↓reduceIte, Nat.reduceEqDiff, Nat.reduceLeDiff, Nat.reduceAdd, Nat.reduceLT, Int.reduceEq, Int.reduceLT, Int.reduceLE, Int.reduceNeg, Int.reduceAdd]
        refine AFn.x (pointsAll_c G _ hU zm zb za ms fb fa hcm hcb hca hmn (by omega) sb sa (by omega) (by omega)) fun n8 hn8 => ?_
        rw [score_symm ms fb fa]
        simp -dsimp -implicitDefEqProofs (disch := omega) only [↓wpre, push_cast, reduceCtorEq, ↓reduceIte, Nat.reduceEqDiff, Nat.reduceLeDiff, Nat.reduceAdd, Nat.reduceLT, Int.reduceEq, Int.reduceLT, Int.reduceLE, Int.reduceNeg, Int.reduceAdd]
        refine (value_c G _ hG nz l a3 n hu_same (by omega)).x fun r a4 n9 hn9 q1 q2 q3 => ?_
        obtain ⟨v1, rfl, hv1⟩ := q3
        have t1 := text_size _ hv1
        simp -dsimp -implicitDefEqProofs (disch := omega) only [↓wpre, push_cast, reduceCtorEq, ↓reduceIte, Nat.reduceEqDiff, Nat.reduceLeDiff, Nat.reduceAdd, Nat.reduceLT, Int.reduceEq, Int.reduceLT, Int.reduceLE, Int.reduceNeg, Int.reduceAdd, hu_hu]
        refine (value_c G _ hG nz l a4 n hu_same (by omega)).x fun r a5 n10 hn10 q1' q2' q3 => ?_
        obtain ⟨v2, rfl, hv2⟩ := q3
        have t2 := text_size _ hv2
        simp -dsimp -implicitDefEqProofs (disch := omega) only [↓wpre, push_cast, reduceCtorEq, ↓reduceIte, Nat.reduceEqDiff, Nat.reduceLeDiff, Nat.reduceAdd, Nat.reduceLT, Int.reduceEq, Int.reduceLT, Int.reduceLE, Int.reduceNeg, Int.reduceAdd, hu_hu]
        obtain ⟨d1, d2, hd⟩ : ∃ d1 d2 : Int, distV v1.text v2.text = .tup [.int d1, .int d2] := by
          unfold distV
          split
          · exact ⟨_, _, rfl⟩
          · exact ⟨_, _, rfl⟩
        refine AFn.x (dist200_c G _ hU v1.text v2.text (by omega) (by omega)) fun n11 hn11 => ?_
        rw [hd]
        simp -dsimp -implicitDefEqProofs (disch := omega) only [↓wpre, push_cast, reduceCtorEq, ↓reduceIte, Nat.reduceEqDiff, Nat.reduceLeDiff, Nat.reduceAdd, Nat.reduceLT, Int.reduceEq, Int.reduceLT, Int.reduceLE, Int.reduceNeg, Int.reduceAdd]
        refine AFn.x (dist200_c G _ hU v2.text v1.text (by omega) (by omega)) fun n12 hn12 => ?_
        rw [distV_symm, hd]
        simp -dsimp -implicitDefEqProofs (disch := omega) only [↓wpre, push_cast, reduceCtorEq, ↓reduceIte, Nat.reduceEqDiff, Nat.reduceLeDiff, Nat.reduceAdd, Nat.reduceLT, Int.reduceEq, Int.reduceLT, Int.reduceLE, Int.reduceNeg, Int.reduceAdd]
        refine AFn.x (people_c G _ hU) fun n13 hn13 => ?_
        simp -dsimp -implicitDefEqProofs (disch := omega) only [↓wpre, push_cast, reduceCtorEq, ↓reduceIte, Nat.reduceEqDiff, Nat.reduceLeDiff, Nat.reduceAdd, Nat.reduceLT, Int.reduceEq, Int.reduceLT, Int.reduceLE, Int.reduceNeg, Int.reduceAdd]
        try exact fin_intro (Ab.Sub.refl _) rfl
      · simp -dsimp -implicitDefEqProofs (disch := omega) only [↓wpre, push_cast, reduceCtorEq, ↓reduceIte, Nat.reduceEqDiff, Nat.reduceLeDiff, Nat.reduceAdd, Nat.reduceLT, Int.reduceEq, Int.reduceLT, Int.reduceLE, Int.reduceNeg, Int.reduceAdd, hca]
        refine AFn.x (checkFields_c G _ hU zb fb sb (by omega)) fun n6 hn6 => ?_
        simp -dsimp -implicitDefEqProofs (disch := omega) only [↓wpre, push_cast, reduceCtorEq, ↓reduceIte, Nat.reduceEqDiff, Nat.reduceLeDiff, Nat.reduceAdd, Nat.reduceLT, Int.reduceEq, Int.reduceLT, Int.reduceLE, Int.reduceNeg, Int.reduceAdd, hcb]
        refine AFn.x (people_c G _ hU) fun n13 hn13 => ?_
        simp -dsimp -implicitDefEqProofs (disch := omega) only [↓wpre, push_cast, reduceCtorEq, ↓reduceIte, Nat.reduceEqDiff, Nat.reduceLeDiff, Nat.reduceAdd, Nat.reduceLT, Int.reduceEq, Int.reduceLT, Int.reduceLE, Int.reduceNeg, Int.reduceAdd]
        try exact fin_intro (Ab.Sub.refl _) rfl
    · simp -dsimp -implicitDefEqProofs (disch := omega) only [↓wpre, push_cast, reduceCtorEq, ↓reduceIte, Nat.reduceEqDiff, Nat.reduceLeDiff, Nat.reduceAdd, Nat.reduceLT, Int.reduceEq, Int.reduceLT, Int.reduceLE, Int.reduceNeg, Int.reduceAdd, hcm]
      refine AFn.x (checkFields_c G _ hU za fa sa (by omega)) fun n5 hn5 => ?_
      simp -dsimp -implicitDefEqProofs (disch := omega) only [↓wpre, push_cast, reduceCtorEq, ↓reduceIte, Nat.reduceEqDiff, Nat.reduceLeDiff, Nat.reduceAdd, Nat.reduceLT, Int.reduceEq, Int.reduceLT, Int.reduceLE, Int.reduceNeg, Int.reduceAdd, hca]
      refine AFn.x (people_c G _ hU) fun n13 hn13 => ?_
      simp -dsimp -implicitDefEqProofs (disch := omega) only [↓wpre, push_cast, reduceCtorEq, ↓reduceIte, Nat.reduceEqDiff, Nat.reduceLeDiff, Nat.reduceAdd, Nat.reduceLT, Int.reduceEq, Int.reduceLT, Int.reduceLE, Int.reduceNeg, Int.reduceAdd]
      try exact fin_intro (Ab.Sub.refl _) rfl
  · simp -dsimp -implicitDefEqProofs (disch := omega) only [↓wpre, push_cast, reduceCtorEq, ↓reduceIte, Nat.reduceEqDiff, Nat.reduceLeDiff, Nat.reduceAdd, Nat.reduceLT, Int.reduceEq, Int.reduceLT, Int.reduceLE, Int.reduceNeg, Int.reduceAdd, hcm]
    refine AFn.x (people_c G _ hU) fun n13 hn13 => ?_
    simp -dsimp -implicitDefEqProofs (disch := omega) only [↓wpre, push_cast, reduceCtorEq, ↓reduceIte, Nat.reduceEqDiff, Nat.reduceLeDiff, Nat.reduceAdd, Nat.reduceLT, Int.reduceEq, Int.reduceLT, Int.reduceLE, Int.reduceNeg, Int.reduceAdd]
    try exact fin_intro (Ab.Sub.refl _) rfl
end Go.Proofs.YtblhbafoncfhdaaGreatDoor

