/- Contracts of functions of the program: each computes what its model says; the conditions stand at each. -/
import Derived.Test.YthcedgclhoggcaaGreatDoorTw13
import Derived.Test.YthcedgclhoggcaaGreatDoorTw44
import Derived.Test.YthcedgclhoggcaaGreatDoorTw25
set_option linter.unusedSimpArgs false
set_option linter.unusedVariables false
set_option maxRecDepth 20000
set_option pp.deepTerms false
set_option pp.deepTerms.threshold 3
namespace Go.Proofs.YthcedgclhoggcaaGreatDoor
open Go Go.Ab Go.Pm Go.Cm
variable (G : Nat → AV) (H : Nat → Option AObj)
/-! Concat, quiet; what is wanted. -/
theorem concat_c (L : List (Bool × List Stm)) (hL : L.length ≤ 1000) (hT : (catL L).length ≤ 1000000) : AFn Tryz.prog G 29 [.ls true (LsC L)] H (lsOf ((catL L).map Stm.c)) := by
  intro n
  refine ACalls.frz (concat_run G H L hL hT n) ?_
  rintro r H1 n1 (⟨h0, rfl, rfl⟩ | ⟨h0, i, hi1, hi2, rfl, h1, h2, hlow⟩)
  · refine ⟨fun _ => none, H1, 0, fun _ _ h => (by cases h), Sub.refl _, fun _ _ h => (by cases h), ?_, rfl⟩
    rw [h0]; rfl
  · generalize catL L = ms at h0 h1 ⊢
    refine ⟨only i ⟨43, 8, ms.map Stm.c⟩, H, 3, only_sub h1, h2, fun j o hj => ?_, ?_, rfl⟩
    · unfold only at hj
      split at hj
      · rename_i e; subst e; exact hlow
      · cases hj
    · have hp : ∀ r ∈ ms.map Stm.c, plain r = true := fun r hr => by
        obtain ⟨s, _, rfl⟩ := List.mem_map.1 hr
        rfl
      rw [frz_os_plain hp (by simp)]
      cases ms with
      | nil => exact absurd rfl h0
      | cons => rfl
def wantedL (t : Option Term) (purpose : T) (l : List Stm) (a : Int) : List Int :=
  (if (answerL t purpose l a).why = 6 then [5] else []) ++ (if (allowed (upTo l a) (t.getD noTerm) purpose a).may = true then [] else [1])
theorem wanted_run (nz : Bool) (t : Option Term) (pu : T) (l : List Stm) (a : Int) (hl : l.length ≤ 1000000) (ht : ∀ u, t = some u → 0 ≤ u.days ∧ u.days ≤ 100000 ∧ 0 ≤ u.wait ∧ u.wait ≤ 1000000) (hg : ∀ s ∈ l, 0 ≤ s.at' ∧ s.at' ≤ 10000000) (ha : -4611686018427387904 ≤ a ∧ a ≤ 4611686018427387904) (n : Nat) : ACalls Tryz.prog G 55 [.agg (askedC t pu (.ls nz (l.map Stm.c))), .int a] H n fun r H' n' => (wantedL t pu l a = [] ∧ r = .ls false [] ∧ H' = H) ∨ ∃ i, r = .os i 0 (wantedL t pu l a).length ∧ H' i = some ⟨3, 1, (wantedL t pu l a).map IC⟩ ∧ Sub H H' ∧ H i = none ∧ wantedL t pu l a ≠ [] := by
  refine ACalls.start mix F55 (by simp) fun hlow => ?_
  have hq := Qt.refl hlow
  simp -dsimp -implicitDefEqProofs (disch := omega) only [↓wpre, push_cast, reduceCtorEq, ↓reduceIte, Nat.reduceEqDiff, Nat.reduceLeDiff, Nat.reduceAdd, Nat.reduceLT, Int.reduceEq, Int.reduceLT, Int.reduceLE, Int.reduceNeg, Int.reduceAdd, c55]
  refine AFn.x (answer_c G _ _ t pu l a hl ht hg ha) fun n3 hn3 => ?_
  have hul : (upTo l a).length ≤ 1000000 := (by rw [upTo, List.length_take]; omega)
  have hug : ∀ s ∈ upTo l a, 0 ≤ s.at' ∧ s.at' ≤ 10000000 := fun s hs => hg s (List.mem_of_mem_take hs)
  have htt : 0 ≤ (t.getD noTerm).days ∧ (t.getD noTerm).days ≤ 100000 ∧ 0 ≤ (t.getD noTerm).wait ∧ (t.getD noTerm).wait ≤ 1000000 := by
    cases t with
    | none => decide
    | some u => exact ht u rfl
  have hno : ∀ i, n ≤ i → H i = none := fun i hi => by
    cases hx : H i with
    | none => rfl
    | some o => exact absurd (hlow i o hx) (by omega)
  by_cases hw : (answerL t pu l a).why = 6
  · simp -dsimp -implicitDefEqProofs (disch := omega) only [↓wpre, push_cast, reduceCtorEq, ↓reduceIte, Nat.reduceEqDiff, Nat.reduceLeDiff, Nat.reduceAdd, Nat.reduceLT, Int.reduceEq, Int.reduceLT, Int.reduceLE, Int.reduceNeg, Int.reduceAdd, hw]
    rw [xapp_first (by intro r hr; simp at hr; subst hr; exact ⟨rfl, rfl⟩) (by simp) (by simp)]
    simp -dsimp -implicitDefEqProofs (disch := omega) only [↓wpre, push_cast, reduceCtorEq, ↓reduceIte, Nat.reduceEqDiff, Nat.reduceLeDiff, Nat.reduceAdd, Nat.reduceLT, Int.reduceEq, Int.reduceLT, Int.reduceLE, Int.reduceNeg, Int.reduceAdd, true_and]
    refine xfn_intro (upTo_c G _ nz l a hl ha) ?_
    simp -dsimp -implicitDefEqProofs (disch := omega) only [↓wpre, push_cast, reduceCtorEq, ↓reduceIte, Nat.reduceEqDiff, Nat.reduceLeDiff, Nat.reduceAdd, Nat.reduceLT, Int.reduceEq, Int.reduceLT, Int.reduceLE, Int.reduceNeg, Int.reduceAdd, true_and]
    refine xfn_intro (allowed_c G _ nz (upTo l a) (t.getD noTerm) pu a hul htt hug) ?_
    simp -dsimp -implicitDefEqProofs (disch := omega) only [↓wpre, push_cast, reduceCtorEq, ↓reduceIte, Nat.reduceEqDiff, Nat.reduceLeDiff, Nat.reduceAdd, Nat.reduceLT, Int.reduceEq, Int.reduceLT, Int.reduceLE, Int.reduceNeg, Int.reduceAdd, true_and]
    refine anyN_intro fun n4 hn4 => ?_
    by_cases hm : (allowed (upTo l a) (t.getD noTerm) pu a).may = true
    · have e : wantedL t pu l a = [5] := by rw [wantedL, if_pos hw, if_pos hm]; rfl
      simp -dsimp -implicitDefEqProofs (disch := omega) only [↓wpre, push_cast, reduceCtorEq, ↓reduceIte, Nat.reduceEqDiff, Nat.reduceLeDiff, Nat.reduceAdd, Nat.reduceLT, Int.reduceEq, Int.reduceLT, Int.reduceLE, Int.reduceNeg, Int.reduceAdd, hm]
      exact fin_intro (Sub.refl _) (.inr ⟨n3, by rw [e]; rfl, by rw [e, hu_same]; rfl, by exact (Qt.mono (n := n) (by repeat (first | exact hq | refine Qt.hu ?_ (by omega))) (Nat.le_refl _)).1, hno _ (by omega), by rw [e]; simp⟩)
    · have hm : (allowed (upTo l a) (t.getD noTerm) pu a).may = false := by simpa using hm
      have e : wantedL t pu l a = [5, 1] := by rw [wantedL, if_pos hw, if_neg (by simp [hm])]; rfl
      simp -dsimp -implicitDefEqProofs (disch := omega) only [↓wpre, push_cast, reduceCtorEq, ↓reduceIte, Nat.reduceEqDiff, Nat.reduceLeDiff, Nat.reduceAdd, Nat.reduceLT, Int.reduceEq, Int.reduceLT, Int.reduceLE, Int.reduceNeg, Int.reduceAdd, hm]
      rw [xapp_os (rows := [[AV.int 5]]) (len := 1) hu_same rfl (by intro r hr; simp at hr; subst hr; exact ⟨rfl, rfl⟩) (by simp) (by simp)]
      simp -dsimp -implicitDefEqProofs (disch := omega) only [↓wpre, push_cast, reduceCtorEq, ↓reduceIte, Nat.reduceEqDiff, Nat.reduceLeDiff, Nat.reduceAdd, Nat.reduceLT, Int.reduceEq, Int.reduceLT, Int.reduceLE, Int.reduceNeg, Int.reduceAdd, true_and]
      exact fin_intro (Sub.refl _) (.inr ⟨n4, by rw [e]; rfl, by rw [e, hu_same]; rfl, by exact (Qt.mono (n := n) (by repeat (first | exact hq | refine Qt.hu ?_ (by omega))) (Nat.le_refl _)).1, hno _ (by omega), by rw [e]; simp⟩)
  · simp -dsimp -implicitDefEqProofs (disch := omega) only [↓wpre, push_cast, reduceCtorEq, ↓reduceIte, Nat.reduceEqDiff, Nat.reduceLeDiff, Nat.reduceAdd, Nat.reduceLT, Int.reduceEq, Int.reduceLT, Int.reduceLE, Int.reduceNeg, Int.reduceAdd, hw]
    refine xfn_intro (upTo_c G _ nz l a hl ha) ?_
    simp -dsimp -implicitDefEqProofs (disch := omega) only [↓wpre, push_cast, reduceCtorEq, ↓reduceIte, Nat.reduceEqDiff, Nat.reduceLeDiff, Nat.reduceAdd, Nat.reduceLT, Int.reduceEq, Int.reduceLT, Int.reduceLE, Int.reduceNeg, Int.reduceAdd, true_and]
    refine xfn_intro (allowed_c G _ nz (upTo l a) (t.getD noTerm) pu a hul htt hug) ?_
    simp -dsimp -implicitDefEqProofs (disch := omega) only [↓wpre, push_cast, reduceCtorEq, ↓reduceIte, Nat.reduceEqDiff, Nat.reduceLeDiff, Nat.reduceAdd, Nat.reduceLT, Int.reduceEq, Int.reduceLT, Int.reduceLE, Int.reduceNeg, Int.reduceAdd, true_and]
    refine anyN_intro fun n4 hn4 => ?_
    by_cases hm : (allowed (upTo l a) (t.getD noTerm) pu a).may = true
    · have e : wantedL t pu l a = [] := by rw [wantedL, if_neg hw, if_pos hm]; rfl
      simp -dsimp -implicitDefEqProofs (disch := omega) only [↓wpre, push_cast, reduceCtorEq, ↓reduceIte, Nat.reduceEqDiff, Nat.reduceLeDiff, Nat.reduceAdd, Nat.reduceLT, Int.reduceEq, Int.reduceLT, Int.reduceLE, Int.reduceNeg, Int.reduceAdd, hm]
      exact fin_intro (Sub.refl _) (.inl ⟨e, rfl, rfl⟩)
    · have hm : (allowed (upTo l a) (t.getD noTerm) pu a).may = false := by simpa using hm
      have e : wantedL t pu l a = [1] := by rw [wantedL, if_neg hw, if_neg (by simp [hm])]; rfl
      simp -dsimp -implicitDefEqProofs (disch := omega) only [↓wpre, push_cast, reduceCtorEq, ↓reduceIte, Nat.reduceEqDiff, Nat.reduceLeDiff, Nat.reduceAdd, Nat.reduceLT, Int.reduceEq, Int.reduceLT, Int.reduceLE, Int.reduceNeg, Int.reduceAdd, hm]
      rw [xapp_first (by intro r hr; simp at hr; subst hr; exact ⟨rfl, rfl⟩) (by simp) (by simp)]
      simp -dsimp -implicitDefEqProofs (disch := omega) only [↓wpre, push_cast, reduceCtorEq, ↓reduceIte, Nat.reduceEqDiff, Nat.reduceLeDiff, Nat.reduceAdd, Nat.reduceLT, Int.reduceEq, Int.reduceLT, Int.reduceLE, Int.reduceNeg, Int.reduceAdd, true_and]
      exact fin_intro (Sub.refl _) (.inr ⟨n4, by rw [e]; rfl, by rw [e, hu_same]; rfl, by exact (Qt.mono (n := n) (by repeat (first | exact hq | refine Qt.hu ?_ (by omega))) (Nat.le_refl _)).1, hno _ (by omega), by rw [e]; simp⟩)
theorem wanted_c (nz : Bool) (t : Option Term) (pu : T) (l : List Stm) (a : Int) (hl : l.length ≤ 1000000) (ht : ∀ u, t = some u → 0 ≤ u.days ∧ u.days ≤ 100000 ∧ 0 ≤ u.wait ∧ u.wait ≤ 1000000) (hg : ∀ s ∈ l, 0 ≤ s.at' ∧ s.at' ≤ 10000000) (ha : -4611686018427387904 ≤ a ∧ a ≤ 4611686018427387904) : AFn Tryz.prog G 55 [.agg (askedC t pu (.ls nz (l.map Stm.c))), .int a] H (lsI (wantedL t pu l a)) := by
  intro n
  refine ACalls.frz (wanted_run G H nz t pu l a hl ht hg ha n) ?_
  rintro r H1 n1 (⟨h0, rfl, rfl⟩ | ⟨i, rfl, h1, h2, h3, h4⟩)
  · refine ⟨fun _ => none, H1, 0, fun _ _ h => (by cases h), Sub.refl _, fun _ _ h => (by cases h), ?_, rfl⟩
    rw [h0]; rfl
  · generalize wantedL t pu l a = ms at h1 h4 ⊢
    refine ⟨only i ⟨3, 1, ms.map IC⟩, H, 3, only_sub h1, h2, fun j o hj => ?_, ?_, rfl⟩
    · unfold only at hj
      split at hj
      · rename_i e; subst e; exact h3
      · cases hj
    · have hp : ∀ r ∈ ms.map IC, plain r = true := fun r hr => by
        obtain ⟨s, _, rfl⟩ := List.mem_map.1 hr
        rfl
      rw [frz_os_plain hp (by simp)]
      cases ms with
      | nil => exact absurd rfl h4
      | cons => rfl
end Go.Proofs.YthcedgclhoggcaaGreatDoor

