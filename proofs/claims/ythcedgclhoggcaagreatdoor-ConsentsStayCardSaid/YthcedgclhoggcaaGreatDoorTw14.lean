/- Contracts of functions of the program: each computes what its model says; the conditions stand at each. -/
import Derived.Test.YthcedgclhoggcaaGreatDoorTw13
import Derived.Test.YthcedgclhoggcaaGreatDoorTc3b
set_option linter.unusedSimpArgs false
set_option linter.unusedVariables false
set_option maxRecDepth 20000
set_option pp.deepTerms false
set_option pp.deepTerms.threshold 3
namespace Go.Proofs.YthcedgclhoggcaaGreatDoor
open Go Go.Ab Go.Pm Go.Cm
variable (G : Nat → AV) (H : Nat → Option AObj)
theorem clone_c (l : List Stm) (hl : l ≠ []) (hl2 : l.length ≤ 1000000) (n : Nat) : ACalls Tryz.prog G 15 [.ls true (l.map Stm.c)] H n fun r H' n' => r = .os (n + 1) 0 l.length ∧ H' = hu H (n + 1) (some ⟨43, 8, l.map Stm.c⟩) := by
  refine ACalls.start mix F15o (by simp) fun hlow => ?_
  have hlp := List.length_pos_iff.2 hl
  simp -dsimp -implicitDefEqProofs (disch := omega) only [↓wpre, push_cast, reduceCtorEq, ↓reduceIte, Nat.reduceEqDiff, Nat.reduceLeDiff, Nat.reduceAdd, Nat.reduceLT, Int.reduceEq, Int.reduceLT, Int.reduceLE, Int.reduceNeg, Int.reduceAdd, c15o]
  rw [xapp_os (rows := []) (len := 0) hu_same rfl (even_stms l) (by simp; omega) (by simp; omega)]
  simp -dsimp -implicitDefEqProofs (disch := omega) only [↓wpre, push_cast, reduceCtorEq, ↓reduceIte, Nat.reduceEqDiff, Nat.reduceLeDiff, Nat.reduceAdd, Nat.reduceLT, Int.reduceEq, Int.reduceLT, Int.reduceLE, Int.reduceNeg, Int.reduceAdd, true_and]
  intro j x hj
  by_cases h : j = n + 1
  · subst h; rw [hu_same] at hj ⊢; exact hj
  · rw [hu_ne h] at hj ⊢
    have := hlow j x hj
    rw [hu_ne (by omega), hu_ne (by omega)]
    exact hj
end Go.Proofs.YthcedgclhoggcaaGreatDoor

