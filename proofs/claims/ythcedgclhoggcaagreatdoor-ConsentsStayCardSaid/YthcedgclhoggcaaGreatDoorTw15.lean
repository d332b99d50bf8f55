/- Contracts of functions of the program: each computes what its model says; the conditions stand at each. -/
import Derived.Test.YthcedgclhoggcaaGreatDoorCl
set_option linter.unusedSimpArgs false
set_option linter.unusedVariables false
set_option maxRecDepth 20000
set_option pp.deepTerms false
set_option pp.deepTerms.threshold 3
namespace Go.Proofs.YthcedgclhoggcaaGreatDoor
open Go Go.Ab Go.Pm Go.Cm
variable (G : Nat → AV) (H : Nat → Option AObj)
abbrev newsP : List Purpose := [⟨⟨#[110, 101, 119, 115]⟩, true, [⟨⟨#[101, 117]⟩, 1, true, 0, 0⟩]⟩]
theorem news_may : may ⟨newsP, true, ⟨#[110, 101, 119, 115]⟩, ⟨#[101, 117]⟩, 1, 0⟩ [] ⟨1, ⟨#[97, 64, 98, 46, 100, 101]⟩⟩ = (⟨true, 1, 0⟩, 0) := by decide +kernel
theorem consents_c (hG : GOk G) : AFn Tryz.prog G 17 [] H (.bool true) := by
  refine AFn.start mix F17 (by simp) fun k hlow => ?_
  have hq := Qt.refl hlow
  simp -dsimp -implicitDefEqProofs (disch := omega) only [↓wpre, push_cast, reduceCtorEq, ↓reduceIte, Nat.reduceEqDiff, Nat.reduceLeDiff, Nat.reduceAdd, Nat.reduceLT, Int.reduceEq, Int.reduceLT, Int.reduceLE, Int.reduceNeg, Int.reduceAdd, c17]
  refine AFn.x (may_c G _ hG true false newsP [] ⟨1, ⟨#[97, 64, 98, 46, 100, 101]⟩⟩ ⟨#[110, 101, 119, 115]⟩ ⟨#[101, 117]⟩ 1 0 (by intro p hp; simp at hp; subst hp; exact ⟨by decide, fun t ht => by simp at ht; subst ht; decide⟩) (by simp) (by intro s hs; simp at hs) (by simp) (by decide) (by decide)) fun n' hn' => ?_
  rw [news_may]
  simp -dsimp -implicitDefEqProofs (disch := omega) only [↓wpre, push_cast, reduceCtorEq, ↓reduceIte, Nat.reduceEqDiff, Nat.reduceLeDiff, Nat.reduceAdd, Nat.reduceLT, Int.reduceEq, Int.reduceLT, Int.reduceLE, Int.reduceNeg, Int.reduceAdd, true_and]
  exact (Qt.mono (n := k) (by repeat (first | exact hq | refine Qt.hu ?_ (by omega))) (Nat.le_refl _)).1
end Go.Proofs.YthcedgclhoggcaaGreatDoor

