/- Contracts of functions of the program: each computes what its model says; the conditions stand at each. -/
import Derived.Test.YtblhbafoncfhdaaGreatDoorP1
import Derived.Test.YtblhbafoncfhdaaGreatDoorB2
set_option linter.unusedSimpArgs false
set_option linter.unusedVariables false
set_option maxRecDepth 20000
namespace Go.Proofs.YtblhbafoncfhdaaGreatDoor
open Go Go.Ab Go.Pm Go.Cm Go.El Go.Rm Go.Pp Go.Uf
variable (G : Nat → AV) (H : Nat → Option AObj)
theorem persV_eq (ps : List Per) : persV ps = .ls (decide (ps ≠ [])) (ps.map Per.c) := by cases ps <;> simp [persV]
def idxP (q : Per → Bool) : Nat → List Per → Int
  | _, [] => -1
  | i, y :: r => if q y then (i : Int) else idxP q (i + 1) r
theorem idxP_ge (q : Per → Bool) : ∀ (i : Nat) (l : List Per), decide (0 ≤ idxP q i l) = l.any q
  | i, [] => by simp [idxP]
  | i, y :: r => by
    rw [idxP, List.any_cons]
    by_cases h : q y = true
    · rw [if_pos h, h]; simp
    · rw [if_neg h, idxP_ge q (i + 1) r]; simp [h]
end Go.Proofs.YtblhbafoncfhdaaGreatDoor
