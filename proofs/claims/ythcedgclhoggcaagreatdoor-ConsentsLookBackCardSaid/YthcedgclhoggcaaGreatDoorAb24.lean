/- A part of an abstract logic over the model's runs, proved sound against the model; no condition. -/
import Derived.Test.YthcedgclhoggcaaGreatDoorAb23
/-! Freezing. -/
set_option linter.unusedVariables false
namespace Go.Ab
variable {P : Program} {G fr : Nat → AV} {H HA : Nat → Option AObj} {n : Nat}
theorem frz_ls_plain {D : Nat → Option AObj} {k : Nat} {nz : Bool} {rows : List (List AV)} (h : ∀ r ∈ rows, plain r = true) : frz D (k + 1) (.ls nz rows) = .ls nz rows := by
  simp only [frz, rows_plain h]
theorem dropO_sub {i : Option Nat} {j : Nat} {o : AObj} (h : dropO H i j = some o) : H j = some o := by
  cases i with
  | none => exact h
  | some i =>
    by_cases hj : j = i
    · subst hj; rw [dropO, hu_same] at h; cases h
    · rwa [dropO, hu_ne hj] at h
theorem dropO_hi {n0 b : Nat} {i : Option Nat} {E : TypeId} {sz : Nat} {rows : List (List AV)} (h : OutIs n0 H i E sz rows b) {k : Nat} (hk : b ≤ k) : dropO H i k = H k := by
  cases i with
  | none => rfl
  | some i => exact hu_ne (by have := h.2.2; omega)
/-- All objects from a name on, but what is there below. -/
def news (n : Nat) (H : Nat → Option AObj) : Nat → Option AObj := fun j => if n ≤ j then H j else none
end Go.Ab
