/- Plain laws over what package consent computes; the conditions stand at each. -/
import Derived.Test.YthcedgclhoggcaaGreatDoorCl2
/-! What Ask and Merge compute; an answer hangs on what was said alone, not on its numbers. -/
set_option linter.unusedVariables false
set_option linter.unusedSimpArgs false
namespace Go.Proofs.YthcedgclhoggcaaGreatDoor
open Go Go.Ab Go.Pm Go.Cm
/-- A statement without its number. -/
def kOf (s : Stm) : Stm := { s with no := 0 }
/-- All that is said in the one is said in the other. -/
def KSub (u v : List Stm) : Prop := ∀ s ∈ u, ∃ s' ∈ v, kOf s' = kOf s
theorem KSub.filter {u v : List Stm} (h : KSub u v) (p : Stm → Bool) (hp : ∀ s s', kOf s' = kOf s → p s' = p s) : KSub (u.filter p) (v.filter p) := fun s hs => by
  obtain ⟨h1, h2⟩ := List.mem_filter.1 hs
  obtain ⟨s', h3, h4⟩ := h s h1
  exact ⟨s', List.mem_filter.2 ⟨h3, by rw [hp s s' h4]; exact h2⟩, h4⟩
end Go.Proofs.YthcedgclhoggcaaGreatDoor

