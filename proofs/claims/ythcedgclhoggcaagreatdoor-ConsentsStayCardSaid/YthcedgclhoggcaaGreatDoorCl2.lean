/- Plain laws over what package consent computes; the conditions stand at each. -/
import Derived.Test.YthcedgclhoggcaaGreatDoorCl
/-! The law ProofsSuffice over what package consent computes. -/
set_option linter.unusedVariables false
set_option linter.unusedSimpArgs false
namespace Go.Proofs.YthcedgclhoggcaaGreatDoor
open Go Go.Ab Go.Pm Go.Cm
theorem insRev_perm (f : Stm → Stm → Int) (x : Stm) : ∀ r : List Stm, (insRev f x r).Perm (x :: r)
  | [] => .refl _
  | y :: r => by
    simp only [insRev]
    split
    · exact ((insRev_perm f x r).cons y).trans (.swap x y r)
    · exact .refl _
theorem isort_perm (f : Stm → Stm → Int) (l : List Stm) : (isort f l).Perm l := by
  have key : ∀ (l r : List Stm), (l.foldl (fun r x => insRev f x r) r).Perm (l.reverse ++ r) := by
    intro l
    induction l with
    | nil => intro r; exact .refl _
    | cons x l ih =>
      intro r
      rw [List.foldl_cons, List.reverse_cons, List.append_assoc]
      exact (ih _).trans ((insRev_perm f x r).append_left _)
  have h := key l []
  rw [List.append_nil] at h
  exact (List.reverse_perm _).trans (h.trans (List.reverse_perm _))
/-! Statements by their numbers. -/
theorem filter_one {l : List Stm} (hd : l.Pairwise (fun a b => a.no ≠ b.no)) {s : Stm} (hs : s ∈ l) {p : Stm → Bool} (hp : ∀ x ∈ l, p x = true ↔ x.no = s.no) : l.filter p = [s] := by
  induction l with
  | nil => cases hs
  | cons y r ih =>
    have h := List.pairwise_cons.1 hd
    rcases List.mem_cons.1 hs with rfl | hs'
    · rw [List.filter_cons_of_pos ((hp s (by simp)).2 rfl), List.filter_eq_nil_iff.2]
      intro x hx hpx
      exact h.1 x hx ((hp x (by simp [hx])).1 hpx).symm
    · have hne : ¬ p y = true := fun hpy => h.1 s hs' ((hp y (by simp)).1 hpy)
      rw [List.filter_cons_of_neg hne]
      exact ih h.2 hs' fun x hx => hp x (by simp [hx])
end Go.Proofs.YthcedgclhoggcaaGreatDoor

