/- Contracts of functions of the program: each computes what its model says; the conditions stand at each. -/
import Derived.Test.YthcedgclhoggcaaGreatDoorCl3
set_option linter.unusedSimpArgs false
set_option linter.unusedVariables false
set_option maxRecDepth 20000
set_option pp.deepTerms false
set_option pp.deepTerms.threshold 3
namespace Go.Proofs.YthcedgclhoggcaaGreatDoor
open Go Go.Ab Go.Pm Go.Cm
variable (G : Nat → AV) (H : Nat → Option AObj)
theorem rise_ne {l : List Stm} (h : l.Pairwise (fun a b => a.no < b.no)) : l.Pairwise (fun a b => a.no ≠ b.no) := h.imp fun h => by omega
theorem upTo_ne {l : List Stm} (h : l.Pairwise (fun a b => a.no < b.no)) (x : Idn) (c a : Int) : (upTo (saidBy l x c) a).Pairwise (fun a b => a.no ≠ b.no) := by
  have h1 : (saidBy l x c).Pairwise (fun a b => a.no ≠ b.no) := (isort_perm _ _).symm.pairwise ((rise_ne h).filter _) (fun h => h.symm)
  exact h1.sublist (List.take_sublist _ _)
theorem one_of {l : List Stm} (hd : l.Pairwise (fun a b => a.no ≠ b.no)) (no : Int) : (l.filter (fun g => decide (g.no = no))).length ≤ 1 := by
  cases h : l.filter (fun g => decide (g.no = no)) with
  | nil => simp
  | cons s r =>
    have hs : s ∈ l.filter (fun g => decide (g.no = no)) := by rw [h]; simp
    have h2 := List.mem_filter.1 hs
    simp only [decide_eq_true_eq] at h2
    rw [← h, filter_one hd h2.1 (p := fun g => decide (g.no = no)) fun x _ => by simp [h2.2]]
    simp
end Go.Proofs.YthcedgclhoggcaaGreatDoor

