/- Plain laws over what package consent computes; the conditions stand at each. -/
import Derived.Test.YthcedgclhoggcaaGreatDoorCl
import Derived.Sort.Statements
import Derived.Shelf.SlSortCmp.Insertion
/-! Comparisons that are total, and sorting by them. -/
set_option linter.unusedVariables false
namespace Go.Proofs.YthcedgclhoggcaaGreatDoor
open Go.Pm Go.Cm Go.Sort Go.Ab
variable {α β : Type}
/-- A comparison as of a total preorder. -/
structure TC (f : α → α → Int) : Prop where
  anti : ∀ a b, f a b < 0 ↔ 0 < f b a
  tr : ∀ a b c, f a b ≤ 0 → f b c ≤ 0 → f a c ≤ 0
theorem TC.flip {f : α → α → Int} (h : TC f) (a b : α) : f a b ≤ 0 ↔ 0 ≤ f b a := by
  have h1 := h.anti b a
  omega
theorem TC.lt_le {f : α → α → Int} (h : TC f) {a b c : α} (h1 : f a b < 0) (h2 : f b c ≤ 0) : f a c < 0 := by
  rcases Int.lt_or_le (f a c) 0 with h3 | h3
  · exact h3
  · have h4 := h.tr b c a h2 ((h.flip c a).2 h3)
    have := (h.anti a b).1 h1
    omega
theorem TC.le_lt {f : α → α → Int} (h : TC f) {a b c : α} (h1 : f a b ≤ 0) (h2 : f b c < 0) : f a c < 0 := by
  rcases Int.lt_or_le (f a c) 0 with h3 | h3
  · exact h3
  · have h4 := h.tr c a b ((h.flip c a).2 h3) h1
    have := (h.anti b c).1 h2
    omega
theorem TC.swo {f : α → α → Int} (h : TC f) : SWO (Go.Proofs.ltOf f) where
  irrefl x := by
    have := h.anti x x
    simp only [Go.Proofs.ltOf, decide_eq_false_iff_not]
    omega
  trans x y z h1 h2 := by
    simp only [Go.Proofs.ltOf, decide_eq_true_eq] at h1 h2 ⊢
    exact h.lt_le h1 (by omega)
  ntrans x y z h1 h2 := by
    simp only [Go.Proofs.ltOf, decide_eq_false_iff_not] at h1 h2 ⊢
    have := h.tr z y x ((h.flip z y).2 (by omega)) ((h.flip y x).2 (by omega))
    have := (h.flip z x).1 this
    omega
theorem TC.on {f : β → β → Int} (h : TC f) (p : α → β) : TC (fun a b => f (p a) (p b)) := ⟨fun a b => h.anti _ _, fun a b c => h.tr _ _ _⟩
theorem TC.nil : TC (fun _ _ : α => cmpOr []) := ⟨fun a b => by simp [cmpOr], fun a b c _ _ => by simp [cmpOr]⟩
theorem TC.cons {f : α → α → Int} {g : α → α → List Int} (h : TC f) (k : TC fun a b => cmpOr (g a b)) : TC (fun a b => cmpOr (f a b :: g a b)) := by
  have e : ∀ a b, cmpOr (f a b :: g a b) = if f a b ≠ 0 then f a b else cmpOr (g a b) := fun a b => rfl
  refine ⟨fun a b => ?_, fun a b c h1 h2 => ?_⟩
  · have h1 := h.anti a b
    have h2 := h.anti b a
    have h3 := k.anti a b
    rw [e, e]
    split <;> split <;> omega
  · simp only [e] at h1 h2 ⊢
    by_cases x1 : f a b = 0
    · rw [if_neg (by simp [x1])] at h1
      by_cases x2 : f b c = 0
      · rw [if_neg (by simp [x2])] at h2
        have l1 := h.tr a b c (by omega) (by omega)
        have l2 := h.tr c b a ((h.flip c b).2 (by omega)) ((h.flip b a).2 (by omega))
        have l2 := (h.flip c a).1 l2
        rw [if_neg (by omega)]
        exact k.tr a b c h1 h2
      · rw [if_pos x2] at h2
        have := h.le_lt (a := a) (b := b) (c := c) (by omega) (by omega)
        rw [if_pos (by omega)]
        omega
    · rw [if_pos x1] at h1
      have hbc : f b c ≤ 0 := by split at h2 <;> omega
      have := h.lt_le (a := a) (b := b) (c := c) (by omega) hbc
      rw [if_pos (by omega)]
      omega
theorem tc_cmpI : TC cmpI := ⟨fun a b => by unfold cmpI; split <;> split <;> (try split) <;> omega, fun a b c h1 h2 => by
  have : a ≤ b := by unfold cmpI at h1; split at h1 <;> (try split at h1) <;> omega
  have : b ≤ c := by unfold cmpI at h2; split at h2 <;> (try split at h2) <;> omega
  unfold cmpI; split <;> (try split) <;> omega⟩
theorem cmpI_zero {a b : Int} (h : cmpI a b = 0) : a = b := by unfold cmpI at h; split at h <;> (try split at h) <;> omega
theorem cmpS_cases (a b : T) : (strLt a b = true ∧ cmpS a b = -1) ∨ (a = b ∧ cmpS a b = 0) ∨ (strLt b a = true ∧ cmpS a b = 1) := by
  by_cases h1 : strLt a b = true
  · exact .inl ⟨h1, cmpS_lt h1⟩
  by_cases h2 : a = b
  · subst h2; exact .inr (.inl ⟨rfl, cmpS_self _⟩)
  · have h3 := strLt_total (by simpa using h1) h2
    exact .inr (.inr ⟨h3, cmpS_gt h3⟩)
theorem cmpS_zero {a b : T} (h : cmpS a b = 0) : a = b := by
  rcases cmpS_cases a b with ⟨_, k⟩ | ⟨k, _⟩ | ⟨_, k⟩
  · rw [k] at h; cases h
  · exact k
  · rw [k] at h; cases h
theorem tc_cmpS : TC cmpS := by
  refine ⟨fun a b => ?_, fun a b c h1 h2 => ?_⟩
  · rcases cmpS_cases a b with ⟨h, k⟩ | ⟨rfl, k⟩ | ⟨h, k⟩
    · rw [k, cmpS_gt h]; decide
    · rw [k]
    · rw [k, cmpS_lt h]; decide
  · rcases cmpS_cases a b with ⟨h, k⟩ | ⟨rfl, k⟩ | ⟨h, k⟩
    · rcases cmpS_cases b c with ⟨h', k'⟩ | ⟨rfl, k'⟩ | ⟨h', k'⟩
      · rw [cmpS_lt (strLt_trans h h')]; decide
      · rw [k]; decide
      · omega
    · exact h2
    · rw [k] at h1; omega
theorem cmpOr_zero : ∀ {l : List Int}, cmpOr l = 0 → ∀ x ∈ l, x = 0
  | [], _, x, hx => by simp at hx
  | y :: l, h, x, hx => by
    simp only [cmpOr] at h
    split at h
    · rename_i h1; exact absurd h h1
    · rename_i h1
      have h1 : y = 0 := by simpa using h1
      rcases List.mem_cons.1 hx with rfl | hx
      · exact h1
      · exact cmpOr_zero h x hx
end Go.Proofs.YthcedgclhoggcaaGreatDoor

