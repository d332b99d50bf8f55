/- Plain laws over what package consent computes; the conditions stand at each. -/
import Derived.Test.YthcedgclhoggcaaGreatDoorTw14
/-! The laws over what package consent computes. -/
set_option linter.unusedVariables false
set_option linter.unusedSimpArgs false
namespace Go.Proofs.YthcedgclhoggcaaGreatDoor
open Go Go.Ab Go.Pm Go.Cm
/-! The order of texts. -/
theorem bl_irrefl : ∀ x : List UInt8, Op.bytesLess x x = false
  | [] => rfl
  | a :: x => by simp [Op.bytesLess, bl_irrefl x]
theorem bl_trans : ∀ x y z : List UInt8, Op.bytesLess x y = true → Op.bytesLess y z = true → Op.bytesLess x z = true
  | _, [], _, h, _ => by simp [Op.bytesLess] at h
  | [], _ :: _, [], _, h => by simp [Op.bytesLess] at h
  | _ :: _, _ :: _, [], _, h => by simp [Op.bytesLess] at h
  | [], _ :: _, _ :: _, _, _ => rfl
  | a :: x, b :: y, c :: z, h, k => by
    simp only [Op.bytesLess, Bool.or_eq_true, decide_eq_true_eq, Bool.and_eq_true, beq_iff_eq] at h k ⊢
    rcases h with h | ⟨h1, h2⟩ <;> rcases k with k | ⟨k1, k2⟩
    · exact .inl (UInt8.lt_trans h k)
    · subst k1; exact .inl h
    · subst h1; exact .inl k
    · subst h1 k1; exact .inr ⟨rfl, bl_trans x y z h2 k2⟩
theorem bl_total : ∀ x y : List UInt8, Op.bytesLess x y = false → x ≠ y → Op.bytesLess y x = true
  | [], [], _, h => (h rfl).elim
  | [], _ :: _, h, _ => by simp [Op.bytesLess] at h
  | _ :: _, [], _, _ => rfl
  | a :: x, b :: y, h, k => by
    simp only [Op.bytesLess, Bool.or_eq_false_iff, decide_eq_false_iff_not, Bool.and_eq_false_iff, beq_eq_false_iff_ne] at h
    simp only [Op.bytesLess, Bool.or_eq_true, decide_eq_true_eq, Bool.and_eq_true, beq_iff_eq]
    by_cases hab : a = b
    · subst hab
      refine .inr ⟨rfl, bl_total x y ?_ (fun e => k (by rw [e]))⟩
      rcases h.2 with h2 | h2
      · exact absurd rfl h2
      · exact h2
    · left
      have h1 := h.1
      rcases UInt8.lt_or_lt_of_ne hab with h2 | h2
      · exact absurd h2 h1
      · exact h2
theorem toList_inj {a b : T} (h : a.toList = b.toList) : a = b := by
  have := toList_dec a b
  rw [beq_iff_eq.2 h] at this
  simpa using this.symm
theorem strLt_irrefl (a : T) : strLt a a = false := bl_irrefl _
theorem strLt_trans {a b c : T} (h : strLt a b = true) (k : strLt b c = true) : strLt a c = true := bl_trans _ _ _ h k
theorem strLt_total {a b : T} (h : strLt a b = false) (k : a ≠ b) : strLt b a = true := bl_total _ _ h fun e => k (toList_inj e)
theorem strLt_asymm {a b : T} (h : strLt a b = true) : strLt b a = false := by
  cases hb : strLt b a with
  | false => rfl
  | true => have := strLt_trans h hb; rw [strLt_irrefl] at this; cases this
theorem strLt_ne {a b : T} (h : strLt a b = true) : a ≠ b := fun e => by subst e; rw [strLt_irrefl] at h; cases h
theorem cmpS_self (a : T) : cmpS a a = 0 := by simp [cmpS, strLt_irrefl]
theorem cmpS_lt {a b : T} (h : strLt a b = true) : cmpS a b = -1 := by simp [cmpS, h]
theorem cmpS_gt {a b : T} (h : strLt b a = true) : cmpS a b = 1 := by simp [cmpS, strLt_asymm h, (strLt_ne h).symm]
theorem RightL.filter {p : List Purpose} {l : List Stm} (h : RightL p l) (f : Stm → Bool) : RightL p (l.filter f) := ⟨fun s hs => h.each s (List.mem_filter.1 hs).1, h.rise.filter f⟩
end Go.Proofs.YthcedgclhoggcaaGreatDoor

