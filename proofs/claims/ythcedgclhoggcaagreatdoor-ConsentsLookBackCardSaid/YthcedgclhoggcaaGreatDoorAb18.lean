/- A part of an abstract logic over the model's runs, proved sound against the model; no condition. -/
import Derived.Test.YthcedgclhoggcaaGreatDoorAb17
/-! Loops. -/
set_option linter.unusedVariables false
namespace Go.Ab
variable {P : Program} {G fr : Nat → AV} {H : Nat → Option AObj} {n : Nat} {Q : AExit → St → Prop} {w : Wit Q}

/-- What a frame holds. -/
def Has (fr : Nat → AV) : List (Nat × AV) → Prop
  | [] => True
  | (k, v) :: r => fr k = v ∧ Has fr r
theorem has_nil : Has fr [] = True := rfl
theorem has_cons {k : Nat} {v : AV} {r : List (Nat × AV)} : Has fr ((k, v) :: r) = (fr k = v ∧ Has fr r) := rfl
theorem has_one {k : Nat} {v : AV} : Has fr [(k, v)] = (fr k = v) := by simp [Has]
/-- A loop's invariant: what the frame holds and what is so of the objects, by a state of the proof's own; and how much is left. -/
def LI {σ : Type} (J : σ → List (Nat × AV)) (inv : σ → (Nat → Option AObj) → Nat → Prop) (m : σ → Nat) : Nat → St → Prop := fun n st => ∃ s, n = m s ∧ inv s st.H st.n ∧ Has st.fr (J s)
theorem xw_loopJ {b : ACode} {σ : Type} (J : σ → List (Nat × AV)) (inv : σ → (Nat → Option AObj) → Nat → Prop) (m : σ → Nat) (s0 : σ) (h0 : inv s0 H n) (hf : Has fr (J s0))
    (h : ∀ s fr' H' n', inv s H' n' → Has fr' (J s) → xw P G (loopQ (LI J inv m) (m s) Q) ⟨⟩ b ⟨fr', H', n'⟩) : xw P G Q w (.loop b) ⟨fr, H, n⟩ :=
  xw_loop (LI J inv m) (m s0) ⟨s0, rfl, h0, hf⟩ fun n st ⟨s, h1, h2, h3⟩ => by
    subst h1
    exact h s st.fr st.H st.n h2 h3
theorem againJ {σ : Type} {J : σ → List (Nat × AV)} {inv : σ → (Nat → Option AObj) → Nat → Prop} {m : σ → Nat} {k : Nat} {u : Wit (LI J inv m)} (s : σ) (hm : m s < k) (hi : inv s H n) (hf : Has fr (J s)) : again (LI J inv m) u k ⟨fr, H, n⟩ :=
  again_intro (m s) hm ⟨s, rfl, hi, hf⟩
/-- Nothing that was owned before has changed. -/
def Qt (H0 H : Nat → Option AObj) (n : Nat) : Prop := Sub H0 H ∧ Low H0 n
theorem Qt.hu {H0 : Nat → Option AObj} {k : Nat} {o : Option AObj} (h : Qt H0 H n) (hk : n ≤ k) : Qt H0 (hu H k o) n := ⟨h.1.hu h.2 hk, h.2⟩
theorem Qt.mono {H0 : Nat → Option AObj} {m : Nat} (h : Qt H0 H n) (hm : n ≤ m) : Qt H0 H m := ⟨h.1, h.2.mono hm⟩
theorem Qt.refl {H0 : Nat → Option AObj} (h : Low H0 n) : Qt H0 H0 n := ⟨Sub.refl _, h⟩
theorem wrapu64_of {x : Int} (h1 : 0 ≤ x) (h2 : x < 18446744073709551616) : IntKind.u64.wrap x = x := by
  have : IntKind.u64.wrap x = x % 18446744073709551616 := by simp [IntKind.wrap, IntKind.bits, IntKind.signed]
  rw [this]; exact Int.emod_eq_of_lt h1 h2
theorem wrapu8_of {x : Int} (h1 : 0 ≤ x) (h2 : x < 256) : IntKind.u8.wrap x = x := by
  have : IntKind.u8.wrap x = x % 256 := by simp [IntKind.wrap, IntKind.bits, IntKind.signed]
  rw [this]; exact Int.emod_eq_of_lt h1 h2
theorem wrapu32_of {x : Int} (h1 : 0 ≤ x) (h2 : x < 4294967296) : IntKind.u32.wrap x = x := by
  have : IntKind.u32.wrap x = x % 4294967296 := by simp [IntKind.wrap, IntKind.bits, IntKind.signed]
  rw [this]; exact Int.emod_eq_of_lt h1 h2
theorem bin_shr1 {a : Int} : abin .shr (.lit (.int .u64 a)) (.lit (.int .u64 1)) = some (.lit (.int .u64 (a / 2))) := by
  have : a.fdiv 2 = a / 2 := Int.fdiv_eq_ediv_of_nonneg a (by decide)
  simp [abin, IntKind.bits, this]
/-- An element at a place that is known by the list's parts. -/
theorem aidx_at {sz : Nat} {nz : Bool} {α : Type} {c : α → List AV} {l : List α} {x : α} {k : IntKind} {i : Int} {j : Nat} (hi : i = (j : Int)) (hx : l[j]? = some x) : aidx H sz (.ls nz (l.map c)) (.lit (.int k i)) = some (.pp (c x)) := by
  subst hi
  rw [aidx_ls (by omega)]
  simp [hx]
theorem len_of_last {α : Type} {a : List α} {p : α} (h : a.getLast? = some p) : (0 : Int) < a.length := by
  cases a with
  | nil => simp at h
  | cons x a => simp only [List.length_cons]; omega
theorem len_of_none {α : Type} {a : List α} (h : a.getLast? = none) : ¬ (0 : Int) < a.length := by
  cases a with
  | nil => simp
  | cons x a => simp at h
/-- The element ahead of a place. -/
theorem aidx_last {sz : Nat} {nz : Bool} {α : Type} {c : α → List AV} {a b : List α} {p : α} (h : a.getLast? = some p) {k : IntKind} {i : Int} (hi : i = (a.length : Int) - 1) : aidx H sz (.ls nz ((a ++ b).map c)) (.lit (.int k i)) = some (.pp (c p)) := by
  have h0 := len_of_last h
  refine aidx_at (j := a.length - 1) (by omega) ?_
  rw [List.getElem?_append_left (by omega), ← List.getLast?_eq_getElem?, h]
theorem aidx_osd {sz j off len : Nat} {k : IntKind} {i : Int} (h : 0 ≤ i ∧ i < len) : aidx H sz (.os j off len) (.lit (.int k i)) = aidxO sz j off i (H j) := by
  rw [aidx_os, if_pos h]
theorem last_of {α : Type} (a : List α) : a = [] ∨ ∃ a' p, a = a' ++ [p] := by
  rcases List.eq_nil_or_concat a with h | ⟨a', p, h⟩
  · exact .inl h
  · exact .inr ⟨a', p, by simpa using h⟩
end Go.Ab
