/- A part of an abstract logic over the model's runs, proved sound against the model; no condition. -/
import Derived.Test.YthcedgclhoggcaaGreatDoorAb20
/-! A slice that is built row by row. -/
set_option linter.unusedVariables false
namespace Go.Ab
variable {P : Program} {G fr : Nat → AV} {H H0 : Nat → Option AObj} {n n0 : Nat} {K : St → Prop} {u : Wit K} {d : Option Nat} {os : List AOper}
/-- Nothing yet, or an object. -/
def outAV (i : Option Nat) (len : Nat) : AV := match i with
  | none => .ls false []
  | some i => .os i 0 len
/-- What has been built. -/
def OutIs (n0 : Nat) (H : Nat → Option AObj) (i : Option Nat) (E : TypeId) (sz : Nat) (rows : List (List AV)) (n : Nat) : Prop := match i with
  | none => rows = []
  | some i => H i = some ⟨E, sz, rows⟩ ∧ n0 ≤ i ∧ i < n
def dropO (H : Nat → Option AObj) : Option Nat → Nat → Option AObj
  | none => H
  | some i => hu H i none
theorem OutIs.hu {i : Option Nat} {E : TypeId} {sz : Nat} {rows : List (List AV)} (h : OutIs n0 H i E sz rows n) {k m : Nat} {o : Option AObj} (hk : n ≤ k) (hm : n ≤ m) : OutIs n0 (hu H k o) i E sz rows m := by
  cases i with
  | none => exact h
  | some i =>
    obtain ⟨h1, h2, h3⟩ := h
    exact ⟨by rw [hu_ne (by omega)]; exact h1, h2, by omega⟩
theorem OutIs.mono {i : Option Nat} {E : TypeId} {sz : Nat} {rows : List (List AV)} (h : OutIs n0 H i E sz rows n) {m : Nat} (hm : n ≤ m) : OutIs n0 H i E sz rows m := by
  cases i with
  | none => exact h
  | some i => exact ⟨h.1, h.2.1, Nat.lt_of_lt_of_le h.2.2 hm⟩
theorem OutIs.new {E : TypeId} {sz : Nat} {rows : List (List AV)} (hn : n0 ≤ n) : OutIs n0 (Ab.hu H n (some ⟨E, sz, rows⟩)) (some n) E sz rows (n + 1) := ⟨hu_same, hn, Nat.lt_succ_self _⟩
theorem Qt.dropO {i : Option Nat} {E : TypeId} {sz : Nat} {rows : List (List AV)} (h : OutIs n0 H i E sz rows n) (hq : Qt H0 H n0) : Qt H0 (Ab.dropO H i) n0 := by
  cases i with
  | none => exact hq
  | some i => exact hq.hu h.2.1
/-- One row more. -/
theorem xapp_out {i : Option Nat} {E : TypeId} {sz bytes : Nat} {rows : List (List AV)} {nz : Bool} {r : List AV} {len : Nat} (h : OutIs n0 H i E sz rows n) (hl : len = rows.length) (hr : Even sz [r]) (hb : (rows.length + 1) * bytes ≤ 140737488355328)
    (k : xops P G K u os ⟨put fr d (outAV (some n) (rows.length + 1)), hu (dropO H i) n (some ⟨E, sz, rows ++ [r]⟩), n + 1⟩) : xapp P G K u os d E sz bytes fr H n (outAV i len) (.ls nz [r]) := by
  subst hl
  cases i with
  | none =>
    have h : rows = [] := h
    subst h
    rw [outAV, xapp_first hr (by simp) (by simpa using hb)]
    exact k
  | some i =>
    rw [outAV, xapp_os h.1 rfl hr (by simp) (by simpa using hb)]
    exact k
end Go.Ab
