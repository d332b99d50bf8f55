/- A part of an abstract logic over the model's runs, proved sound against the model; no condition. -/
import Derived.Test.YthcedgclhoggcaaGreatDoorA4
/-! One object that is written, all others as they were; a loop's end with a freeze. -/
set_option linter.unusedVariables false
namespace Go.Ab
variable {P : Program} {G fr : Nat → AV} {H HA : Nat → Option AObj} {n : Nat}
theorem asame_int {k : IntKind} {n : Int} : asame (.lit (.int k n)) = some (.lit (.string (Utf8.encode n))) := rfl
attribute [push_cast] asame_int
theorem size_lit {l : List UInt8} : (ByteArray.mk l.toArray).size = l.length := rfl
theorem hu_hu {o : Nat} {v w : Option AObj} : hu (hu H o v) o w = hu H o w := by
  funext i
  by_cases hi : i = o
  · subst hi; rw [hu_same, hu_same]
  · rw [hu_ne hi, hu_ne hi, hu_ne hi]
/-- But for object i 'HA' holds all that 'H' holds. -/
def Qs (H HA : Nat → Option AObj) (i n : Nat) : Prop := (∀ j x, j ≠ i → H j = some x → HA j = some x) ∧ Low H n ∧ i < n
theorem Qs.refl {i : Nat} {o : AObj} (h : H i = some o) (hl : Low H n) : Qs H H i n := ⟨fun _ _ _ h => h, hl, hl i o h⟩
theorem Qs.put {i : Nat} {o : Option AObj} (h : Qs H HA i n) : Qs H (hu HA i o) i n := by
  obtain ⟨h2, h3, h4⟩ := h
  refine ⟨fun j y hj hy => ?_, h3, h4⟩
  rw [hu_ne hj]
  exact h2 j y hj hy
theorem Qs.new {i k : Nat} {x : Option AObj} (h : Qs H HA i n) (hk : n ≤ k) : Qs H (hu HA k x) i n := by
  obtain ⟨h2, h3, h4⟩ := h
  refine ⟨fun j y hj hy => ?_, h3, h4⟩
  have := h3 j y hy
  rw [hu_ne (by omega)]
  exact h2 j y hj hy
theorem Qs.sub {i : Nat} {o : AObj} (h : Qs H HA i n) (hi : HA i = some o) : Sub (hu H i (some o)) HA := fun j x hx => by
  by_cases hj : j = i
  · subst hj; rw [hu_same] at hx; rw [← hx]; exact hi
  · rw [hu_ne hj] at hx; exact h.1 j x hj hx
theorem Qs.dropO {i : Nat} {n0 m : Nat} {oid : Option Nat} {E : TypeId} {sz : Nat} {rows : List (List AV)} (h : OutIs n0 HA oid E sz rows m) (hn : n ≤ n0) (hq : Qs H HA i n) : Qs H (Ab.dropO HA oid) i n := by
  cases oid with
  | none => exact hq
  | some j => exact hq.new (Nat.le_trans hn h.2.1)
theorem dropO_ne {n0 : Nat} {i : Option Nat} {E : TypeId} {sz : Nat} {rows : List (List AV)} (h : OutIs n0 H i E sz rows n) {k : Nat} (hk : k < n0) : dropO H i k = H k := by
  cases i with
  | none => rfl
  | some i => exact hu_ne (by have := h.2.1; omega)
theorem OutIs.put {n0 m : Nat} {oid : Option Nat} {E : TypeId} {sz : Nat} {rows : List (List AV)} {i : Nat} {o : Option AObj} (h : OutIs n0 H oid E sz rows m) (hi : i < n0) : OutIs n0 (Ab.hu H i o) oid E sz rows m := by
  cases oid with
  | none => exact h
  | some k =>
    obtain ⟨h1, h2, h3⟩ := h
    exact ⟨by rw [hu_ne (by omega)]; exact h1, h2, h3⟩
theorem OutIs.far {n0 m k : Nat} {oid : Option Nat} {E : TypeId} {sz : Nat} {rows : List (List AV)} {o : Option AObj} (h : OutIs n0 H oid E sz rows m) (hk : m ≤ k) : OutIs n0 (Ab.hu H k o) oid E sz rows m := h.hu hk (Nat.le_refl _)
theorem OutIs.low {HN : Nat → Option AObj} {n0 m b : Nat} {oid : Option Nat} {E : TypeId} {sz : Nat} {rows : List (List AV)} (h : OutIs n0 H oid E sz rows m) (hm : m ≤ b) (hl : ∀ j, j < b → HN j = H j) : OutIs n0 HN oid E sz rows m := by
  cases oid with
  | none => exact h
  | some k =>
    obtain ⟨h1, h2, h3⟩ := h
    exact ⟨by rw [hl k (by omega)]; exact h1, h2, h3⟩
/-- One row more; of the objects then no more is said than what stays. -/
theorem xapp_outK {n0 : Nat} {K : St → Prop} {u : Wit K} {d : Option Nat} {os : List AOper} {i : Option Nat} {E : TypeId} {sz bytes : Nat} {rows : List (List AV)} {nz : Bool} {r : List AV} {len : Nat} (h : OutIs n0 H i E sz rows n) (hl : len = rows.length) (hr : Even sz [r]) (hb : (rows.length + 1) * bytes ≤ 140737488355328) (hn : n0 ≤ n)
    (k : ∀ HN, HN n = some ⟨E, sz, rows ++ [r]⟩ → (∀ j, j < n0 → HN j = H j) → (∀ H0 i' n', n' ≤ n0 → Qs H0 H i' n' → Qs H0 HN i' n') → xops P G K u os ⟨Ab.put fr d (outAV (some n) (rows.length + 1)), HN, n + 1⟩) : xapp P G K u os d E sz bytes fr H n (outAV i len) (.ls nz [r]) :=
  xapp_out h hl hr hb (k _ hu_same (fun j hj => by rw [hu_ne (by omega), dropO_ne h hj]) fun H0 i' n' hn' hq => (Qs.dropO h hn' hq).new (by omega))
theorem outAV_cells {i : Option Nat} {len : Nat} : (outAV i len).cells? = some [outAV i len] := by cases i <;> rfl
theorem outAV_one {i : Option Nat} {len : Nat} : (outAV i len).one = true := by cases i <;> rfl
attribute [push_cast] outAV_cells outAV_one
/-- Names are handed out upwards. -/
theorem ACalls.le {f : FuncId} {args : List AV} {R : AV → (Nat → Option AObj) → Nat → Prop} (h : ACalls P G f args H n R) : ACalls P G f args H n fun r H' n' => R r H' n' ∧ n ≤ n' := by
  intro w g vs h1 h2 h3 h4 h5
  refine (h w g vs h1 h2 h3 h4 h5).mono fun e w' ⟨v, r, g', k1, k2, k3, k4, k5⟩ => ⟨v, r, g', k1, ⟨k2, ?_⟩, k3, k4, k5⟩
  rw [← h3]; exact k5.n
/-- A loop goes round again; some objects are only read from now on. -/
theorem againZ {σ : Type} {J : σ → List (Nat × AV)} {inv : σ → (Nat → Option AObj) → Nat → Prop} {m : σ → Nat} {k : Nat} {u : Wit (LI J inv m)} (D : Nat → Option AObj) (kk : Nat) (s : σ) (H' : Nat → Option AObj) (hm : m s < k) (hd : Sub D H) (hno : ∀ i o, D i = some o → H' i = none)
    (hH : ∀ i o', H' i = some o' → ∃ o, H i = some o ∧ o'.E = o.E ∧ o'.sz = o.sz ∧ (o'.rows = o.rows ∨ o'.rows = o.rows.map (List.map (frz D kk)))) (hi : inv s H' n) (hf : Has fr (J s)) : again (LI J inv m) u k ⟨fr, H, n⟩ :=
  ⟨m s, hm, ⟨fr, H', n⟩, .inr ⟨D, kk, hd, hno, rfl, fun _ => .inl rfl, hH⟩, s, rfl, hi, hf⟩
end Go.Ab
/-! Freezing. -/
set_option linter.unusedVariables false
namespace Go.Ab
variable {P : Program} {G fr : Nat → AV} {H HA : Nat → Option AObj} {n : Nat}
theorem frz_ls_plain {D : Nat → Option AObj} {k : Nat} {nz : Bool} {rows : List (List AV)} (h : ∀ r ∈ rows, plain r = true) : frz D (k + 1) (.ls nz rows) = .ls nz rows := by
  simp only [frz, rows_plain h]
theorem dropO_sub {i : Option Nat} {j : Nat} {o : AObj} (h : dropO H i j = some o) : H j = some o := by
  cases i with
  | none => exact h
  | some i =>
    by_cases hj : j = i
    · subst hj; rw [dropO, hu_same] at h; cases h
    · rwa [dropO, hu_ne hj] at h
theorem dropO_hi {n0 b : Nat} {i : Option Nat} {E : TypeId} {sz : Nat} {rows : List (List AV)} (h : OutIs n0 H i E sz rows b) {k : Nat} (hk : b ≤ k) : dropO H i k = H k := by
  cases i with
  | none => rfl
  | some i => exact hu_ne (by have := h.2.2; omega)
/-- All objects from a name on, but what is there below. -/
def news (n : Nat) (H : Nat → Option AObj) : Nat → Option AObj := fun j => if n ≤ j then H j else none
end Go.Ab
