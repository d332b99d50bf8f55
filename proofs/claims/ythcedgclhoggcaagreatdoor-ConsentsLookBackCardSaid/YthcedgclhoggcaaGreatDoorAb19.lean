/- A part of an abstract logic over the model's runs, proved sound against the model; no condition. -/
import Derived.Test.YthcedgclhoggcaaGreatDoorAb18
/-! What is owned is handed on as what is only read: for good, or for the time of a call. -/
set_option linter.unusedVariables false
set_option linter.unusedSimpArgs false
namespace Go.Ab
variable {P : Program} {G : Nat → AV} {w w' : World} {g g' : Gh} {H : Nat → Option AObj} {n : Nat}

/-- A result is handed on as what is only read. -/
theorem ACalls.frz {f : FuncId} {args : List AV} {R R' : AV → (Nat → Option AObj) → Nat → Prop} (h : ACalls P G f args H n R)
    (hR : ∀ r H1 n1, R r H1 n1 → ∃ D H2 k, Sub D H1 ∧ Sub H2 H1 ∧ (∀ i o, D i = some o → H2 i = none) ∧ R' (frz D k r) H2 n1) : ACalls P G f args H n R' := by
  intro w g vs h1 h2 h3 h4 h5
  refine (h w g vs h1 h2 h3 h4 h5).mono fun e w' ⟨v, r, g', k1, k2, k3, k4, k5⟩ => ?_
  obtain ⟨D, H2, k, j1, j2, j3, j4⟩ := hR r g'.H g'.n k2
  exact ⟨v, Ab.frz D k r, g'.less H2, k1, j4, frz_sound k4 ⟨j1, j2, j3⟩ k r v k3, inv_less k4 j2, k5.trans (step_less w' g' j2)⟩

/-- Values that name no memory. -/
def AV.flat : AV → Bool
  | .lit _ => true
  | .tup [.lit _] => true
  | .tup [.lit _, .lit _] => true
  | .tup [.lit _, .lit _, .lit _] => true
  | _ => false
mutual
def flat : AV → Bool
  | .lit _ => true
  | .any => true
  | .agg cs => flats cs
  | .tup cs => flats cs
  | _ => false
def flats : List AV → Bool
  | [] => true
  | x :: xs => flat x && flats xs
end
mutual
theorem Rep.flat : ∀ {x : AV} {v : Value}, flat x = true → Rep w g x v → Rep w' g' x v
  | .lit _, _, _, h => h
  | .any, _, _, h => h
  | .agg cs, v, hf, ⟨vs, h1, h2⟩ => ⟨vs, h1, RepList.flat (by simpa [Ab.flat] using hf) h2⟩
  | .tup cs, v, hf, ⟨vs, h1, h2⟩ => ⟨vs, h1, RepList.flat (by simpa [Ab.flat] using hf) h2⟩
  | .ls _ _, _, hf, _ => by simp [Ab.flat] at hf
  | .pp _, _, hf, _ => by simp [Ab.flat] at hf
  | .fn _ _, _, hf, _ => by simp [Ab.flat] at hf
  | .os _ _ _, _, hf, _ => by simp [Ab.flat] at hf
  | .op _ _ _, _, hf, _ => by simp [Ab.flat] at hf
theorem RepList.flat : ∀ {xs : List AV} {vs : List Value}, flats xs = true → RepList w g xs vs → RepList w' g' xs vs
  | [], _, _, h => h
  | x :: xs, _, hf, ⟨v, vs, h1, h2, h3⟩ => by
    simp only [flats, Bool.and_eq_true] at hf
    exact ⟨v, vs, h1, Rep.flat hf.1 h2, RepList.flat hf.2 h3⟩
end

/-- Nothing is owned. -/
def noObj : Nat → Option AObj := fun _ => none
/-- A call that only reads what is owned. -/
theorem AFn.borrow {f : FuncId} {args : List AV} {v : AV} (D : Nat → Option AObj) (k : Nat) (hD : Sub D H) (h : AFn P G f (args.map (Ab.frz D k)) noObj v) (hv : flat v = true) {R : AV → (Nat → Option AObj) → Nat → Prop} (hR : ∀ n', n ≤ n' → R v H n') : ACalls P G f args H n R := by
  intro w g vs h1 h2 h3 h4 h5
  have hd : Drops g D noObj := ⟨by rw [h2]; exact hD, fun i o hi => (by cases hi), fun _ _ _ => rfl⟩
  have hS0 : Step w g w (g.less noObj) := step_less w g hd.h
  refine (h n w (g.less noObj) vs (inv_less h1 hd.h) rfl h3 (fun k => (h4 k).mono hS0) (h5.map_frz fun x v => frz_sound h1 hd k x v)).mono fun e w' ⟨x, r, g', k1, ⟨k2, k3⟩, k4, k5, k6⟩ => ?_
  subst k2
  have hno : ∀ b, ¬ (g.less noObj).Own b := fun b ⟨i, o, hi, _⟩ => by cases hi
  have hkeep : ∀ b, b < w.heap.size → w'.heap[b]? = w.heap[b]? := fun b hb => k6.keep b hb (hno b)
  have hmu : ∀ i, i < g.n → g'.μ i = g.μ i := k6.mu
  have hn : g.n ≤ g'.n := k6.n
  have hS : Step w g w' ⟨g'.μ, g.H, g'.n⟩ := by
    refine ⟨k6.os, k6.tape, k6.output, k6.size, fun b hb _ => hkeep b hb, fun i o' arr E hi ho hb => ⟨arr, ?_, rfl⟩, fun b ⟨i, o, h1', h2'⟩ => .inl ⟨i, o, h1', ?_⟩, hn, hmu, fun i o' hi ho => ⟨o', ho, rfl, rfl⟩⟩
    · rw [hkeep _ (h1.lt i o' ho).2]; exact hb
    · rw [← hmu i (h1.lt i o h1').1]; exact h2'
  refine ⟨x, r, ⟨g'.μ, g.H, g'.n⟩, k1, ?_, Rep.flat hv k4, ?_, hS⟩
  · show R r g.H g'.n
    rw [h2]; exact hR _ (by rw [← h3]; exact hn)
  · refine h1.step hS (fun i o ho => ⟨Nat.lt_of_lt_of_le (h1.lt i o ho).1 hn, ?_⟩) (fun i j o o' hi hj he => ?_) fun i o ho => .inl ⟨ho, hkeep _ (h1.lt i o ho).2⟩
    · show g'.μ i < _
      rw [hmu i (h1.lt i o ho).1]
      exact Nat.lt_of_lt_of_le (h1.lt i o ho).2 k6.size
    · have he : g'.μ i = g'.μ j := he
      rw [hmu i (h1.lt i o hi).1, hmu j (h1.lt j o' hj).1] at he
      exact h1.inj i j o o' hi hj he

/-! Reckoning. -/
theorem frz_lit {D : Nat → Option AObj} {k : Nat} {v : Value} : frz D k (.lit v) = .lit v := by cases k <;> rfl
/-- One object alone. -/
def only (i : Nat) (o : AObj) : Nat → Option AObj := fun j => if j = i then some o else none
theorem only_sub {i : Nat} {o : AObj} (h : H i = some o) : Sub (only i o) H := fun j x hj => by
  unfold only at hj
  split at hj
  · rename_i e; subst e; cases hj; exact h
  · cases hj
/-- Cells that are plain values. -/
def plain (cs : List AV) : Bool := cs.all fun x => match x with | .lit _ => true | _ => false
theorem map_plain {D : Nat → Option AObj} {k : Nat} : ∀ {cs : List AV}, plain cs = true → cs.map (frz D k) = cs
  | [], _ => rfl
  | x :: xs, h => by
    simp only [plain, List.all_cons, Bool.and_eq_true] at h
    cases x <;> simp only [Bool.false_eq_true, false_and] at h
    rw [List.map_cons, frz_lit, map_plain (by simpa [plain] using h)]
theorem rows_plain {D : Nat → Option AObj} {k : Nat} : ∀ {rows : List (List AV)}, (∀ r ∈ rows, plain r = true) → rows.map (List.map (frz D k)) = rows
  | [], _ => rfl
  | r :: rs, h => by rw [List.map_cons, map_plain (h r (by simp)), rows_plain fun r hr => h r (by simp [hr])]
theorem frz_os_plain {i : Nat} {E : TypeId} {sz k : Nat} {rows : List (List AV)} (h : ∀ r ∈ rows, plain r = true) {len : Nat} (hl : len = rows.length) : frz (only i ⟨E, sz, rows⟩) (k + 1) (.os i 0 len) = .ls true rows := by
  subst hl
  simp only [frz, only, if_true, Nat.zero_add, Nat.le_refl, List.drop_zero, List.take_length, rows_plain h]
end Go.Ab
