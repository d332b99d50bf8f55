/- A part of an abstract logic over the model's runs, proved sound against the model; no condition. -/
import Derived.Test.YthcedgclhoggcaaGreatDoorAb6
/-! Slice expressions, literals, boxes. -/
set_option linter.unusedVariables false
set_option linter.unusedSimpArgs false
namespace Go.Ab
open Go.RowKit
variable {P : Program} {w w' : World} {g g' : Gh} {G : Nat → AV} {N : Nat} {st : St} {a : Act}

/-- An optional operand's value. -/
def RepO (w : World) (g : Gh) : Option AV → Option Value → Prop
  | none, none => True
  | some x, some v => Rep w g x v
  | _, _ => False
theorem bound_sound {y d : Nat} {x : Option AV} {v : Option Value} (hx : RepO w g x v) {n : Nat} (h : abound y d x = some n) (c : BoundsCode) (hd : d ≤ y) :
    (match v with | some v => Instr.sliceBound v y c | none => pure d).run P w = .ok n w ∧ n ≤ y := by
  unfold abound at h
  split at h
  · cases v with
    | none => cases h; exact ⟨rfl, hd⟩
    | some v => exact hx.elim
  · split at h
    · rename_i h0
      cases v with
      | none => exact hx.elim
      | some v =>
        cases hx
        cases h
        exact ⟨by simp [Instr.sliceBound, asIntOf, h0], by omega⟩
    · cases h
  · cases h
theorem bound_le {y z d : Nat} {x : Option AV} {n : Nat} (h : abound y d x = some n) (hyz : y ≤ z) : abound z d x = some n := by
  unfold abound at h ⊢
  split at h
  · exact h
  · split at h
    · rename_i h0
      cases h
      rw [if_pos (by omega)]
    · cases h
  · cases h

theorem slS_sound {t : TypeId} (hu : P.underlying t = some .string) {p : AV} {pv : Value} (hp : Rep w g p pv) {lo hi : Option AV} {lov hiv : Option Value} (hlo : RepO w g lo lov) (hhi : RepO w g hi hiv) {x : AV}
    (h : aslS p lo hi = some x) : ∃ v, (Instr.sliceAt t pv lov hiv none).run P w = .ok v w ∧ Rep w g x v := by
  unfold aslS at h
  split at h
  · rename_i s
    cases hp
    split at h
    · rename_i hh e1
      split at h
      · rename_i ll e2
        cases h
        have h1 := bound_sound (P := P) hhi e1 .sliceAlen (Nat.le_refl _)
        have h2 := bound_sound (P := P) hlo e2 .sliceB (Nat.zero_le _)
        refine lit_ok ?_
        simp only [Instr.sliceAt, Sem.run_bind, run_underlying hu, Result.andThen_ok, Instr.slice, Option.isSome_none, Bool.false_eq_true, if_false, Instr.sliceBounds, Sem.run_pure]
        cases hiv <;> cases lov <;> simp_all
      · cases h
    · cases h
  · cases h

theorem sl_sound (hI : Inv w g) {t e : TypeId} {i : TypeInfo} (hu : P.underlying t = some (.slice e)) (hi : P.info? e = some i) {p : AV} {pv : Value} (hp : Rep w g p pv) {lo hi : Option AV} {lov hiv : Option Value} (hlo : RepO w g lo lov) (hhi : RepO w g hi hiv) {x : AV}
    (he : CutOk g.H i.size p) (h : asl p lo hi = some x) : ∃ v, (Instr.sliceAt t pv lov hiv none).run P w = .ok v w ∧ Rep w g x v := by
  have key : ∀ (a : Option Addr) (len cap hh ll : Nat), abound len len hi = some hh → abound hh 0 lo = some ll → len ≤ cap → hh ≤ len ∧ ll ≤ hh ∧
      (Instr.sliceAt t (.slice a len cap) lov hiv none).run P w = .ok (.slice (if cap = ll then a else a.map (·.add (ll * i.size))) (hh - ll) (cap - ll)) w := by
    intro a len cap hh ll e1 e2 hle
    have h0 := bound_sound (P := P) hhi e1 .sliceAcap (Nat.le_refl _)
    have h2 := bound_sound (P := P) hlo e2 .sliceB (Nat.zero_le _)
    refine ⟨h0.2, h2.2, ?_⟩
    have h1 := fun (v : Value) (hv : hiv = some v) => (bound_sound (P := P) (w := w) (g := g) (x := hi) (v := hiv) (y := cap) (d := len) hhi (bound_le e1 hle) .sliceAcap hle).1
    simp only [Instr.sliceAt, Sem.run_bind, run_underlying hu, Result.andThen_ok, Instr.slice, Instr.sliceBounds, Sem.run_pure, Option.isSome_none, if_true]
    cases hiv with
    | none =>
      cases lov with
      | none => simp_all [run_sizeOf' w ‹P.info? e = some i›]
      | some v => simp_all [run_sizeOf' w ‹P.info? e = some i›]
    | some u =>
      have h1 := h1 u rfl
      cases lov with
      | none => simp_all [run_sizeOf' w ‹P.info? e = some i›]
      | some v => simp_all [run_sizeOf' w ‹P.info? e = some i›]
  unfold asl at h
  split at h
  · rename_i nz rows
    split at h
    · rename_i hh e1
      split at h
      · rename_i ll e2
        cases h
        obtain ⟨a, cap, rfl, h1, h2, h3, h4, h5⟩ := hp
        obtain ⟨k1, k2, k3⟩ := key a rows.length cap hh ll e1 e2 h1
        refine ⟨_, k3, (if cap = ll then a else a.map (·.add (ll * i.size))), cap - ll, ?_, ?_, ?_, ?_, ?_, ?_⟩
        · simp; omega
        · simp; omega
        · omega
        · rw [h3]; split <;> simp
        · intro hn
          have ha : a = none := by
            cases a with
            | none => rfl
            | some ad => split at hn <;> simp at hn
          obtain ⟨h6, h7⟩ := h4 ha
          subst h7
          simp; omega
        · intro ad had
          cases a with
          | none => split at had <;> simp at had
          | some ad0 =>
            obtain ⟨h6, h7⟩ := h5 ad0 rfl
            obtain ⟨b, o, sp⟩ := ad0
            cases h6
            split at had
            · cases had
              refine ⟨rfl, ?_⟩
              rw [List.drop_eq_nil_of_le (by simp; omega)]
              trivial
            · cases had
              simp only [add_none]
              exact ⟨trivial, RepRows.drop ll (fun r hr => he r (List.mem_of_mem_take hr)) (RepRows.take hh h7) (by simp; omega)⟩
      · cases h
    · cases h
  · rename_i j off len
    split at h
    · rename_i hh e1
      split at h
      · rename_i ll e2
        obtain ⟨o, ho, hs⟩ := he
        obtain ⟨_, h1, h2⟩ := hp
        obtain ⟨cap, arr, rfl, h3, h4, h5, h6⟩ := h2 o ho
        obtain ⟨k1, k2, k3⟩ := key _ len cap hh ll e1 e2 h5
        split at h
        · rename_i hz
          subst hz
          cases h
          refine ⟨_, k3, ⟨_, _, rfl⟩, h1, fun o' ho' => ?_⟩
          rw [ho] at ho'
          cases ho'
          refine ⟨cap, arr, ?_, h3, h4, by omega, h6⟩
          simp [add_none]
        · split at h
          · rename_i hz hlt
            cases h
            refine ⟨_, k3, ⟨_, _, rfl⟩, h1, fun o' ho' => ?_⟩
            rw [ho] at ho'
            cases ho'
            refine ⟨cap - ll, arr, ?_, h3, by rw [h4]; congr 1; omega, by omega, by omega⟩
            rw [if_neg (by omega)]
            simp only [Option.map_some, add_none, hs, Nat.add_mul]
          · rename_i hz hlt
            cases h
            have e0 : hh - ll = 0 := by omega
            rw [e0] at k3
            refine ⟨_, k3, _, cap - ll, by simp; rfl, by simp, by omega, ?_, fun hn => ?_, fun ad had => ⟨?_, trivial⟩⟩
            · split <;> simp
            · split at hn <;> simp at hn
            · split at had <;> cases had <;> first | rfl | simp only [add_none]
      · cases h
    · cases h
  · cases h

theorem cells_sound {x : AV} {cs : List AV} {v : Value} (h : Rep w g x v) (hc : x.cells? = some cs) : RepList w g cs v.cells.toList := by
  cases x with
  | any => simp [AV.cells?] at hc
  | lit y => simp only [Rep] at h; subst h; cases v <;> simp [AV.cells?] at hc <;> subst hc <;> exact ⟨_, [], rfl, rfl, rfl⟩
  | ls nz rows => cases hc; obtain ⟨a, cap, rfl, h2⟩ := h; exact ⟨_, [], rfl, ⟨a, cap, rfl, h2⟩, rfl⟩
  | pp cells => cases hc; obtain ⟨b, o, rfl, h2⟩ := h; exact ⟨_, [], rfl, ⟨b, o, rfl, h2⟩, rfl⟩
  | agg cells => cases hc; obtain ⟨vs, rfl, h2⟩ := h; exact h2
  | tup cells => simp [AV.cells?] at hc
  | fn f caps => cases hc; obtain ⟨vs, rfl, h2⟩ := h; exact ⟨_, [], rfl, ⟨vs, rfl, h2⟩, rfl⟩
  | os i off len => cases hc; obtain ⟨⟨a, c, rfl⟩, h2⟩ := h; exact ⟨_, [], rfl, ⟨⟨a, c, rfl⟩, h2⟩, rfl⟩
  | op i row col => cases hc; obtain ⟨⟨a, rfl⟩, h2⟩ := h; exact ⟨_, [], rfl, ⟨⟨a, rfl⟩, h2⟩, rfl⟩

/-! 'fill' -/
theorem foldl_set (vs : List Value) : ∀ (k off : Nat) (cells : Array Value) (j : Nat), off + k + vs.length ≤ cells.size →
    ((vs.zipIdx k).foldl (fun cs (p : Value × Nat) => cs.setIfInBounds (off + p.2) p.1) cells)[j]? = if off + k ≤ j ∧ j < off + k + vs.length then vs[j - (off + k)]? else cells[j]? := by
  induction vs with
  | nil => intro k off cells j _; simp; omega
  | cons v vs ih =>
    intro k off cells j hl
    simp only [List.zipIdx_cons, List.foldl_cons]
    simp only [List.length_cons] at hl
    rw [ih (k + 1) off _ j (by simp; omega)]
    by_cases h1 : off + (k + 1) ≤ j ∧ j < off + (k + 1) + vs.length
    · rw [if_pos h1, if_pos (by simp; omega)]
      obtain ⟨m, rfl⟩ : ∃ m, j = off + k + (m + 1) := ⟨j - (off + k) - 1, by omega⟩
      rw [show off + k + (m + 1) - (off + (k + 1)) = m from by omega, show off + k + (m + 1) - (off + k) = m + 1 from by omega]
      simp
    · rw [if_neg h1]
      by_cases h2 : j = off + k
      · subst h2
        have hlt : off + k < cells.size := by omega
        rw [if_pos (by simp)]
        simp [hlt]
      · rw [if_neg (by simp; omega), Array.getElem?_setIfInBounds_ne (Ne.symm h2)]
theorem foldl_set_size (vs : List Value) : ∀ (k off : Nat) (cells : Array Value), ((vs.zipIdx k).foldl (fun cs (p : Value × Nat) => cs.setIfInBounds (off + p.2) p.1) cells).size = cells.size := by
  induction vs with
  | nil => intro k off cells; rfl
  | cons v vs ih => intro k off cells; simp only [List.zipIdx_cons, List.foldl_cons]; rw [ih]; simp
theorem splice_length {cells cs : List AV} {off : Nat} (h : off + cs.length ≤ cells.length) : (splice cells off cs).length = cells.length := by
  simp [splice]; omega
theorem splice_get {cells cs : List AV} {off : Nat} (h : off + cs.length ≤ cells.length) (j : Nat) : (splice cells off cs)[j]? = if off ≤ j ∧ j < off + cs.length then cs[j - off]? else cells[j]? := by
  unfold splice
  by_cases h1 : j < off
  · rw [if_neg (by omega), List.getElem?_append_left (by simp; omega), List.getElem?_take_of_lt h1]
  · rw [List.getElem?_append_right (by simp; omega)]
    simp only [List.length_take, Nat.min_eq_left (show off ≤ cells.length by omega)]
    by_cases h2 : j < off + cs.length
    · rw [if_pos ⟨by omega, h2⟩, List.getElem?_append_left (by omega)]
    · rw [if_neg (by omega), List.getElem?_append_right (by omega), List.getElem?_drop]
      congr 1
      omega
theorem fill_list (cells : Array Value) (v : Value) (off : Nat) (h : off + v.cells.size ≤ cells.size) (j : Nat) :
    (v.cells.zipIdx.foldl (fun cs (p : Value × Nat) => cs.setIfInBounds (off + p.2) p.1) cells)[j]? = if off ≤ j ∧ j < off + v.cells.size then v.cells[j - off]? else cells[j]? := by
  have := foldl_set v.cells.toList 0 off cells j (by simpa using h)
  rw [← Array.foldl_toList, Array.toList_zipIdx]
  simpa using this
theorem fill_size (cells : Array Value) (v : Value) (off : Nat) : (v.cells.zipIdx.foldl (fun cs (p : Value × Nat) => cs.setIfInBounds (off + p.2) p.1) cells).size = cells.size := by
  rw [← Array.foldl_toList, Array.toList_zipIdx]
  exact foldl_set_size _ _ _ _
theorem splice_sound {cells cs : List AV} {arr : Array Value} {v : Value} (hc : RepList w g cells arr.toList) (hv : RepList w g cs v.cells.toList) {off : Nat} (h : off + cs.length ≤ cells.length) :
    RepList w g (splice cells off cs) (v.cells.zipIdx.foldl (fun cs (p : Value × Nat) => cs.setIfInBounds (off + p.2) p.1) arr).toList := by
  have l1 := hc.length
  have l2 := hv.length
  simp at l1 l2
  refine RepList.of (by rw [splice_length h]; simp only [Array.length_toList]; rw [fill_size]; exact l1) fun j x hx => ?_
  rw [splice_get h] at hx
  rw [Array.getElem?_toList, fill_list _ _ _ (by omega)]
  split at hx
  · rename_i h1
    obtain ⟨u, h2, h3⟩ := hv.get _ x hx
    exact ⟨u, by rw [if_pos (by omega)]; simpa using h2, h3⟩
  · rename_i h1
    obtain ⟨u, h2, h3⟩ := hc.get _ x hx
    exact ⟨u, by rw [if_neg (by omega)]; simpa using h2, h3⟩

/-- The real parts beside the abstract ones: at each place, a value that it stands for. -/
def RepParts (w : World) (g : Gh) (place : Nat → Option (Nat × Nat)) : List (Nat × Nat × AV) → List (Nat × Value) → Prop
  | [], ps => ps = []
  | (off, sz, x) :: r, ps => ∃ i v ps', ps = (i, v) :: ps' ∧ place i = some (off, sz) ∧ Rep w g x v ∧ RepParts w g place r ps'
theorem fill_sound {place : Nat → Option (Nat × Nat)} : ∀ {parts : List (Nat × Nat × AV)} {ps : List (Nat × Value)} {cells : List AV} {arr : Array Value} {out : List AV}, RepParts w g place parts ps → RepList w g cells arr.toList → afill cells parts = some out →
    ∃ arr', Instr.fill place arr ps = some arr' ∧ RepList w g out arr'.toList
  | [], ps, cells, arr, out, hp, hc, h => by
    subst hp
    cases h
    exact ⟨arr, rfl, hc⟩
  | (off, sz, x) :: r, ps, cells, arr, out, hp, hc, h => by
    obtain ⟨i, v, ps', rfl, h1, h2, h3⟩ := hp
    simp only [afill] at h
    split at h
    · rename_i cs hcs
      split at h
      · rename_i hl
        have hv := cells_sound h2 hcs
        have l1 := hc.length
        have l2 := hv.length
        simp at l1 l2
        obtain ⟨arr', k1, k2⟩ := fill_sound h3 (splice_sound hc hv (by omega)) h
        refine ⟨arr', ?_, k2⟩
        simp only [Instr.fill, h1]
        have : (v.cells.size ≠ sz || decide (off + v.cells.size > arr.size)) = false := by
          simp; omega
        simp only [this]
        exact k1
      · cases h
    · cases h
end Go.Ab
