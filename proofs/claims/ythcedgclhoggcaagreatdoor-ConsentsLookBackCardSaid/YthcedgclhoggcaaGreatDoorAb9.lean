/- A part of an abstract logic over the model's runs, proved sound against the model; no condition. -/
import Derived.Test.YthcedgclhoggcaaGreatDoorAb8
/-! Memory that is owned: written, made, appended to. -/
set_option linter.unusedVariables false
set_option linter.unusedSimpArgs false
namespace Go.Ab
open Go.RowKit
variable {P : Program} {w w' : World} {g g' : Gh} {G : Nat → AV} {N : Nat} {st : St} {a : Act}

theorem heap_setCell_self {w : World} {b : Nat} {arr : Array Value} {E : TypeId} {fz : Nat × Nat} (h : w.heap[b]? = some (Obj.cells arr E fz)) (o : Nat) (v : Value) :
    (w.setCell ⟨b, o, none⟩ v).heap[b]? = some (Obj.cells (arr.setIfInBounds o v) E fz) := by
  simp only [World.setCell, Array.getElem?_modify, if_true, h, Option.map_some]
  simp
theorem setCells_spec (b : Nat) (E : TypeId) (fz : Nat × Nat) : ∀ (vs : List Value) (o : Nat) (w : World) (arr : Array Value), w.heap[b]? = some (Obj.cells arr E fz) → o + vs.length ≤ arr.size →
    ∃ arr' : Array Value, (w.setCells b o vs).heap[b]? = some (Obj.cells arr' E fz) ∧ arr'.size = arr.size ∧ ∀ j, arr'[j]? = if o ≤ j ∧ j < o + vs.length then vs[j - o]? else arr[j]?
  | [], o, w, arr, h, _ => ⟨arr, h, rfl, fun j => by simp; omega⟩
  | v :: vs, o, w, arr, h, hl => by
    simp only [List.length_cons] at hl
    obtain ⟨arr', h1, h2, h3⟩ := setCells_spec b E fz vs (o + 1) (w.setCell ⟨b, o, none⟩ v) (arr.setIfInBounds o v) (heap_setCell_self h o v) (by simp; omega)
    refine ⟨arr', h1, by simpa using h2, fun j => ?_⟩
    rw [h3 j]
    by_cases h4 : o + 1 ≤ j ∧ j < o + 1 + vs.length
    · rw [if_pos h4, if_pos (by simp; omega)]
      obtain ⟨m, rfl⟩ : ∃ m, j = o + (m + 1) := ⟨j - o - 1, by omega⟩
      rw [show o + (m + 1) - (o + 1) = m from by omega, show o + (m + 1) - o = m + 1 from by omega]
      simp
    · rw [if_neg h4]
      by_cases h5 : j = o
      · subst h5
        have : j < arr.size := by omega
        rw [if_pos (by simp)]
        simp [this]
      · rw [if_neg (by simp; omega), Array.getElem?_setIfInBounds_ne (Ne.symm h5)]
theorem setCells_same (b : Nat) : ∀ (vs : List Value) (o : Nat) (w : World), (w.setCells b o vs).os = w.os ∧ (w.setCells b o vs).tape = w.tape ∧ (w.setCells b o vs).output = w.output ∧ (w.setCells b o vs).heap.size = w.heap.size ∧ ∀ k, k ≠ b → (w.setCells b o vs).heap[k]? = w.heap[k]?
  | [], o, w => ⟨rfl, rfl, rfl, rfl, fun _ _ => rfl⟩
  | v :: vs, o, w => by
    obtain ⟨h1, h2, h3, h4, h5⟩ := setCells_same b vs (o + 1) (w.setCell ⟨b, o, none⟩ v)
    exact ⟨h1, h2, h3, by rw [World.setCells, h4]; simp, fun k hk => by rw [World.setCells, h5 k hk]; exact Below.heap_setCell _ _ _ _ hk⟩

/-- Cells of an owned object are written. -/
theorem write_sound (hI : Inv w g) {i : Nat} {o : AObj} (hi : g.H i = some o) {p : Nat} {cs : List AV} {vs : List Value} (hv : RepList w g cs vs) (h1 : ∀ v ∈ vs, v.oneCell' = true) (hp : p + cs.length ≤ o.rows.length * o.sz) (rows : List (List AV)) (hlen : rows.length = o.rows.length)
    (hrows : ∀ r row, rows[r]? = some row → row.length = o.sz ∧ ∀ c x, row[c]? = some x → (p ≤ r * o.sz + c ∧ r * o.sz + c < p + cs.length ∧ cs[r * o.sz + c - p]? = some x) ∨ (¬ (p ≤ r * o.sz + c ∧ r * o.sz + c < p + cs.length) ∧ ∃ old, o.rows[r]? = some old ∧ old[c]? = some x)) :
    ∃ w', (storeCells ⟨g.μ i, p, none⟩ vs).run P w = .ok () w' ∧ Step w g w' { g with H := upd g.H i (some { o with rows := rows }) } ∧ Inv w' { g with H := upd g.H i (some { o with rows := rows }) } := by
  obtain ⟨arr, ha, hsz, hob⟩ := hI.obj i o hi
  have hl := hv.length
  obtain ⟨arr', k1, k2, k3⟩ := setCells_spec (g.μ i) o.E (0, 0) vs p w arr ha (by omega)
  obtain ⟨s1, s2, s3, s4, s5⟩ := setCells_same (g.μ i) vs p w
  have hrun := run_storeCells_cells (P := P) (g.μ i) p vs 0 w (fun j hj => by
      rw [cell_of_heap ha, Array.getElem?_eq_getElem (by omega)]; rfl) (fun j hj => by simp [World.frozen?, ha]) h1
  have hS := step_set (w' := w.setCells (g.μ i) p vs) hI hi rows s1 s2 s3 s4 s5 (fun arr0 E h => by
    rw [ha] at h; cases h; exact ⟨arr', k1, k2⟩)
  refine ⟨w.setCells (g.μ i) p vs, by simpa using hrun, hS, ?_⟩
  refine inv_set hI hi rows hS s4 s5 k1 ⟨by show rows.length * o.sz ≤ _; rw [hlen, k2]; exact hsz, fun r row hr => ⟨(hrows r row hr).1, fun c x hx => ?_⟩⟩
  rcases (hrows r row hr).2 c x hx with ⟨h2, h3, h4⟩ | ⟨h2, old, h3, h4⟩
  · obtain ⟨v, h5, h6⟩ := hv.get _ x h4
    exact ⟨v, by show arr'[r * o.sz + c]? = _; rw [k3, if_pos (by omega)]; exact h5, h6⟩
  · obtain ⟨v, h5, h6⟩ := (hob r old h3).2 c x h4
    exact ⟨v, by show arr'[r * o.sz + c]? = _; rw [k3, if_neg (by omega)]; exact h5, h6⟩

theorem one_list {cs : List AV} {vs : List Value} (h : RepList w g cs vs) (h1 : cs.all AV.one = true) : ∀ v ∈ vs, v.oneCell' = true := by
  intro v hv
  obtain ⟨j, hj⟩ := List.mem_iff_getElem?.1 hv
  have hlt : j < cs.length := by rw [h.length]; exact (List.getElem?_eq_some_iff.1 hj).1
  obtain ⟨u, h2, h3⟩ := h.get j cs[j] (List.getElem?_eq_getElem hlt)
  rw [hj] at h2
  cases h2
  exact h3.oneCell (List.all_eq_true.1 h1 _ (List.getElem_mem hlt))

theorem row_apart {r r' sz c c' : Nat} (hc : c < sz) (hc' : c' < sz) (h : r ≠ r') : r * sz + c ≠ r' * sz + c' := by
  intro e
  rcases Nat.lt_or_ge r r' with h1 | h1
  · have := Nat.mul_le_mul_right sz (show r + 1 ≤ r' from h1)
    rw [Nat.succ_mul] at this
    omega
  · have := Nat.mul_le_mul_right sz (show r' + 1 ≤ r from by omega)
    rw [Nat.succ_mul] at this
    omega
theorem row_out {r r' sz c c' n : Nat} (hc : c + n ≤ sz) (hc' : c' < sz) (h : r' ≠ r) : ¬ (r * sz + c ≤ r' * sz + c' ∧ r' * sz + c' < r * sz + c + n) := by
  intro ⟨e1, e2⟩
  rcases Nat.lt_or_ge r r' with h1 | h1
  · have := Nat.mul_le_mul_right sz (show r + 1 ≤ r' from h1)
    rw [Nat.succ_mul] at this
    omega
  · have := Nat.mul_le_mul_right sz (show r' + 1 ≤ r from by omega)
    rw [Nat.succ_mul] at this
    omega

theorem store_sound (hI : Inv w g) {t : TypeId} {i : TypeInfo} (hti : P.info? t = some i) {j r c : Nat} {pv v : Value} (hp : Rep w g (.op j r c) pv) {x : AV} (hx : Rep w g x v) {o o' : AObj} (ho : g.H j = some o) {cs : List AV} (hcs : x.cells? = some cs) (hl : cs.length = i.size) (h1 : cs.all AV.one = true) (h : astore o r c cs = some o') :
    ∃ w', (Instr.storeAt t pv v).run P w = .ok () w' ∧ Step w g w' { g with H := upd g.H j (some o') } ∧ Inv w' { g with H := upd g.H j (some o') } := by
  unfold astore at h
  split at h
  · rename_i row hr
    split at h
    · rename_i hfit
      cases h
      have hv := cells_sound hx hcs
      obtain ⟨arr, ha, hsz, hob⟩ := hI.obj j o ho
      have hrl := (hob r row hr).1
      have hrlt := (List.getElem?_eq_some_iff.1 hr).1
      have hpv := hp.2.2 o ho
      subst hpv
      have hb : r * o.sz + c + cs.length ≤ o.rows.length * o.sz := by
        have := Nat.mul_le_mul_right o.sz (show r + 1 ≤ o.rows.length from hrlt)
        rw [Nat.succ_mul] at this
        omega
      have hrows : ∀ r' row', (o.rows.set r (splice row c cs))[r']? = some row' → row'.length = o.sz ∧ ∀ c' x, row'[c']? = some x → (r * o.sz + c ≤ r' * o.sz + c' ∧ r' * o.sz + c' < r * o.sz + c + cs.length ∧ cs[r' * o.sz + c' - (r * o.sz + c)]? = some x) ∨
          (¬ (r * o.sz + c ≤ r' * o.sz + c' ∧ r' * o.sz + c' < r * o.sz + c + cs.length) ∧ ∃ old, o.rows[r']? = some old ∧ old[c']? = some x) := by
        intro r' row' hr'
        by_cases he : r' = r
        · subst he
          rw [List.getElem?_set_self hrlt] at hr'
          cases hr'
          refine ⟨by rw [splice_length hfit]; exact hrl, fun c' x' hx' => ?_⟩
          rw [splice_get hfit] at hx'
          split at hx'
          · rename_i h4
            exact .inl ⟨by omega, by omega, by rw [show r' * o.sz + c' - (r' * o.sz + c) = c' - c from by omega]; exact hx'⟩
          · rename_i h4
            exact .inr ⟨by omega, row, hr, hx'⟩
        · rw [List.getElem?_set_ne (Ne.symm he)] at hr'
          have hl' := (hob r' row' hr').1
          refine ⟨hl', fun c' x' hx' => .inr ⟨?_, row', hr', hx'⟩⟩
          have : c' < row'.length := (List.getElem?_eq_some_iff.1 hx').1
          exact row_out (by omega) (by omega) he
      obtain ⟨w', k1, k2, k3⟩ := write_sound (P := P) hI ho (p := r * o.sz + c) hv (one_list hv h1) hb (o.rows.set r (splice row c cs)) (by simp) hrows
      refine ⟨w', ?_, k2, k3⟩
      have hs : v.cells.size = i.size := by rw [← hl, hv.length]; simp
      simp [Instr.storeAt, Instr.sureAddr, storeVar, run_sizeOf' w hti, hs, k1]
    · cases h
  · cases h

theorem zeroCells_rep {z : Value} (w : World) (g : Gh) (h0 : 0 < z.cells.size) (n : Nat) : RepList w g (List.replicate n (z.cells.toList.map AV.ofVal)).flatten (Builtin.zeroCells z.cells n).toList := by
  have hflat : (List.replicate n (z.cells.toList.map AV.ofVal)).flatten.length = n * z.cells.size := by
    rw [flat_len (sz := z.cells.size) (fun r hr => by rw [List.eq_of_mem_replicate hr]; simp)]
    simp
  refine RepList.of (by rw [hflat]; simp [Builtin.zeroCells]) fun j x hx => ?_
  have hj : j < n * z.cells.size := by rw [← hflat]; exact (List.getElem?_eq_some_iff.1 hx).1
  have hm : j % z.cells.size < z.cells.size := Nat.mod_lt _ h0
  have hget : ∀ (n j : Nat), j < n * z.cells.size → (List.replicate n (z.cells.toList.map AV.ofVal)).flatten[j]? = (z.cells.toList.map AV.ofVal)[j % z.cells.size]? := by
    intro n
    induction n with
    | zero => intro j h; simp at h
    | succ n ih =>
      intro j h
      rw [List.replicate_succ, List.flatten_cons]
      rcases Nat.lt_or_ge j z.cells.size with h1 | h1
      · rw [List.getElem?_append_left (by simpa using h1), Nat.mod_eq_of_lt h1]
      · rw [List.getElem?_append_right (by simpa using h1)]
        simp only [List.length_map, Array.length_toList]
        rw [ih _ (by rw [Nat.succ_mul] at h; omega), ← Nat.mod_eq_sub_mod h1]
  rw [hget n j hj, List.getElem?_map] at hx
  have hz : z.cells.toList[j % z.cells.size]? = some (z.cells[j % z.cells.size]) := by simp [hm]
  rw [hz] at hx
  simp only [Option.map_some, Option.some.injEq] at hx
  subst hx
  refine ⟨z.cells[j % z.cells.size], ?_, rep_ofVal w g _⟩
  simp [Builtin.zeroCells, hj, hm]
end Go.Ab
