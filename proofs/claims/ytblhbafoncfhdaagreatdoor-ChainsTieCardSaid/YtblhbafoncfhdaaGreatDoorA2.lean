/- A part of an abstract logic over the model's runs, proved sound against the model; no condition. -/
import Derived.Test.YtblhbafoncfhdaaGreatDoorA1
import Derived.Lib.AppendZeros
import Derived.Deep.AppendSrc
import Derived.Lib.UnsafeStr
import Derived.Laws.BytesArg
import Derived.Lib.Builder
import Derived.Lib.MinMax
import Derived.Laws.Cover1
set_option linter.unusedVariables false
set_option linter.unusedSimpArgs false
/-! Memory that is owned: written, made, appended to. -/
namespace Go.Ab
open Go.RowKit
variable {P : Program} {w w' : World} {g g' : Gh} {G : Nat → AV} {N : Nat} {st : St} {a : Act}
theorem heap_setCell_self {w : World} {b : Nat} {arr : Array Value} {E : TypeId} {fz : Nat × Nat} (h : w.heap[b]? = some (Obj.cells arr E fz)) (o : Nat) (v : Value) :
  (w.setCell ⟨b, o, none⟩ v).heap[b]? = some (Obj.cells (arr.setIfInBounds o v) E fz) := by
 simp only [World.setCell, Array.getElem?_modify, if_true, h, Option.map_some]
 simp
theorem setCells_spec (b : Nat) (E : TypeId) (fz : Nat × Nat) : ∀ (vs : List Value) (o : Nat) (w : World) (arr : Array Value), w.heap[b]? = some (Obj.cells arr E fz) → o + vs.length ≤ arr.size →
  ∃ arr' : Array Value, (w.setCells b o vs).heap[b]? = some (Obj.cells arr' E fz) ∧ arr'.size = arr.size ∧ ∀ j, arr'[j]? = if o ≤ j ∧ j < o + vs.length then vs[j - o]? else arr[j]?
 | [], o, w, arr, h, _ => ⟨arr, h, rfl, fun j => by simp; omega⟩
 | v :: vs, o, w, arr, h, hl => by
  simp only [List.length_cons] at hl
  obtain ⟨arr', h1, h2, h3⟩ := setCells_spec b E fz vs (o + 1) (w.setCell ⟨b, o, none⟩ v) (arr.setIfInBounds o v) (heap_setCell_self h o v) (by simp; omega)
  refine ⟨arr', h1, by simpa using h2, fun j => ?_⟩
  rw [h3 j]
  by_cases h4 : o + 1 ≤ j ∧ j < o + 1 + vs.length
  ·rw [if_pos h4, if_pos (by simp; omega)]
   obtain ⟨m, rfl⟩ : ∃ m, j = o + (m + 1) := ⟨j - o - 1, by omega⟩
   rw [show o + (m + 1) - (o + 1) = m from by omega, show o + (m + 1) - o = m + 1 from by omega]
   simp
  ·rw [if_neg h4]
   by_cases h5 : j = o
   ·subst h5
    have : j < arr.size := by omega
    rw [if_pos (by simp)]
    simp [this]
   ·rw [if_neg (by simp; omega), Array.getElem?_setIfInBounds_ne (Ne.symm h5)]
theorem setCells_same (b : Nat) : ∀ (vs : List Value) (o : Nat) (w : World), (w.setCells b o vs).os = w.os ∧ (w.setCells b o vs).tape = w.tape ∧ (w.setCells b o vs).output = w.output ∧ (w.setCells b o vs).heap.size = w.heap.size ∧ ∀ k, k ≠ b → (w.setCells b o vs).heap[k]? = w.heap[k]?
 | [], o, w => ⟨rfl, rfl, rfl, rfl, fun _ _ => rfl⟩
 | v :: vs, o, w => by
  obtain ⟨h1, h2, h3, h4, h5⟩ := setCells_same b vs (o + 1) (w.setCell ⟨b, o, none⟩ v)
  exact ⟨h1, h2, h3, by rw [World.setCells, h4]; simp, fun k hk => by rw [World.setCells, h5 k hk]; exact Below.heap_setCell _ _ _ _ hk⟩
theorem write_sound (hI : Inv w g) {i : Nat} {o : AObj} (hi : g.H i = some o) (hc : IsCells w (g.μ i)) {p : Nat} {cs : List AV} {vs : List Value} (hv : RepList w g cs vs) (h1 : ∀ v ∈ vs, v.oneCell' = true) (hp : p + cs.length ≤ o.rows.length * o.sz) (rows : List (List AV)) (hlen : rows.length = o.rows.length)
  (hrows : ∀ r row, rows[r]? = some row → row.length = o.sz ∧ ∀ c x, row[c]? = some x → (p ≤ r * o.sz + c ∧ r * o.sz + c < p + cs.length ∧ cs[r * o.sz + c - p]? = some x) ∨ (¬ (p ≤ r * o.sz + c ∧ r * o.sz + c < p + cs.length) ∧ ∃ old, o.rows[r]? = some old ∧ old[c]? = some x)) :
  ∃ w', (storeCells ⟨g.μ i, p, none⟩ vs).run P w = .ok () w' ∧ Step w g w' { g with H := upd g.H i (some { o with rows := rows }) } ∧ Inv w' { g with H := upd g.H i (some { o with rows := rows }) } := by
 obtain ⟨arr, ha, hsz, hob⟩ := hI.cells hi hc
 have hl := hv.length
 obtain ⟨arr', k1, k2, k3⟩ := setCells_spec (g.μ i) o.E (0, 0) vs p w arr ha (by omega)
 obtain ⟨s1, s2, s3, s4, s5⟩ := setCells_same (g.μ i) vs p w
 have hrun := run_storeCells_cells (P := P) (g.μ i) p vs 0 w (fun j hj => by
   rw [cell_of_heap ha, Array.getElem?_eq_getElem (by omega)]; rfl) (fun j hj => by simp [World.frozen?, ha]) h1
 have hS := step_set (w' := w.setCells (g.μ i) p vs) hI hi hc rows (fun _ => run_drawn P _ hrun) s1 s2 s3 s4 s5 (fun arr0 E h => by
  rw [ha] at h; cases h; exact ⟨arr', k1, k2⟩)
 refine ⟨w.setCells (g.μ i) p vs, by simpa using hrun, hS, ?_⟩
 refine inv_set hI hi rows hS s4 s5 k1 ⟨by show rows.length * o.sz ≤ _; rw [hlen, k2]; exact hsz, fun r row hr => ⟨(hrows r row hr).1, fun c x hx => ?_⟩⟩
 rcases (hrows r row hr).2 c x hx with ⟨h2, h3, h4⟩ | ⟨h2, old, h3, h4⟩
 ·obtain ⟨v, h5, h6⟩ := hv.get _ x h4
  exact ⟨v, by show arr'[r * o.sz + c]? = _; rw [k3, if_pos (by omega)]; exact h5, h6⟩
 ·obtain ⟨v, h5, h6⟩ := (hob r old h3).2 c x h4
  exact ⟨v, by show arr'[r * o.sz + c]? = _; rw [k3, if_neg (by omega)]; exact h5, h6⟩
theorem one_list {cs : List AV} {vs : List Value} (h : RepList w g cs vs) (h1 : cs.all AV.one = true) : ∀ v ∈ vs, v.oneCell' = true := by
 intro v hv
 obtain ⟨j, hj⟩ := List.mem_iff_getElem?.1 hv
 have hlt : j < cs.length := by rw [h.length]; exact (List.getElem?_eq_some_iff.1 hj).1
 obtain ⟨u, h2, h3⟩ := h.get j cs[j] (List.getElem?_eq_getElem hlt)
 rw [hj] at h2
 cases h2
 exact h3.oneCell (List.all_eq_true.1 h1 _ (List.getElem_mem hlt))
theorem row_out {r r' sz c c' n : Nat} (hc : c + n ≤ sz) (hc' : c' < sz) (h : r' ≠ r) : ¬ (r * sz + c ≤ r' * sz + c' ∧ r' * sz + c' < r * sz + c + n) := by
 intro ⟨e1, e2⟩
 rcases Nat.lt_or_ge r r' with h1 | h1
 ·have := Nat.mul_le_mul_right sz (show r + 1 ≤ r' from h1)
  rw [Nat.succ_mul] at this
  omega
 ·have := Nat.mul_le_mul_right sz (show r' + 1 ≤ r from by omega)
  rw [Nat.succ_mul] at this
  omega
theorem store_sound (hI : Inv w g) {t : TypeId} {i : TypeInfo} (hti : P.info? t = some i) {j r c : Nat} {pv v : Value} (hp : Rep w g (.op j r c) pv) {x : AV} (hx : Rep w g x v) {o o' : AObj} (ho : g.H j = some o) {cs : List AV} (hcs : x.cells? = some cs) (hl : cs.length = i.size) (h1 : cs.all AV.one = true) (h : astore o r c cs = some o') :
  ∃ w', (Instr.storeAt t pv v).run P w = .ok () w' ∧ Step w g w' { g with H := upd g.H j (some o') } ∧ Inv w' { g with H := upd g.H j (some o') } := by
 unfold astore at h
 split at h
 ·rename_i row hr
  split at h
  ·rename_i hfit
   cases h
   have hv := cells_sound hx hcs
   obtain ⟨hpv, hcl⟩ := hp.2.2 o ho
   obtain ⟨arr, ha, hsz, hob⟩ := hI.cells ho hcl
   have hrl := (hob r row hr).1
   have hrlt := (List.getElem?_eq_some_iff.1 hr).1
   subst hpv
   have hb : r * o.sz + c + cs.length ≤ o.rows.length * o.sz := by
    have := Nat.mul_le_mul_right o.sz (show r + 1 ≤ o.rows.length from hrlt)
    rw [Nat.succ_mul] at this
    omega
   have hrows : ∀ r' row', (o.rows.set r (splice row c cs))[r']? = some row' → row'.length = o.sz ∧ ∀ c' x, row'[c']? = some x → (r * o.sz + c ≤ r' * o.sz + c' ∧ r' * o.sz + c' < r * o.sz + c + cs.length ∧ cs[r' * o.sz + c' - (r * o.sz + c)]? = some x) ∨
     (¬ (r * o.sz + c ≤ r' * o.sz + c' ∧ r' * o.sz + c' < r * o.sz + c + cs.length) ∧ ∃ old, o.rows[r']? = some old ∧ old[c']? = some x) := by
    intro r' row' hr'
    by_cases he : r' = r
    ·subst he
     rw [List.getElem?_set_self hrlt] at hr'
     cases hr'
     refine ⟨by rw [splice_length hfit]; exact hrl, fun c' x' hx' => ?_⟩
     rw [splice_get hfit] at hx'
     split at hx'
     ·rename_i h4
      exact .inl ⟨by omega, by omega, by rw [show r' * o.sz + c' - (r' * o.sz + c) = c' - c from by omega]; exact hx'⟩
     ·rename_i h4
      exact .inr ⟨by omega, row, hr, hx'⟩
    ·rw [List.getElem?_set_ne (Ne.symm he)] at hr'
     have hl' := (hob r' row' hr').1
     refine ⟨hl', fun c' x' hx' => .inr ⟨?_, row', hr', hx'⟩⟩
     have : c' < row'.length := (List.getElem?_eq_some_iff.1 hx').1
     exact row_out (by omega) (by omega) he
   obtain ⟨w', k1, k2, k3⟩ := write_sound (P := P) hI ho hcl (p := r * o.sz + c) hv (one_list hv h1) hb (o.rows.set r (splice row c cs)) (by simp) hrows
   refine ⟨w', ?_, k2, k3⟩
   have hs : v.cells.size = i.size := by rw [← hl, hv.length]; simp
   simp [Instr.storeAt, Instr.sureAddr, storeVar, run_sizeOf' w hti, hs, k1]
  ·cases h
 ·cases h
theorem zeroCells_rep {z : Value} (w : World) (g : Gh) (h0 : 0 < z.cells.size) (n : Nat) : RepList w g (List.replicate n (z.cells.toList.map AV.ofVal)).flatten (Builtin.zeroCells z.cells n).toList := by
 have hflat : (List.replicate n (z.cells.toList.map AV.ofVal)).flatten.length = n * z.cells.size := by
  rw [flat_len (sz := z.cells.size) (fun r hr => by rw [List.eq_of_mem_replicate hr]; simp)]
  simp
 refine RepList.of (by rw [hflat]; simp [Builtin.zeroCells]) fun j x hx => ?_
 have hj : j < n * z.cells.size := by rw [← hflat]; exact (List.getElem?_eq_some_iff.1 hx).1
 have hm : j % z.cells.size < z.cells.size := Nat.mod_lt _ h0
 have hget : ∀ (n j : Nat), j < n * z.cells.size → (List.replicate n (z.cells.toList.map AV.ofVal)).flatten[j]? = (z.cells.toList.map AV.ofVal)[j % z.cells.size]? := by
  intro n
  induction n with
  | zero => intro j h; simp at h
  | succ n ih =>
   intro j h
   rw [List.replicate_succ, List.flatten_cons]
   rcases Nat.lt_or_ge j z.cells.size with h1 | h1
   ·rw [List.getElem?_append_left (by simpa using h1), Nat.mod_eq_of_lt h1]
   ·rw [List.getElem?_append_right (by simpa using h1)]
    simp only [List.length_map, Array.length_toList]
    rw [ih _ (by rw [Nat.succ_mul] at h; omega), ← Nat.mod_eq_sub_mod h1]
 rw [hget n j hj, List.getElem?_map] at hx
 have hz : z.cells.toList[j % z.cells.size]? = some (z.cells[j % z.cells.size]) := by simp [hm]
 rw [hz] at hx
 simp only [Option.map_some, Option.some.injEq] at hx
 subst hx
 refine ⟨z.cells[j % z.cells.size], ?_, rep_ofVal w g _⟩
 simp [Builtin.zeroCells, hj, hm]
/-! append, make, clear. -/
theorem flatten_at {sz : Nat} : ∀ {rows : List (List AV)} {r : Nat} {row : List AV} {c : Nat} {x : AV}, (∀ r ∈ rows, r.length = sz) → rows[r]? = some row → row[c]? = some x → rows.flatten[r * sz + c]? = some x
 | [], r, row, c, x, _, h, _ => by simp at h
 | y :: rows, 0, row, c, x, hl, h, hx => by
  simp at h; subst h
  have : c < y.length := (List.getElem?_eq_some_iff.1 hx).1
  rw [List.flatten_cons, List.getElem?_append_left (by omega)]
  simpa using hx
 | y :: rows, r + 1, row, c, x, hl, h, hx => by
  have hy := hl y (by simp)
  rw [List.flatten_cons, List.getElem?_append_right (by rw [hy, Nat.succ_mul]; omega), hy, show (r + 1) * sz + c - sz = r * sz + c from by rw [Nat.succ_mul]; omega]
  exact flatten_at (fun r hr => hl r (by simp [hr])) (by simpa using h) hx
theorem flatten_get {sz : Nat} : ∀ {rows : List (List AV)} {j : Nat} {x : AV}, (∀ r ∈ rows, r.length = sz) → rows.flatten[j]? = some x → ∃ r row c, rows[r]? = some row ∧ row[c]? = some x ∧ j = r * sz + c
 | [], j, x, _, h => by simp at h
 | y :: rows, j, x, hl, h => by
  have hy := hl y (by simp)
  rw [List.flatten_cons] at h
  rcases Nat.lt_or_ge j y.length with h1 | h1
  ·rw [List.getElem?_append_left h1] at h
   exact ⟨0, y, j, by simp, h, by simp⟩
  ·rw [List.getElem?_append_right h1] at h
   obtain ⟨r, row, c, h2, h3, h4⟩ := flatten_get (fun r hr => hl r (by simp [hr])) h
   exact ⟨r + 1, row, c, by simpa using h2, h3, by rw [Nat.succ_mul]; omega⟩
theorem RepRows.flat {b : Nat} : ∀ {rows : List (List AV)} {o : Nat}, RepRows w g b o rows → RepCells w g b o rows.flatten
 | [], o, _ => trivial
 | r :: rows, o, h => by
  rw [List.flatten_cons]
  exact h.1.append (RepRows.flat h.2)
theorem ObjIn.flat {arr : Array Value} {o : AObj} (h : ObjIn w g arr o) : RepList w g o.rows.flatten (arr.toList.take (o.rows.length * o.sz)) := by
 have hl : ∀ r ∈ o.rows, r.length = o.sz := fun r hr => by
  obtain ⟨j, hj⟩ := List.mem_iff_getElem?.1 hr
  exact (h.2 j r hj).1
 have h1 := h.1
 refine RepList.of (by rw [flat_len hl]; simp; omega) fun j x hx => ?_
 have hj : j < o.rows.length * o.sz := by rw [← flat_len hl]; exact (List.getElem?_eq_some_iff.1 hx).1
 obtain ⟨r, row, c, h2, h3, h4⟩ := flatten_get hl hx
 subst h4
 obtain ⟨v, h5, h6⟩ := (h.2 r row h2).2 c x h3
 exact ⟨v, by rw [List.getElem?_take_of_lt hj]; simpa using h5, h6⟩
theorem ObjIn.of_flat {arr : Array Value} {o : AObj} (hl : ∀ r ∈ o.rows, r.length = o.sz) (hs : o.rows.length * o.sz ≤ arr.size) (h : RepList w g o.rows.flatten (arr.toList.take (o.rows.length * o.sz))) : ObjIn w g arr o := by
 refine ⟨hs, fun r row hr => ⟨hl row (List.mem_of_getElem? hr), fun c x hx => ?_⟩⟩
 obtain ⟨v, h1, h2⟩ := h.get _ x (flatten_at hl hr hx)
 have hlt : r * o.sz + c < o.rows.length * o.sz := by
  have := (List.getElem?_eq_some_iff.1 h1).1
  simp at this
  omega
 rw [List.getElem?_take_of_lt hlt] at h1
 exact ⟨v, by simpa using h1, h2⟩
theorem adopt (hI : Inv w g) {base e size n blk : Nat} {v : Value} {vs : List Value} (hown : w'.ownsRow base e size v n vs) (hn : 0 < n) (hgr : w.grownBy w' (some blk)) {H : Nat → Option AObj} (hH : Sub H g.H) (hblk : ∀ i o, H i = some o → g.μ i ≠ blk)
  (hnew : ∀ b, v.ownBlock = some b → b = blk ∨ w.heap.size ≤ b) (hown2 : ∀ b, v.ownBlock = some b → g.Own b ∨ w.heap.size ≤ b) (hko : g.Own blk ∨ w.heap.size ≤ blk)
  {rows : List (List AV)} (hrl : ∀ r ∈ rows, r.length = size) (hrn : rows.length = n) (hrep : RepList w g rows.flatten vs) (hdr : w.drawn ≤ w'.drawn) :
  ∃ g', Step w g w' g' ∧ Inv w' g' ∧ g'.H = upd H g.n (some ⟨e, size, rows⟩) ∧ g'.n = g.n + 1 ∧ Rep w' g' (.os g.n 0 n) v := by
 rcases hown.2 with ⟨_, h0⟩ | ⟨b, cap, cur, rfl, h1, h2, h3, h4, h5, h6⟩
 ·omega
 have hb := hnew b rfl
 have hb2 := hown2 b rfl
 have hbs : b < w'.heap.size := (Array.getElem?_eq_some_iff.1 h2).1
 have hkeepH : ∀ i o, H i = some o → w'.heap[g.μ i]? = w.heap[g.μ i]? := fun i o ho =>
  hgr.block _ (hI.lt i o (hH i o ho)).2 (fun e => hblk i o ho (by simpa using e))
 have hlt : ∀ i o, H i = some o → i < g.n := fun i o ho => (hI.lt i o (hH i o ho)).1
 have hS : Step w g w' { μ := upd g.μ g.n b, H := upd H g.n (some ⟨e, size, rows⟩), n := g.n + 1, dr := g.dr } := {
  os := hgr.os, tape := hgr.tape, output := hgr.output, size := hgr.size
  keep := fun k hk hno => hgr.block k hk (fun e => by
   cases e
   rcases hko with h | h
   ·exact hno h
   ·omega)
  shape := fun i o' ob hi ho h => by
   have ho' : H i = some o' := by simpa [upd, Nat.ne_of_lt hi] using ho
   exact ⟨ob, by rw [hkeepH i o' ho']; exact h, Like.refl _ _⟩
  own := fun k ⟨i, o, k1, k2⟩ => by
   by_cases hi : i = g.n
   ·simp only [upd, hi, if_true] at k2
    rw [← k2]; exact hb2
   ·simp only [upd, if_neg hi] at k1 k2
    exact .inl ⟨i, o, hH i o k1, k2⟩
  n := Nat.le_succ _
  mu := fun i hi => by simp [upd, Nat.ne_of_lt hi]
  live := fun i o' hi ho => by
   have ho' : H i = some o' := by simpa [upd, Nat.ne_of_lt hi] using ho
   exact ⟨o', hH i o' ho', rfl, rfl⟩
  dr := rfl
  drawn := fun _ => hdr }
 refine ⟨_, hS, ?_, rfl, rfl, ⟨_, _, rfl⟩, Nat.lt_succ_self _, fun o ho => ?_⟩
 ·refine hI.step hS (fun i o ho => ?_) (fun i j o o' k1 k2 k3 => ?_) (fun i o ho => ?_)
  ·by_cases hi : i = g.n
   ·simp only [upd, hi, if_true]; exact ⟨Nat.lt_succ_self _, hbs⟩
   ·have ho' : H i = some o := by simpa [upd, hi] using ho
    have := hI.lt i o (hH i o ho')
    simp only [upd, if_neg hi]
    exact ⟨by show i < g.n + 1; omega, Nat.lt_of_lt_of_le this.2 hgr.size⟩
  ·have nb : ∀ i o, H i = some o → g.μ i ≠ b := fun i o ho e => by
    rcases hb with h | h
    ·exact hblk i o ho (e.trans h)
    ·have := (hI.lt i o (hH i o ho)).2; omega
   by_cases hi : i = g.n <;> by_cases hj : j = g.n
   ·rw [hi, hj]
   ·exfalso
    simp only [upd, hi, hj, if_true, if_false] at k2 k3
    exact nb j o' k2 k3.symm
   ·exfalso
    simp only [upd, hi, hj, if_true, if_false] at k1 k3
    exact nb i o k1 k3
   ·simp only [upd, if_neg hi, if_neg hj] at k1 k2 k3
    exact hI.inj i j o o' (hH i o k1) (hH j o' k2) k3
  ·by_cases hi : i = g.n
   ·subst hi
    simp only [upd, if_true, Option.some.injEq] at ho
    subst ho
    refine .inr ⟨.cells cur e (0, 0), by simpa [upd] using h2, rfl, rfl, ObjIn.of_flat hrl (by show rows.length * size ≤ _; rw [hrn, h5]; exact Nat.mul_le_mul_right _ h3) ?_⟩
    show RepList _ _ rows.flatten (cur.toList.take (rows.length * size))
    rw [hrn, h6]
    exact hrep.mono hS
   ·have ho' : H i = some o := by simpa [upd, hi] using ho
    exact .inl ⟨hH i o ho', hkeepH i o ho'⟩
 ·simp only [upd, if_true, Option.some.injEq] at ho
  subst ho
  exact ⟨cap, cur, by simp [upd], by simpa [upd] using h2, by simpa using h5, h3, by simpa using h4⟩
theorem grownBy_any {row : Option Nat} {blk : Nat} (h : w.grownBy w' row) (hr : row = none ∨ row = some blk) : w.grownBy w' (some blk) :=
 ⟨h.os, h.tape, h.output, h.size, fun k hk hne => h.block k hk (by rcases hr with rfl | rfl <;> simp_all)⟩
theorem flat_cut {sz : Nat} : ∀ {rows : List (List AV)} (off len : Nat), (∀ r ∈ rows, r.length = sz) → ((rows.drop off).take len).flatten = (rows.flatten.drop (off * sz)).take (len * sz)
 | [], off, len, _ => by simp
 | r :: rows, 0, 0, _ => by simp
 | r :: rows, 0, len + 1, h => by
  have hr := h r (by simp)
  have ih := flat_cut (rows := rows) 0 len fun r hr => h r (by simp [hr])
  simp only [List.drop_zero, Nat.zero_mul, List.take_succ_cons, List.flatten_cons] at ih ⊢
  rw [ih, List.take_append, hr, show (len + 1) * sz - sz = len * sz from by rw [Nat.succ_mul]; omega, List.take_of_length_le (l := r) (by rw [hr, Nat.succ_mul]; omega)]
 | r :: rows, off + 1, len, h => by
  have hr := h r (by simp)
  have ih := flat_cut (rows := rows) off len fun r hr => h r (by simp [hr])
  simp only [List.drop_succ_cons, List.flatten_cons]
  rw [ih, List.drop_append, hr, show (off + 1) * sz - sz = off * sz from by rw [Nat.succ_mul]; omega, List.drop_eq_nil_of_le (as := r) (by rw [hr, Nat.succ_mul]; omega), List.nil_append]
def SrcOk (w : World) (g : Gh) (news : List (List AV)) (xv : Value) : Prop := ∃ a cap, xv = .slice a news.length cap ∧ (a = none → cap = 0 ∧ news = []) ∧
 ∀ ad, a = some ad → ad.spot = none ∧ ∃ cs : List Value, cs.length = news.flatten.length ∧ (∀ j v, cs[j]? = some v → w.cell? ⟨ad.block, ad.off + j, none⟩ = some v) ∧ RepList w g news.flatten cs
theorem src_ok (hI : Inv w g) {x : AV} {xv : Value} (hx : Rep w g x xv) {news : List (List AV)} (h : srcRows g.H x = some news) : SrcOk w g news xv := by
 cases x with
 | ls nz rows =>
  cases h
  obtain ⟨a1, c1, rfl, k1, k2, k3, k4, k5⟩ := hx
  refine ⟨a1, c1, rfl, k4, fun ad had => ?_⟩
  obtain ⟨k6, k7⟩ := k5 ad had
  exact ⟨k6, rep_cells_list (RepRows.flat k7)⟩
 | os i off len =>
  simp only [srcRows] at h
  split at h
  ·rename_i o ho
   split at h
   ·rename_i hl
    cases h
    obtain ⟨_, _, hx⟩ := hx
    obtain ⟨cap, arr, rfl, h1, h2, h3, h4⟩ := hx o ho
    obtain ⟨arr', ha', hob⟩ := hI.cells ho ⟨arr, _, h1⟩
    rw [h1] at ha'
    cases ha'
    have hrl : ∀ r ∈ o.rows, r.length = o.sz := fun r hr => by
     obtain ⟨q, hq⟩ := List.mem_iff_getElem?.1 hr
     exact (hob.2 q r hq).1
    have hlen : ((o.rows.drop off).take len).length = len := by simp; omega
    refine ⟨some ⟨g.μ i, off * o.sz, none⟩, cap, by rw [hlen], by simp, ?_⟩
    rintro ad ⟨rfl⟩
    have hf := hob.flat
    rw [flat_cut off len hrl]
    have hmul : off * o.sz + len * o.sz ≤ o.rows.length * o.sz := by rw [← Nat.add_mul]; exact Nat.mul_le_mul_right _ hl
    have hc := (hf.drop (off * o.sz)).take (len * o.sz)
    refine ⟨rfl, _, hc.length.symm, fun j v hj => ?_, hc⟩
    rw [List.getElem?_take] at hj
    split at hj
    ·rw [List.getElem?_drop, List.getElem?_take] at hj
     split at hj
     ·rw [cell_of_heap h1]
      simpa using hj
     ·cases hj
    ·cases hj
   ·cases h
  ·cases h
 | _ => simp [srcRows] at h
theorem app_sound (hI : Inv w g) {t ty e : TypeId} {i : TypeInfo} {z : Value} (ht : P.underlying t = some (.slice e)) (hi : P.info? e = some i) (hz : i.zero = some z) (hzs : z.cells.size = i.size) (hs0 : 0 < i.size) (hb0 : 0 < i.bytes)
  {news : List (List AV)} {xv : Value} (hx : SrcOk w g news xv) (hev : Even i.size news) :
  (∀ sv, Rep w g (.ls false []) sv → news.length * i.bytes ≤ 140737488355328 →
   (news = [] → (Builtin.append_ #[t, t] ty #[sv, xv]).run P w = .ok (.slice none 0 0) w) ∧
   (news ≠ [] → ∃ v w' g', (Builtin.append_ #[t, t] ty #[sv, xv]).run P w = .ok v w' ∧ Step w g w' g' ∧ Inv w' g' ∧ g'.H = upd g.H g.n (some ⟨e, i.size, news⟩) ∧ g'.n = g.n + 1 ∧ Rep w' g' (.os g.n 0 news.length) v)) := by
 intro sv hs hlen
 obtain ⟨a0, c0, rfl, h1, h2, h3, h4, _⟩ := hs
 have ha : a0 = none := by cases a0 <;> simp_all
 subst ha
 obtain ⟨rfl, _⟩ := h4 rfl
 obtain ⟨a1, c1, rfl, k4, k5⟩ := hx
 constructor
 ·rintro rfl
  cases a1 <;> simp [Builtin.append_, run_underlying ht, run_sizeOf' w hi, Builtin.lenOf, Builtin.firstCells, loadCells, loadCellsFrom]
 ·intro hne
  cases a1 with
  | none => exact absurd (k4 rfl).2 hne
  | some ad =>
   obtain ⟨b, o, sp⟩ := ad
   obtain ⟨k6, cs, m1, m2, m3⟩ := k5 _ rfl
   cases k6
   have hl : ∀ r ∈ news, r.length = i.size := fun r hr => (hev r hr).1
   have h1c : ∀ u ∈ cs, u.oneCell' = true := one_list m3 (by
    rw [List.all_flatten, List.all_eq_true]
    intro r hr
    exact (hev r hr).2)
   have hmx : 0 + news.length ≤ maxLen := by
    have : news.length ≤ news.length * i.bytes := Nat.le_mul_of_pos_right _ hb0
    simp only [maxLen]; omega
   obtain ⟨v', w', e1, e2, e3, e4, e5⟩ := run_append_own_at (P := P) w w.heap.size t ty e i z i.size i.bytes ht hi hz rfl rfl hzs hs0 (.slice none 0 0) 0 [] ⟨by simp, .inl ⟨rfl, rfl⟩⟩
    ⟨b, o, none⟩ news.length c1 cs (by rw [m1, flat_len hl]) (fun j u hj => by rw [add_none]; exact m2 j u hj) h1c hmx (by simpa using hlen) (Nat.le_refl _)
   have hnl : 0 < news.length := List.length_pos_iff.2 hne
   simp only [Nat.zero_add, List.nil_append] at e2
   have e5' : v'.ownBlock = some w.heap.size := by
    rcases e5 with h | h
    ·rcases e2.2 with ⟨_, h0⟩ | ⟨q, _, _, rfl, _⟩
     ·omega
     ·simp [Value.ownBlock] at h
    ·exact h
   obtain ⟨g', f1, f2, f3, f4, f5⟩ := adopt (blk := w.heap.size) hI e2 hnl (grownBy_any e3 (.inl rfl)) (Sub.refl g.H) (fun j o hj e => by have := (hI.lt j o hj).2; omega)
    (fun b hb => by rw [e5'] at hb; cases hb; exact .inl rfl) (fun b hb => by rw [e5'] at hb; cases hb; exact .inr (Nat.le_refl _)) (.inr (Nat.le_refl _)) hl rfl m3 (run_drawn P _ e1)
   exact ⟨v', w', g', e1, f1, f2, f3, f4, f5⟩
theorem app_own_sound (hI : Inv w g) {t ty e : TypeId} {i : TypeInfo} {z : Value} (ht : P.underlying t = some (.slice e)) (hi : P.info? e = some i) (hz : i.zero = some z) (hzs : z.cells.size = i.size) (hs0 : 0 < i.size) (hb0 : 0 < i.bytes)
  {news : List (List AV)} {xv : Value} (hx : SrcOk w g news xv) (hev : Even i.size news) {j len : Nat} {sv : Value} (hs : Rep w g (.os j 0 len) sv) {o : AObj} (ho : g.H j = some o) (hsz : o.sz = i.size) (hE : o.E = e) (hrl : len ≤ o.rows.length)
  (hlen : (len + news.length) * i.bytes ≤ 140737488355328) (h0 : 0 < len + news.length) :
  ∃ v w' g', (Builtin.append_ #[t, t] ty #[sv, xv]).run P w = .ok v w' ∧ Step w g w' g' ∧ Inv w' g' ∧ g'.H = upd (upd g.H j none) g.n (some ⟨e, i.size, o.rows.take len ++ news⟩) ∧ g'.n = g.n + 1 ∧ Rep w' g' (.os g.n 0 (len + news.length)) v := by
 obtain ⟨_, hjn, hs⟩ := hs
 obtain ⟨cap, arr, rfl, h1, h2, h3, h4⟩ := hs o ho
 obtain ⟨arr', ha', hob⟩ := hI.cells ho ⟨arr, _, h1⟩
 have : arr' = arr := by rw [h1] at ha'; cases ha'; rfl
 subst this
 have hob : ObjIn w g arr' o := hob
 have hrl0 : ∀ r ∈ o.rows, r.length = o.sz := fun r hr => by
  obtain ⟨q, hq⟩ := List.mem_iff_getElem?.1 hr
  exact (hob.2 q r hq).1
 have hflat : RepList w g (o.rows.take len).flatten (arr'.toList.take (len * i.size)) := by
  have h1 := hob.flat.take (len * i.size)
  have h2 := flat_cut (rows := o.rows) 0 len hrl0
  simp only [List.drop_zero, Nat.zero_mul] at h2
  rw [h2, hsz]
  rwa [List.take_take, hsz, Nat.min_eq_left (Nat.mul_le_mul_right _ hrl)] at h1
 subst hE
 obtain ⟨a1, c1, rfl, k4, k5⟩ := hx
 have hol : ∀ r ∈ o.rows, r.length = i.size := fun r hr => by
  obtain ⟨q, hq⟩ := List.mem_iff_getElem?.1 hr
  rw [← hsz]
  exact (hob.2 q r hq).1
 have hnl : ∀ r ∈ news, r.length = i.size := fun r hr => (hev r hr).1
 have hmx : len + news.length ≤ maxLen := by
  have : len + news.length ≤ (len + news.length) * i.bytes := Nat.le_mul_of_pos_right _ hb0
  simp only [maxLen]; omega
 have hown : w.ownsRow 0 o.E i.size (.slice (some ⟨g.μ j, 0, none⟩) len cap) len (arr'.toList.take (len * i.size)) := by
  refine ⟨by simp; rw [h2, hsz]; simp; rw [Nat.min_eq_left h3], .inr ⟨g.μ j, cap, arr', rfl, Nat.zero_le _, h1, h3, by simpa using h4, by rw [h2, hsz]; simp, rfl⟩⟩
 have hsub : Sub (upd g.H j none) g.H := fun q oq hq => by
  by_cases e : q = j
  ·simp [upd, e] at hq
  ·simpa [upd, e] using hq
 have hnb : ∀ q oq, upd g.H j none q = some oq → g.μ q ≠ g.μ j := fun q oq hq e => by
  by_cases e' : q = j
  ·simp [upd, e'] at hq
  ·exact e' (hI.inj q j oq o (by simpa [upd, e'] using hq) ho e)
 rw [show (⟨g.μ j, 0 * o.sz, none⟩ : Addr) = ⟨g.μ j, 0, none⟩ from by simp]
 obtain ⟨cs, xadr, m1, m2, m3, hrun⟩ : ∃ (cs : List Value) (xa : Addr), RepList w g news.flatten cs ∧ (∀ u ∈ cs, u.oneCell' = true) ∧ cs.length = news.length * i.size ∧
   ∃ v' w', (Builtin.append_ #[t, t] ty #[.slice (some ⟨g.μ j, 0, none⟩) len cap, .slice a1 news.length c1]).run P w = .ok v' w' ∧ w'.ownsRow 0 o.E i.size v' (len + news.length) (arr'.toList.take (len * i.size) ++ cs) ∧ w.grownBy w' (some (g.μ j)) ∧ (v' = .slice none 0 0 → False) ∧ (v'.ownBlock = some (g.μ j) ∨ v'.ownBlock = some w.heap.size) := by
  cases a1 with
  | none =>
   obtain ⟨rfl, hn⟩ := k4 rfl
   subst hn
   refine ⟨[], ⟨0, 0, none⟩, rfl, by simp, by simp, .slice (some ⟨g.μ j, 0, none⟩) len cap, w, ?_, ?_, ?_, by simp, .inl rfl⟩
   ·simp [Builtin.append_, run_underlying ht, run_sizeOf' w hi, Builtin.lenOf, Builtin.firstCells, h3]
    rfl
   ·simpa using hown
   ·exact ⟨rfl, rfl, rfl, Nat.le_refl _, fun _ _ _ => rfl⟩
  | some ad =>
   obtain ⟨b, oo, sp⟩ := ad
   obtain ⟨k6, cs, m1, m2, m3⟩ := k5 _ rfl
   cases k6
   have h1c : ∀ u ∈ cs, u.oneCell' = true := one_list m3 (by
    rw [List.all_flatten, List.all_eq_true]
    intro r hr
    exact (hev r hr).2)
   obtain ⟨v', w', e1, e2, e3, e4, e5⟩ := run_append_own_at (P := P) w 0 t ty o.E i z i.size i.bytes ht hi hz rfl rfl hzs hs0 _ len _ hown
    ⟨b, oo, none⟩ news.length c1 cs (by rw [m1, flat_len hnl]) (fun j u hj => by rw [add_none]; exact m2 j u hj) h1c hmx hlen (Nat.zero_le _)
   exact ⟨cs, ⟨0, 0, none⟩, m3, h1c, by rw [m1, flat_len hnl], v', w', e1, e2, e3, fun h => by simpa using (e4.1 h).1, e5⟩
 obtain ⟨v', w', e1, e2, e3, e4, e5⟩ := hrun
 obtain ⟨g', f1, f2, f3, f4, f5⟩ := adopt (blk := g.μ j) hI e2 h0 e3 hsub hnb (fun b hb => by rcases e5 with h | h <;> rw [h] at hb <;> cases hb <;> simp) (fun b hb => by
    rcases e5 with h | h <;> rw [h] at hb <;> cases hb
    ·exact .inl ⟨j, o, ho, rfl⟩
    ·exact .inr (Nat.le_refl _)) (.inl ⟨j, o, ho, rfl⟩) (rows := o.rows.take len ++ news) (fun r hr => by
    rcases List.mem_append.1 hr with h | h
    ·exact hol r (List.mem_of_mem_take h)
    ·exact hnl r h) (by simp [Nat.min_eq_left hrl]) (by rw [List.flatten_append]; exact hflat.append m1) (run_drawn P _ e1)
 exact ⟨v', w', g', e1, f1, f2, f3, f4, f5⟩
theorem grown_row {i : TypeInfo} {z : Value} {e : TypeId} (hzs : z.cells.size = i.size) {n m : Nat} {xs news : List Value} (hx : xs.length = n * i.size) (hl : news.length = m * i.size) (old : Nat) (h63 : n + m ≤ maxLen) (row : Option Nat) :
  (w.drew.alloc (.cells ((xs ++ news).toArray ++ Builtin.zeroCells z.cells (grownCap w (n + m) old e - (n + m))) e)).ownsRow w.heap.size e i.size (.slice (some ⟨w.heap.size, 0, none⟩) (n + m) (grownCap w (n + m) old e)) (n + m) (xs ++ news) ∧
   w.grownBy (w.drew.alloc (.cells ((xs ++ news).toArray ++ Builtin.zeroCells z.cells (grownCap w (n + m) old e - (n + m))) e)) row := by
 have hlen : (xs ++ news).length = (n + m) * i.size := by rw [List.length_append, hx, hl, Nat.add_mul]
 have hge := grownCap_ge w (n + m) old e
 have hcm : grownCap w (n + m) old e ≤ maxLen := grownCap_le_maxLen w (n + m) old e h63
 refine ⟨⟨hlen, .inr ⟨w.heap.size, _, _, rfl, Nat.le_refl _, heap_alloc_new w.drew _, hge, hcm, ?_, ?_⟩⟩, ⟨rfl, rfl, rfl, by simp, fun k hk _ => heap_alloc_old w.drew _ hk⟩⟩
 ·rw [Array.size_append, List.size_toArray, hlen, size_zeroCells, hzs, ← Nat.add_mul]
  congr 1
  omega
 ·rw [Array.toList_append, ← hlen]
  exact List.take_left
theorem app_off_sound (hI : Inv w g) {t ty e : TypeId} {i : TypeInfo} {z : Value} (ht : P.underlying t = some (.slice e)) (hi : P.info? e = some i) (hz : i.zero = some z) (hzs : z.cells.size = i.size) (hs0 : 0 < i.size) (hb0 : 0 < i.bytes)
  {news : List (List AV)} {xv : Value} (hx : SrcOk w g news xv) (hev : Even i.size news) {j off len : Nat} {sv : Value} (hs : Rep w g (.os j off len) sv) {o : AObj} (ho : g.H j = some o) (hsz : o.sz = i.size) (hE : o.E = e) (hrl : off + len ≤ o.rows.length)
  (hlen : (off + len + news.length) * i.bytes ≤ 140737488355328) (h0 : 0 < len + news.length) :
  ∃ v w' g' off' rows', (Builtin.append_ #[t, t] ty #[sv, xv]).run P w = .ok v w' ∧ Step w g w' g' ∧ Inv w' g' ∧ g'.H = upd (upd g.H j none) g.n (some ⟨e, i.size, rows'⟩) ∧ g'.n = g.n + 1 ∧ Rep w' g' (.os g.n off' (len + news.length)) v ∧
   ((off' = off ∧ rows' = o.rows.take (off + len) ++ news) ∨ (off' = 0 ∧ rows' = (o.rows.drop off).take len ++ news)) := by
 have hso := src_ok hI hs (show srcRows g.H (.os j off len) = some ((o.rows.drop off).take len) by simp only [srcRows, ho]; rw [if_pos hrl])
 obtain ⟨q0, hjn, hs⟩ := hs
 obtain ⟨cap, arr, rfl, h1, h2, h3, h4⟩ := hs o ho
 have hnl : ∀ r ∈ news, r.length = i.size := fun r hr => (hev r hr).1
 have hsrc : ∃ cs, RepList w g news.flatten cs ∧ Src P i.size t xv news.length cs w := by
  obtain ⟨a1, c1, rfl, k4, k5⟩ := hx
  cases a1 with
  | none =>
   obtain ⟨rfl, hn⟩ := k4 rfl
   subst hn
   exact ⟨[], rfl, Src.ofNil w ht 0⟩
  | some ad =>
   obtain ⟨b, oo, sp⟩ := ad
   obtain ⟨k6, cs, m1, m2, m3⟩ := k5 _ rfl
   cases k6
   have h1c : ∀ u ∈ cs, u.oneCell' = true := one_list m3 (by
    rw [List.all_flatten, List.all_eq_true]
    intro r hr
    exact (hev r hr).2)
   exact ⟨cs, m3, Src.ofSlice w ht ⟨b, oo, none⟩ _ _ cs (by rw [m1, flat_len hnl]) (fun j u hj => by rw [add_none]; exact m2 j u hj) h1c⟩
 obtain ⟨cs, hcs, hsrc⟩ := hsrc
 have hcl : cs.length = news.length * i.size := hsrc.newsLen
 have hbig : off + len + news.length ≤ maxLen := by
  have : off + len + news.length ≤ (off + len + news.length) * i.bytes := Nat.le_mul_of_pos_right _ hb0
  simp only [maxLen]; omega
 by_cases hroom : len + news.length ≤ cap
 ·have hsv0 : Rep w g (.os j 0 (off + len)) (.slice (some ⟨g.μ j, 0, none⟩) (off + len) (off + cap)) := ⟨⟨_, _, rfl⟩, hjn, fun o' ho' => by
   rw [ho] at ho'; cases ho'
   exact ⟨off + cap, arr, by simp, h1, by rw [Nat.zero_add]; exact h2, by omega, by rw [Nat.zero_add]; exact h4⟩⟩
  obtain ⟨v, w', g', e1, e2, e3, e4, e5, e6⟩ := app_own_sound (P := P) (ty := ty) hI ht hi hz hzs hs0 hb0 hx hev hsv0 ho hsz hE (by omega) hlen (by omega)
  have hpos : ∀ q, q < cs.length → off * i.size + len * i.size + q < arr.size := fun q hq => by
   rw [h2, hsz]
   have h5 : (off + len + news.length) * i.size ≤ (off + cap) * i.size := Nat.mul_le_mul_right _ (by omega)
   rw [Nat.add_mul, Nat.add_mul] at h5
   omega
  have hc : ∀ q, q < cs.length → (w.cell? ⟨g.μ j, off * i.size + len * i.size + q, none⟩).isSome = true := fun q hq => by
   rw [cell_of_heap h1, Array.getElem?_eq_getElem (hpos q hq)]; rfl
  have hf : ∀ q, q < cs.length → w.frozen? ⟨g.μ j, off * i.size + len * i.size + q, none⟩ = false := fun q hq => by
   simp [World.frozen?, h1]
  have r1 := run_append_room_src (P := P) w t t ty e i ht hi (g.μ j) (off * i.size) len cap xv news.length cs hsrc hroom hc hf
  have r0 := run_append_room_src (P := P) w t t ty e i ht hi (g.μ j) 0 (off + len) (off + cap) xv news.length cs hsrc (by omega) (fun q hq => by rw [Nat.zero_add, Nat.add_mul]; exact hc q hq) (fun q hq => by rw [Nat.zero_add, Nat.add_mul]; exact hf q hq)
  rw [Nat.zero_add, Nat.add_mul] at r0
  rw [r0] at e1
  cases e1
  refine ⟨_, _, g', off, _, by rw [hsz]; exact r1, e2, e3, e4, e5, ⟨⟨_, _, rfl⟩, e6.2.1, fun o' ho' => ?_⟩, .inl ⟨rfl, rfl⟩⟩
  obtain ⟨cap', arr', f1, f2, f3, f4, f5⟩ := e6.2.2 o' ho'
  have hsz' : o'.sz = i.size := by
   rw [e4, upd_same] at ho'; cases ho'; rfl
  simp only [Value.slice.injEq, Option.some.injEq, Addr.mk.injEq] at f1
  obtain ⟨⟨f6, _⟩, _, f7⟩ := f1
  exact ⟨cap, arr', by rw [← f6, hsz'], f2, by rw [f3, ← f7, Nat.zero_add], by omega, by omega⟩
 ·obtain ⟨a2, c2, hv2, _, k5⟩ := hso
  have hdl : ((o.rows.drop off).take len).length = len := by rw [List.length_take, List.length_drop]; omega
  rw [hdl] at hv2
  cases hv2
  obtain ⟨_, cs0, m1, m2, m3⟩ := k5 _ rfl
  have hol : ∀ r ∈ (o.rows.drop off).take len, r.length = i.size := fun r hr => by
   obtain ⟨arr', ha', hob⟩ := hI.cells ho ⟨arr, _, h1⟩
   obtain ⟨q, hq⟩ := List.mem_iff_getElem?.1 (List.mem_of_mem_drop (List.mem_of_mem_take hr))
   rw [← hsz]
   exact (hob.2 q r hq).1
  have hl0 : cs0.length = len * i.size := by rw [m1, flat_len hol, hdl]
  have hold := run_firstCells_some (P := P) w.drew i.size len ⟨g.μ j, off * o.sz, none⟩ len cap cs0 hl0 (fun q u hq => by rw [add_none]; simpa using m2 q u hq)
  have hrun := run_append_grow_src (P := P) w t t ty e i z ht hi hz (some ⟨g.μ j, off * o.sz, none⟩) len cap cs0 hold xv news.length cs hsrc (by omega) (by simp only [maxLen] at hbig; omega) (growslice_fits (by omega) (by
   have : (len + news.length) * i.bytes ≤ (off + len + news.length) * i.bytes := Nat.mul_le_mul_right _ (by omega)
   omega))
  obtain ⟨hown, hgr⟩ := grown_row (w := w) (e := e) (z := z) (i := i) hzs hl0 hcl cap (n := len) (m := news.length) (by omega) (some w.heap.size)
  have hsub : Sub (upd g.H j none) g.H := fun q oq hq => by
   by_cases e : q = j
   ·simp [upd, e] at hq
   ·simpa [upd, e] using hq
  obtain ⟨g', f1, f2, f3, f4, f5⟩ := adopt (blk := w.heap.size) hI hown h0 hgr hsub (fun q oq hq e => by have := (hI.lt q oq (hsub q oq hq)).2; omega)
   (fun b hb => by cases hb; exact .inl rfl) (fun b hb => by cases hb; exact .inr (Nat.le_refl _)) (.inr (Nat.le_refl _)) (rows := (o.rows.drop off).take len ++ news) (fun r hr => by
    rcases List.mem_append.1 hr with h | h
    ·exact hol r h
    ·exact hnl r h) (by rw [List.length_append, hdl]) (by rw [List.flatten_append]; exact m3.append hcs) (run_drawn P _ hrun)
  exact ⟨_, _, g', 0, _, hrun, f1, f2, f3, f4, f5, .inr ⟨rfl, rfl⟩⟩
theorem more_rep (g : Gh) (b : Nat) (o : AObj) {w : World} {arr : Array Value} {E : TypeId} (hb : w.heap[b]? = some (.cells arr E (0, 0))) : Rep w (g.more b o) (.op g.n 0 0) (.pointer (some ⟨b, 0, none⟩)) :=
 ⟨⟨_, rfl⟩, more_lt g b o, fun o' ho => by
  rw [Gh.more_H, upd_same] at ho
  cases ho
  exact ⟨by simp [Gh.more, upd], arr, E, by simpa [Gh.more, upd] using hb⟩⟩
theorem more_rep_os {w : World} (g : Gh) (b : Nat) (o : AObj) {arr : Array Value} {len cap : Nat} (hb : w.heap[b]? = some (.cells arr o.E (0, 0))) (hs : arr.size = cap * o.sz) (hl : len ≤ cap) (hc : cap ≤ maxLen) : Rep w (g.more b o) (.os g.n 0 len) (.slice (some ⟨b, 0, none⟩) len cap) :=
 ⟨⟨_, _, rfl⟩, more_lt g b o, fun o' ho => by
  rw [Gh.more_H, upd_same] at ho
  cases ho
  exact ⟨cap, arr, by simp [Gh.more, upd], by simpa [Gh.more, upd] using hb, by simpa using hs, hl, by simpa using hc⟩⟩
theorem make_sound (hI : Inv w g) {t e : TypeId} {i : TypeInfo} {z : Value} (ht : P.underlying t = some (.slice e)) (hi : P.info? e = some i) (hz : i.zero = some z) (hzs : z.cells.size = i.size) {m c : Int} (h0 : 0 ≤ m) (hmc : m ≤ c) (hm : c * i.bytes ≤ 140737488355328) (hmm : c ≤ 9223372036854775807) :
  ∃ v w' g', (Instr.makeSlice t (.int .i64 m) (.int .i64 c)).run P w = .ok v w' ∧ Step w g w' g' ∧ Inv w' g' ∧ g'.H = upd g.H g.n (some ⟨e, i.size, List.replicate m.toNat (z.cells.toList.map AV.ofVal)⟩) ∧ g'.n = g.n + 1 ∧ Rep w' g' (.os g.n 0 m.toNat) v := by
 have hrun := run_make (P := P) w t e i z ht hi hz .i64 .i64 m c h0 hmc (by rw [Int.mul_comm]; omega) hmm
 have hmul : m.toNat * i.size ≤ c.toNat * i.size := Nat.mul_le_mul_right _ (by omega)
 have hob : ObjIn w g (madeCells z.cells (c.toNat * i.size)) ⟨e, i.size, List.replicate m.toNat (z.cells.toList.map AV.ofVal)⟩ := by
  refine ⟨by simp [size_madeCells]; exact hmul, fun r row hr => ?_⟩
  have hrow := List.eq_of_mem_replicate (List.mem_of_getElem? hr)
  have hrlt : r < m.toNat := by simpa using (List.getElem?_eq_some_iff.1 hr).1
  subst hrow
  refine ⟨by simp [hzs], fun cc x hx => ?_⟩
  have hcl : cc < i.size := by simpa [hzs] using (List.getElem?_eq_some_iff.1 hx).1
  have hx' : AV.ofVal (z.cells[cc]'(by omega)) = x := by
   have : (z.cells.toList.map AV.ofVal)[cc]? = some (AV.ofVal (z.cells[cc]'(by omega))) := by simp [show cc < z.cells.size by omega]
   rw [this] at hx; exact Option.some.inj hx
  refine ⟨z.cells[cc]'(by omega), ?_, by rw [← hx']; exact rep_ofVal w g _⟩
  have hin : r * i.size + cc < c.toNat * i.size := by
   have := Nat.mul_le_mul_right i.size (show r + 1 ≤ c.toNat from by omega)
   rw [Nat.succ_mul] at this; omega
  have hmod : (r * i.size + cc) % z.cells.size = cc := by rw [hzs, Nat.mul_comm, Nat.mul_add_mod, Nat.mod_eq_of_lt hcl]
  simp [madeCells, hin, hmod, show cc < z.cells.size by omega]
 refine ⟨_, _, g.more w.heap.size ⟨e, i.size, List.replicate m.toNat (z.cells.toList.map AV.ofVal)⟩, hrun, step_more hI ⟨e, i.size, List.replicate m.toNat (z.cells.toList.map AV.ofVal)⟩ _, inv_more hI _ _ hob, rfl, rfl, more_rep_os g w.heap.size _ (heap_alloc_new' _ _) (by simp [size_madeCells]) (by omega) (by simp [maxLen]; omega)⟩
theorem appz_sound (hI : Inv w g) {t tn ty e : TypeId} {i : TypeInfo} {z : Value} {kn : IntKind} (ht : P.underlying t = some (.slice e)) (htn : P.underlying tn = some (.int kn)) (hi : P.info? e = some i) (hz : i.zero = some z) (hzs : z.cells.size = i.size) (hs0 : 0 < i.size) {m : Int} (h0 : 0 < m) (hm : m * i.bytes ≤ 140737488355328) (hmm : m ≤ 9223372036854775807) :
  ∃ v w' g', (Builtin.append_ #[t, tn] ty #[.slice none 0 0, .int .i64 m]).run P w = .ok v w' ∧ Step w g w' g' ∧ Inv w' g' ∧ g'.H = upd g.H g.n (some ⟨e, i.size, List.replicate m.toNat (z.cells.toList.map AV.ofVal)⟩) ∧ g'.n = g.n + 1 ∧ Rep w' g' (.os g.n 0 m.toNat) v := by
 obtain ⟨k, rfl⟩ : ∃ k : Nat, m = k := ⟨m.toNat, by omega⟩
 rw [Int.toNat_natCast]
 have hk48 : k * i.bytes ≤ 281474976710656 := by
  have : ((k * i.bytes : Nat) : Int) ≤ 140737488355328 := by rw [Int.natCast_mul]; exact hm
  omega
 have hrun := Lib.run_append_nil_zeros (P := P) w t tn ty e i z .i64 kn ht htn hi hz k (by omega) hs0 (by omega) hk48
 have hge := grownCap_ge w k 0 e
 have hle := grownCap_le_maxLen w k 0 e (by simp only [maxLen]; omega)
 have hzl : (Builtin.zeroCells z.cells k).toList.length = k * i.size := by simp [Builtin.zeroCells, hzs]
 have hob : ObjIn w.drew g (Builtin.zeroCells z.cells k ++ Builtin.zeroCells z.cells (grownCap w k 0 e - k)) ⟨e, i.size, List.replicate k (z.cells.toList.map AV.ofVal)⟩ := by
  refine ObjIn.of_flat (fun r hr => by rw [List.eq_of_mem_replicate hr]; simp [hzs]) (by simp [Builtin.zeroCells, hzs]) ?_
  show RepList _ _ _ (List.take ((List.replicate k (z.cells.toList.map AV.ofVal)).length * i.size) _)
  rw [List.length_replicate, Array.toList_append, ← hzl, List.take_left]
  exact zeroCells_rep (z := z) w.drew g (by omega) k
 have hI1 := inv_drew hI
 refine ⟨_, _, g.more w.drew.heap.size ⟨e, i.size, List.replicate k (z.cells.toList.map AV.ofVal)⟩, hrun, (step_drew w g).trans (step_more hI1 ⟨e, i.size, List.replicate k (z.cells.toList.map AV.ofVal)⟩ _), inv_more hI1 _ _ hob, rfl, rfl, more_rep_os g w.drew.heap.size _ (heap_alloc_new' _ _) ?_ hge hle⟩
 simp only [Array.size_append, Builtin.zeroCells, Array.size_map, Array.size_range, hzs, ← Nat.add_mul]
 congr 1; omega
theorem splice_rows {arr : Array Value} {o : AObj} (hob : ObjIn w g arr o) {mid : List (List AV)} (hmid : ∀ r ∈ mid, r.length = o.sz) {off : Nat} (hl : off + mid.length ≤ o.rows.length) : ∀ r row, (o.rows.take off ++ (mid ++ o.rows.drop (off + mid.length)))[r]? = some row → row.length = o.sz ∧ ∀ c x, row[c]? = some x →
   (off * o.sz ≤ r * o.sz + c ∧ r * o.sz + c < off * o.sz + mid.flatten.length ∧ mid.flatten[r * o.sz + c - off * o.sz]? = some x) ∨
   (¬ (off * o.sz ≤ r * o.sz + c ∧ r * o.sz + c < off * o.sz + mid.flatten.length) ∧ ∃ old, o.rows[r]? = some old ∧ old[c]? = some x) := by
 have hzl : mid.flatten.length = mid.length * o.sz := flat_len hmid
 intro r row hr
 rw [hzl]
 by_cases c1 : r < off
 ·rw [List.getElem?_append_left (by simp; omega), List.getElem?_take_of_lt c1] at hr
  have hrl := (hob.2 r row hr).1
  refine ⟨hrl, fun c x hx => .inr ⟨?_, row, hr, hx⟩⟩
  have hc : c < row.length := (List.getElem?_eq_some_iff.1 hx).1
  have := Nat.mul_le_mul_right o.sz (show r + 1 ≤ off from c1)
  rw [Nat.succ_mul] at this
  omega
 ·rw [List.getElem?_append_right (by simp; omega)] at hr
  simp only [List.length_take, Nat.min_eq_left (show off ≤ o.rows.length by omega)] at hr
  by_cases c2 : r - off < mid.length
  ·rw [List.getElem?_append_left c2] at hr
   refine ⟨hmid row (List.mem_of_getElem? hr), fun c x hx => .inl ⟨?_, ?_, ?_⟩⟩
   ·have := Nat.mul_le_mul_right o.sz (show off ≤ r by omega); omega
   ·have hc : c < o.sz := by
     have := hmid row (List.mem_of_getElem? hr)
     have := (List.getElem?_eq_some_iff.1 hx).1
     omega
    have := Nat.mul_le_mul_right o.sz (show r + 1 ≤ off + mid.length by omega)
    rw [Nat.succ_mul, Nat.add_mul] at this
    omega
   ·have := flatten_at (sz := o.sz) hmid hr hx
    rwa [show r * o.sz + c - off * o.sz = (r - off) * o.sz + c from by
     have := Nat.mul_le_mul_right o.sz (show off ≤ r by omega)
     rw [Nat.sub_mul]; omega]
  ·rw [List.getElem?_append_right (by omega), List.getElem?_drop] at hr
   rw [show off + mid.length + (r - off - mid.length) = r from by omega] at hr
   have hrl := (hob.2 r row hr).1
   refine ⟨hrl, fun c x hx => .inr ⟨?_, row, hr, hx⟩⟩
   have := Nat.mul_le_mul_right o.sz (show off + mid.length ≤ r by omega)
   rw [Nat.add_mul] at this
   omega
theorem copy_sound (hI : Inv w g) {t t2 ty e : TypeId} {i : TypeInfo} (ht : P.underlying t = some (.slice e)) (hi : P.info? e = some i) {news : List (List AV)} {xv : Value} (hx : SrcOk w g news xv) (hev : Even i.size news)
  {j off len : Nat} {sv : Value} (hs : Rep w g (.os j off len) sv) {o : AObj} (ho : g.H j = some o) (hsz : o.sz = i.size) (hl : off + len ≤ o.rows.length) :
  ∃ w', (Builtin.copy_ #[t, t2] ty #[sv, xv]).run P w = .ok (.int .i64 (Nat.min news.length len : Nat)) w' ∧ Step w g w' { g with H := upd g.H j (some { o with rows := o.rows.take off ++ (news.take (Nat.min news.length len) ++ o.rows.drop (off + Nat.min news.length len)) }) } ∧
   Inv w' { g with H := upd g.H j (some { o with rows := o.rows.take off ++ (news.take (Nat.min news.length len) ++ o.rows.drop (off + Nat.min news.length len)) }) } := by
 obtain ⟨_, hjn, hs⟩ := hs
 obtain ⟨cap, arr, rfl, h1, h2, h3, h4⟩ := hs o ho
 obtain ⟨arr', ha', hob⟩ := hI.cells ho ⟨arr, _, h1⟩
 obtain ⟨a1, c1, rfl, k4, k5⟩ := hx
 have hm1 : Nat.min news.length len ≤ news.length := Nat.min_le_left _ _
 have hm2 : Nat.min news.length len ≤ len := Nat.min_le_right _ _
 generalize hm : Nat.min news.length len = m at hm1 hm2
 have hml : (news.take m).length = m := by rw [List.length_take]; omega
 have hnl : ∀ r ∈ news.take m, r.length = o.sz := fun r hr => by rw [hsz]; exact (hev r (List.mem_of_mem_take hr)).1
 obtain ⟨cs, hrep, hone, hfc⟩ : ∃ cs : List Value, RepList w g (news.take m).flatten cs ∧ (∀ v ∈ cs, v.oneCell' = true) ∧ (Builtin.firstCells i.size m (.slice a1 news.length c1)).run P w = .ok cs.toArray w := by
  cases a1 with
  | none =>
   obtain ⟨rfl, hn⟩ := k4 rfl
   subst hn
   exact ⟨[], by simp [RepList], by simp, run_firstCells_none w _ _ _ _⟩
  | some ad =>
   obtain ⟨b, oo, sp⟩ := ad
   obtain ⟨k6, cs, m1, m2, m3⟩ := k5 _ rfl
   cases k6
   have hnall : ∀ r ∈ news, r.length = i.size := fun r hr => (hev r hr).1
   have hcut := flat_cut (sz := i.size) 0 m hnall
   simp only [List.drop_zero, Nat.zero_mul] at hcut
   have hr3 := m3.take (m * i.size)
   rw [← hcut] at hr3
   have hcl : (cs.take (m * i.size)).length = m * i.size := by
    rw [List.length_take, m1, flat_len hnall]
    have := Nat.mul_le_mul_right i.size hm1
    omega
   refine ⟨cs.take (m * i.size), hr3, one_list hr3 ?_, run_firstCells_some w i.size m ⟨b, oo, none⟩ news.length c1 _ hcl fun q u hq => ?_⟩
   ·rw [List.all_flatten, List.all_eq_true]
    intro r hr
    exact (hev r (List.mem_of_mem_take hr)).2
   ·rw [add_none]
    have hlt := (List.getElem?_eq_some_iff.1 hq).1
    rw [List.getElem?_take_of_lt (by omega)] at hq
    exact m2 q u hq
 have hle : off * o.sz + (news.take m).flatten.length ≤ o.rows.length * o.sz := by
  rw [flat_len hnl, hml, ← Nat.add_mul]
  exact Nat.mul_le_mul_right _ (by omega)
 have hrows := splice_rows hob hnl (off := off) (by omega)
 rw [hml] at hrows
 obtain ⟨w', k1, k2, k3⟩ := write_sound (P := P) hI ho ⟨arr, _, h1⟩ (p := off * o.sz) hrep hone hle _ (by simp; omega) hrows
 refine ⟨w', ?_, k2, k3⟩
 simp [Builtin.copy_, run_underlying ht, Builtin.lenOf, run_sizeOf' w hi, hm, hfc, k1, goInt]
theorem clear_sound (hI : Inv w g) {t ty e : TypeId} {i : TypeInfo} {z : Value} (ht : P.underlying t = some (.slice e)) (hi : P.info? e = some i) (hz : i.zero = some z) (hzs : z.cells.size = i.size) (hz1 : z.cells.all Value.oneCell' = true) (h0 : 0 < i.size)
  {j off len : Nat} {sv : Value} (hs : Rep w g (.os j off len) sv) {o : AObj} (ho : g.H j = some o) (hsz : o.sz = i.size) (hl : off + len ≤ o.rows.length) :
  ∃ w', (Builtin.clear_ #[t] ty #[sv]).run P w = .ok (.tuple #[]) w' ∧ Step w g w' { g with H := upd g.H j (some { o with rows := o.rows.take off ++ (List.replicate len (z.cells.toList.map AV.ofVal) ++ o.rows.drop (off + len)) }) } ∧
   Inv w' { g with H := upd g.H j (some { o with rows := o.rows.take off ++ (List.replicate len (z.cells.toList.map AV.ofVal) ++ o.rows.drop (off + len)) }) } := by
 obtain ⟨_, hjn, hs⟩ := hs
 obtain ⟨cap, arr, rfl, h1, h2, h3, h4⟩ := hs o ho
 obtain ⟨arr', ha', hob⟩ := hI.cells ho ⟨arr, _, h1⟩
 have hrep := zeroCells_rep (z := z) w g (by omega) len
 have hzl : (List.replicate len (z.cells.toList.map AV.ofVal)).flatten.length = len * o.sz := by
  rw [flat_len (sz := o.sz) (fun r hr => by rw [List.eq_of_mem_replicate hr, hsz]; simp [hzs])]; simp
 have hone : ∀ v ∈ (Builtin.zeroCells z.cells len).toList, v.oneCell' = true := by
  intro v hv
  simp only [Builtin.zeroCells, Array.toList_map, List.mem_map] at hv
  obtain ⟨q, _, rfl⟩ := hv
  have : q % z.cells.size < z.cells.size := Nat.mod_lt _ (by omega)
  rw [getElem!_pos z.cells _ this]
  exact Array.all_eq_true.1 hz1 _ this
 have hle : off * o.sz + len * o.sz ≤ o.rows.length * o.sz := by rw [← Nat.add_mul]; exact Nat.mul_le_mul_right _ hl
 have hrows : ∀ r row, (o.rows.take off ++ (List.replicate len (z.cells.toList.map AV.ofVal) ++ o.rows.drop (off + len)))[r]? = some row → row.length = o.sz ∧ ∀ c x, row[c]? = some x →
   (off * o.sz ≤ r * o.sz + c ∧ r * o.sz + c < off * o.sz + (List.replicate len (z.cells.toList.map AV.ofVal)).flatten.length ∧ (List.replicate len (z.cells.toList.map AV.ofVal)).flatten[r * o.sz + c - off * o.sz]? = some x) ∨
   (¬ (off * o.sz ≤ r * o.sz + c ∧ r * o.sz + c < off * o.sz + (List.replicate len (z.cells.toList.map AV.ofVal)).flatten.length) ∧ ∃ old, o.rows[r]? = some old ∧ old[c]? = some x) := by
  intro r row hr
  rw [hzl]
  by_cases c1 : r < off
  ·rw [List.getElem?_append_left (by simp; omega), List.getElem?_take_of_lt c1] at hr
   have hrl := (hob.2 r row hr).1
   refine ⟨hrl, fun c x hx => .inr ⟨?_, row, hr, hx⟩⟩
   have hc : c < row.length := (List.getElem?_eq_some_iff.1 hx).1
   have := Nat.mul_le_mul_right o.sz (show r + 1 ≤ off from c1)
   rw [Nat.succ_mul] at this
   omega
  ·rw [List.getElem?_append_right (by simp; omega)] at hr
   simp only [List.length_take, Nat.min_eq_left (show off ≤ o.rows.length by omega)] at hr
   by_cases c2 : r - off < len
   ·rw [List.getElem?_append_left (by simpa using c2)] at hr
    have hrow := List.eq_of_mem_replicate (List.mem_of_getElem? hr)
    subst hrow
    refine ⟨by rw [hsz]; simp [hzs], fun c x hx => .inl ⟨?_, ?_, ?_⟩⟩
    ·have := Nat.mul_le_mul_right o.sz (show off ≤ r by omega); omega
    ·have hc : c < o.sz := by rw [hsz]; simpa [hzs] using (List.getElem?_eq_some_iff.1 hx).1
     have := Nat.mul_le_mul_right o.sz (show r + 1 ≤ off + len by omega)
     rw [Nat.succ_mul, Nat.add_mul] at this
     omega
    ·have := flatten_at (sz := o.sz) (fun r hr => by rw [List.eq_of_mem_replicate hr, hsz]; simp [hzs]) hr hx
     rwa [show r * o.sz + c - off * o.sz = (r - off) * o.sz + c from by
      have := Nat.mul_le_mul_right o.sz (show off ≤ r by omega)
      rw [Nat.sub_mul]; omega]
   ·rw [List.getElem?_append_right (by simp; omega), List.getElem?_drop] at hr
    simp only [List.length_replicate] at hr
    rw [show off + len + (r - off - len) = r from by omega] at hr
    have hrl := (hob.2 r row hr).1
    refine ⟨hrl, fun c x hx => .inr ⟨?_, row, hr, hx⟩⟩
    have := Nat.mul_le_mul_right o.sz (show off + len ≤ r by omega)
    rw [Nat.add_mul] at this
    omega
 obtain ⟨w', k1, k2, k3⟩ := write_sound (P := P) hI ho ⟨arr, _, h1⟩ (p := off * o.sz) hrep hone (by rw [hzl]; exact hle) _ (by simp; omega) hrows
 rcases Nat.eq_zero_or_pos len with hz0 | hz0
 ·subst hz0
  refine ⟨w, by simp [Builtin.clear_, run_underlying ht], ?_⟩
  have e1 : ({ o with rows := o.rows.take off ++ (List.replicate 0 (z.cells.toList.map AV.ofVal) ++ o.rows.drop (off + 0)) } : AObj) = o := by simp
  rw [e1]
  have e2 : ({ g with H := upd g.H j (some o) } : Gh) = g := by
   cases g with
   | mk μ H n =>
    congr 1
    funext q
    by_cases hq : q = j
    ·simp [upd, hq, ← ho]
    ·simp [upd, hq]
  rw [e2]
  exact ⟨Step.refl _ _, hI⟩
 ·refine ⟨w', ?_, k2, k3⟩
  have : ∃ l, len = l + 1 := ⟨len - 1, by omega⟩
  obtain ⟨l, rfl⟩ := this
  simp [Builtin.clear_, run_underlying ht, zeroValue, typeInfo, hi, hz, k1]
end Go.Ab
/-! Maps that are owned: made, read, written, ranged over. -/
namespace Go.Ab
open Go.RowKit Go.MapKept
open Go.ChangeMaps (setBlock)
variable {P : Program} {w w' : World} {g g' : Gh} {G : Nat → AV} {N : Nat} {st : St} {a : Act}
theorem om_at (hI : Inv w g) {i : Nat} {mv : Value} (hm : Rep w g (.om i) mv) {o : AObj} (ho : g.H i = some o) : ∃ es c, mv = .map (some (g.μ i)) ∧ w.heap[g.μ i]? = some (.map es c) ∧ MapIn w g es c o := by
 obtain ⟨_, _, h⟩ := hm
 obtain ⟨h1, es, c, h2⟩ := h o ho
 obtain ⟨ob, h3, h4⟩ := hI.obj i o ho
 rw [h2] at h3
 cases h3
 exact ⟨es, c, h1, h2, h4⟩
/-! Rows. -/
theorem mget_none {k : AV} : ∀ {rows : List (List AV)}, (∀ r ∈ rows, r.head? ≠ some k) → mget rows k = none ∧ midx rows k = rows.length ∧ ∀ v, mput rows k v = rows ++ [[k, v]]
 | [], _ => ⟨rfl, rfl, fun _ => rfl⟩
 | r :: rs, h => by
  obtain ⟨h1, h2, h3⟩ := mget_none fun r hr => h r (List.mem_cons_of_mem _ hr)
  have h0 := h r (by simp)
  simp only [mget, midx, mput, if_neg h0]
  exact ⟨h1, by rw [h2]; rfl, fun v => by rw [h3]; rfl⟩
theorem mget_at {k y : AV} : ∀ {rows : List (List AV)} {j : Nat}, rows[j]? = some [k, y] → (∀ i r, i < j → rows[i]? = some r → r.head? ≠ some k) → mget rows k = some y ∧ midx rows k = j ∧ ∀ v, mput rows k v = rows.set j [k, v]
 | [], j, h, _ => by simp at h
 | r :: rs, 0, h, _ => by
  simp only [List.getElem?_cons_zero, Option.some.injEq] at h
  subst h
  simp [mget, midx, mput]
 | r :: rs, j + 1, h, hn => by
  have h0 := hn 0 r (by omega) rfl
  obtain ⟨h1, h2, h3⟩ := mget_at (rows := rs) (j := j) (by simpa using h) fun i r' hi hr => hn (i + 1) r' (by omega) (by simpa using hr)
  simp only [mget, midx, mput, if_neg h0]
  exact ⟨h1, by rw [h2], fun v => by rw [h3]; rfl⟩
section
variable {es : Array MapEntry} {c : Nat} {o : AObj}
theorem MapIn.keys (hM : MapIn w g es c o) : ∀ e ∈ es.toList, ∃ y, kcode y = some o.sz ∧ Rep w g y e.key := fun e he => by
 obtain ⟨k, hk⟩ := List.mem_iff_getElem?.1 he
 rw [Array.getElem?_toList] at hk
 have hlt : k < o.rows.length := by rw [← hM.1]; exact (Array.getElem?_eq_some_iff.1 hk).1
 obtain ⟨x, y, e', h1, h2, h3, h4, h5⟩ := hM.2.2.2.2 k _ (List.getElem?_eq_getElem hlt)
 rw [hk] at h2
 cases h2
 exact ⟨x, h5, h3⟩
theorem map_find (hM : MapIn w g es c o) {kt : TypeId} (hk : kcOf P kt = some o.sz) {x : AV} {v : Value} (hx : kcode x = some o.sz) (hv : Rep w g x v) :
  ((Instr.findKey kt v es.toList).run P w = .ok none w ∧ mget o.rows x = none ∧ midx o.rows x = o.rows.length ∧ (∀ u, mput o.rows x u = o.rows ++ [[x, u]]) ∧ ∀ (k : Nat) (e : MapEntry), es[k]? = some e → e.key ≠ v) ∨
  ∃ j e y, (Instr.findKey kt v es.toList).run P w = .ok (some (j, e.val)) w ∧ es[j]? = some e ∧ e.key = v ∧ o.rows[j]? = some [x, y] ∧ Rep w g y e.val ∧ mget o.rows x = some y ∧ midx o.rows x = j ∧ ∀ u, mput o.rows x u = o.rows.set j [x, u] := by
 have hrow : ∀ {k : Nat} {r : List AV}, o.rows[k]? = some r → r.head? = some x → ∃ e, es[k]? = some e ∧ e.key = v := fun {k r} hr hh => by
  obtain ⟨x', y', e, h1, h2, h3, h4, h5⟩ := hM.2.2.2.2 k r hr
  subst h1
  simp only [List.head?_cons, Option.some.injEq] at hh
  subst hh
  exact ⟨e, h2, by rw [kval_of h5 h3, kval_of hx hv]⟩
 rcases find_sound (P := P) hk hx hv es.toList hM.keys with ⟨h1, h2⟩ | ⟨j, e, h1, h2, h3⟩
 ·have hn : ∀ r ∈ o.rows, r.head? ≠ some x := fun r hr hh => by
   obtain ⟨k, hk⟩ := List.mem_iff_getElem?.1 hr
   obtain ⟨e, e1, e2⟩ := hrow hk hh
   exact h2 e (List.mem_of_getElem? (by rw [Array.getElem?_toList]; exact e1)) e2
  obtain ⟨k1, k2, k3⟩ := mget_none hn
  exact .inl ⟨h1, k1, k2, k3, fun k e he => h2 e (List.mem_of_getElem? (by rw [Array.getElem?_toList]; exact he))⟩
 ·rw [Array.getElem?_toList] at h2
  have hlt : j < o.rows.length := by rw [← hM.1]; exact (Array.getElem?_eq_some_iff.1 h2).1
  obtain ⟨x', y, e', k1, k2, k3, k4, k5⟩ := hM.2.2.2.2 j _ (List.getElem?_eq_getElem hlt)
  rw [h2] at k2
  cases k2
  have hxx : x' = x := kval_inj k5 hx (by rw [← kval_of k5 k3, ← kval_of hx hv, h3])
  subst hxx
  have hr : o.rows[j]? = some [x', y] := by rw [List.getElem?_eq_getElem hlt, k1]
  obtain ⟨m1, m2, m3⟩ := mget_at hr fun i r hi hri hh => by
   obtain ⟨e2, e3, e4⟩ := hrow hri hh
   have := hM.2.2.2.1 i j e2 e e3 h2 (by rw [e4, h3])
   omega
  exact .inr ⟨j, e, y, h1, h2, h3, hr, k4, m1, m2, m3⟩
end
theorem zeroAV_run {E : TypeId} {i : TypeInfo} {z : Value} (hi : P.info? E = some i) (hz : i.zero = some z) : (zeroValue E).run P w = .ok z w := by
 simp [zeroValue, typeInfo, hi, hz]
theorem zero_list (w : World) (g : Gh) : ∀ (vs : List Value), RepList w g (vs.map AV.ofVal) vs
 | [] => rfl
 | v :: vs => ⟨v, vs, rfl, rep_ofVal w g v, zero_list w g vs⟩
theorem rep_zeroAV (w : World) (g : Gh) (z : Value) : Rep w g (zeroAV z) z := by
 unfold zeroAV
 split
 ·exact ⟨_, rfl, zero_list w g _⟩
 ·exact rep_ofVal w g _
theorem look_sound (hI : Inv w g) {t kt E : TypeId} {ie : TypeInfo} {z : Value} (ht : P.underlying t = some (.map kt E)) {kc : Nat} (hk : kcOf P kt = some kc) (hie : P.info? E = some ie) (hz : ie.zero = some z) (ok : Bool)
  {m x : AV} {mv v : Value} (hm : Rep w g m mv) (hv : Rep w g x v) {r : AV} (h : alook g.H ok kc (zeroAV z) m x = some r) : ∃ u, (Instr.lookup t mv v ok).run P w = .ok u w ∧ Rep w g r u := by
 cases m with
 | om i =>
  simp only [alook] at h
  split at h
  ·rename_i o ho
   split at h
   ·rename_i hc
    obtain ⟨hsz, hx⟩ := hc
    cases h
    obtain ⟨es, c, rfl, hb, hM⟩ := om_at hI hm ho
    subst hsz
    have hck := fun em => check_sound (P := P) (w := w) (g := g) em hk hx hv
    rcases map_find (P := P) hM hk hx hv with ⟨h1, h2, _⟩ | ⟨j, e, y, h1, h2, h3, h4, h5, h6, _⟩
    ·rw [h2]
     refine ⟨if ok then .tuple #[z, .bool false] else z, by simp [Instr.lookup, run_underlying ht, MapKept.run_getObj_map hb, hck, h1, zeroAV_run hie hz, Result.andThen], ?_⟩
     cases ok
     ·exact rep_zeroAV w g z
     ·exact ⟨#[z, .bool false], rfl, z, [.bool false], rfl, rep_zeroAV w g z, .bool false, [], rfl, rfl, rfl⟩
    ·rw [h6]
     refine ⟨if ok then .tuple #[e.val, .bool true] else e.val, by simp [Instr.lookup, run_underlying ht, MapKept.run_getObj_map hb, hck, h1, Result.andThen], ?_⟩
     cases ok
     ·exact h5
     ·exact ⟨#[e.val, .bool true], rfl, e.val, [.bool true], rfl, h5, .bool true, [], rfl, rfl, rfl⟩
   ·cases h
  ·cases h
 | _ => simp [alook] at h
theorem lenM_sound (hI : Inv w g) {t ty kt E : TypeId} (ht : P.underlying t = some (.map kt E)) {m : AV} {mv : Value} (hm : Rep w g m mv) {r : AV} (h : alenM g.H m = some r) : ∃ u, (Builtin.len_ #[t] ty #[mv]).run P w = .ok u w ∧ Rep w g r u := by
 cases m with
 | om i =>
  simp only [alenM] at h
  split at h
  ·rename_i o ho
   cases h
   obtain ⟨es, c, rfl, hb, hM⟩ := om_at hI hm ho
   exact ⟨goInt es.size, by simp [Builtin.len_, run_underlying ht, MapKept.run_getObj_map hb, Result.andThen], by rw [hM.1]; rfl⟩
  ·cases h
 | _ => simp [alenM] at h
theorem map_write (hI : Inv w g) {i : Nat} {o : AObj} (hi : g.H i = some o) {es es' : Array MapEntry} {c c' : Nat} (hb : w.heap[g.μ i]? = some (.map es c)) (rows : List (List AV)) (hgrow : o.E % 2 = 0 → MGrow es c es' c') (hin : MapIn w g es' c' { o with rows := rows }) :
  Step w g (setBlock w (g.μ i) (.map es' c')) { g with H := upd g.H i (some { o with rows := rows }) } ∧ Inv (setBlock w (g.μ i) (.map es' c')) { g with H := upd g.H i (some { o with rows := rows }) } := by
 have h1 : (setBlock w (g.μ i) (.map es' c')).heap[g.μ i]? = some (.map es' c') := (heap_set hb).1
 have h2 : ∀ b, b ≠ g.μ i → (setBlock w (g.μ i) (.map es' c')).heap[b]? = w.heap[b]? := (heap_set hb).2
 have h3 : (setBlock w (g.μ i) (.map es' c')).heap.size = w.heap.size := by simp [setBlock]
 have hS := step_setO (w' := setBlock w (g.μ i) (.map es' c')) hI hi rows (fun _ => Nat.le_refl _) rfl rfl rfl h3 h2 fun ob hob => by
  rw [hb] at hob
  cases hob
  exact ⟨_, h1, es', c', rfl, hgrow⟩
 exact ⟨hS, inv_setO hI hi rows hS h3 h2 h1 (MapIn.mono hS hin)⟩
theorem mgrow_push (es : Array MapEntry) (c : Nat) (e : MapEntry) : MGrow es c (es.push e) (c + 1) :=
 ⟨fun k e' h => ⟨e', by
  have hlt := (Array.getElem?_eq_some_iff.1 h).1
  rw [Array.getElem?_push, if_neg (by omega)]; exact h, rfl⟩, by simp, fun h => by simp at h⟩
theorem mgrow_modify (es : Array MapEntry) (c j : Nat) (f : MapEntry → MapEntry) (hf : ∀ e, (f e).born = e.born) : MGrow es c (es.modify j f) c :=
 ⟨fun k e h => by
  rw [Array.getElem?_modify]
  split
  ·exact ⟨f e, by rw [h]; rfl, hf e⟩
  ·exact ⟨e, h, rfl⟩, by simp, fun _ => rfl⟩
theorem mapIn_push {es : Array MapEntry} {c : Nat} {o : AObj} (hM : MapIn w g es c o) {x y : AV} {kv vv : Value} (hx : kcode x = some o.sz) (hkv : Rep w g x kv) (hvv : Rep w g y vv) (hn : ∀ (k : Nat) (e : MapEntry), es[k]? = some e → e.key ≠ kv) :
  MapIn w g (es.push ⟨kv, vv, c⟩) (c + 1) { o with rows := o.rows ++ [[x, y]] } := by
 obtain ⟨m1, m2, m3, m4, m5⟩ := hM
 have get : ∀ {k : Nat} {e : MapEntry}, (es.push ⟨kv, vv, c⟩)[k]? = some e → es[k]? = some e ∨ (k = es.size ∧ e = ⟨kv, vv, c⟩) := fun {k e} h => by
  rw [Array.getElem?_push] at h
  split at h
  ·rename_i hk; cases h; exact .inr ⟨hk, rfl⟩
  ·exact .inl h
 refine ⟨by simp [m1], fun k e h => ?_, fun j k e e' h h' hb => ?_, fun j k e e' h h' hb => ?_, fun k row hr => ?_⟩
 ·rcases get h with h | ⟨_, rfl⟩
  ·have := m2 k e h; omega
  ·show c < c + 1; omega
 ·rcases get h with h | ⟨k1, rfl⟩ <;> rcases get h' with h' | ⟨k2, rfl⟩
  ·exact m3 j k e e' h h' hb
  ·have := m2 j e h; simp only at hb; omega
  ·have := m2 k e' h'; simp only at hb; omega
  ·omega
 ·rcases get h with h | ⟨k1, rfl⟩ <;> rcases get h' with h' | ⟨k2, rfl⟩
  ·exact m4 j k e e' h h' hb
  ·exact absurd hb (hn j e h)
  ·exact absurd hb.symm (hn k e' h')
  ·omega
 ·have hr : (o.rows ++ [[x, y]])[k]? = some row := hr
  rcases Nat.lt_or_ge k o.rows.length with hk | hk
  ·rw [List.getElem?_append_left hk] at hr
   obtain ⟨x', y', e, l1, l2, l3, l4, l5⟩ := m5 k row hr
   exact ⟨x', y', e, l1, by rw [Array.getElem?_push, if_neg (by omega)]; exact l2, l3, l4, l5⟩
  ·rw [List.getElem?_append_right hk] at hr
   have hk0 : k - o.rows.length = 0 := by
    have := (List.getElem?_eq_some_iff.1 hr).1
    simp at this; omega
   rw [hk0] at hr
   simp only [List.getElem?_cons_zero, Option.some.injEq] at hr
   subst hr
   exact ⟨x, y, ⟨kv, vv, c⟩, rfl, by rw [Array.getElem?_push, if_pos (by omega)], hkv, hvv, hx⟩
theorem mapIn_modify {es : Array MapEntry} {c : Nat} {o : AObj} (hM : MapIn w g es c o) {x y : AV} {j : Nat} {e0 : MapEntry} (hj : es[j]? = some e0) (f : MapEntry → MapEntry) (hkey : (f e0).key = e0.key) (hborn : (f e0).born = e0.born) (hx : kcode x = some o.sz) (hkv : Rep w g x e0.key) (hvv : Rep w g y (f e0).val) :
  MapIn w g (es.modify j f) c { o with rows := o.rows.set j [x, y] } := by
 obtain ⟨m1, m2, m3, m4, m5⟩ := hM
 have get : ∀ {k : Nat} {e : MapEntry}, (es.modify j f)[k]? = some e → ∃ e1, es[k]? = some e1 ∧ e.born = e1.born ∧ e.key = e1.key := fun {k e} h => by
  rw [Array.getElem?_modify] at h
  split at h
  ·rename_i hk
   subst hk
   rw [hj] at h
   simp only [Option.map_some, Option.some.injEq] at h
   subst h
   exact ⟨e0, hj, hborn, hkey⟩
  ·exact ⟨e, h, rfl, rfl⟩
 have hlt : j < o.rows.length := by rw [← m1]; exact (Array.getElem?_eq_some_iff.1 hj).1
 refine ⟨by simp [m1], fun k e h => ?_, fun a k e e' h h' hb => ?_, fun a k e e' h h' hb => ?_, fun k row hr => ?_⟩
 ·obtain ⟨e1, h1, h2, _⟩ := get h
  rw [h2]; exact m2 k e1 h1
 ·obtain ⟨e1, h1, h2, _⟩ := get h
  obtain ⟨e2, h3, h4, _⟩ := get h'
  exact m3 a k e1 e2 h1 h3 (by rw [← h2, ← h4, hb])
 ·obtain ⟨e1, h1, _, h2⟩ := get h
  obtain ⟨e2, h3, _, h4⟩ := get h'
  exact m4 a k e1 e2 h1 h3 (by rw [← h2, ← h4, hb])
 ·have hr : (o.rows.set j [x, y])[k]? = some row := hr
  by_cases hk : k = j
  ·subst hk
   rw [List.getElem?_set_self hlt] at hr
   cases hr
   exact ⟨x, y, f e0, rfl, by rw [Array.getElem?_modify, if_pos rfl, hj]; rfl, by rw [hkey]; exact hkv, hvv, hx⟩
  ·rw [List.getElem?_set_ne (Ne.symm hk)] at hr
   obtain ⟨x', y', e, l1, l2, l3, l4, l5⟩ := m5 k row hr
   exact ⟨x', y', e, l1, by rw [Array.getElem?_modify, if_neg (Ne.symm hk)]; exact l2, l3, l4, l5⟩
theorem mset_sound (hI : Inv w g) {t kt E : TypeId} (ht : P.underlying t = some (.map kt E)) {i : Nat} {x y : AV} {mv kv vv : Value} (hm : Rep w g (.om i) mv) {o : AObj} (ho : g.H i = some o) (hk : kcOf P kt = some o.sz) (hx : kcode x = some o.sz) (hkv : Rep w g x kv) (hvv : Rep w g y vv) :
  ∃ w', (Instr.mapUpdate t mv kv vv).run P w = .ok () w' ∧ Step w g w' { g with H := upd g.H i (some { o with rows := mput o.rows x y }) } ∧ Inv w' { g with H := upd g.H i (some { o with rows := mput o.rows x y }) } := by
 obtain ⟨es, c, rfl, hb, hM⟩ := om_at hI hm ho
 have hck := check_sound (P := P) (w := w) (g := g) false hk hx hkv
 rcases map_find (P := P) hM hk hx hkv with ⟨h1, _, _, h2, h3⟩ | ⟨j, e, y0, h1, h2, h3, h4, h5, _, _, h6⟩
 ·rw [h2]
  obtain ⟨hS, hI'⟩ := map_write hI ho hb (o.rows ++ [[x, y]]) (fun _ => mgrow_push es c ⟨kv, vv, c⟩) (mapIn_push hM hx hkv hvv h3)
  exact ⟨_, by simp [Instr.mapUpdate, run_underlying ht, MapKept.run_getObj_map hb, hck, h1, MapKept.run_setObj_map _ hb, Result.andThen, setBlock], hS, hI'⟩
 ·rw [h6]
  have hst := stays_sound (P := P) (w := w) hx hkv
  obtain ⟨hS, hI'⟩ := map_write hI ho hb (o.rows.set j [x, y]) (es' := es.modify j fun e => { e with key := kv, val := vv }) (c' := c) (fun _ => mgrow_modify es c j _ fun _ => rfl) (mapIn_modify hM h2 _ h3.symm rfl hx (by rw [h3]; exact hkv) hvv)
  exact ⟨_, by simp [Instr.mapUpdate, run_underlying ht, MapKept.run_getObj_map hb, hck, h1, h2, h3, hst, MapKept.run_setObj_map _ hb, Result.andThen, setBlock], hS, hI'⟩
theorem ment_sound (hI : Inv w g) {t kt E : TypeId} {ie : TypeInfo} {z : Value} (ht : P.underlying t = some (.map kt E)) (hie : P.info? E = some ie) (hz : ie.zero = some z) {i : Nat} {x : AV} {mv kv : Value} (hm : Rep w g (.om i) mv) {o : AObj} (ho : g.H i = some o) (hk : kcOf P kt = some o.sz) (hx : kcode x = some o.sz) (hkv : Rep w g x kv) :
  ∃ v w', (Instr.mapEntry t mv kv).run P w = .ok v w' ∧ Step w g w' { g with H := upd g.H i (some { o with rows := mwith o.rows x (zeroAV z) }) } ∧ Inv w' { g with H := upd g.H i (some { o with rows := mwith o.rows x (zeroAV z) }) } ∧
   Rep w' { g with H := upd g.H i (some { o with rows := mwith o.rows x (zeroAV z) }) } (.tup [(mget o.rows x).getD (zeroAV z), .ms i (midx o.rows x)]) v := by
 have hin := hm.2.1
 obtain ⟨es, c, rfl, hb, hM⟩ := om_at hI hm ho
 have hck := check_sound (P := P) (w := w) (g := g) false hk hx hkv
 rcases map_find (P := P) hM hk hx hkv with ⟨h1, h2a, h2b, h2, h3⟩ | ⟨j, e, y0, h1, h2, h3, h4, h5, h6a, h6b, h6⟩
 ·have hw : mwith o.rows x (zeroAV z) = o.rows ++ [[x, zeroAV z]] := by simp only [mwith, h2a]
  rw [hw, h2a, h2b]
  obtain ⟨hS, hI'⟩ := map_write hI ho hb (o.rows ++ [[x, zeroAV z]]) (fun _ => mgrow_push es c ⟨kv, z, c⟩) (mapIn_push hM hx hkv (rep_zeroAV w g z) h3)
  refine ⟨.tuple #[z, goInt c], _, by simp [Instr.mapEntry, run_underlying ht, MapKept.run_getObj_map hb, hck, h1, zeroAV_run hie hz, MapKept.run_setObj_map _ hb, Result.andThen, setBlock], hS, hI', _, rfl, z, [goInt c], rfl, rep_zeroAV _ _ z, goInt c, [], rfl, ⟨⟨c, rfl⟩, hin, fun o' ho' hE => ?_⟩, rfl⟩
  exact ⟨es.push ⟨kv, z, c⟩, c + 1, ⟨kv, z, c⟩, (heap_set hb).1, by rw [Array.getElem?_push, if_pos hM.1.symm], rfl⟩
 ·have hw : mwith o.rows x (zeroAV z) = o.rows := by simp only [mwith, h6a]
  have hset : o.rows.set j [x, y0] = o.rows := by
   refine List.ext_getElem? fun k => ?_
   by_cases hkj : k = j
   ·subst hkj
    rw [List.getElem?_set_self (List.getElem?_eq_some_iff.1 h4).1, h4]
   ·rw [List.getElem?_set_ne (Ne.symm hkj)]
  rw [hw, h6a, h6b]
  have hst := stays_sound (P := P) (w := w) hx hkv
  obtain ⟨hS, hI'⟩ := map_write hI ho hb (o.rows.set j [x, y0]) (es' := es.modify j fun e => { e with key := kv }) (c' := c) (fun _ => mgrow_modify es c j _ fun _ => rfl) (mapIn_modify hM h2 _ h3.symm rfl hx (by rw [h3]; exact hkv) h5)
  rw [hset] at hS hI'
  refine ⟨.tuple #[e.val, goInt e.born], _, by simp [Instr.mapEntry, run_underlying ht, MapKept.run_getObj_map hb, hck, h1, h2, h3, hst, MapKept.run_setObj_map _ hb, Result.andThen, setBlock], hS, hI', _, rfl, e.val, [goInt e.born], rfl, h5.mono hS, goInt e.born, [], rfl, ⟨⟨e.born, rfl⟩, hin, fun o' ho' hE => ?_⟩, rfl⟩
  exact ⟨_, c, { e with key := kv }, (heap_set hb).1, by rw [Array.getElem?_modify, if_pos rfl, h2]; rfl, rfl⟩
theorem mest_sound (hI : Inv w g) {t : TypeId} {i j : Nat} {x y0 y : AV} {mv sv vv : Value} (hm : Rep w g (.om i) mv) (hs : Rep w g (.ms i j) sv) {o : AObj} (ho : g.H i = some o) (hE : o.E % 2 = 0) (hr : o.rows[j]? = some [x, y0]) (hvv : Rep w g y vv) :
  ∃ w', (Instr.entryStore t mv sv vv).run P w = .ok () w' ∧ Step w g w' { g with H := upd g.H i (some { o with rows := o.rows.set j [x, y] }) } ∧ Inv w' { g with H := upd g.H i (some { o with rows := o.rows.set j [x, y] }) } := by
 obtain ⟨es, c, rfl, hb, hM⟩ := om_at hI hm ho
 obtain ⟨_, _, hs⟩ := hs
 obtain ⟨es', c', e, k1, k2, rfl⟩ := hs o ho hE
 rw [hb] at k1
 cases k1
 obtain ⟨x', y', e', l1, l2, l3, l4, l5⟩ := hM.2.2.2.2 j _ hr
 rw [k2] at l2
 cases l2
 simp only [List.cons.injEq, and_true] at l1
 obtain ⟨rfl, rfl⟩ := l1
 have hf : es.findIdx? (fun e' => (e'.born : Int) == (e.born : Int)) = some j := by
  rw [Array.findIdx?_eq_some_iff_getElem]
  obtain ⟨hlt, he⟩ := Array.getElem?_eq_some_iff.1 k2
  refine ⟨hlt, by rw [he]; simp, fun k hk => ?_⟩
  have hk' : es[k]? = some es[k] := Array.getElem?_eq_getElem (by omega)
  intro hh
  have := hM.2.2.1 k j es[k] e hk' k2 (by have := beq_iff_eq.1 hh; omega)
  omega
 obtain ⟨hS, hI'⟩ := map_write hI ho hb (o.rows.set j [x, y]) (es' := es.modify j fun e => { e with val := vv }) (c' := c) (fun _ => mgrow_modify es c j _ fun _ => rfl) (mapIn_modify hM k2 _ rfl rfl l5 l3 hvv)
 refine ⟨_, ?_, hS, hI'⟩
 simp [Instr.entryStore, MapKept.run_getObj_map hb, asInt, asIntOf, hf, MapKept.run_setObj_map _ hb, setBlock]
theorem mkm_sound (hI : Inv w g) (t : TypeId) (E kc : Nat) : ∃ v w', (Instr.makeMap t none).run P w = .ok v w' ∧ Step w g w' (g.more w.heap.size ⟨E, kc, []⟩) ∧ Inv w' (g.more w.heap.size ⟨E, kc, []⟩) ∧ Rep w' (g.more w.heap.size ⟨E, kc, []⟩) (.om g.n) v := by
 refine ⟨.map (some w.heap.size), w.alloc (.map #[] 0), by simp [Instr.makeMap, newObj]; rfl, step_moreO hI _ _, inv_moreO hI _ _ ⟨rfl, by simp, by simp, by simp, by simp⟩, ⟨_, rfl⟩, more_lt _ _ _, fun o ho => ?_⟩
 have : (g.more w.heap.size ⟨E, kc, []⟩).μ g.n = w.heap.size := by simp [Gh.more, upd]
 rw [this]
 exact ⟨rfl, #[], 0, heap_alloc_new' _ _⟩
theorem borns_of {es : Array MapEntry} {c : Nat} {o : AObj} (hM : MapIn w g es c o) : (es.toList.map (·.born)).Nodup := by
 rw [List.nodup_iff_pairwise_ne, List.pairwise_iff_getElem]
 intro i j hi hj hij he
 simp only [List.getElem_map, Array.getElem_toList] at he
 simp only [List.length_map, Array.length_toList] at hi hj
 have := hM.2.2.1 i j es[i] es[j] (Array.getElem?_eq_getElem hi) (Array.getElem?_eq_getElem hj) he
 omega
theorem rng_sound (hI : Inv w g) {t kt E : TypeId} (ht : P.underlying t = some (.map kt E)) {i : Nat} {mv : Value} (hm : Rep w g (.om i) mv) {o : AObj} (ho : g.H i = some o) (hE : o.E % 2 = 0) :
  ∃ v w', (Instr.range t mv).run P w = .ok v w' ∧ Step w g w' (g.more w.heap.size ⟨i, o.rows.length, itRows (-1) (List.range o.rows.length)⟩) ∧ Inv w' (g.more w.heap.size ⟨i, o.rows.length, itRows (-1) (List.range o.rows.length)⟩) ∧ Rep w' (g.more w.heap.size ⟨i, o.rows.length, itRows (-1) (List.range o.rows.length)⟩) (.oit g.n) v := by
 have hin := hm.2.1
 obtain ⟨es, c, rfl, hb, hM⟩ := om_at hI hm ho
 refine ⟨.pointer (some ⟨w.heap.size, 0, none⟩), w.alloc (.mapIter (some (g.μ i)) c #[] c), by simp [Instr.range, run_underlying ht, MapKept.run_getObj_map hb, newObj, Result.andThen]; rfl, step_moreO hI _ _, inv_moreO hI _ _ ?_, ⟨_, rfl⟩, more_lt _ _ _, fun o ho => ?_⟩
 ·refine ⟨hin, rfl, -1, List.range o.rows.length, es.toList.map (·.born), rfl, by simp [hM.1], borns_of hM, List.nodup_range, fun b hb' => ?_, rfl, fun k => ?_, by omega, fun om hom => ?_⟩
  ·obtain ⟨e, he, rfl⟩ := List.mem_map.1 hb'
   obtain ⟨k, hk⟩ := List.mem_iff_getElem?.1 he
   rw [Array.getElem?_toList] at hk
   exact hM.2.1 k e hk
  ·simp only [List.mem_range, Array.not_mem_empty, not_false_eq_true, and_true, ← hM.1]
   constructor
   ·intro hk
    exact ⟨es[k].born, by simp [hk]⟩
   ·rintro ⟨b, hb'⟩
    have := (List.getElem?_eq_some_iff.1 hb').1
    simpa using this
  ·have hom : g.H i = some om := hom
   rw [ho] at hom
   cases hom
   refine ⟨hE, es, c, hb, fun k b hk => ?_, fun _ => rfl⟩
   rw [List.getElem?_map, Array.getElem?_toList] at hk
   obtain ⟨e, h1, h2⟩ := Option.map_eq_some_iff.1 hk
   exact ⟨e, h1, h2⟩
 ·have : (g.more w.heap.size ⟨i, o.rows.length, itRows (-1) (List.range o.rows.length)⟩).μ g.n = w.heap.size := by simp [Gh.more, upd]
  rename_i o1
  have h2 : ∀ (oo : AObj), (g.more w.heap.size oo).μ g.n = w.heap.size := fun oo => by simp [Gh.more, upd]
  rw [h2]
  exact ⟨rfl, _, _, _, _, heap_alloc_new' _ _⟩
theorem oit_at (hI : Inv w g) {j : Nat} {iv : Value} (hi : Rep w g (.oit j) iv) {o : AObj} (ho : g.H j = some o) : ∃ m s se l, iv = .pointer (some ⟨g.μ j, 0, none⟩) ∧ w.heap[g.μ j]? = some (.mapIter m s se l) ∧ ItIn w g m s se l o := by
 obtain ⟨_, _, h⟩ := hi
 obtain ⟨h1, m, s, se, l, h2⟩ := h o ho
 obtain ⟨ob, h3, h4⟩ := hI.obj j o ho
 rw [h2] at h3
 cases h3
 exact ⟨m, s, se, l, h1, h2, h4⟩
theorem itRows_inj {k0 k1 : Int} {a b : List Nat} (h : itRows k0 a = itRows k1 b) : k0 = k1 ∧ a = b := by
 simp only [itRows, List.cons.injEq, AV.lit.injEq, Value.int.injEq, true_and, and_true] at h
 refine ⟨h.1, ?_⟩
 have h2 := h.2
 clear h
 induction a generalizing b with
 | nil => cases b <;> simp_all
 | cons x a ih => cases b with
  | nil => simp at h2
  | cons y b =>
   simp only [List.map_cons, List.cons.injEq, AV.lit.injEq, Value.int.injEq, true_and, and_true] at h2
   rw [ih h2.2, show x = y by omega]
theorem nxt_sound (hI : Inv w g) {ty : TypeId} {j : Nat} {iv : Value} (hi : Rep w g (.oit j) iv) {o om : AObj} (ho : g.H j = some o) (hom : g.H o.E = some om) (hlen : om.rows.length = o.sz) {k0 : Int} {idxs : List Nat} (hrows : o.rows = itRows k0 idxs) :
  (idxs = [] ∧ (Instr.next iv false ty).run P w = .ok (.tuple #[.bool false]) w) ∨
  ∃ k ∈ idxs, ∃ x y v w', om.rows[k]? = some [x, y] ∧ (Instr.next iv false ty).run P w = .ok v w' ∧ Step w g w' { g with H := upd g.H j (some { o with rows := itRows k (idxs.filter (· != k)) }) } ∧ Inv w' { g with H := upd g.H j (some { o with rows := itRows k (idxs.filter (· != k)) }) } ∧
   Rep w' { g with H := upd g.H j (some { o with rows := itRows k (idxs.filter (· != k)) }) } (.tup [.bool true, x, y]) v := by
 obtain ⟨m, since, seen, last, rfl, hit, hIt⟩ := oit_at hI hi ho
 obtain ⟨h1, rfl, k0', idxs', bs, h3, h4, h5, h6, h7, rfl, h9, h10, h11⟩ := hIt
 rw [hrows] at h3
 obtain ⟨rfl, rfl⟩ := itRows_inj h3
 obtain ⟨hE, es, c, hb, j5, j6⟩ := h11 om hom
 obtain ⟨ob, hb2, hL⟩ := hI.obj _ om hom
 rw [hb] at hb2
 cases hb2
 have hM : MapIn w g es c om := hL
 have hsz : es.size = o.sz := by rw [hM.1, hlen]
 have hc := j6 hsz
 subst hc
 have hborn : ∀ (k : Nat) (e : MapEntry), es[k]? = some e → bs[k]? = some e.born := fun k e he => by
  have hlt : k < bs.length := by rw [h4, ← hsz]; exact (Array.getElem?_eq_some_iff.1 he).1
  obtain ⟨e', e1, e2⟩ := j5 k bs[k] (List.getElem?_eq_getElem hlt)
  rw [he] at e1
  cases e1
  rw [List.getElem?_eq_getElem hlt, e2]
 rcases run_next_at (P := P) w ty (g.μ j) (g.μ o.E) c c seen es c hit hb (fun x hx => by
   obtain ⟨k, hk⟩ := List.mem_iff_getElem?.1 hx
   rw [Array.getElem?_toList] at hk
   exact hM.2.1 k x hk) (Nat.le_refl _) with ⟨hl, hrun⟩ | ⟨e, he, w1, hw1, hrun⟩
 ·refine .inl ⟨?_, hrun⟩
  rw [List.eq_nil_iff_forall_not_mem]
  intro k hk
  obtain ⟨b, b1, b2⟩ := (h9 k).1 hk
  obtain ⟨e, e1, e2⟩ := j5 k b b1
  have hmem : e ∈ (leftOf es seen) := by
   simp only [leftOf, Array.mem_filter]
   refine ⟨Array.mem_of_getElem? e1, ?_⟩
   rw [e2]
   simpa using b2
  have := Array.size_pos_of_mem hmem
  omega
 ·right
  have he' : e ∈ leftOf es seen := Array.mem_toList_iff.1 he
  simp only [leftOf, Array.mem_filter] at he'
  obtain ⟨hmem, hns⟩ := he'
  have hns : e.born ∉ seen := by simpa using hns
  obtain ⟨k, hk⟩ := Array.mem_iff_getElem?.1 hmem
  have hbk := hborn k e hk
  have hkin : k ∈ idxs := (h9 k).2 ⟨e.born, hbk, hns⟩
  have hlt : k < om.rows.length := by rw [← hM.1]; exact (Array.getElem?_eq_some_iff.1 hk).1
  obtain ⟨x, y, e', l1, l2, l3, l4, l5⟩ := hM.2.2.2.2 k _ (List.getElem?_eq_getElem hlt)
  rw [hk] at l2
  cases l2
  have hd : w1.heap = w.heap := by rcases hw1 with rfl | rfl <;> rfl
  have hS1 : Step w g w1 g := by rcases hw1 with rfl | rfl; exact Step.refl _ _; exact step_drew w g
  have hI1 : Inv w1 g := by rcases hw1 with rfl | rfl; exact hI; exact inv_drew hI
  have hit1 : w1.heap[g.μ j]? = some (.mapIter (some (g.μ o.E)) c seen c) := by rw [hd]; exact hit
  have q1 : (setBlock w1 (g.μ j) (.mapIter (some (g.μ o.E)) c (seen.push e.born) c)).heap[g.μ j]? = some (.mapIter (some (g.μ o.E)) c (seen.push e.born) c) := (heap_set hit1).1
  have q2 : ∀ b, b ≠ g.μ j → (setBlock w1 (g.μ j) (.mapIter (some (g.μ o.E)) c (seen.push e.born) c)).heap[b]? = w1.heap[b]? := (heap_set hit1).2
  have q3 : (setBlock w1 (g.μ j) (.mapIter (some (g.μ o.E)) c (seen.push e.born) c)).heap.size = w1.heap.size := by simp [setBlock]
  have hS := step_setO (w' := setBlock w1 (g.μ j) (.mapIter (some (g.μ o.E)) c (seen.push e.born) c)) hI1 ho (itRows k (idxs.filter (· != k))) (fun _ => Nat.le_refl _) rfl rfl rfl q3 q2 fun ob hob => by
   rw [hit1] at hob
   cases hob
   exact ⟨_, q1, _, _, rfl⟩
  have hnj : g.μ o.E ≠ g.μ j := fun e => by rw [← e, hb] at hit; cases hit
  have hne : o.E ≠ j := fun e => hnj (by rw [e])
  refine ⟨k, hkin, x, y, _, _, by rw [List.getElem?_eq_getElem hlt, l1], hrun, hS1.trans hS, inv_setO hI1 ho _ hS q3 q2 q1 ?_, _, rfl, .bool true, [e.key, e.val], rfl, rfl, e.key, [e.val], rfl, l3.mono (hS1.trans hS), e.val, [], rfl, l4.mono (hS1.trans hS), rfl⟩
  refine ⟨h1, rfl, (k : Int), idxs.filter (· != k), bs, rfl, h4, h5, h6.filter _, h7, rfl, fun q => ?_, fun _ => ⟨e.born, by simpa using hbk, by simp⟩, fun om' hom' => ?_⟩
  ·simp only [List.mem_filter, bne_iff_ne, ne_eq, h9 q, Array.mem_push, not_or]
   constructor
   ·rintro ⟨⟨b, b1, b2⟩, hq⟩
    refine ⟨b, b1, b2, fun hbe => hq ?_⟩
    rw [hbe] at b1
    obtain ⟨hq1, hq2⟩ := List.getElem?_eq_some_iff.1 b1
    obtain ⟨hk1, hk2⟩ := List.getElem?_eq_some_iff.1 hbk
    have hp := List.pairwise_iff_getElem.1 (List.nodup_iff_pairwise_ne.1 h5)
    rcases Nat.lt_trichotomy q k with hlt | heq | hgt
    ·exact absurd (hq2.trans hk2.symm) (hp q k hq1 hk1 hlt)
    ·exact heq
    ·exact absurd (hk2.trans hq2.symm) (hp k q hk1 hq1 hgt)
   ·rintro ⟨b, b1, b2, b3⟩
    refine ⟨⟨b, b1, b2⟩, fun hq => b3 ?_⟩
    rw [hq, hbk] at b1
    cases b1; rfl
  ·have hom'' : g.H o.E = some om' := by
    have : (upd g.H j (some { o with rows := itRows k (idxs.filter (· != k)) })) o.E = some om' := hom'
    rwa [upd_ne _ _ _ hne] at this
   rw [hom] at hom''
   cases hom''
   refine ⟨hE, es, c, ?_, j5, fun _ => rfl⟩
   show (setBlock w1 (g.μ j) _).heap[g.μ o.E]? = _
   rw [q2 _ hnj, hd]; exact hb
theorem ent_sound (hI : Inv w g) {m r : AV} {iv : Value} (hi : Rep w g m iv) (h : aent g.H m = some r) : ∃ v, (Instr.entry iv).run P w = .ok v w ∧ Rep w g r v := by
 cases m with
 | oit j =>
  simp only [aent] at h
  split at h
  ·rename_i o ho
   split at h
   ·rename_i k0 tl hrows
    split at h
    ·rename_i om hom
     split at h
     ·rename_i hc
      obtain ⟨hlen, hk0⟩ := hc
      split at h
      ·rename_i x y hxy
       cases h
       obtain ⟨m, since, seen, last, rfl, hit, hIt⟩ := oit_at hI hi ho
       obtain ⟨h1, rfl, k0', idxs', bs, h3, h4, h5, h6, h7, rfl, h9, h10, h11⟩ := hIt
       rw [hrows] at h3
       simp only [List.cons.injEq, AV.lit.injEq, Value.int.injEq, true_and, and_true] at h3
       obtain ⟨rfl, _⟩ := h3
       obtain ⟨hE, es, c, hb, j5, j6⟩ := h11 om hom
       obtain ⟨ob, hb2, hL⟩ := hI.obj _ om hom
       rw [hb] at hb2
       cases hb2
       have hM : MapIn w g es c om := hL
       have hc := j6 (by rw [hM.1, hlen])
       subst hc
       obtain ⟨b, b1, b2⟩ := h10 hk0
       obtain ⟨e, e1, e2⟩ := j5 _ b b1
       obtain ⟨x', y', e', l1, l2, l3, l4, l5⟩ := hM.2.2.2.2 _ _ hxy
       rw [e1] at l2
       cases l2
       simp only [List.cons.injEq, and_true] at l1
       obtain ⟨rfl, rfl⟩ := l1
       obtain ⟨seen', rfl⟩ := Array.back?_eq_some_iff.1 b2
       refine ⟨.tuple #[e.key, e.val], ?_, _, rfl, e.key, [e.val], rfl, l3, e.val, [], rfl, l4, rfl⟩
       rw [← e2] at hit
       exact run_entry_at w (g.μ j) (g.μ o.E) c seen' es c e hit hb (List.mem_of_getElem? (by rw [Array.getElem?_toList]; exact e1)) (borns_of hM)
      ·cases h
     ·cases h
    ·cases h
   ·cases h
  ·cases h
 | _ => simp [aent] at h
end Go.Ab
/-! Bytes and strings. -/
namespace Go.Ab
open Go.RowKit
variable {P : Program} {w w' : World} {g g' : Gh}
theorem strRows_length (t : ByteArray) : (strRows t).length = t.size := by
 rw [strRows, List.length_map, Array.length_toList]; rfl
theorem byteOf_some {r : List AV} {b : UInt8} (h : byteOf r = some b) : r = byteRow b := by
 unfold byteOf at h
 split at h
 ·rename_i n
  split at h
  ·rename_i hn
   cases h
   have h1 : (UInt8.ofNat n.toNat).toNat = n.toNat := by
    rw [UInt8.toNat_ofNat']
    omega
   show _ = [AV.lit (.int .u8 _)]
   rw [h1, Int.toNat_of_nonneg hn.1]
  ·cases h
 ·cases h
theorem rbytes_some : ∀ {rows : List (List AV)} {l : List UInt8}, rbytes rows = some l → rows = l.map byteRow
 | [], l, h => by cases h; rfl
 | r :: rs, l, h => by
  simp only [rbytes] at h
  split at h
  ·rename_i b bs h1 h2
   cases h
   rw [byteOf_some h1, rbytes_some h2]; rfl
  ·cases h
theorem byteRows_rep : ∀ {l : List UInt8} {cs : List Value}, RepList w g (l.map byteRow).flatten cs → cs = Lib.byteCells l
 | [], cs, h => h
 | b :: l, cs, h => by
  obtain ⟨v, vs, rfl, h1, h2⟩ := h
  rw [byteRows_rep h2]
  have h1 : v = _ := h1
  rw [h1]; rfl
theorem rep_byteRows : ∀ (l : List UInt8), RepList w g (l.map byteRow).flatten (Lib.byteCells l)
 | [] => rfl
 | b :: l => ⟨_, _, rfl, rfl, rep_byteRows l⟩
theorem strOf_bytes (l : List UInt8) : strOfNums (l.map fun b => (b.toNat : Int)) = ⟨l.toArray⟩ := by
 have : ((l.map fun b => (b.toNat : Int)).map fun n => UInt8.ofNat n.toNat) = l := by
  rw [List.map_map]
  conv => rhs; rw [← List.map_id l]
  refine List.map_congr_left fun b _ => ?_
  simp
 unfold strOfNums
 rw [this]
theorem bts_sound (hI : Inv w g) {s t e : TypeId} (hs : P.underlying s = some (.slice e)) (he : P.underlying e = some (.int .u8)) (ht : P.underlying t = some .string) {x v : AV} {xv : Value} (hx : Rep w g x xv) (h : abts g.H x = some v) :
  ∃ u, (convert s t xv).run P w = .ok u w ∧ Rep w g v u := by
 unfold abts at h
 split at h
 ·rename_i rows hr
  obtain ⟨l, hl, rfl⟩ := Option.map_eq_some_iff.1 h
  have e0 := rbytes_some hl
  subst e0
  obtain ⟨a, cap, rfl, h1, h2⟩ := src_ok hI hx hr
  cases a with
  | none =>
   have h3 : l = [] := by have := (h1 rfl).2; simpa using this
   subst h3
   exact ⟨_, run_convert_bytes_nil w s e hs he _ _ t ht, rfl⟩
  | some ad =>
   obtain ⟨h3, cs, h4, h5, h6⟩ := h2 ad rfl
   obtain ⟨b, o, sp⟩ := ad
   cases h3
   have h7 := byteRows_rep h6
   subst h7
   have hlen : (l.map byteRow).length = l.length := by simp
   refine ⟨_, run_convert_bytes_arg w s e hs he b o _ cap (l.map fun b => (b.toNat : Int)) (by simp) (fun i hi => ?_) t ht, by rw [strOf_bytes]; rfl⟩
   rw [hlen] at hi
   refine h5 i _ ?_
   simp only [Lib.byteCells, List.getElem?_map, List.getElem?_eq_getElem hi, Option.map_some, List.getD_eq_getElem?_getD, Option.getD_some]
 ·cases h
theorem sdat_sound {ts : Array TypeId} {ty : TypeId} {x v : AV} {xv : Value} (hx : Rep w g x xv) (h : asdat g.H x = some v) : ∃ u, (Builtin.unsafeSliceData_ ts ty #[xv]).run P w = .ok u w ∧ Rep w g v u := by
 unfold asdat at h
 split at h
 ·cases h
  obtain ⟨a, cap, rfl, h1, h2, h3, h4, _⟩ := hx
  have ha : a = none := by cases a <;> simp_all
  subst ha
  exact ⟨_, Lib.run_unsafeSliceData_nil w ts ty _ _, rfl⟩
 ·rename_i i off len
  split at h
  ·rename_i o ho
   split at h
   ·rename_i hl
    cases h
    obtain ⟨_, h2, h3⟩ := hx
    obtain ⟨cap, arr, rfl, h4, h5, h6, h7⟩ := h3 o ho
    refine ⟨_, Lib.run_unsafeSliceData_row w ts ty _ len cap (by omega), ⟨_, rfl⟩, h2, fun o' ho' => ?_⟩
    rw [ho] at ho'; cases ho'
    exact ⟨by rw [Nat.add_zero], arr, o.E, h4⟩
   ·cases h
  ·cases h
 ·cases h
theorem liesAt_self {e : TypeId} (hc : P.cellsOf e ≠ 0) {count : Nat} (hn : 1 ≤ count) : liesAt P P.depth e count 0 e 1 = true := by
 have hd : P.depth = (2 * (P.types.size + Made.depth) + 1) + 1 := rfl
 rw [hd]
 simp only [liesAt, Bool.or_eq_true]
 left
 rw [hd]
 simp [rowAt, hc, hn, sameLayout]
theorem upc_sound (hI : Inv w g) {s t u : TypeId} {j : TypeInfo} (hu : P.info? u = some j) (hj : j.size ≠ 0) (hc : P.cellsOf u = j.size)
  (hst : (P.underlying s = some (.pointer u) ∧ P.underlying t = some .unsafePointer) ∨ (P.underlying s = some .unsafePointer ∧ P.underlying t = some (.pointer u)))
  {x v : AV} {xv : Value} (hx : Rep w g x xv) (h : aupc g.H u j.size x = some v) : ∃ y, (convert s t xv).run P w = .ok y w ∧ Rep w g v y := by
 unfold aupc at h
 split at h
 ·cases h
  have hx : xv = .pointer none := hx
  subst hx
  rcases hst with ⟨h1, h2⟩ | ⟨h1, h2⟩
  ·exact ⟨_, by simp [convert, run_underlying h1, run_underlying h2, Conv.unsafePointer], rfl⟩
  ·exact ⟨_, by simp [convert, run_underlying h1, run_underlying h2, Conv.unsafePointer], rfl⟩
 ·rename_i i
  split at h
  ·rename_i o ho
   split at h
   ·rename_i hh
    obtain ⟨k1, k2, k3⟩ := hh
    cases h
    obtain ⟨_, h2, h3⟩ := hx
    obtain ⟨rfl, harr⟩ := h3 o ho
    obtain ⟨arr, h4, hob⟩ := hI.cells ho harr
    have hsh : w.shape? (g.μ i) = some (o.E, arr.size) := by simp [World.shape?, h4]
    have hsz : j.size ≤ arr.size := by
     have := hob.1
     have h5 : 0 < o.rows.length := List.length_pos_iff.2 k3
     rw [k2] at this
     have : 1 * j.size ≤ o.rows.length * j.size := Nat.mul_le_mul_right _ h5
     omega
    have e0 : (⟨g.μ i, 0 * o.sz + 0, none⟩ : Addr) = ⟨g.μ i, 0, none⟩ := by simp
    rw [e0]
    have hrep : Rep w g (.op i 0 0) (.pointer (some ⟨g.μ i, 0, none⟩)) := by
     rw [← e0]
     exact ⟨⟨_, rfl⟩, h2, fun o' ho' => by rw [ho] at ho'; cases ho'; exact ⟨rfl, harr⟩⟩
    rcases hst with ⟨h6, h7⟩ | ⟨h6, h7⟩
    ·exact ⟨_, Lib.run_to_unsafe w ⟨g.μ i, 0, none⟩ h6 h7 hu hj hsh (by show 0 < arr.size; omega), hrep⟩
    ·refine ⟨_, Lib.run_from_unsafe w ⟨g.μ i, 0, none⟩ h6 h7 hu hsh ?_, hrep⟩
     rw [k1]
     exact liesAt_self (by rw [hc]; exact hj) (by rw [hc]; exact (Nat.one_le_div_iff (by omega)).2 hsz)
   ·cases h
  ·cases h
 ·cases h
theorem run_apps (base : Nat) (t u ty e : TypeId) (i : TypeInfo) (ht : P.underlying t = some (.slice e)) (hu : P.underlying u = some .string) (hi : P.info? e = some i) (hz : i.zero = some (.int .u8 0))
  (hsize : i.size = 1) (hby : i.bytes = 1) (v : Value) (n : Nat) (xs : List Value) (hown : w.ownsRow base e 1 v n xs) (s : ByteArray) (h63 : n + s.size ≤ maxLen) (hbytes : n + s.size ≤ 140737488355328) (hbase : base ≤ w.heap.size) (h0 : 0 < n + s.size) :
  ∃ v' w', (Builtin.append_ #[t, u] ty #[v, .string s]).run P w = .ok v' w' ∧ w'.ownsRow base e 1 v' (n + s.size) (xs ++ Lib.strCells s) ∧ w.grownBy w' v.ownBlock ∧ (v'.ownBlock = v.ownBlock ∨ v'.ownBlock = some w.heap.size) := by
 have hsmall : n + s.size ≤ 9223372036854775807 := by simp only [maxLen] at h63; omega
 have hxl : xs.length = n := by simpa using hown.1
 have hlen : (xs ++ Lib.strCells s).length = (n + s.size) * 1 := by rw [List.length_append, hxl, Lib.strCells_length, Nat.mul_one]
 have grown : ∀ (old : Nat), old < n + s.size → ∀ (row : Option Nat),
   (w.drew.alloc (.cells (xs.toArray ++ (Lib.strCells s).toArray ++ Builtin.zeroCells (Value.int .u8 0).cells (grownCap w (n + s.size) old e - (n + s.size))) e)).ownsRow base e 1
    (.slice (some ⟨w.heap.size, 0, none⟩) (n + s.size) (grownCap w (n + s.size) old e)) (n + s.size) (xs ++ Lib.strCells s) ∧
   w.grownBy (w.drew.alloc (.cells (xs.toArray ++ (Lib.strCells s).toArray ++ Builtin.zeroCells (Value.int .u8 0).cells (grownCap w (n + s.size) old e - (n + s.size))) e)) row := by
  intro old ho row
  have hge := grownCap_ge w (n + s.size) old e
  have hcm : grownCap w (n + s.size) old e ≤ maxLen := grownCap_le_maxLen w (n + s.size) old e h63
  refine ⟨⟨hlen, .inr ⟨w.heap.size, _, _, rfl, hbase, heap_alloc_new w.drew _, hge, hcm, ?_, ?_⟩⟩, ⟨rfl, rfl, rfl, by simp, fun k hk _ => heap_alloc_old w.drew _ hk⟩⟩
  ·have hz1 : (Value.int IntKind.u8 0).cells.size = 1 := rfl
   simp only [Array.size_append, List.size_toArray, size_zeroCells, hz1, hxl, Lib.strCells_length]
   omega
  ·simp only [Array.toList_append, List.append_assoc]
   rw [← List.append_assoc, ← hlen]
   exact List.take_left
 rcases hown.2 with ⟨rfl, rfl⟩ | ⟨b, cap, cur, rfl, hbg, hg, hnc, hcm, hcs, htake⟩
 ·have hx : xs = [] := List.eq_nil_of_length_eq_zero hxl
  subst hx
  have hr := run_append_nil_string (P := P) w t u ty e i (.int .u8 0) ht hu hi hz s (by omega) (by omega) (by rw [hby]; omega)
  have hgr := grown 0 (by omega) (Value.ownBlock (.slice none 0 0))
  simp only [Nat.zero_add, List.nil_append, Array.empty_append] at hgr ⊢
  have e1 : (s.data.map fun b => Value.int .u8 b.toNat) = (Lib.strCells s).toArray := by
   apply Array.ext'
   simp [Lib.strCells]
  rw [e1] at hr
  exact ⟨_, _, hr, hgr.1, hgr.2, .inr rfl⟩
 ·by_cases hroom : n + s.size ≤ cap
  ·have hcs' : cur.size = cap := by simpa using hcs
   have hr := Lib.run_append_room_string (P := P) w t u ty e i ht hu hi hsize b n cap cur hg s hroom (by omega)
   refine ⟨_, _, hr, ⟨hlen, .inr ⟨b, cap, _, rfl, hbg, setRow_heap w b cur _ e _ hg, hroom, hcm, ?_, ?_⟩⟩, ⟨rfl, rfl, rfl, by simp, fun k _ hk => setRow_other w b k _ (fun e => hk (by simp [Value.ownBlock, e]))⟩, .inl rfl⟩
   ·simp only [List.size_toArray, List.length_append, List.length_take, List.length_drop, Array.length_toList, Lib.strCells_length]
    omega
   ·have ht' : cur.toList.take n = xs := by simpa using htake
    rw [ht', ← hlen]
    exact List.take_left
  ·have holds : ∀ j u, xs[j]? = some u → w.cell? ((⟨b, 0, none⟩ : Addr).add j) = some u := hown.cells (g := b) rfl
   have hr := Lib.run_append_grow_string (P := P) w t u ty e i (.int .u8 0) ht hu hi hz ⟨b, 0, none⟩ n cap xs (by rw [hsize]; simpa using hxl) holds s (by omega) (by omega) (by rw [hby]; exact growslice_fits (by omega) (by omega))
   have hgr := grown cap (by omega) (Value.ownBlock (.slice (some ⟨b, 0, none⟩) n cap))
   exact ⟨_, _, hr, hgr.1, hgr.2, .inr rfl⟩
theorem strRows_rep (t : ByteArray) : RepList w g (strRows t).flatten (Lib.strCells t) := rep_byteRows t.data.toList
theorem strRows_one (t : ByteArray) : ∀ r ∈ strRows t, r.length = 1 := fun r hr => by
 obtain ⟨b, _, rfl⟩ := List.mem_map.1 hr; rfl
theorem apps_nil_sound (hI : Inv w g) {t u ty e : TypeId} {i : TypeInfo} (ht : P.underlying t = some (.slice e)) (hu : P.underlying u = some .string) (hi : P.info? e = some i) (hz : i.zero = some (.int .u8 0)) (hsize : i.size = 1) (hby : i.bytes = 1)
  (s : ByteArray) {sv : Value} (hs : Rep w g (.ls false []) sv) (hlen : s.size ≤ 140737488355328) :
  (s.size = 0 → (Builtin.append_ #[t, u] ty #[sv, .string s]).run P w = .ok (.slice none 0 0) w) ∧
  (0 < s.size → ∃ v w' g', (Builtin.append_ #[t, u] ty #[sv, .string s]).run P w = .ok v w' ∧ Step w g w' g' ∧ Inv w' g' ∧ g'.H = upd g.H g.n (some ⟨e, 1, strRows s⟩) ∧ g'.n = g.n + 1 ∧ Rep w' g' (.os g.n 0 s.size) v) := by
 obtain ⟨a0, c0, rfl, h1, h2, h3, h4, _⟩ := hs
 have ha : a0 = none := by cases a0 <;> simp_all
 subst ha
 obtain ⟨rfl, _⟩ := h4 rfl
 constructor
 ·intro hm
  have hn : Lib.strCells s = [] := List.eq_nil_of_length_eq_zero (by rw [Lib.strCells_length]; exact hm)
  have hf := Lib.run_firstCells_string (P := P) w 1 s
  rw [hm] at hf
  simp [Builtin.append_, run_underlying ht, run_underlying hu, sizeOf, typeInfo, hi, hsize, Builtin.lenOf, hm, hf]
 ·intro h0
  obtain ⟨v', w', e1, e2, e3, e5⟩ := run_apps (P := P) (w := w) w.heap.size t u ty e i ht hu hi hz hsize hby (.slice none 0 0) 0 [] ⟨by simp, .inl ⟨rfl, rfl⟩⟩ s (by simp only [maxLen]; omega) (by omega) (Nat.le_refl _) (by omega)
  simp only [Nat.zero_add, List.nil_append] at e2
  have e5' : v'.ownBlock = some w.heap.size := by
   rcases e5 with h | h
   ·rcases e2.2 with ⟨_, h0'⟩ | ⟨q, _, _, rfl, _⟩
    ·omega
    ·simp [Value.ownBlock] at h
   ·exact h
  obtain ⟨g', f1, f2, f3, f4, f5⟩ := adopt (blk := w.heap.size) hI e2 h0 (grownBy_any e3 (.inl rfl)) (Sub.refl g.H) (fun j o hj e => by have := (hI.lt j o hj).2; omega)
   (fun b hb => by rw [e5'] at hb; cases hb; exact .inl rfl) (fun b hb => by rw [e5'] at hb; cases hb; exact .inr (Nat.le_refl _)) (.inr (Nat.le_refl _)) (strRows_one s) (strRows_length s) (strRows_rep s) (run_drawn P _ e1)
  exact ⟨v', w', g', e1, f1, f2, f3, f4, f5⟩
theorem apps_own_sound (hI : Inv w g) {t u ty e : TypeId} {i : TypeInfo} (ht : P.underlying t = some (.slice e)) (hu : P.underlying u = some .string) (hi : P.info? e = some i) (hz : i.zero = some (.int .u8 0)) (hsize : i.size = 1) (hby : i.bytes = 1)
  (s : ByteArray) {j len : Nat} {sv : Value} (hs : Rep w g (.os j 0 len) sv) {o : AObj} (ho : g.H j = some o) (hsz : o.sz = 1) (hE : o.E = e) (hrl : len ≤ o.rows.length) (hlen : len + s.size ≤ 140737488355328) (h0 : 0 < len) :
  ∃ v w' g', (Builtin.append_ #[t, u] ty #[sv, .string s]).run P w = .ok v w' ∧ Step w g w' g' ∧ Inv w' g' ∧ g'.H = upd (upd g.H j none) g.n (some ⟨e, 1, o.rows.take len ++ strRows s⟩) ∧ g'.n = g.n + 1 ∧ Rep w' g' (.os g.n 0 (len + s.size)) v := by
 obtain ⟨_, hjn, hs⟩ := hs
 obtain ⟨cap, arr, rfl, h1, h2, h3, h4⟩ := hs o ho
 obtain ⟨arr', ha', hob⟩ := hI.cells ho ⟨arr, _, h1⟩
 have : arr' = arr := by rw [h1] at ha'; cases ha'; rfl
 subst this
 have hob : ObjIn w g arr' o := hob
 have hrl0 : ∀ r ∈ o.rows, r.length = o.sz := fun r hr => by
  obtain ⟨q, hq⟩ := List.mem_iff_getElem?.1 hr
  exact (hob.2 q r hq).1
 have hflat : RepList w g (o.rows.take len).flatten (arr'.toList.take (len * 1)) := by
  have h1 := hob.flat.take (len * 1)
  have h2 := flat_cut (rows := o.rows) 0 len hrl0
  simp only [List.drop_zero, Nat.zero_mul] at h2
  rw [h2, hsz]
  rwa [List.take_take, hsz, Nat.min_eq_left (Nat.mul_le_mul_right _ hrl)] at h1
 subst hE
 have hol : ∀ r ∈ o.rows, r.length = 1 := fun r hr => by rw [hrl0 r hr, hsz]
 have hown : w.ownsRow 0 o.E 1 (.slice (some ⟨g.μ j, 0, none⟩) len cap) len (arr'.toList.take (len * 1)) := by
  refine ⟨by simp; rw [h2, hsz]; simp; rw [Nat.min_eq_left h3], .inr ⟨g.μ j, cap, arr', rfl, Nat.zero_le _, h1, h3, by simpa using h4, by rw [h2, hsz]; simp, rfl⟩⟩
 have hsub : Sub (upd g.H j none) g.H := fun q oq hq => by
  by_cases e : q = j
  ·simp [upd, e] at hq
  ·simpa [upd, e] using hq
 have hnb : ∀ q oq, upd g.H j none q = some oq → g.μ q ≠ g.μ j := fun q oq hq e => by
  by_cases e' : q = j
  ·simp [upd, e'] at hq
  ·exact e' (hI.inj q j oq o (by simpa [upd, e'] using hq) ho e)
 rw [show (⟨g.μ j, 0 * o.sz, none⟩ : Addr) = ⟨g.μ j, 0, none⟩ from by simp]
 obtain ⟨v', w', e1, e2, e3, e5⟩ := run_apps (P := P) (w := w) 0 t u ty o.E i ht hu hi hz hsize hby _ len _ hown s (by simp only [maxLen]; omega) hlen (Nat.zero_le _) (by omega)
 obtain ⟨g', f1, f2, f3, f4, f5⟩ := adopt (blk := g.μ j) hI e2 (by omega) e3 hsub hnb (fun b hb => by rcases e5 with h | h <;> rw [h] at hb <;> cases hb <;> simp) (fun b hb => by
    rcases e5 with h | h <;> rw [h] at hb <;> cases hb
    ·exact .inl ⟨j, o, ho, rfl⟩
    ·exact .inr (Nat.le_refl _)) (.inl ⟨j, o, ho, rfl⟩) (rows := o.rows.take len ++ strRows s) (fun r hr => by
    rcases List.mem_append.1 hr with h | h
    ·exact hol r (List.mem_of_mem_take h)
    ·exact strRows_one s r h) (by rw [List.length_append, strRows_length, List.length_take, Nat.min_eq_left hrl]) (by rw [List.flatten_append]; exact hflat.append (strRows_rep s)) (run_drawn P _ e1)
 exact ⟨v', w', g', e1, f1, f2, f3, f4, f5⟩
theorem ustr_sound (hI : Inv w g) {pt it ty e : TypeId} (hp : P.underlying pt = some (.pointer e)) (hc : P.cellsOf e = 1) {j : Nat} {o : AObj} {m : Int} {l : List UInt8} {xv : Value} (hx : Rep w g (.op j 0 0) xv) (ho : g.H j = some o) (hsz : o.sz = 1) (hE : o.E = e)
  (h0 : 0 < m) (hm : m ≤ o.rows.length) (h63 : m ≤ 9223372036854775807) (hl : rbytes (o.rows.take m.toNat) = some l) :
  ∃ w', (Builtin.unsafeString_ #[pt, it] ty #[xv, .int .i64 m]).run P w = .ok (.string ⟨l.toArray⟩) w' ∧ Step w g w' (g.less (upd g.H j none)) ∧ Inv w' (g.less (upd g.H j none)) := by
 obtain ⟨_, h2, h3⟩ := hx
 obtain ⟨rfl, harr⟩ := h3 o ho
 obtain ⟨arr, h4, hob⟩ := hI.cells ho harr
 subst hE
 have e0 : (⟨g.μ j, 0 * o.sz + 0, none⟩ : Addr) = ⟨g.μ j, 0, none⟩ := by simp
 rw [e0]
 have hrows := rbytes_some hl
 have hll : l.length = m.toNat := by
  have := congrArg List.length hrows
  rw [List.length_map, List.length_take, Nat.min_eq_left (by omega)] at this
  exact this.symm
 have hml : m = (l.length : Int) := by omega
 subst hml
 have hne : l ≠ [] := by intro e; subst e; simp at h0
 have hsh : w.shape? (g.μ j) = some (o.E, arr.size) := by simp [World.shape?, h4]
 have hrl0 : ∀ r ∈ o.rows, r.length = o.sz := fun r hr => by
  obtain ⟨q, hq⟩ := List.mem_iff_getElem?.1 hr
  exact (hob.2 q r hq).1
 have hsize : l.length ≤ arr.size := by
  have := hob.1
  rw [hsz] at this
  omega
 have hflat : RepList w g (l.map byteRow).flatten (arr.toList.take (l.length * 1)) := by
  have h1 := hob.flat.take (l.length * 1)
  have h2 := flat_cut (rows := o.rows) 0 l.length hrl0
  simp only [List.drop_zero, Nat.zero_mul] at h2
  rw [Int.toNat_natCast] at hrows
  rw [← hrows, h2, hsz]
  rwa [List.take_take, hsz, Nat.min_eq_left (Nat.mul_le_mul_right _ (by omega))] at h1
 have hcs := byteRows_rep hflat
 have hrun := Lib.run_unsafeString_row (P := P) w pt it ty o.E hp hc (g.μ j) arr.size hsh l hne hsize (by omega) (fun q x hq => by
  rw [add_none, Nat.zero_add, cell_of_heap h4]
  have hq1 : (Lib.byteCells l)[q]? = some (.int .u8 x.toNat) := by simp [Lib.byteCells, hq]
  rw [← hcs, List.getElem?_take] at hq1
  split at hq1
  ·simpa using hq1
  ·cases hq1)
 have hother : ∀ b, b ≠ g.μ j → (w.freeze ⟨g.μ j, 0, none⟩ l.length).heap[b]? = w.heap[b]? := fun b hb => by
  unfold World.freeze
  split
  ·rfl
  ·simp only [Array.getElem?_modify]
   rw [if_neg (fun e => hb e.symm)]
 have hsz' : (w.freeze ⟨g.μ j, 0, none⟩ l.length).heap.size = w.heap.size := by
  unfold World.freeze
  split <;> simp
 have hsame : (w.freeze ⟨g.μ j, 0, none⟩ l.length).os = w.os ∧ (w.freeze ⟨g.μ j, 0, none⟩ l.length).tape = w.tape ∧ (w.freeze ⟨g.μ j, 0, none⟩ l.length).output = w.output ∧ (w.freeze ⟨g.μ j, 0, none⟩ l.length).drawn = w.drawn := by
  unfold World.freeze
  split <;> exact ⟨rfl, rfl, rfl, rfl⟩
 have hsub : Sub (upd g.H j none) g.H := fun q oq hq => by
  by_cases e : q = j
  ·simp [upd, e] at hq
  ·simpa [upd, e] using hq
 have hnb : ∀ q oq, upd g.H j none q = some oq → g.μ q ≠ g.μ j := fun q oq hq e => by
  by_cases e' : q = j
  ·simp [upd, e'] at hq
  ·exact e' (hI.inj q j oq o (by simpa [upd, e'] using hq) ho e)
 have hS : Step w g (w.freeze ⟨g.μ j, 0, none⟩ l.length) (g.less (upd g.H j none)) := {
  os := hsame.1, tape := hsame.2.1, output := hsame.2.2.1, size := by rw [hsz']; exact Nat.le_refl _
  keep := fun b hb hno => hother b (fun e => hno (by rw [e]; exact ⟨j, o, ho, rfl⟩))
  shape := fun q o' ob hq ho' hb => ⟨ob, by
   show (w.freeze _ _).heap[g.μ q]? = _
   rw [hother _ (hnb q o' ho')]; exact hb, Like.refl _ _⟩
  own := fun b ⟨q, oq, k1, k2⟩ => .inl ⟨q, oq, hsub q oq k1, k2⟩
  n := Nat.le_refl _
  mu := fun _ _ => rfl
  live := fun q o' _ ho' => ⟨o', hsub q o' ho', rfl, rfl⟩
  dr := rfl
  drawn := fun _ => by rw [hsame.2.2.2]; exact Nat.le_refl _ }
 exact ⟨_, hrun, hS, hI.step hS (fun q oq hq => ⟨(hI.lt q oq (hsub q oq hq)).1, by rw [hsz']; exact (hI.lt q oq (hsub q oq hq)).2⟩) (fun q q' oq oq' hq hq' e => hI.inj q q' oq oq' (hsub q oq hq) (hsub q' oq' hq') e) fun q oq hq => .inl ⟨hsub q oq hq, hother _ (hnb q oq hq)⟩⟩
end Go.Ab
/-! Every operation at once. -/
namespace Go.Ab
open Go.RowKit
variable {P : Program} {w w' : World} {g g' : Gh} {G : Nat → AV} {N : Nat} {st : St} {a : Act}
def Next (G : Nat → AV) (N : Nat) (w : World) (g : Gh) (K : St → Prop) (next : Act → World → Prop) : Prop :=
 ∀ st' g' a' w', K st' → Rel G N st' g' a' w' → Step w g w' g' → next a' w'
theorem wp_value {o : Oper} {next : Act → World → Prop} {Q : Exit → Act → World → Prop} {K : St → Prop} (hR : Rel G N st g a w) (hd : ∀ k, o.dst = some k → k < N) (hn : Next G N w g K next) {v : Value}
  (h : (execOp a.eval o).run P w = .ok (.value v) w') (hS : Step w g w' g') (hI : Inv w' g') {x : AV} (hx : Rep w' g' x v) (hK : K ⟨put st.fr o.dst x, g'.H, g'.n⟩) : o.wp P a w next Q := by
 unfold Oper.wp
 rw [h]
 exact hn _ _ _ _ hK (hR.put hS hI hd hx) hS
theorem wp_same {o : Oper} {next : Act → World → Prop} {Q : Exit → Act → World → Prop} {K : St → Prop} (hR : Rel G N st g a w) (hd : ∀ k, o.dst = some k → k < N) (hn : Next G N w g K next) {x : AV}
  (h : ∃ v, (execOp a.eval o).run P w = .ok (.value v) w ∧ Rep w g x v) (hK : K { st with fr := put st.fr o.dst x }) : o.wp P a w next Q := by
 obtain ⟨v, h1, h2⟩ := h
 refine wp_value hR hd hn h1 (Step.refl _ _) hR.inv h2 ?_
 rw [hR.H, hR.n]
 exact hK
theorem wp_skip' {o : Oper} {next : Act → World → Prop} {Q : Exit → Act → World → Prop} {K : St → Prop} (hR : Rel G N st g a w) (hd : ∀ k, o.dst = some k → k < N) (hn : Next G N w g K next)
  (h : (execOp a.eval o).run P w = .ok .skip w') (hS : Step w g w' g') (hI : Inv w' g') (hK : K ⟨put st.fr o.dst .any, g'.H, g'.n⟩) : o.wp P a w next Q := by
 unfold Oper.wp
 rw [h]
 exact hn _ _ _ _ hK (hR.put hS hI hd (x := .any) trivial) hS
theorem run_enter {f : FuncId} {fn : Func} {c : Code} (hf : P.funcs[f]? = some fn) (hname : (fn.name == "runtime.NumGoroutine") = false) (hb : fn.body = some c) (args : Array Value) (w : World) : (callFunc f args).run P w = .ok (.enter f args) w := by
 have hn : ¬ fn.name = "runtime.NumGoroutine" := by simpa using hname
 simp [callFunc, hf, hn, hb]
theorem wp_call {o : Oper} {next : Act → World → Prop} {Q : Exit → Act → World → Prop} {K : St → Prop} (hR : Rel G N st g a w) (hd : ∀ k, o.dst = some k → k < N) (hn : Next G N w g K next) {f : FuncId} {vs : Array Value} {args : List AV}
  (hx : (execOp a.eval o).run P w = (callFunc f vs).run P w) (hargs : RepList w g args vs.toList) (h : ACalls P G f args st.H st.n fun r H' n' => K ⟨put st.fr o.dst r, H', n'⟩) : o.wp P a w next Q := by
 have h1 := h w g vs hR.inv hR.H hR.n hR.gl hargs
 unfold Oper.wp
 rw [hx]
 rcases h1 with ⟨⟨fn, c, e1, e2, e3⟩, h2⟩ | ⟨v, w', h2, v', r, g', h3, h4, h5, h6, h7⟩
 ·rw [run_enter e1 e2 e3]
  refine h2.mono fun e w' ⟨v, r, g', k1, k2, k3, k4, k5⟩ => ?_
  subst k1
  exact hn _ _ _ _ k2 (hR.put k5 k4 hd k3) k5
 ·rw [h2]
  cases h3
  exact hn _ _ _ _ h4 (hR.put h7 h6 hd h5) h7
theorem arr3 {α : Type} {xs : Array α} {x y z : α} (h : xs.toList = [x, y, z]) : xs = #[x, y, z] := by
 cases xs; simp_all
theorem max_iff (a b : Int) : (if b > a then b else a) = max a b := by
 rw [Int.max_def]; split <;> split <;> omega
theorem min_iff (a b : Int) : (if b < a then b else a) = min a b := by
 rw [Int.min_def]; split <;> split <;> omega
theorem arr2 {α : Type} {xs : Array α} {x y : α} (h : xs.toList = [x, y]) : xs = #[x, y] := by
 apply Array.ext'; simpa using h
theorem arr1 {α : Type} {xs : Array α} {x : α} (h : xs.toList = [x]) : xs = #[x] := by
 apply Array.ext'; simpa using h
section
variable {o : Oper} {next : Act → World → Prop} {Q : Exit → Act → World → Prop} {K : St → Prop} (hR : Rel G N st g a w) (hd : ∀ k, o.dst = some k → k < N) (hn : Next G N w g K next)
include hR hd hn
theorem s_mov {x : Operand} (ho : o.op = .move x ∨ o.op = .assign x) (h : aop P G (.mov (absOpd x)) o.dst st K) : o.wp P a w next Q := by
 obtain ⟨v, h1, h2⟩ := h
 cases h1
 exact wp_same hR hd hn ⟨a.eval x, by rcases ho with ho | ho <;> simp [execOp, ho], ev_rep hR x⟩ h2
theorem s_pick {c x y : Operand} (ho : o.op = .pick c x y) (h : aop P G (.pick (absOpd c) (absOpd x) (absOpd y)) o.dst st K) : o.wp P a w next Q := by
 obtain ⟨v, h1, h2⟩ := h
 simp only [aval] at h1
 split at h1
 ·rename_i t ht
  cases h1
  have hc := ev_rep hR c
  rw [ht] at hc
  have hc : a.eval c = .bool t := hc
  refine wp_same hR hd hn ⟨if t then a.eval x else a.eval y, by simp [execOp, ho, hc, asBool], ?_⟩ h2
  cases t
  ·exact ev_rep hR y
  ·exact ev_rep hR x
 ·cases h1
theorem s_load {t : TypeId} {x : Operand} {ag : Bool} {i : TypeInfo} (ho : o.op = .load t x) (hu : aggOf P t = some ag) (hi : P.info? t = some i) (h : aop P G (.load ag i.size (absOpd x)) o.dst st K) : o.wp P a w next Q := by
 obtain ⟨v, h1, h2⟩ := h
 simp only [aval] at h1
 rw [← hR.H] at h1
 obtain ⟨u, h3, h4⟩ := load_sound (P := P) hR.inv hu hi (ev_rep hR x) h1
 exact wp_same hR hd hn ⟨u, by simp [execOp, ho, h3], h4⟩ h2
theorem s_fld {t : TypeId} {x : Operand} {f : Nat} {fs : Array Field} {fi : Field} {i : TypeInfo} (ho : o.op = .fieldAddr t x f) (hu : P.underlying t = some (.struct fs)) (hf : fs[f]? = some fi) (hi : P.info? fi.type = some i) (hz : i.size ≠ 0) (h : aop P G (.fld fi.offset (absOpd x)) o.dst st K) : o.wp P a w next Q := by
 obtain ⟨v, h1, h2⟩ := h
 obtain ⟨u, h3, h4⟩ := fld_sound (P := P) hu hf hi hz (ev_rep hR x) h1
 exact wp_same hR hd hn ⟨u, by simp [execOp, ho, h3], h4⟩ h2
theorem s_part {t : TypeId} {x : Operand} {f : Nat} {fs : Array Field} {fi : Field} {i : TypeInfo} {ag : Bool} (ho : o.op = .field t x f) (hu : P.underlying t = some (.struct fs)) (hf : fs[f]? = some fi) (hag : aggOf P fi.type = some ag) (hi : P.info? fi.type = some i) (h : aop P G (.part ag fi.offset i.size (absOpd x)) o.dst st K) : o.wp P a w next Q := by
 obtain ⟨v, h1, h2⟩ := h
 simp only [aval] at h1
 have hx := ev_rep hR x
 cases hev : ev G st.fr (absOpd x) with
 | agg cells =>
  rw [hev] at h1 hx
  obtain ⟨vs, h5, h6⟩ := hx
  obtain ⟨u, h3, h4⟩ := part_sound (P := P) hag hi h6 h1
  exact wp_same hR hd hn ⟨u, by simp [execOp, ho, Instr.field, run_underlying hu, hf, h5, asAgg, h3], h4⟩ h2
 | _ => rw [hev] at h1; simp [apart] at h1
theorem s_idx {t e : TypeId} {x y : Operand} {i : TypeInfo} (ho : o.op = .indexAddr t x y) (hu : P.underlying t = some (.slice e)) (hi : P.info? e = some i) (h : aop P G (.idx i.size (absOpd x) (absOpd y)) o.dst st K) : o.wp P a w next Q := by
 obtain ⟨h0, v, h1, h2⟩ := h
 rw [← hR.H] at h1
 obtain ⟨u, h3, h4⟩ := idx_sound (P := P) hu hi (ev_rep hR x) (ev_rep hR y) h0 h1
 exact wp_same hR hd hn ⟨u, by simp [execOp, ho, h3], h4⟩ h2
theorem s_idxA {t e : TypeId} {n : Nat} {x y : Operand} {i : TypeInfo} (ho : o.op = .indexAddr t x y) (hu : P.underlying t = some (.array n e)) (hi : P.info? e = some i) (h : aop P G (.idxA n i.size (absOpd x) (absOpd y)) o.dst st K) : o.wp P a w next Q := by
 obtain ⟨v, h1, h2⟩ := h
 obtain ⟨u, h3, h4⟩ := idxA_sound (P := P) hu hi (ev_rep hR x) (ev_rep hR y) h1
 exact wp_same hR hd hn ⟨u, by simp [execOp, ho, h3], h4⟩ h2
theorem s_idxV {t e : TypeId} {n : Nat} {x y : Operand} {i : TypeInfo} {ag : Bool} (ho : o.op = .index t x y) (hu : P.underlying t = some (.array n e)) (hag : aggOf P e = some ag) (hi : P.info? e = some i) (h : aop P G (.idxV ag n i.size (absOpd x) (absOpd y)) o.dst st K) : o.wp P a w next Q := by
 obtain ⟨v, h1, h2⟩ := h
 simp only [aval] at h1
 have hx := ev_rep hR x
 have hy := ev_rep hR y
 cases hev : ev G st.fr (absOpd x) with
 | agg cells =>
  cases hew : ev G st.fr (absOpd y) with
  | lit u =>
   cases u with
   | int k m =>
    rw [hev, hew] at h1
    rw [hev] at hx
    rw [hew] at hy
    have hy : a.eval y = .int k m := hy
    simp only [aidxV] at h1
    split at h1
    ·rename_i hb
     obtain ⟨vs, h5, h6⟩ := hx
     obtain ⟨u, h3, h4⟩ := part_sound (P := P) hag hi h6 h1
     refine wp_same hR hd hn ⟨u, ?_, h4⟩ h2
     simp [execOp, ho, Instr.index, run_underlying hu, h5, hy, asIntOf, run_sizeOf' w hi, hb, h3]
    ·cases h1
   | _ => rw [hev, hew] at h1; simp [aidxV] at h1
  | _ => rw [hev, hew] at h1; simp [aidxV] at h1
 | _ => rw [hev] at h1; simp [aidxV] at h1
theorem s_chr {t : TypeId} {x y : Operand} (ho : o.op = .index t x y) (hu : P.underlying t = some .string) (h : aop P G (.chr (absOpd x) (absOpd y)) o.dst st K) : o.wp P a w next Q := by
 obtain ⟨v, h1, h2⟩ := h
 obtain ⟨u, h3, h4⟩ := chr_sound (P := P) hu (ev_rep hR x) (ev_rep hR y) h1
 exact wp_same hR hd hn ⟨u, by simp [execOp, ho, h3], h4⟩ h2
theorem s_bin {op : BinOp} {t t' : TypeId} {x y : Operand} (ho : o.op = .binOp op t x y t') (h : aop P G (.bin op (absOpd x) (absOpd y)) o.dst st K) : o.wp P a w next Q := by
 obtain ⟨v, h1, h2⟩ := h
 obtain ⟨u, h3, h4⟩ := bin_sound (P := P) t op x y (ev_rep hR x) (ev_rep hR y) h1
 exact wp_same hR hd hn ⟨u, by simp only [execOp, ho]; rw [Sem.run_bind, h3]; rfl, h4⟩ h2
theorem s_eq {op : BinOp} {neg : Bool} (hop : op = if neg then .neq else .eql) {t t' : TypeId} {x y : Operand} (ho : o.op = .binOp op t x y t') {k : EqK} (hk : eqKind P t = some (some k)) (h : aop P G (.eq neg k (absOpd x) (absOpd y)) o.dst st K) : o.wp P a w next Q := by
 obtain ⟨v, h1, h2⟩ := h
 simp only [aval] at h1
 obtain ⟨b, h3, h4⟩ := Option.map_eq_some_iff.1 h1
 subst h4
 have hk' : EqOk P t k := by
  unfold eqKind at hk
  split at hk
  ·rename_i hu; cases hk; exact hu
  ·cases hk
  ·cases hk
  ·rename_i e hu; cases hk; exact ⟨e, hu⟩
  ·rename_i e hu; cases hk; exact ⟨e, hu⟩
  ·rename_i fs hu
   split at hk
   ·rename_i ks hks
    split at hk
    ·rename_i hg; cases hk; exact ⟨hks, by simp [aggOf, hu], hg⟩
    ·cases hk
   ·cases hk
  ·cases hk
 have h5 := eq_sound (P := P) t op neg hop x y hk' (ev_rep hR x) (ev_rep hR y) h3
 exact wp_same hR hd hn (x := .bool (nego neg b)) ⟨.bool (nego neg b), by simp only [execOp, ho]; rw [Sem.run_bind, h5]; rfl, rfl⟩ h2
theorem s_not {t : TypeId} {x : Operand} (ho : o.op = .unOp .not t x) (h : aop P G (.not (absOpd x)) o.dst st K) : o.wp P a w next Q := by
 obtain ⟨v, h1, h2⟩ := h
 obtain ⟨u, h3, h4⟩ := not_sound (P := P) (ev_rep hR x) h1
 exact wp_same hR hd hn ⟨u, by simp [execOp, ho, h3], h4⟩ h2
theorem s_neg {t : TypeId} {x : Operand} (ho : o.op = .unOp .neg t x) (h : aop P G (.neg (absOpd x)) o.dst st K) : o.wp P a w next Q := by
 obtain ⟨v, h1, h2⟩ := h
 obtain ⟨u, h3, h4⟩ := neg_sound (P := P) (ev_rep hR x) h1
 exact wp_same hR hd hn ⟨u, by simp [execOp, ho, h3], h4⟩ h2
theorem s_cvt {s t : TypeId} {x : Operand} {d : TypeDesc} {k : IntKind} (ho : o.op = .convert s t x) (hs : P.underlying s = some d) (ht : P.underlying t = some (.int k)) (h : aop P G (.cvt k (absOpd x)) o.dst st K) : o.wp P a w next Q := by
 obtain ⟨v, h1, h2⟩ := h
 obtain ⟨u, h3, h4⟩ := cvt_sound (P := P) hs ht (ev_rep hR x) h1
 exact wp_same hR hd hn ⟨u, by simp [execOp, ho, h3], h4⟩ h2
theorem s_same {s t : TypeId} {x : Operand} {d : TypeDesc} (ho : o.op = .convert s t x) (hs : P.underlying s = some d) (ht : P.underlying t = some .string) (h : aop P G (.same (absOpd x)) o.dst st K) : o.wp P a w next Q := by
 obtain ⟨v, h1, h2⟩ := h
 obtain ⟨u, h3, h4⟩ := same_sound (P := P) hs ht (ev_rep hR x) h1
 exact wp_same hR hd hn ⟨u, by simp [execOp, ho, h3], h4⟩ h2
theorem s_ext {x : Operand} {i : Nat} (ho : o.op = .extract x i) (h : aop P G (.ext i (absOpd x)) o.dst st K) : o.wp P a w next Q := by
 obtain ⟨v, h1, h2⟩ := h
 obtain ⟨u, h3, h4⟩ := ext_sound (P := P) (ev_rep hR x) h1
 exact wp_same hR hd hn ⟨u, by simp [execOp, ho, h3], h4⟩ h2
theorem s_nilc {x : Operand} (ho : o.op = .nilCheck x) (h : aop P G (.nilc (absOpd x)) o.dst st K) : o.wp P a w next Q := by
 obtain ⟨v, h1, h2⟩ := h
 simp only [aval] at h1
 have hx := ev_rep hR x
 unfold anilc at h1
 split at h1
 ·rename_i c hc
  cases h1
  rw [hc] at hx
  refine wp_same hR hd hn ⟨a.eval x, ?_, hx⟩ h2
  obtain ⟨b, off, h3, _⟩ := hx
  simp [execOp, ho, h3]
 ·rename_i i r c hc
  cases h1
  rw [hc] at hx
  refine wp_same hR hd hn ⟨a.eval x, ?_, hx⟩ h2
  obtain ⟨⟨b, h3⟩, _⟩ := hx
  simp [execOp, ho, h3]
 ·rename_i f caps hc
  cases h1
  rw [hc] at hx
  refine wp_same hR hd hn ⟨a.eval x, ?_, hx⟩ h2
  obtain ⟨vs, h3, _⟩ := hx
  simp [execOp, ho, h3]
 ·cases h1
theorem s_mkf {f : Fn} {caps : Array Operand} (ho : o.op = .makeFunc f #[] caps) (h : aop P G (.mkf f (caps.toList.map absOpd)) o.dst st K) : o.wp P a w next Q := by
 obtain ⟨v, h1, h2⟩ := h
 cases h1
 have hx : Rep w g (.fn f (evs G st.fr (caps.toList.map absOpd))) (.func f #[] (caps.map a.eval)) := ⟨caps.map a.eval, rfl, by rw [Array.toList_map]; exact ev_evs hR caps.toList⟩
 exact wp_same hR hd hn ⟨_, by simp [execOp, ho, Instr.makeFunc], hx⟩ h2
theorem s_len {c : Call} {x : Operand} {t e : TypeId} (ho : o.op = .call c) (hc : c.callee = .builtin .len) (ha : c.args.toList = [x]) (ht : c.argTypes.toList = [t]) (hu : P.underlying t = some (.slice e)) (h : aop P G (.len (absOpd x)) o.dst st K) : o.wp P a w next Q := by
 obtain ⟨v, h1, h2⟩ := h
 obtain ⟨u, h3, h4⟩ := len_sound (P := P) (ty := o.type) hu (ev_rep hR x) h1
 exact wp_same hR hd hn ⟨u, by simp [execOp, ho, resolve, hc, invoke, builtin, arr1 ha, arr1 ht, h3], h4⟩ h2
theorem s_cap {c : Call} {x : Operand} {t e : TypeId} (ho : o.op = .call c) (hc : c.callee = .builtin .cap) (ha : c.args.toList = [x]) (ht : c.argTypes.toList = [t]) (hu : P.underlying t = some (.slice e)) (h : aop P G (.cap (absOpd x)) o.dst st K) : o.wp P a w next Q := by
 obtain ⟨v, h1, h2⟩ := h
 obtain ⟨u, h3, h4⟩ := cap_sound (P := P) (ty := o.type) hu (ev_rep hR x) h1
 exact wp_same hR hd hn ⟨u, by simp [execOp, ho, resolve, hc, invoke, builtin, arr1 ha, arr1 ht, h3], h4⟩ h2
theorem s_lenS {c : Call} {x : Operand} {t : TypeId} (ho : o.op = .call c) (hc : c.callee = .builtin .len) (ha : c.args.toList = [x]) (ht : c.argTypes.toList = [t]) (hu : P.underlying t = some .string) (h : aop P G (.lenS (absOpd x)) o.dst st K) : o.wp P a w next Q := by
 obtain ⟨v, h1, h2⟩ := h
 obtain ⟨u, h3, h4⟩ := lenS_sound (P := P) (ty := o.type) hu (ev_rep hR x) h1
 exact wp_same hR hd hn ⟨u, by simp [execOp, ho, resolve, hc, invoke, builtin, arr1 ha, arr1 ht, h3], h4⟩ h2
theorem s_mm {c : Call} {mx : Bool} {x y : Operand} (ho : o.op = .call c) (hc : c.callee = .builtin (if mx = true then .max else .min)) (ha : c.args.toList = [x, y]) (h : aop P G (.mm mx (absOpd x) (absOpd y)) o.dst st K) : o.wp P a w next Q := by
 obtain ⟨v, h1, h2⟩ := h
 have h1 : amm mx (ev G st.fr (absOpd x)) (ev G st.fr (absOpd y)) = some v := h1
 have hx := ev_rep hR x
 have hy := ev_rep hR y
 generalize ev G st.fr (absOpd x) = p at h1 hx
 generalize ev G st.fr (absOpd y) = q at h1 hy
 unfold amm at h1
 split at h1
 ·rename_i k A k' B
  split at h1
  ·cases h1
   have hx : a.eval x = _ := hx
   have hy : a.eval y = _ := hy
   cases mx with
   | true => exact wp_same hR hd hn ⟨.int k (max A B), by simp [execOp, ho, resolve, hc, invoke, builtin, arr2 ha, hx, hy, Go.Lib.run_max_ints], (show Rep w g (.lit (.int k (mmI true A B))) (.int k (max A B)) from rfl)⟩ h2
   | false => exact wp_same hR hd hn ⟨.int k (min A B), by simp [execOp, ho, resolve, hc, invoke, builtin, arr2 ha, hx, hy, Go.Lib.run_min_ints], (show Rep w g (.lit (.int k (mmI false A B))) (.int k (min A B)) from rfl)⟩ h2
  ·cases h1
 ·cases h1
theorem s_mm3 {c : Call} {mx : Bool} {x y z : Operand} (ho : o.op = .call c) (hc : c.callee = .builtin (if mx = true then .max else .min)) (ha : c.args.toList = [x, y, z]) (h : aop P G (.mm3 mx (absOpd x) (absOpd y) (absOpd z)) o.dst st K) : o.wp P a w next Q := by
 obtain ⟨v, h1, h2⟩ := h
 have h1 : amm3 mx (ev G st.fr (absOpd x)) (ev G st.fr (absOpd y)) (ev G st.fr (absOpd z)) = some v := h1
 have hx := ev_rep hR x
 have hy := ev_rep hR y
 have hz := ev_rep hR z
 generalize ev G st.fr (absOpd x) = p at h1 hx
 generalize ev G st.fr (absOpd y) = q at h1 hy
 generalize ev G st.fr (absOpd z) = r at h1 hz
 unfold amm3 at h1
 split at h1
 ·rename_i k A k' B k'' C
  split at h1
  ·cases h1
   have hx : a.eval x = _ := hx
   have hy : a.eval y = _ := hy
   have hz : a.eval z = _ := hz
   cases mx with
   | true =>
    have e := run_max_int3 (P := P) w c.argTypes o.type k k' k'' A B C
    rw [max_iff, max_iff] at e
    exact wp_same hR hd hn ⟨.int k (max (max A B) C), by simp [execOp, ho, resolve, hc, invoke, builtin, arr3 ha, hx, hy, hz, e], (show Rep w g (.lit (.int k (mmI true (mmI true A B) C))) (.int k (max (max A B) C)) from rfl)⟩ h2
   | false =>
    have e := run_min_int3 (P := P) w c.argTypes o.type k k' k'' A B C
    rw [min_iff, min_iff] at e
    exact wp_same hR hd hn ⟨.int k (min (min A B) C), by simp [execOp, ho, resolve, hc, invoke, builtin, arr3 ha, hx, hy, hz, e], (show Rep w g (.lit (.int k (mmI false (mmI false A B) C))) (.int k (min (min A B) C)) from rfl)⟩ h2
  ·cases h1
 ·cases h1
theorem s_slS {t : TypeId} {x : Operand} {lo hi : Option Operand} (ho : o.op = .slice t x lo hi none) (hu : P.underlying t = some .string) (h : aop P G (.slS (absOpd x) (lo.map absOpd) (hi.map absOpd)) o.dst st K) : o.wp P a w next Q := by
 obtain ⟨v, h1, h2⟩ := h
 obtain ⟨u, h3, h4⟩ := slS_sound (P := P) hu (ev_rep hR x) (ev_evo hR lo) (ev_evo hR hi) h1
 exact wp_same hR hd hn ⟨u, by simp [execOp, ho, h3], h4⟩ h2
theorem s_sl {t e : TypeId} {i : TypeInfo} {x : Operand} {lo hi : Option Operand} (ho : o.op = .slice t x lo hi none) (hu : P.underlying t = some (.slice e)) (hi' : P.info? e = some i) (h : aop P G (.sl i.size (absOpd x) (lo.map absOpd) (hi.map absOpd)) o.dst st K) : o.wp P a w next Q := by
 obtain ⟨h0, v, h1, h2⟩ := h
 rw [← hR.H] at h0
 obtain ⟨u, h3, h4⟩ := sl_sound (P := P) hR.inv hu hi' (ev_rep hR x) (ev_evo hR lo) (ev_evo hR hi) h0 h1
 exact wp_same hR hd hn ⟨u, by simp [execOp, ho, h3], h4⟩ h2
theorem s_build {t : TypeId} {parts : Array (Nat × Operand)} {fs : Array Field} {i : TypeInfo} {z : Value} {places : List (Nat × Nat)} {ps : List (Nat × Nat × Opd)} (ho : o.op = .build t parts) (hu : P.underlying t = some (.struct fs)) (hi : P.info? t = some i) (hz : i.zero = some z)
  (hp : fs.toList.mapM (fun f => (P.info? f.type).map fun j => (f.offset, j.size)) = some places) (hps : absParts places parts.toList = some ps) (h : aop P G (.build (z.cells.toList.map AV.ofVal) ps) o.dst st K) : o.wp P a w next Q := by
 obtain ⟨v, h1, h2⟩ := h
 simp only [aval] at h1
 obtain ⟨out, h3, h4⟩ := Option.map_eq_some_iff.1 h1
 subst h4
 obtain ⟨arr, h5, h6⟩ := fill_sound (parts_rep hR hps) (zero_rep w g z.cells.toList) h3
 have hb : P.built t (parts.map fun (i, x) => (i, a.eval x)).toList = some arr := by
  simp only [Program.built, hi, hu, hz, hp, Array.toList_map]
  exact h5
 exact wp_same hR hd hn (x := .agg out) ⟨.agg arr, by simp [execOp, ho, run_build w t _ arr hb], arr, rfl, h6⟩ h2
theorem s_buildA {t e : TypeId} {n : Nat} {parts : Array (Nat × Operand)} {i ie : TypeInfo} {z : Value} (ho : o.op = .build t parts) (hu : P.underlying t = some (.array n e)) (hi : P.info? t = some i) (hz : i.zero = some z) (hie : P.info? e = some ie)
  (h : aop P G (.build (z.cells.toList.map AV.ofVal) (parts.toList.map fun (k, x) => (k * ie.size, ie.size, absOpd x))) o.dst st K) : o.wp P a w next Q := by
 obtain ⟨v, h1, h2⟩ := h
 simp only [aval] at h1
 obtain ⟨out, h3, h4⟩ := Option.map_eq_some_iff.1 h1
 subst h4
 obtain ⟨arr, h5, h6⟩ := fill_sound (parts_rep_arr hR ie.size parts.toList) (zero_rep w g z.cells.toList) h3
 have hb : P.built t (parts.map fun (i, x) => (i, a.eval x)).toList = some arr := by
  simp only [Program.built, hi, hu, hz, hie, Array.toList_map]
  exact h5
 exact wp_same hR hd hn (x := .agg out) ⟨.agg arr, by simp [execOp, ho, run_build w t _ arr hb], arr, rfl, h6⟩ h2
theorem s_box {E : TypeId} {n : Nat} {x : Operand} (ho : o.op = .box E x) (h : aop P G (.box n (absOpd x)) o.dst st K) : o.wp P a w next Q := by
 obtain ⟨v, h1, h2⟩ := h
 simp only [aval] at h1
 split at h1
 ·rename_i cs hcs
  split at h1
  ·cases h1
   have hv := cells_sound (ev_rep hR x) hcs
   refine wp_value hR hd hn (w' := w.alloc (.cells (a.eval x).cells E)) (g' := g) (x := .pp cs) (v := .pointer (some ⟨w.heap.size, 0, none⟩)) (by simp [execOp, ho, Instr.box, newVar, newRow]) (step_alloc w g _) (inv_alloc hR.inv _) ⟨w.heap.size, 0, rfl, new_cells hR.inv hv⟩ ?_
   rw [hR.H, hR.n]
   exact h2
  ·cases h1
 ·cases h1
theorem s_bsl {t e : TypeId} {i : TypeInfo} {z : Value} {len : Nat} {parts : Array (Nat × Operand)} (ho : o.op = .buildSlice t len parts) (hu : P.underlying t = some (.slice e)) (hi : P.info? e = some i) (hz : i.zero = some z) (hs : len * i.size ≤ 2 ^ 24) (hs2 : len ≤ 2 ^ 24)
  (h : aop P G (.bsl i.size len (parts.toList.map fun (k, x) => (k, absOpd x))) o.dst st K) : o.wp P a w next Q := by
 obtain ⟨v, h1, h2⟩ := h
 simp only [aval] at h1
 split at h1
 ·rename_i rows hrows
  split at h1
  ·rename_i hl
   cases h1
   obtain ⟨arr, h3, h4, h5, h6⟩ := slice_lit (P := P) hR hu hi hz hs hrows hl
   refine wp_value hR hd hn (w' := w.alloc (.cells arr e)) (g' := g) (x := .ls true rows) (v := .slice (some ⟨w.heap.size, 0, none⟩) len len) (by simp [execOp, ho, h3]) (step_alloc w g _) (inv_alloc hR.inv _)
    ⟨some ⟨w.heap.size, 0, none⟩, len, by rw [hl], by omega, by simp only [maxLen]; omega, rfl, fun h => (by cases h), fun ad had => by cases had; exact ⟨rfl, RepRows.of_flat (new_cells hR.inv h4)⟩⟩ ?_
   rw [hR.H, hR.n]
   exact h2
  ·cases h1
 ·cases h1
theorem s_alloc {E : TypeId} {i : TypeInfo} {z : Value} (ho : o.op = .alloc E) (hi : P.info? E = some i) (hz : i.zero = some z) (h : aop P G (.alloc E (z.cells.toList.map AV.ofVal)) o.dst st K) : o.wp P a w next Q := by
 have hob : ObjIn w g z.cells ⟨E, (z.cells.toList.map AV.ofVal).length, [z.cells.toList.map AV.ofVal]⟩ := ObjIn.of_flat (by simp) (by simp) (by
  simp only [List.flatten_cons, List.flatten_nil, List.append_nil, List.length_cons, List.length_nil, Nat.zero_add, Nat.one_mul, List.length_map, Array.length_toList]
  rw [List.take_of_length_le (by simp)]
  exact zero_rep w g _)
 refine wp_value hR hd hn (w' := w.alloc (.cells z.cells E)) (g' := g.more w.heap.size ⟨E, (z.cells.toList.map AV.ofVal).length, [z.cells.toList.map AV.ofVal]⟩) (x := .op g.n 0 0) (v := .pointer (some ⟨w.heap.size, 0, none⟩))
  (by simp [execOp, ho, Instr.alloc, zeroValue, typeInfo, hi, hz, newVar, newRow]) (step_more hR.inv ⟨E, _, [z.cells.toList.map AV.ofVal]⟩ _) (inv_more hR.inv _ _ hob) (more_rep _ _ _ (heap_alloc_new' _ _)) ?_
 show K ⟨_, upd g.H g.n _, g.n + 1⟩
 rw [hR.H, hR.n]
 exact h
theorem s_boxo {E : TypeId} {n : Nat} {x : Operand} (ho : o.op = .box E x) (h : aop P G (.boxo E n (absOpd x)) o.dst st K) : o.wp P a w next Q := by
 obtain ⟨cs, hcs, hl, h2⟩ := h
 have hv := cells_sound (ev_rep hR x) hcs
 have hvl := hv.length
 simp at hvl
 have hob : ObjIn w g (a.eval x).cells ⟨E, n, [cs]⟩ := ObjIn.of_flat (by simp [hl]) (by simp; omega) (by
  simp only [List.flatten_cons, List.flatten_nil, List.append_nil, List.length_cons, List.length_nil, Nat.zero_add, Nat.one_mul]
  rw [List.take_of_length_le (by simp; omega)]
  exact hv)
 refine wp_value hR hd hn (w' := w.alloc (.cells (a.eval x).cells E)) (g' := g.more w.heap.size ⟨E, n, [cs]⟩) (x := .op g.n 0 0) (v := .pointer (some ⟨w.heap.size, 0, none⟩))
  (by simp [execOp, ho, Instr.box, newVar, newRow]) (step_more hR.inv ⟨E, n, [cs]⟩ _) (inv_more hR.inv _ _ hob) (more_rep _ _ _ (heap_alloc_new' _ _)) ?_
 show K ⟨_, upd g.H g.n _, g.n + 1⟩
 rw [hR.H, hR.n]
 exact h2
theorem s_bslo {t e : TypeId} {i : TypeInfo} {z : Value} {len : Nat} {parts : Array (Nat × Operand)} (ho : o.op = .buildSlice t len parts) (hu : P.underlying t = some (.slice e)) (hi : P.info? e = some i) (hz : i.zero = some z) (hs : len * i.size ≤ 2 ^ 24) (hs2 : len ≤ 2 ^ 24)
  (h : aop P G (.bslo e i.size len (parts.toList.map fun (k, x) => (k, absOpd x))) o.dst st K) : o.wp P a w next Q := by
 obtain ⟨rows, hrows, hl, h2⟩ := h
 obtain ⟨arr, h3, h4, h5, h6⟩ := slice_lit (P := P) hR hu hi hz hs hrows hl
 have hob : ObjIn w g arr ⟨e, i.size, rows⟩ := ObjIn.of_flat h5 (by show rows.length * i.size ≤ arr.size; rw [hl, h6]; exact Nat.le_refl _) (by
  show RepList w g rows.flatten (arr.toList.take (rows.length * i.size))
  rw [List.take_of_length_le (by simp [hl, h6])]
  exact h4)
 refine wp_value hR hd hn (w' := w.alloc (.cells arr e)) (g' := g.more w.heap.size ⟨e, i.size, rows⟩) (x := .os g.n 0 len) (v := .slice (some ⟨w.heap.size, 0, none⟩) len len)
  (by simp [execOp, ho, h3]) (step_more hR.inv ⟨e, i.size, rows⟩ _) (inv_more hR.inv _ _ hob) (more_rep_os _ _ _ (heap_alloc_new' _ _) h6 (Nat.le_refl _) (by simp only [maxLen]; omega)) ?_
 show K ⟨_, upd g.H g.n _, g.n + 1⟩
 rw [hR.H, hR.n]
 exact h2
theorem s_store {t : TypeId} {i : TypeInfo} {x y : Operand} (ho : o.op = .store t x y) (hi : P.info? t = some i) (h : aop P G (.store false i.size (absOpd x) (absOpd y)) o.dst st K) : o.wp P a w next Q := by
 simp only [aop] at h
 have hx := ev_rep hR x
 split at h
 ·rename_i j r c hc
  obtain ⟨ob, cs, ob', h1, h2, h3, h4, h5, h6⟩ := h
  rw [hc] at hx
  rw [← hR.H] at h1
  obtain ⟨w', k1, k2, k3⟩ := store_sound (P := P) hR.inv hi hx (ev_rep hR y) h1 h2 h3 h4 h5
  refine wp_skip' hR hd hn (by simp [execOp, ho, k1]) k2 k3 ?_
  show K ⟨_, upd g.H j _, g.n⟩
  rw [hR.H, hR.n]
  exact h6
 ·exact h.elim
theorem s_make {t e : TypeId} {i : TypeInfo} {z : Value} {l c : Operand} (ho : o.op = .makeSlice t l c) (hu : P.underlying t = some (.slice e)) (hi : P.info? e = some i) (hz : i.zero = some z) (hzs : z.cells.size = i.size)
  (h : aop P G (.make e i.bytes (z.cells.toList.map AV.ofVal) (absOpd l) (absOpd c)) o.dst st K) : o.wp P a w next Q := by
 simp only [aop] at h
 have hl := ev_rep hR l
 have hc := ev_rep hR c
 split at h
 ·rename_i m m' e1 e2
  obtain ⟨h1, h2, h3, h4, h5⟩ := h
  rw [e1] at hl
  rw [e2] at hc
  have hl : a.eval l = .int .i64 m := hl
  have hc : a.eval c = .int .i64 m' := hc
  obtain ⟨v, w', g', k1, k2, k3, k4, k5, k6⟩ := make_sound (P := P) hR.inv hu hi hz hzs h1 h2 h3 h4
  refine wp_value hR hd hn (by simp [execOp, ho, hl, hc, k1]) k2 k3 k6 ?_
  rw [k4, k5, hR.H, hR.n]
  simpa [hzs] using h5
 ·exact h.elim
theorem s_clear {c : Call} {x : Operand} {t e : TypeId} {i : TypeInfo} {z : Value} (ho : o.op = .call c) (hc : c.callee = .builtin .clear) (ha : c.args.toList = [x]) (ht : c.argTypes.toList = [t]) (hu : P.underlying t = some (.slice e)) (hi : P.info? e = some i) (hz : i.zero = some z)
  (hzs : z.cells.size = i.size) (hz1 : z.cells.all Value.oneCell' = true) (h : aop P G (.clear i.size (z.cells.toList.map AV.ofVal) (absOpd x)) o.dst st K) : o.wp P a w next Q := by
 simp only [aop] at h
 have hx := ev_rep hR x
 split at h
 ·rename_i j off len e1
  obtain ⟨ob, h1, h2, h3, h4, h5, h6⟩ := h
  rw [e1] at hx
  rw [← hR.H] at h1
  obtain ⟨w', k1, k2, k3⟩ := clear_sound (P := P) (ty := o.type) hR.inv hu hi hz hzs hz1 h4 hx h1 h2 h5
  refine wp_value hR hd hn (v := .tuple #[]) (x := .any) (by simp [execOp, ho, resolve, hc, invoke, builtin, arr1 ha, arr1 ht, k1]) k2 k3 trivial ?_
  show K ⟨_, upd g.H j _, g.n⟩
  rw [hR.H, hR.n]
  exact h6
 ·exact h.elim
theorem s_copy {c : Call} {x y : Operand} {t t2 e : TypeId} {i : TypeInfo} (ho : o.op = .call c) (hc : c.callee = .builtin .copy) (ha : c.args.toList = [x, y]) (ht : c.argTypes.toList = [t, t2]) (hu : P.underlying t = some (.slice e)) (hi : P.info? e = some i)
  (h : aop P G (.copy i.size (absOpd x) (absOpd y)) o.dst st K) : o.wp P a w next Q := by
 have hx := ev_rep hR x
 have hy := ev_rep hR y
 have hrun : ∀ v w', (Builtin.copy_ #[t, t2] o.type #[a.eval x, a.eval y]).run P w = .ok v w' → (execOp a.eval o).run P w = .ok (.value v) w' := by
  intro v w' hv
  simp [execOp, ho, resolve, hc, invoke, builtin, arr2 ha, arr2 ht, hv]
 simp only [aop] at h
 split at h
 ·rename_i j off len news e1 e2
  obtain ⟨ob, h1, h2, h3, h4, h5⟩ := h
  rw [e1] at hx
  rw [← hR.H] at e2 h1
  have hsrc := src_ok hR.inv hy e2
  obtain ⟨w', k1, k2, k3⟩ := copy_sound (P := P) (t2 := t2) (ty := o.type) hR.inv hu hi hsrc h3 hx h1 h2 h4
  refine wp_value hR hd hn (x := .int (Nat.min news.length len : Nat)) (hrun _ _ k1) k2 k3 rfl ?_
  show K ⟨_, upd g.H j _, g.n⟩
  rw [hR.H, hR.n]
  exact h5
 ·rename_i nz news e1 e2
  rw [e1] at hx
  rw [← hR.H] at e2
  obtain ⟨a0, c0, hxv, hx1, hx2, hx3, hx4, _⟩ := hx
  obtain ⟨a1, d1, hyv, hy1, hy2⟩ := src_ok hR.inv hy e2
  refine wp_same hR hd hn (x := .int 0) ⟨.int .i64 0, hrun _ _ ?_, rfl⟩ h
  rw [hxv, hyv]
  cases a0 <;> cases a1 <;> simp [Builtin.copy_, run_underlying hu, Builtin.lenOf, Builtin.firstCells, run_sizeOf' w hi, loadCells, loadCellsFrom, storeCells, goInt]
 ·exact h.elim
theorem s_app {c : Call} {s x : Operand} {t e : TypeId} {i : TypeInfo} {z : Value} (ho : o.op = .call c) (hc : c.callee = .builtin .append) (ha : c.args.toList = [s, x]) (ht : c.argTypes.toList = [t, t]) (hu : P.underlying t = some (.slice e)) (hi : P.info? e = some i) (hz : i.zero = some z)
  (hzs : z.cells.size = i.size) (h0 : 0 < i.size) (hb : 0 < i.bytes) (h : aop P G (.app e i.size i.bytes (absOpd s) (absOpd x)) o.dst st K) : o.wp P a w next Q := by
 have hs := ev_rep hR s
 have hx := ev_rep hR x
 have hrun : ∀ v w', (Builtin.append_ #[t, t] o.type #[a.eval s, a.eval x]).run P w = .ok v w' → (execOp a.eval o).run P w = .ok (.value v) w' := by
  intro v w' hv
  simp [execOp, ho, resolve, hc, invoke, builtin, arr2 ha, arr2 ht, hv]
 simp only [aop] at h
 split at h
 ·rename_i news e1 e2
  obtain ⟨h1, h2, h3, h4⟩ := h
  rw [e1] at hs
  rw [← hR.H] at e2
  have hx := src_ok hR.inv hx e2
  obtain ⟨k1, k2⟩ := app_sound (P := P) (ty := o.type) hR.inv hu hi hz hzs h0 hb hx h1 _ hs h3
  cases news with
  | nil =>
   refine wp_same hR hd hn (x := .ls false []) ⟨.slice none 0 0, hrun _ _ (k1 rfl), rep_ofVal w g (.slice none 0 0)⟩ h4
  | cons r rs =>
   obtain ⟨v, w', g', m1, m2, m3, m4, m5, m6⟩ := k2 (by simp)
   refine wp_value hR hd hn (hrun _ _ m1) m2 m3 m6 ?_
   rw [m4, m5, hR.H, hR.n]
   exact h4
 ·rename_i j off len news e1 e2
  rw [e1] at hs
  rw [← hR.H] at e2
  have hx := src_ok hR.inv hx e2
  rcases h with ⟨h1, h2⟩ | ⟨ob, h1, h2, h3, h4, h5, h6, h7, h8, h9⟩ | ⟨ob, h1, h3, h4, h5, h6, h7, h8, h9, h10⟩
  ·obtain ⟨a1, c1, hxv, hn1, hn2⟩ := hx
   have hn0 : news = [] := List.length_eq_zero_iff.1 (by omega)
   have hl0 : len = 0 := by omega
   subst hn0 hl0
   have hsr := hs
   obtain ⟨⟨b1, d1, hsv⟩, _⟩ := hs
   have hrun1 : (Builtin.append_ #[t, t] o.type #[a.eval s, a.eval x]).run P w = .ok (a.eval s) w := by
    have hxv' : a.eval x = .slice a1 0 c1 := hxv
    have hsv' : a.eval s = .slice b1 0 d1 := hsv
    rw [hsv', hxv']
    cases a1 <;> cases b1 <;> simp [Builtin.append_, run_underlying hu, run_sizeOf' w hi, Builtin.lenOf, Builtin.firstCells, loadCells, loadCellsFrom, storeCells]
   exact wp_same hR hd hn (x := .os j off 0) ⟨a.eval s, hrun _ _ hrun1, hsr⟩ h2
  ·subst h2
   rw [← hR.H] at h1
   obtain ⟨v, w', g', m1, m2, m3, m4, m5, m6⟩ := app_own_sound (P := P) (ty := o.type) hR.inv hu hi hz hzs h0 hb hx h6 hs h1 h3 h4 h5 h8 h7
   refine wp_value hR hd hn (hrun _ _ m1) m2 m3 m6 ?_
   rw [m4, m5, hR.H, hR.n]
   exact h9
  ·rw [← hR.H] at h1
   obtain ⟨v, w', g', off', rows', m1, m2, m3, m4, m5, m6, m7⟩ := app_off_sound (P := P) (ty := o.type) hR.inv hu hi hz hzs h0 hb hx h6 hs h1 h3 h4 h5 h8 h7
   refine wp_value hR hd hn (hrun _ _ m1) m2 m3 m6 ?_
   rw [m4, m5, hR.H, hR.n]
   rcases m7 with ⟨rfl, rfl⟩ | ⟨rfl, rfl⟩
   ·exact h9
   ·exact h10
 ·exact h.elim
theorem s_mkm {t : TypeId} {E kc : Nat} (ho : o.op = .makeMap t none) (h : aop P G (.mkm E kc) o.dst st K) : o.wp P a w next Q := by
 obtain ⟨v, w', k1, k2, k3, k4⟩ := mkm_sound (P := P) hR.inv t E kc
 refine wp_value hR hd hn (by simp [execOp, ho, k1]) k2 k3 k4 ?_
 show K ⟨_, upd g.H g.n _, g.n + 1⟩
 rw [hR.H, hR.n]
 exact h
theorem s_look {t : TypeId} {m k : Operand} {ok : Bool} {kc : Nat} {z : AV} (ho : o.op = .lookup t m k ok) (hm : mapOf P t = some (kc, z)) (h : aop P G (.look ok kc z (absOpd m) (absOpd k)) o.dst st K) : o.wp P a w next Q := by
 obtain ⟨v, h1, h2⟩ := h
 obtain ⟨kt, e, i, zv, m1, m2, m3, m4, rfl⟩ := mapOf_some hm
 simp only [aval] at h1
 rw [← hR.H] at h1
 obtain ⟨u, h3, h4⟩ := look_sound (P := P) hR.inv m1 m2 m3 m4 ok (ev_rep hR m) (ev_rep hR k) h1
 exact wp_same hR hd hn ⟨u, by simp [execOp, ho, h3], h4⟩ h2
theorem s_lenM {c : Call} {x : Operand} {t k e : TypeId} (ho : o.op = .call c) (hc : c.callee = .builtin .len) (ha : c.args.toList = [x]) (ht : c.argTypes.toList = [t]) (hu : P.underlying t = some (.map k e)) (h : aop P G (.lenM (absOpd x)) o.dst st K) : o.wp P a w next Q := by
 obtain ⟨v, h1, h2⟩ := h
 simp only [aval] at h1
 rw [← hR.H] at h1
 obtain ⟨u, h3, h4⟩ := lenM_sound (P := P) (ty := o.type) hR.inv hu (ev_rep hR x) h1
 exact wp_same hR hd hn ⟨u, by simp [execOp, ho, resolve, hc, invoke, builtin, arr1 ha, arr1 ht, h3], h4⟩ h2
theorem s_mset {t : TypeId} {m k x : Operand} {kc : Nat} {z : AV} (ho : o.op = .mapUpdate t m k x ∨ o.op = .insert t m k x) (hm : mapOf P t = some (kc, z)) (h : aop P G (.mset kc (absOpd m) (absOpd k) (absOpd x)) o.dst st K) : o.wp P a w next Q := by
 simp only [aop] at h
 have hx := ev_rep hR m
 obtain ⟨kt, e, i, zv, m1, m2, m3, m4, rfl⟩ := mapOf_some hm
 split at h
 ·rename_i j hj
  obtain ⟨ob, h1, h2, h3, h4⟩ := h
  rw [hj] at hx
  rw [← hR.H] at h1
  subst h2
  obtain ⟨w', k1, k2, k3⟩ := mset_sound (P := P) hR.inv m1 hx h1 m2 h3 (ev_rep hR k) (ev_rep hR x)
  refine wp_skip' hR hd hn (by rcases ho with ho | ho <;> simp [execOp, ho, k1]) k2 k3 ?_
  show K ⟨_, upd g.H j _, g.n⟩
  rw [hR.H, hR.n]
  exact h4
 ·exact h.elim
theorem s_ment {t : TypeId} {m k : Operand} {kc : Nat} {z : AV} (ho : o.op = .mapEntry t m k) (hm : mapOf P t = some (kc, z)) (h : aop P G (.ment kc z (absOpd m) (absOpd k)) o.dst st K) : o.wp P a w next Q := by
 simp only [aop] at h
 have hx := ev_rep hR m
 obtain ⟨kt, e, i, zv, m1, m2, m3, m4, rfl⟩ := mapOf_some hm
 split at h
 ·rename_i j hj
  obtain ⟨ob, h1, h2, h2', h3, h4⟩ := h
  rw [hj] at hx
  rw [← hR.H] at h1
  subst h2
  obtain ⟨v, w', k1, k2, k3, k4⟩ := ment_sound (P := P) hR.inv m1 m3 m4 hx h1 m2 h3 (ev_rep hR k)
  refine wp_value hR hd hn (by simp [execOp, ho, k1]) k2 k3 k4 ?_
  show K ⟨_, upd g.H j _, g.n⟩
  rw [hR.H, hR.n]
  exact h4
 ·exact h.elim
theorem s_mest {t : TypeId} {m s x : Operand} (ho : o.op = .entryStore t m s x) (h : aop P G (.mest (absOpd m) (absOpd s) (absOpd x)) o.dst st K) : o.wp P a w next Q := by
 simp only [aop] at h
 have hx := ev_rep hR m
 have hs := ev_rep hR s
 split at h
 ·rename_i i i' j hi hj
  obtain ⟨rfl, ob, key, old, h1, h2, h3, h4⟩ := h
  rw [hi] at hx
  rw [hj] at hs
  rw [← hR.H] at h1
  obtain ⟨w', k1, k2, k3⟩ := mest_sound (P := P) (t := t) hR.inv hx hs h1 h2 h3 (ev_rep hR x)
  refine wp_skip' hR hd hn (by simp [execOp, ho, k1]) k2 k3 ?_
  show K ⟨_, upd g.H i _, g.n⟩
  rw [hR.H, hR.n]
  exact h4
 ·exact h.elim
theorem s_rng {t : TypeId} {m : Operand} {kc : Nat} {z : AV} (ho : o.op = .range t m) (hm : mapOf P t = some (kc, z)) (h : aop P G (.rng (absOpd m)) o.dst st K) : o.wp P a w next Q := by
 simp only [aop] at h
 have hx := ev_rep hR m
 obtain ⟨kt, e, i, zv, m1, m2, m3, m4, rfl⟩ := mapOf_some hm
 split at h
 ·rename_i j hj
  obtain ⟨ob, h1, h2, h3⟩ := h
  rw [hj] at hx
  rw [← hR.H] at h1
  obtain ⟨v, w', k1, k2, k3, k4⟩ := rng_sound (P := P) hR.inv m1 hx h1 h2
  refine wp_value hR hd hn (by simp [execOp, ho, k1]) k2 k3 k4 ?_
  show K ⟨_, upd g.H g.n _, g.n + 1⟩
  rw [hR.H, hR.n]
  exact h3
 ·exact h.elim
theorem s_nxt {m : Operand} (ho : o.op = .next m false) (h : aop P G (.nxt (absOpd m)) o.dst st K) : o.wp P a w next Q := by
 simp only [aop] at h
 have hx := ev_rep hR m
 split at h
 ·rename_i j hj
  obtain ⟨ob, om, k0, idxs, h1, h2, h3, h4, h5, h6⟩ := h
  rw [hj] at hx
  rw [← hR.H] at h1 h2
  rcases nxt_sound (P := P) (ty := o.type) hR.inv hx h1 h2 h3 h4 with ⟨k1, k2⟩ | ⟨k, hk, x, y, v, w', k1, k2, k3, k4, k5⟩
  ·refine wp_value hR hd hn (x := .tup [.bool false]) (by simp [execOp, ho, k2]) (Step.refl _ _) hR.inv ⟨_, rfl, .bool false, [], rfl, rfl, rfl⟩ ?_
   rw [hR.H, hR.n]
   exact h5 k1
  ·refine wp_value hR hd hn (by simp [execOp, ho, k2]) k3 k4 k5 ?_
   show K ⟨_, upd g.H j _, g.n⟩
   rw [hR.H, hR.n]
   exact h6 k hk x y k1
 ·exact h.elim
theorem s_ent {m : Operand} (ho : o.op = .entry m) (h : aop P G (.ent (absOpd m)) o.dst st K) : o.wp P a w next Q := by
 obtain ⟨v, h1, h2⟩ := h
 simp only [aval] at h1
 rw [← hR.H] at h1
 obtain ⟨u, h3, h4⟩ := ent_sound (P := P) hR.inv (ev_rep hR m) h1
 exact wp_same hR hd hn ⟨u, by simp [execOp, ho, h3], h4⟩ h2
theorem s_appz {c : Call} {s x : Operand} {t tn e : TypeId} {i : TypeInfo} {z : Value} {kn : IntKind} (ho : o.op = .call c) (hc : c.callee = .builtin .append) (ha : c.args.toList = [s, x]) (ht : c.argTypes.toList = [t, tn]) (hu : P.underlying t = some (.slice e)) (hun : P.underlying tn = some (.int kn)) (hi : P.info? e = some i) (hz : i.zero = some z)
  (hzs : z.cells.size = i.size) (h0 : 0 < i.size) (h : aop P G (.appz e i.size i.bytes (z.cells.toList.map AV.ofVal) (absOpd s) (absOpd x)) o.dst st K) : o.wp P a w next Q := by
 have hs := ev_rep hR s
 have hx := ev_rep hR x
 simp only [aop] at h
 split at h
 ·rename_i m e1 e2
  obtain ⟨h1, h2, h3, h4⟩ := h
  rw [e1] at hs
  rw [e2] at hx
  obtain ⟨a1, c1, hsv, _, _, hnn, hn2, _⟩ := hs
  have ha1 : a1 = none := by
   cases a1 with
   | none => rfl
   | some y => cases hnn
  obtain ⟨rfl, _⟩ := hn2 ha1
  subst ha1
  have hsv : a.eval s = .slice none 0 0 := hsv
  have hxv : a.eval x = .int .i64 m := hx
  obtain ⟨v, w', g', m1, m2, m3, m4, m5, m6⟩ := appz_sound (P := P) (ty := o.type) hR.inv hu hun hi hz hzs h0 h1 h2 h3
  refine wp_value hR hd hn (by simp [execOp, ho, resolve, hc, invoke, builtin, arr2 ha, arr2 ht, hsv, hxv, m1]) m2 m3 m6 ?_
  rw [m4, m5, hR.H, hR.n]
  exact h4
 ·exact h.elim
theorem s_call {c : Call} {f : FuncId} (ho : o.op = .call c) (hc : c.callee = .value (.func f)) (h : aop P G (.call f (c.args.toList.map absOpd)) o.dst st K) : o.wp P a w next Q := by
 refine wp_call hR hd hn (f := f) (vs := c.args.map a.eval) (args := evs G st.fr (c.args.toList.map absOpd)) ?_ (by rw [Array.toList_map]; exact ev_evs hR _) h
 simp [execOp, ho, resolve, hc, Act.eval, Deferred.ofValue, invoke]
theorem s_callv {c : Call} {t : Tmp} (ho : o.op = .call c) (hc : c.callee = .value (.tmp t)) (h : aop P G (.callv (.t t) (c.args.toList.map absOpd)) o.dst st K) : o.wp P a w next Q := by
 simp only [aop] at h
 have hx := ev_rep hR (.tmp t)
 split at h
 ·rename_i f caps e1
  have e1' : ev G st.fr (absOpd (.tmp t)) = .fn (.func f) caps := e1
  rw [e1'] at hx
  obtain ⟨vs, h1, h2⟩ := hx
  refine wp_call hR hd hn (f := f) (vs := c.args.map a.eval ++ vs) (args := evs G st.fr (c.args.toList.map absOpd) ++ caps) ?_ (by
   rw [Array.toList_append, Array.toList_map]; exact (ev_evs hR _).append h2) h
  simp only [execOp, ho, resolve, hc, h1, Deferred.ofValue, Sem.run_bind, Sem.run_pure, Result.andThen_ok, invoke]
  simp
 ·exact h.elim
theorem s_binop {op : BinOp} {t t' : TypeId} {x y : Operand} {ao : AOp} (hop : o.op = .binOp op t x y t') (hab : absBin P op t x y = some ao) (h : aop P G ao o.dst st K) : o.wp P a w next Q := by
 unfold absBin at hab
 split at hab
 ·rename_i hcmp
  split at hab
  ·cases hab; exact s_bin hR hd hn hop h
  ·rename_i k hk
   cases hab
   cases op <;> simp [isCmp] at hcmp
   ·exact s_eq hR hd hn (neg := false) rfl hop hk h
   ·exact s_eq hR hd hn (neg := true) rfl hop hk h
  ·cases hab
 ·cases hab; exact s_bin hR hd hn hop h
theorem s_bts {s t e : TypeId} {x : Operand} (ho : o.op = .convert s t x) (hs : P.underlying s = some (.slice e)) (ht : P.underlying t = some .string) (he : P.underlying e = some (.int .u8)) (h : aop P G (.bts (absOpd x)) o.dst st K) : o.wp P a w next Q := by
 obtain ⟨v, h1, h2⟩ := h
 simp only [aval] at h1
 rw [← hR.H] at h1
 obtain ⟨u, h3, h4⟩ := bts_sound (P := P) hR.inv hs he ht (ev_rep hR x) h1
 exact wp_same hR hd hn ⟨u, by simp [execOp, ho, h3], h4⟩ h2
theorem s_upc {s t u : TypeId} {j : TypeInfo} {x : Operand} (ho : o.op = .convert s t x) (hst : (P.underlying s = some (.pointer u) ∧ P.underlying t = some .unsafePointer) ∨ (P.underlying s = some .unsafePointer ∧ P.underlying t = some (.pointer u)))
  (hu : P.info? u = some j) (hj : j.size ≠ 0) (hc : P.cellsOf u = j.size) (h : aop P G (.upc u j.size (absOpd x)) o.dst st K) : o.wp P a w next Q := by
 obtain ⟨v, h1, h2⟩ := h
 simp only [aval] at h1
 rw [← hR.H] at h1
 obtain ⟨y, h3, h4⟩ := upc_sound (P := P) hR.inv hu hj hc hst (ev_rep hR x) h1
 exact wp_same hR hd hn ⟨y, by simp [execOp, ho, h3], h4⟩ h2
theorem s_sdat {c : Call} {x : Operand} (ho : o.op = .call c) (hc : c.callee = .builtin .unsafeSliceData) (ha : c.args.toList = [x]) (h : aop P G (.sdat (absOpd x)) o.dst st K) : o.wp P a w next Q := by
 obtain ⟨v, h1, h2⟩ := h
 simp only [aval] at h1
 rw [← hR.H] at h1
 obtain ⟨u, h3, h4⟩ := sdat_sound (P := P) (ts := c.argTypes) (ty := o.type) (ev_rep hR x) h1
 exact wp_same hR hd hn ⟨u, by simp [execOp, ho, resolve, hc, invoke, builtin, arr1 ha, h3], h4⟩ h2
theorem s_apps {c : Call} {s x : Operand} {t u e : TypeId} {i : TypeInfo} (ho : o.op = .call c) (hc : c.callee = .builtin .append) (ha : c.args.toList = [s, x]) (ht : c.argTypes.toList = [t, u]) (hs : P.underlying t = some (.slice e)) (hu : P.underlying u = some .string) (hi : P.info? e = some i)
  (hz : i.zero = some (.int .u8 0)) (h1 : i.size = 1) (hb : i.bytes = 1) (h : aop P G (.apps e (absOpd s) (absOpd x)) o.dst st K) : o.wp P a w next Q := by
 have hsr := ev_rep hR s
 have hx := ev_rep hR x
 have hrun : ∀ v w', (Builtin.append_ #[t, u] o.type #[a.eval s, a.eval x]).run P w = .ok v w' → (execOp a.eval o).run P w = .ok (.value v) w' := by
  intro v w' hv
  simp [execOp, ho, resolve, hc, invoke, builtin, arr2 ha, arr2 ht, hv]
 simp only [aop] at h
 split at h
 ·rename_i str e1 e2
  obtain ⟨k1, k2, k3⟩ := h
  rw [e1] at hsr
  rw [e2] at hx
  have hx : a.eval x = .string str := hx
  rw [hx] at hrun
  obtain ⟨m1, m2⟩ := apps_nil_sound (P := P) (ty := o.type) hR.inv hs hu hi hz h1 hb str hsr k1
  rcases Nat.eq_zero_or_pos str.size with h0 | h0
  ·exact wp_same hR hd hn (x := .ls false []) ⟨.slice none 0 0, hrun _ _ (m1 h0), rep_ofVal w g (.slice none 0 0)⟩ (k2 h0)
  ·obtain ⟨v, w', g', n1, n2, n3, n4, n5, n6⟩ := m2 h0
   refine wp_value hR hd hn (hrun _ _ n1) n2 n3 n6 ?_
   rw [n4, n5, hR.H, hR.n]
   exact k3 h0
 ·rename_i j off len str e1 e2
  rw [e1] at hsr
  rw [e2] at hx
  have hx : a.eval x = .string str := hx
  rw [hx] at hrun
  obtain ⟨ob, k1, k2, k3, k4, k5, k6, k7, k8⟩ := h
  subst k2
  rw [← hR.H] at k1
  obtain ⟨v, w', g', n1, n2, n3, n4, n5, n6⟩ := apps_own_sound (P := P) (ty := o.type) hR.inv hs hu hi hz h1 hb str hsr k1 k3 k4 k5 k7 k6
  refine wp_value hR hd hn (hrun _ _ n1) n2 n3 n6 ?_
  rw [n4, n5, hR.H, hR.n]
  exact k8
 ·exact h.elim
theorem s_ustr {c : Call} {x k : Operand} {pt it e : TypeId} (ho : o.op = .call c) (hc : c.callee = .builtin .unsafeString) (ha : c.args.toList = [x, k]) (ht : c.argTypes.toList = [pt, it]) (hp : P.underlying pt = some (.pointer e)) (he : P.cellsOf e = 1) (h : aop P G (.ustr e (absOpd x) (absOpd k)) o.dst st K) : o.wp P a w next Q := by
 have hx := ev_rep hR x
 have hk := ev_rep hR k
 have hrun : ∀ v w', (Builtin.unsafeString_ #[pt, it] o.type #[a.eval x, a.eval k]).run P w = .ok v w' → (execOp a.eval o).run P w = .ok (.value v) w' := by
  intro v w' hv
  simp [execOp, ho, resolve, hc, invoke, builtin, arr2 ha, arr2 ht, hv]
 simp only [aop] at h
 split at h
 ·rename_i e1 e2
  rw [e1] at hx
  rw [e2] at hk
  have hx : a.eval x = .pointer none := hx
  have hk : a.eval k = .int .i64 0 := hk
  rw [hx, hk] at hrun
  exact wp_same hR hd hn (x := .str ⟨#[]⟩) ⟨_, hrun _ _ (Lib.run_unsafeString_none w pt it o.type none), rfl⟩ h
 ·rename_i i m e1 e2
  rw [e1] at hx
  rw [e2] at hk
  have hk : a.eval k = .int .i64 m := hk
  rw [hk] at hrun
  obtain ⟨ob, l, k1, k2, k3, k4, k5, k6, k7, k8⟩ := h
  rw [← hR.H] at k1
  obtain ⟨w', n1, n2, n3⟩ := ustr_sound (P := P) (it := it) (ty := o.type) hR.inv hp he hx k1 k2 k3 k4 k5 k6 k7
  refine wp_value hR hd hn (hrun _ _ n1) n2 n3 (x := .str ⟨l.toArray⟩) rfl ?_
  show K ⟨_, upd g.H i none, g.n⟩
  rw [hR.H, hR.n]
  exact k8
 ·exact h.elim
theorem aop_sound {own : List Nat} {ao : AOp} (hab : absOp P own o.dst o.op = some ao) (h : aop P G ao o.dst st K) : o.wp P a w next Q := by
 generalize hop : o.op = op at hab
 unfold absOp at hab
 split at hab
 ·cases hab; exact s_mov hR hd hn (.inl hop) h
 ·cases hab; exact s_mov hR hd hn (.inr hop) h
 ·cases hab; exact s_pick hR hd hn hop h
 ·split at hab
  ·rename_i h1 h2; cases hab; exact s_load hR hd hn hop h1 h2 h
  ·cases hab
 ·split at hab
  ·rename_i h1; cases hab; exact s_store hR hd hn hop h1 h
  ·cases hab
 ·split at hab
  ·rename_i h1
   split at hab
   ·rename_i h2
    split at hab
    ·cases hab; exact s_alloc hR hd hn hop h1 h2 h
    ·cases hab
   ·cases hab
  ·cases hab
 ·split at hab
  ·split at hab
   ·cases hab; exact s_boxo hR hd hn hop h
   ·cases hab; exact s_box hR hd hn hop h
  ·cases hab
 ·split at hab
  ·rename_i h1 h2
   split at hab
   ·rename_i h3 h4
    split at hab
    ·rename_i h5; cases hab; exact s_build hR hd hn hop h1 h2 h3 h4 h5 h
    ·cases hab
   ·cases hab
  ·rename_i h1 h2
   split at hab
   ·rename_i h3 h4; cases hab; exact s_buildA hR hd hn hop h1 h2 h3 h4 h
   ·cases hab
  ·cases hab
 ·split at hab
  ·rename_i h1
   split at hab
   ·rename_i h2
    split at hab
    ·rename_i h3
     split at hab
     ·rename_i h4
      split at hab
      ·cases hab; exact s_bslo hR hd hn hop h1 h2 h3 h4.1 h4.2 h
      ·cases hab; exact s_bsl hR hd hn hop h1 h2 h3 h4.1 h4.2 h
     ·cases hab
    ·cases hab
   ·cases hab
  ·cases hab
 ·cases hab; exact s_nilc hR hd hn hop h
 ·exact s_binop hR hd hn hop hab h
 ·cases hab; exact s_not hR hd hn hop h
 ·cases hab; exact s_neg hR hd hn hop h
 ·split at hab
  ·rename_i h1 h2; cases hab; exact s_cvt hR hd hn hop h1 h2 h
  ·rename_i h1 h2; cases hab; exact s_same hR hd hn hop h1 h2 h
  ·rename_i h1 h2; cases hab; exact s_same hR hd hn hop h1 h2 h
  ·rename_i h1 h2
   split at hab
   ·rename_i h3; cases hab; exact s_bts hR hd hn hop h1 h2 (isByteT_eq h3) h
   ·cases hab
  ·rename_i h1 h2
   split at hab
   ·rename_i h3
    split at hab
    ·rename_i h4; cases hab; exact s_upc hR hd hn hop (.inl ⟨h1, h2⟩) h3 h4.1 h4.2 h
    ·cases hab
   ·cases hab
  ·rename_i h1 h2
   split at hab
   ·rename_i h3
    split at hab
    ·rename_i h4; cases hab; exact s_upc hR hd hn hop (.inr ⟨h1, h2⟩) h3 h4.1 h4.2 h
    ·cases hab
   ·cases hab
  ·cases hab
 ·cases hab; exact s_ext hR hd hn hop h
 ·split at hab
  ·rename_i h1
   split at hab
   ·rename_i h2
    split at hab
    ·rename_i h3 h4; cases hab; exact s_part hR hd hn hop h1 h2 h3 h4 h
    ·cases hab
   ·cases hab
  ·cases hab
 ·split at hab
  ·rename_i h1
   split at hab
   ·rename_i h2
    split at hab
    ·rename_i h3
     split at hab
     ·cases hab
     ·rename_i h4; cases hab; exact s_fld hR hd hn hop h1 h2 h3 h4 h
    ·cases hab
   ·cases hab
  ·cases hab
 ·split at hab
  ·rename_i h1
   split at hab
   ·rename_i h2; cases hab; exact s_idx hR hd hn hop h1 h2 h
   ·cases hab
  ·rename_i h1
   split at hab
   ·rename_i h2; cases hab; exact s_idxA hR hd hn hop h1 h2 h
   ·cases hab
  ·cases hab
 ·split at hab
  ·rename_i h1
   cases hab
   refine s_chr hR hd hn hop ?_ h
   unfold isStrT at h1
   split at h1
   ·assumption
   ·cases h1
  ·split at hab
   ·rename_i h2
    split at hab
    ·rename_i h3 h4; cases hab; exact s_idxV hR hd hn hop h2 h3 h4 h
    ·cases hab
   ·cases hab
 ·split at hab
  ·rename_i h1; cases hab; exact s_slS hR hd hn hop h1 h
  ·rename_i h1
   split at hab
   ·rename_i h2; cases hab; exact s_sl hR hd hn hop h1 h2 h
   ·cases hab
  ·cases hab
 ·split at hab
  ·rename_i h1; cases hab; subst h1; exact s_mkf hR hd hn hop h
  ·cases hab
 ·split at hab
  ·rename_i h1
   split at hab
   ·rename_i h2
    split at hab
    ·rename_i h3
     split at hab
     ·rename_i h4; cases hab; exact s_make hR hd hn hop h1 h2 h3 h4.1 h
     ·cases hab
    ·cases hab
   ·cases hab
  ·cases hab
 ·split at hab
  ·rename_i h1; cases hab; exact s_call hR hd hn hop h1 h
  ·rename_i h1; cases hab; exact s_callv hR hd hn hop h1 h
  ·rename_i h1
   split at hab
   ·rename_i h2 h3
    split at hab
    ·rename_i h4; cases hab; exact s_lenS hR hd hn hop h1 h2 h3 h4 h
    ·rename_i h4; cases hab; exact s_len hR hd hn hop h1 h2 h3 h4 h
    ·rename_i h4; cases hab; exact s_lenM hR hd hn hop h1 h2 h3 h4 h
    ·cases hab
   ·cases hab
  ·rename_i h1
   split at hab
   ·rename_i h2 h3
    split at hab
    ·rename_i h4; cases hab; exact s_cap hR hd hn hop h1 h2 h3 h4 h
    ·cases hab
   ·cases hab
  ·rename_i h1
   split at hab
   ·rename_i h2 h3
    split at hab
    ·rename_i h4
     subst h4
     split at hab
     ·rename_i h5
      split at hab
      ·rename_i h6
       split at hab
       ·rename_i h7
        split at hab
        ·rename_i h8; cases hab; exact s_app hR hd hn hop h1 h2 h3 h5 h6 h7 h8.1 h8.2.1 h8.2.2 h
        ·cases hab
       ·cases hab
      ·cases hab
     ·cases hab
    ·split at hab
     ·rename_i h5 h5'
      split at hab
      ·rename_i h6
       split at hab
       ·rename_i h7
        split at hab
        ·rename_i h8; cases hab; exact s_appz hR hd hn hop h1 h2 h3 h5 h5' h6 h7 h8.1 h8.2 h
        ·cases hab
       ·cases hab
      ·cases hab
     ·rename_i h5 h5'
      split at hab
      ·rename_i h6
       split at hab
       ·rename_i h7; cases hab; simp only [Bool.and_eq_true, beq_iff_eq] at h7; exact s_apps hR hd hn hop h1 h2 h3 h5 h5' h6 (isByteZ_eq h7.1) h7.2.1 h7.2.2 h
       ·cases hab
      ·cases hab
     ·cases hab
   ·cases hab
  ·rename_i h1
   split at hab
   ·rename_i h2; cases hab; exact s_sdat hR hd hn hop h1 h2 h
   ·cases hab
  ·rename_i h1
   split at hab
   ·rename_i h2 h3
    split at hab
    ·rename_i h4
     split at hab
     ·rename_i h5; cases hab; exact s_ustr hR hd hn hop h1 h2 h3 h4 h5 h
     ·cases hab
    ·cases hab
   ·cases hab
  ·rename_i h1
   split at hab
   ·rename_i h2 h3
    split at hab
    ·rename_i h4
     split at hab
     ·rename_i h5; cases hab; exact s_copy hR hd hn hop h1 h2 h3 h4 h5 h
     ·cases hab
    ·cases hab
   ·cases hab
  ·rename_i h1
   split at hab
   ·rename_i h2 h3
    split at hab
    ·rename_i h4
     split at hab
     ·rename_i h5
      split at hab
      ·rename_i h6
       split at hab
       ·rename_i h7; cases hab; exact s_clear hR hd hn hop h1 h2 h3 h4 h5 h6 h7.1 h7.2 h
       ·cases hab
      ·cases hab
     ·cases hab
    ·cases hab
   ·cases hab
  ·rename_i h1
   split at hab
   ·rename_i h2; cases hab; exact s_mm (mx := true) hR hd hn hop h1 h2 h
   ·rename_i h2; cases hab; exact s_mm3 (mx := true) hR hd hn hop h1 h2 h
   ·cases hab
  ·rename_i h1
   split at hab
   ·rename_i h2; cases hab; exact s_mm (mx := false) hR hd hn hop h1 h2 h
   ·rename_i h2; cases hab; exact s_mm3 (mx := false) hR hd hn hop h1 h2 h
   ·cases hab
  ·cases hab
 ·split at hab
  ·rename_i h1; cases hab; exact s_mkm hR hd hn hop h
  ·cases hab
 ·split at hab
  ·rename_i h1; cases hab; exact s_look hR hd hn hop h1 h
  ·cases hab
 ·split at hab
  ·rename_i h1; cases hab; exact s_mset hR hd hn (.inl hop) h1 h
  ·cases hab
 ·split at hab
  ·rename_i h1; cases hab; exact s_mset hR hd hn (.inr hop) h1 h
  ·cases hab
 ·split at hab
  ·rename_i h1; cases hab; exact s_ment hR hd hn hop h1 h
  ·cases hab
 ·cases hab; exact s_mest hR hd hn hop h
 ·split at hab
  ·rename_i h1; cases hab; exact s_rng hR hd hn hop h1 h
  ·cases hab
 ·cases hab; exact s_nxt hR hd hn hop h
 ·cases hab; exact s_ent hR hd hn hop h
 ·cases hab
end
end Go.Ab
/-! What is owned is handed on as what is only read. -/
namespace Go.Ab
variable {P : Program} {G : Nat → AV} {w w' : World} {g g' : Gh} {H : Nat → Option AObj} {n : Nat} {N : Nat} {a : Act}
def frz (D : Nat → Option AObj) : Nat → AV → AV
 | 0, v => v
 | k + 1, .os i off len => match D i with
  | some o => if off + len ≤ o.rows.length then .ls true (((o.rows.drop off).take len).map (List.map (frz D k))) else .os i off len
  | none => .os i off len
 | k + 1, .op i r c => match D i with
  | some o => match o.rows[r]? with
   | some row => if c < row.length then .pp ((row.drop c).map (frz D k)) else .op i r c
   | none => .op i r c
  | none => .op i r c
 | k + 1, .agg cs => .agg (cs.map (frz D k))
 | k + 1, .tup cs => .tup (cs.map (frz D k))
 | k + 1, .ls nz rows => .ls nz (rows.map (List.map (frz D k)))
 | k + 1, .pp cs => .pp (cs.map (frz D k))
 | k + 1, .fn f cs => .fn f (cs.map (frz D k))
 | _ + 1, v => v
theorem k1code_lit {x : AV} {n : Nat} (h : k1code x = some n) : ∃ v, x = .lit v := by
 cases x with
 | lit v => exact ⟨v, rfl⟩
 | _ => simp [k1code] at h
theorem frz_lit0 {D : Nat → Option AObj} {k : Nat} {v : Value} : frz D k (.lit v) = .lit v := by cases k <;> rfl
theorem kscode_frz {D : Nat → Option AObj} {k : Nat} : ∀ {cs : List AV} {n : Nat}, kscode cs = some n → cs.map (frz D k) = cs
 | [], _, _ => rfl
 | x :: xs, n, h => by
  simp only [kscode] at h
  split at h
  ·rename_i a b h1 h2
   obtain ⟨v, rfl⟩ := k1code_lit h1
   rw [List.map_cons, frz_lit0, kscode_frz h2]
  ·cases h
theorem kcode_frz {D : Nat → Option AObj} {k : Nat} {x : AV} {n : Nat} (h : kcode x = some n) : frz D k x = x := by
 cases k with
 | zero => rfl
 | succ k =>
  cases x with
  | lit v => rfl
  | agg cs =>
   simp only [kcode] at h
   obtain ⟨m, h1, _⟩ := Option.map_eq_some_iff.1 h
   simp only [frz, kscode_frz h1]
  | _ => simp [kcode, k1code] at h
structure Drops (g : Gh) (D H' : Nat → Option AObj) : Prop where
 d : Sub D g.H
 h : Sub H' g.H
 no : ∀ i o, D i = some o → H' i = none
theorem RepList.map_frz {f : AV → AV} (hf : ∀ x v, Rep w g x v → Rep w g' (f x) v) : ∀ {xs : List AV} {vs : List Value}, RepList w g xs vs → RepList w g' (xs.map f) vs
 | [], _, h => h
 | x :: xs, _, ⟨v, vs, h1, h2, h3⟩ => ⟨v, vs, h1, hf x v h2, RepList.map_frz hf h3⟩
theorem RepCells.map_frz {f : AV → AV} (hS : Step w g w g') (hf : ∀ x v, Rep w g x v → Rep w g' (f x) v) : ∀ {xs : List AV} {b o : Nat}, RepCells w g b o xs → RepCells w g' b o (xs.map f)
 | [], _, _, _ => trivial
 | x :: xs, b, o, ⟨h1, ⟨v, h2, h3⟩, h4⟩ => ⟨hS.notOwn (World.block_lt_of_cell? w _ h2) h1, ⟨v, h2, hf x v h3⟩, RepCells.map_frz hS hf h4⟩
theorem RepRows.map_frz {f : AV → AV} (hS : Step w g w g') (hf : ∀ x v, Rep w g x v → Rep w g' (f x) v) : ∀ {xs : List (List AV)} {b o : Nat}, RepRows w g b o xs → RepRows w g' b o (xs.map (List.map f))
 | [], _, _, _ => trivial
 | x :: xs, b, o, ⟨h1, h2⟩ => ⟨RepCells.map_frz hS hf h1, by rw [List.length_map]; exact RepRows.map_frz hS hf h2⟩
theorem cell_of_arr {b k : Nat} {arr : Array Value} {E : TypeId} {v : Value} (hb : w.heap[b]? = some (.cells arr E (0, 0))) (hk : arr[k]? = some v) : w.cell? ⟨b, k, none⟩ = some v := by
 simp [World.cell?, hb, hk]
theorem frz_sound (hI : Inv w g) {D H' : Nat → Option AObj} (hd : Drops g D H') : ∀ (k : Nat) (x : AV) (v : Value), Rep w g x v → Rep w (g.less H') (frz D k x) v := by
 have hS : Step w g w (g.less H') := step_less w g hd.h
 intro k
 induction k with
 | zero => intro x v h; exact Rep.mono hS x v h
 | succ k ih =>
  intro x v h
  have hout : ∀ i o, D i = some o → ¬ (g.less H').Own (g.μ i) := by
   rintro i o hi ⟨j, o', h1, h2⟩
   have : j = i := hI.inj j i o' o (hd.h j o' h1) (hd.d i o hi) h2
   subst this
   have := hd.no j o hi
   rw [show (g.less H').H j = H' j from rfl, this] at h1
   cases h1
  cases x with
  | os i off len =>
   simp only [frz]
   split
   ·rename_i o hi
    split
    ·rename_i hl
     obtain ⟨h0, h1, h2⟩ := h
     have ho := hd.d i o hi
     obtain ⟨cap, arr, rfl, hb, hs, hlc, hmx⟩ := h2 o ho
     obtain ⟨arr', hb', hsz, hrow⟩ := hI.cells ho ⟨arr, _, hb⟩
     rw [hb] at hb'; cases hb'
     have hlen : ((((o.rows.drop off).take len).map (List.map (frz D k)))).length = len := by simp; omega
     refine ⟨some ⟨g.μ i, off * o.sz, none⟩, cap, by rw [hlen], by rw [hlen]; omega, by omega, rfl, by simp, ?_⟩
     rintro ad ⟨rfl⟩
     refine ⟨rfl, ?_⟩
     have key : ∀ (rows : List (List AV)) (off : Nat), (∀ j row, rows[j]? = some row → o.rows[off + j]? = some row) → RepRows w (g.less H') (g.μ i) (off * o.sz) (rows.map (List.map (frz D k))) := by
      intro rows
      induction rows with
      | nil => intro off _; trivial
      | cons row rows ihr =>
       intro off hh
       have hr := hh 0 row rfl
       obtain ⟨hl1, hc⟩ := hrow off row hr
       refine ⟨RepCells.of (hout i o hi) fun c x hx => ?_, ?_⟩
       ·rw [List.getElem?_map] at hx
        cases hx' : row[c]? with
        | none => rw [hx'] at hx; cases hx
        | some y =>
         rw [hx'] at hx
         simp only [Option.map_some, Option.some.injEq] at hx
         subst hx
         obtain ⟨v, k1, k2⟩ := hc c y hx'
         exact ⟨v, cell_of_arr hb k1, ih y v k2⟩
       ·rw [List.length_map, hl1]
        have := ihr (off + 1) (fun j row' hj => by
         have := hh (j + 1) row' (by simpa using hj)
         rwa [show off + (j + 1) = off + 1 + j from by omega] at this)
        rwa [Nat.succ_mul] at this
     refine key _ off fun j row hj => ?_
     rw [List.getElem?_take] at hj
     split at hj
     ·rwa [List.getElem?_drop] at hj
     ·cases hj
    ·exact Rep.mono hS _ v h
   ·exact Rep.mono hS _ v h
  | op i r c =>
   simp only [frz]
   split
   ·rename_i o hi
    split
    ·rename_i row hr
     split
     ·obtain ⟨h0, h1, h2⟩ := h
      have ho := hd.d i o hi
      obtain ⟨hv, hcl⟩ := h2 o ho
      obtain ⟨arr', hb', hsz, hrow⟩ := hI.cells ho hcl
      refine ⟨g.μ i, r * o.sz + c, hv, RepCells.of (hout i o hi) fun j x hx => ?_⟩
      rw [List.getElem?_map, List.getElem?_drop] at hx
      cases hx' : row[c + j]? with
      | none => rw [hx'] at hx; cases hx
      | some y =>
       rw [hx'] at hx
       simp only [Option.map_some, Option.some.injEq] at hx
       subst hx
       obtain ⟨v, k1, k2⟩ := (hrow r row hr).2 (c + j) y hx'
       exact ⟨v, cell_of_arr hb' (by rw [Nat.add_assoc]; exact k1), ih y v k2⟩
     ·exact Rep.mono hS _ v h
    ·exact Rep.mono hS _ v h
   ·exact Rep.mono hS _ v h
  | agg cs => obtain ⟨vs, h1, h2⟩ := h; exact ⟨vs, h1, h2.map_frz ih⟩
  | tup cs => obtain ⟨vs, h1, h2⟩ := h; exact ⟨vs, h1, h2.map_frz ih⟩
  | fn f cs => obtain ⟨vs, h1, h2⟩ := h; exact ⟨vs, h1, h2.map_frz ih⟩
  | pp cs => obtain ⟨b, o, h1, h2⟩ := h; exact ⟨b, o, h1, h2.map_frz hS ih⟩
  | ls nz rows =>
   obtain ⟨a, cap, h1, h2, h3, h4, h5, h6⟩ := h
   refine ⟨a, cap, by rw [List.length_map]; exact h1, by rw [List.length_map]; exact h2, h3, h4, fun ha => ⟨(h5 ha).1, by rw [(h5 ha).2]; rfl⟩, fun ad ha => ⟨(h6 ad ha).1, (h6 ad ha).2.map_frz hS ih⟩⟩
  | any => exact trivial
  | lit v => exact Rep.mono hS _ _ h
  | om i => exact Rep.mono hS _ _ h
  | oit i => exact Rep.mono hS _ _ h
  | ms i k => exact Rep.mono hS _ _ h
theorem froz_core (hI : Inv w g) {H' : Nat → Option AObj} {D : Nat → Option AObj} {k : Nat} (hd0 : Sub D g.H) (hno : ∀ i o, D i = some o → H' i = none) (hH : ∀ i o', H' i = some o' → ∃ o, g.H i = some o ∧ o'.E = o.E ∧ o'.sz = o.sz ∧ (o'.rows = o.rows ∨ o'.rows = o.rows.map (List.map (frz D k)))) :
  Inv w ⟨g.μ, H', g.n, g.dr⟩ ∧ Step w g w ⟨g.μ, H', g.n, g.dr⟩ ∧ ∀ x v, Rep w g x v → Rep w ⟨g.μ, H', g.n, g.dr⟩ (frz D k x) v := by
 let H2 : Nat → Option AObj := fun i => match H' i with
  | some _ => g.H i
  | none => none
 have h2 : Sub H2 g.H := fun i o hi => by
  simp only [H2] at hi
  split at hi
  ·exact hi
  ·cases hi
 have hd : Drops g D H2 := ⟨hd0, h2, fun i o hi => by simp only [H2, hno i o hi]⟩
 have hin : ∀ i o', H' i = some o' → ∃ o, g.H i = some o ∧ H2 i = some o ∧ o'.E = o.E ∧ o'.sz = o.sz ∧ (o'.rows = o.rows ∨ o'.rows = o.rows.map (List.map (frz D k))) := fun i o' hi => by
  obtain ⟨o, k1, k2, k3, k4⟩ := hH i o' hi
  exact ⟨o, k1, by simp only [H2, hi]; exact k1, k2, k3, k4⟩
 have hout : ∀ i o, H2 i = some o → ∃ o', H' i = some o' := fun i o hi => by
  simp only [H2] at hi
  split at hi
  ·rename_i o' ho'; exact ⟨o', ho'⟩
  ·cases hi
 let g2 : Gh := ⟨g.μ, H', g.n, g.dr⟩
 have hS2 : Step w (g.less H2) w g2 := by
  refine ⟨rfl, rfl, rfl, Nat.le_refl _, fun _ _ _ => rfl, fun _ _ ob _ _ h => ⟨ob, h, Like.refl _ _⟩, fun b ⟨i, o', h1, h3⟩ => .inl ?_, Nat.le_refl _, fun _ _ => rfl, fun i o' _ hi => ?_, rfl, fun _ => Nat.le_refl _⟩
  ·obtain ⟨o, k1, k2, _⟩ := hin i o' h1
   exact ⟨i, o, k2, h3⟩
  ·obtain ⟨o, k1, k2, k3, k4, _⟩ := hin i o' hi
   exact ⟨o, k2, k3.symm, k4.symm⟩
 have hS : Step w g w g2 := (step_less w g h2).trans hS2
 have hz : ∀ x v, Rep w g x v → Rep w g2 (frz D k x) v := fun x v hx => (frz_sound hI hd k x v hx).mono hS2
 have hI2 := inv_less hI h2
 refine ⟨⟨fun i o' hi => ?_, fun i j o o' hi hj he => ?_, fun i o' hi => ?_⟩, hS, hz⟩
 ·obtain ⟨o, k1, _⟩ := hin i o' hi
  exact hI.lt i o k1
 ·obtain ⟨o1, k1, _⟩ := hin i o hi
  obtain ⟨o2, k2, _⟩ := hin j o' hj
  exact hI.inj i j o1 o2 k1 k2 he
 ·obtain ⟨o, k1, k2, k3, k4, k5⟩ := hin i o' hi
  obtain ⟨ob, j1, j2⟩ := hI.obj i o k1
  refine ⟨ob, j1, ?_⟩
  cases ob with
  | cells arr E f =>
   obtain ⟨e1, e2, j2, j3⟩ := j2
   refine ⟨by rw [k3]; exact e1, e2, ?_, ?_⟩
   ·rw [k4]
    rcases k5 with k5 | k5
    ·rw [k5]; exact j2
    ·rw [k5, List.length_map]; exact j2
   ·intro r row' hr
    rw [k4]
    rcases k5 with k5 | k5
    ·rw [k5] at hr
     obtain ⟨l1, l2⟩ := j3 r row' hr
     refine ⟨l1, fun c x hx => ?_⟩
     obtain ⟨v, l3, l4⟩ := l2 c x hx
     exact ⟨v, l3, l4.mono hS⟩
    ·rw [k5, List.getElem?_map] at hr
     obtain ⟨row, hrow, rfl⟩ := Option.map_eq_some_iff.1 hr
     obtain ⟨l1, l2⟩ := j3 r row hrow
     refine ⟨by rw [List.length_map]; exact l1, fun c x hx => ?_⟩
     rw [List.getElem?_map] at hx
     obtain ⟨y, hy, rfl⟩ := Option.map_eq_some_iff.1 hx
     obtain ⟨v, l3, l4⟩ := l2 c y hy
     exact ⟨v, l3, hz y v l4⟩
  | map es c =>
   obtain ⟨m1, m2, m3, m4, m5⟩ := j2
   refine ⟨?_, m2, m3, m4, ?_⟩
   ·rcases k5 with k5 | k5
    ·rw [k5]; exact m1
    ·rw [k5, List.length_map]; exact m1
   ·intro r row' hr
    rcases k5 with k5 | k5
    ·rw [k5] at hr
     obtain ⟨x, y, e, l1, l2, l3, l4, l5⟩ := m5 r row' hr
     exact ⟨x, y, e, l1, l2, l3.mono hS, l4.mono hS, by rw [k4]; exact l5⟩
    ·rw [k5, List.getElem?_map] at hr
     obtain ⟨row, hrow, rfl⟩ := Option.map_eq_some_iff.1 hr
     obtain ⟨x, y, e, rfl, l2, l3, l4, l5⟩ := m5 r row hrow
     exact ⟨frz D k x, frz D k y, e, rfl, l2, hz _ _ l3, hz _ _ l4, by rw [kcode_frz l5, k4]; exact l5⟩
  | mapIter m s se l =>
   obtain ⟨m1, m2, k0, idxs, bs, m3, m4, m5, m6, m7, m8, m9, m10, m11⟩ := j2
   have hrows : o'.rows = o.rows := by
    rcases k5 with k5 | k5
    ·exact k5
    ·rw [k5, m3]
     simp only [List.map_cons, List.map_nil, frz_lit0, List.map_map]
     congr 1
     exact List.map_congr_left fun q _ => by simp [frz_lit0]
   refine ⟨by rw [k3]; exact m1, by rw [k3]; exact m2, k0, idxs, bs, by rw [hrows]; exact m3, by rw [k4]; exact m4, m5, m6, m7, m8, m9, m10, fun om hom => ?_⟩
   rw [k3] at hom
   obtain ⟨om1, q1, q2, q3, q4, q5⟩ := hin _ om hom
   obtain ⟨r1, es, c, r2, r3, r4⟩ := m11 om1 q1
   exact ⟨by rw [q3]; exact r1, es, c, by rw [k3]; exact r2, r3, by rw [k4]; exact r4⟩
  | _ => exact j2.elim
structure Froz (st st' : St) (D : Nat → Option AObj) (k : Nat) : Prop where
 d : Sub D st.H
 no : ∀ i o, D i = some o → st'.H i = none
 n : st'.n = st.n
 fr : ∀ s, st'.fr s = st.fr s ∨ st'.fr s = .any ∨ st'.fr s = frz D k (st.fr s)
 H : ∀ i o', st'.H i = some o' → ∃ o, st.H i = some o ∧ o'.E = o.E ∧ o'.sz = o.sz ∧ (o'.rows = o.rows ∨ o'.rows = o.rows.map (List.map (frz D k)))
theorem Rel.froz {st : St} (hR : Rel G N st g a w) {st' : St} {D : Nat → Option AObj} {k : Nat} (h : Froz st st' D k) : ∃ g', Rel G N st' g' a w ∧ Step w g w g' := by
 obtain ⟨hI, hS, hz⟩ := froz_core hR.inv (H' := st'.H) (by rw [hR.H]; exact h.d) h.no (fun i o' hi => by rw [hR.H]; exact h.H i o' hi)
 refine ⟨⟨g.μ, st'.H, g.n, g.dr⟩, ⟨rfl, by rw [h.n]; exact hR.n, hI, hR.gl.mono hS, fun s => ?_, hR.sz, hR.df⟩, hS⟩
 rcases h.fr s with h1 | h1 | h1
 ·rw [h1]; exact (hR.fr s).mono hS
 ·rw [h1]; trivial
 ·rw [h1]; exact hz _ _ (hR.fr s)
end Go.Ab
