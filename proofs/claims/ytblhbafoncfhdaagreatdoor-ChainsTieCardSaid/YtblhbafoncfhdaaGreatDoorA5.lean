/- A part of an abstract logic over the model's runs, proved sound against the model; no condition. -/
import Derived.Test.YtblhbafoncfhdaaGreatDoorA4
import Derived.Sort.Grow
import Derived.Laws.Externs
import Derived.Shelf.SlSortCmp.InsertionK
set_option linter.unusedVariables false
set_option linter.unusedSimpArgs false
/-! One object that is written, all others as they were; a loop's end with a freeze. -/
namespace Go.Ab
variable {P : Program} {G fr : Nat → AV} {H HA : Nat → Option AObj} {n : Nat}
theorem asame_int {k : IntKind} {n : Int} : asame (.lit (.int k n)) = some (.lit (.string (Utf8.encode n))) := rfl
attribute [push_cast] asame_int
theorem size_lit {l : List UInt8} : (ByteArray.mk l.toArray).size = l.length := rfl
theorem hu_hu {o : Nat} {v w : Option AObj} : hu (hu H o v) o w = hu H o w := by
 funext i
 by_cases hi : i = o
 ·subst hi; rw [hu_same, hu_same]
 ·rw [hu_ne hi, hu_ne hi, hu_ne hi]
def Qs (H HA : Nat → Option AObj) (i n : Nat) : Prop := (∀ j x, j ≠ i → H j = some x → HA j = some x) ∧ Low H n ∧ i < n
theorem Qs.refl {i : Nat} {o : AObj} (h : H i = some o) (hl : Low H n) : Qs H H i n := ⟨fun _ _ _ h => h, hl, hl i o h⟩
theorem Qs.put {i : Nat} {o : Option AObj} (h : Qs H HA i n) : Qs H (hu HA i o) i n := by
 obtain ⟨h2, h3, h4⟩ := h
 refine ⟨fun j y hj hy => ?_, h3, h4⟩
 rw [hu_ne hj]
 exact h2 j y hj hy
theorem Qs.new {i k : Nat} {x : Option AObj} (h : Qs H HA i n) (hk : n ≤ k) : Qs H (hu HA k x) i n := by
 obtain ⟨h2, h3, h4⟩ := h
 refine ⟨fun j y hj hy => ?_, h3, h4⟩
 have := h3 j y hy
 rw [hu_ne (by omega)]
 exact h2 j y hj hy
theorem Qs.sub {i : Nat} {o : AObj} (h : Qs H HA i n) (hi : HA i = some o) : Sub (hu H i (some o)) HA := fun j x hx => by
 by_cases hj : j = i
 ·subst hj; rw [hu_same] at hx; rw [← hx]; exact hi
 ·rw [hu_ne hj] at hx; exact h.1 j x hj hx
theorem Qs.dropO {i : Nat} {n0 m : Nat} {oid : Option Nat} {E : TypeId} {sz : Nat} {rows : List (List AV)} (h : OutIs n0 HA oid E sz rows m) (hn : n ≤ n0) (hq : Qs H HA i n) : Qs H (Ab.dropO HA oid) i n := by
 cases oid with
 | none => exact hq
 | some j => exact hq.new (Nat.le_trans hn h.2.1)
theorem dropO_ne {n0 : Nat} {i : Option Nat} {E : TypeId} {sz : Nat} {rows : List (List AV)} (h : OutIs n0 H i E sz rows n) {k : Nat} (hk : k < n0) : dropO H i k = H k := by
 cases i with
 | none => rfl
 | some i => exact hu_ne (by have := h.2.1; omega)
theorem OutIs.put {n0 m : Nat} {oid : Option Nat} {E : TypeId} {sz : Nat} {rows : List (List AV)} {i : Nat} {o : Option AObj} (h : OutIs n0 H oid E sz rows m) (hi : i < n0) : OutIs n0 (Ab.hu H i o) oid E sz rows m := by
 cases oid with
 | none => exact h
 | some k =>
  obtain ⟨h1, h2, h3⟩ := h
  exact ⟨by rw [hu_ne (by omega)]; exact h1, h2, h3⟩
theorem OutIs.far {n0 m k : Nat} {oid : Option Nat} {E : TypeId} {sz : Nat} {rows : List (List AV)} {o : Option AObj} (h : OutIs n0 H oid E sz rows m) (hk : m ≤ k) : OutIs n0 (Ab.hu H k o) oid E sz rows m := h.hu hk (Nat.le_refl _)
theorem OutIs.low {HN : Nat → Option AObj} {n0 m b : Nat} {oid : Option Nat} {E : TypeId} {sz : Nat} {rows : List (List AV)} (h : OutIs n0 H oid E sz rows m) (hm : m ≤ b) (hl : ∀ j, j < b → HN j = H j) : OutIs n0 HN oid E sz rows m := by
 cases oid with
 | none => exact h
 | some k =>
  obtain ⟨h1, h2, h3⟩ := h
  exact ⟨by rw [hl k (by omega)]; exact h1, h2, h3⟩
theorem outAV_cells {i : Option Nat} {len : Nat} : (outAV i len).cells? = some [outAV i len] := by cases i <;> rfl
theorem outAV_one {i : Option Nat} {len : Nat} : (outAV i len).one = true := by cases i <;> rfl
attribute [push_cast] outAV_cells outAV_one
theorem ACalls.le {f : FuncId} {args : List AV} {R : AV → (Nat → Option AObj) → Nat → Prop} (h : ACalls P G f args H n R) : ACalls P G f args H n fun r H' n' => R r H' n' ∧ n ≤ n' := by
 intro w g vs h1 h2 h3 h4 h5
 refine (h w g vs h1 h2 h3 h4 h5).mono fun e w' ⟨v, r, g', k1, k2, k3, k4, k5⟩ => ⟨v, r, g', k1, ⟨k2, ?_⟩, k3, k4, k5⟩
 rw [← h3]; exact k5.n
end Go.Ab
/-! Freezing. -/
namespace Go.Ab
variable {P : Program} {G fr : Nat → AV} {H HA : Nat → Option AObj} {n : Nat}
def news (n : Nat) (H : Nat → Option AObj) : Nat → Option AObj := fun j => if n ≤ j then H j else none
end Go.Ab
/-! Functions of the library's that write a row of numbers in its place. -/
namespace Go.Ab
open Go.Sort
variable {P : Program} {G : Nat → AV} {H : Nat → Option AObj} {n : Nat}
theorem step_ahead (w : World) (g : Gh) (k : Nat) : Step w g (Sort.ahead w k) g :=
 ⟨rfl, rfl, rfl, Nat.le_refl _, fun _ _ _ => rfl, fun _ _ ob _ _ h => ⟨ob, h, Like.refl _ _⟩, fun _ h => .inl h, Nat.le_refl _, fun _ _ => rfl, fun _ o' _ h => ⟨o', h, rfl, rfl⟩, rfl, fun _ => Nat.le_add_right _ _⟩
theorem inv_ahead {w : World} {g : Gh} (hI : Inv w g) (k : Nat) : Inv (Sort.ahead w k) g :=
 hI.step (step_ahead w g k) hI.lt hI.inj fun i o h => .inl ⟨h, rfl⟩
theorem step_grow {w : World} {g : Gh} (hI : Inv w g) (os : Array Obj) : Step w g (grow w os) g :=
 ⟨rfl, rfl, rfl, by simp, fun b hb _ => heap_grow_old w os hb, fun i o' ob hi ho h => ⟨ob, by rw [heap_grow_old w os (hI.lt i o' ho).2]; exact h, Like.refl _ _⟩, fun _ h => .inl h, Nat.le_refl _, fun _ _ => rfl, fun _ o' _ h => ⟨o', h, rfl, rfl⟩, rfl, fun _ => Nat.le_refl _⟩
theorem inv_grow {w : World} {g : Gh} (hI : Inv w g) (os : Array Obj) : Inv (grow w os) g :=
 hI.step (step_grow hI os) (fun i o ho => ⟨(hI.lt i o ho).1, by rw [size_grow]; have := (hI.lt i o ho).2; omega⟩) hI.inj fun i o h => .inl ⟨h, heap_grow_old w os (hI.lt i o h).2⟩
def rowRes (blk cap : Nat) : Option Nat → Value
 | none => .tuple #[]
 | some m => .slice (some ⟨blk, 0, none⟩) m cap
def rowAV (o : Nat) : Option Nat → AV
 | none => .tup []
 | some m => .os o 0 m
theorem ACalls.of_row {f : FuncId} (he : Enters P f) {o : Nat} {E : TypeId} {zs ds : List Int} {jr : List (List AV)} {res : Option Nat} (ho : H o = some ⟨E, 1, zs.map (fun x => [AV.int x]) ++ jr⟩) (hd : ds.length = zs.length) (hm : ∀ m, res = some m → m ≤ zs.length)
  (h : ∀ (w : World) (blk cap : Nat), Holds (Value.int .i64) w blk 0 zs.toArray → blk < w.heap.size → zs.length ≤ cap → Calls P f #[.slice (some ⟨blk, 0, none⟩) zs.length cap] w fun e w' => e = .returned (rowRes blk cap res) ∧ ∃ k os, w' = grow (putRow (Value.int .i64) (Sort.ahead w k) blk 0 ds.toArray) os) :
  ACalls P G f [.os o 0 zs.length] H n fun r H' n' => r = rowAV o res ∧ H' = hu H o (some ⟨E, 1, ds.map (fun x => [AV.int x]) ++ jr⟩) := by
 intro w g vs hI hH hn hG hargs
 obtain ⟨v0, vs', e1, hrep, e2⟩ := hargs
 have e2 : vs' = [] := e2
 subst e2
 have e1 : vs = #[v0] := by
  have : vs.toList = [v0] := e1
  exact Array.toList_inj.1 (by simpa using this)
 subst e1
 obtain ⟨_, hlt, hos⟩ := hrep
 have hgo : g.H o = some ⟨E, 1, zs.map (fun x => [AV.int x]) ++ jr⟩ := by rw [hH]; exact ho
 obtain ⟨cap, arr, hv, harr, hsz, hle, hmax⟩ := hos _ hgo
 obtain ⟨arr2, harr2, hrows, hcells⟩ := hI.cells hgo ⟨arr, _, harr⟩
 rw [harr] at harr2
 cases harr2
 simp only [Nat.zero_mul, Nat.zero_add, Nat.mul_one] at hv hsz hrows hcells hmax
 subst hv
 have hlen : zs.length + jr.length ≤ arr.size := by simpa using hrows
 have hbl := (hI.lt o _ hgo).2
 have hold : Holds (Value.int .i64) w (g.μ o) 0 zs.toArray := by
  intro j hj
  have hj' : j < zs.length := by simpa using hj
  have h1 := hcells j [AV.int zs[j]] (by rw [List.getElem?_append_left (by simpa using hj')]; simp [hj'])
  obtain ⟨v, h2, h3⟩ := h1.2 0 (AV.int zs[j]) rfl
  have h3 : v = .int .i64 zs[j] := h3
  subst h3
  refine ⟨?_, ?_⟩
  ·rw [World.cell?, harr]
   simp only [Nat.zero_add, Nat.add_zero] at h2 ⊢
   rw [getElem!_pos _ j hj]
   simpa using h2
  ·rw [World.frozen?, harr]; simp
 refine .inl ⟨he, (h w (g.μ o) cap hold hbl hle).mono fun e w' ⟨k1, k, os, k2⟩ => ?_⟩
 have hI1 := inv_ahead hI k
 have hS1 := step_ahead w g k
 have hb1 : (Sort.ahead w k).heap[g.μ o]? = some (.cells arr E (0, 0)) := harr
 have hkeep : ∀ b, b ≠ g.μ o → (putRow (Value.int .i64) (Sort.ahead w k) (g.μ o) 0 ds.toArray).heap[b]? = (Sort.ahead w k).heap[b]? := fun b hb => by
  simp only [putRow, mapBlock, Array.getElem?_modify, if_neg (Ne.symm hb)]
 have hshape : ∀ (a : Array Value) (E' : TypeId), (Sort.ahead w k).heap[g.μ o]? = some (Obj.cells a E' (0, 0)) → (putRow (Value.int .i64) (Sort.ahead w k) (g.μ o) 0 ds.toArray).heap[g.μ o]? = some (Obj.cells (putCells (Value.int .i64) 0 ds.toArray a) E' (0, 0)) := fun a E' h1 => by
  simp only [putRow, mapBlock, Array.getElem?_modify, if_true, h1, Option.map_some, onCells]
 have hsize : (putRow (Value.int .i64) (Sort.ahead w k) (g.μ o) 0 ds.toArray).heap.size = (Sort.ahead w k).heap.size := by simp [putRow, mapBlock]
 have hS2 := step_set hI1 hgo ⟨arr, _, hb1⟩ (w' := putRow (Value.int .i64) (Sort.ahead w k) (g.μ o) 0 ds.toArray) (ds.map (fun x => [AV.int x]) ++ jr) (fun _ => Nat.le_refl _) rfl rfl rfl hsize hkeep (fun a E' h1 => ⟨_, hshape a E' h1, by simp [putCells]⟩)
 have hI2 := inv_set hI1 hgo _ hS2 hsize hkeep (hshape arr E hb1) (by
  refine ⟨by simpa [putCells, hd] using hlen, fun r row hr => ?_⟩
  by_cases hrl : r < ds.length
  ·have hr : (ds.map (fun x => [AV.int x]) ++ jr)[r]? = some row := hr
   rw [List.getElem?_append_left (by simpa using hrl)] at hr
   simp only [List.getElem?_map, List.getElem?_eq_getElem hrl, Option.map_some, Option.some.injEq] at hr
   subst hr
   refine ⟨rfl, fun c x hx => ?_⟩
   cases c with
   | succ c => simp at hx
   | zero =>
    simp only [List.getElem?_cons_zero, Option.some.injEq] at hx
    subst hx
    refine ⟨.int .i64 ds[r], ?_, rfl⟩
    simp only [Nat.mul_one, Nat.add_zero, putCells, Array.getElem?_mapIdx]
    rw [Array.getElem?_eq_getElem (by omega)]
    simp [hrl]
  ·have hr : (ds.map (fun x => [AV.int x]) ++ jr)[r]? = some row := hr
   rw [List.getElem?_append_right (by simp; omega)] at hr
   have h1 := hcells r row (by rw [List.getElem?_append_right (by simp; omega), ← hr]; simp [hd])
   refine ⟨h1.1, fun c x hx => ?_⟩
   obtain ⟨v, h2, h3⟩ := h1.2 c x hx
   have hc0 : c = 0 := by
    have hl1 : row.length = 1 := h1.1
    have := (List.getElem?_eq_some_iff.1 hx).1
    omega
   subst hc0
   refine ⟨v, ?_, h3.mono hS1⟩
   simp only [Nat.mul_one, Nat.add_zero, putCells, Array.getElem?_mapIdx] at h2 ⊢
   rw [h2]
   simp [hrl])
 have hI3 := inv_grow hI2 os
 have hS3 := step_grow hI2 os
 refine ⟨_, rowAV o res, { g with H := upd g.H o (some ⟨E, 1, ds.map (fun x => [AV.int x]) ++ jr⟩) }, k1, ⟨rfl, by rw [hH]; rfl⟩, ?_, by rw [k2]; exact hI3, by rw [k2]; exact (hS1.trans hS2).trans hS3⟩
 cases res with
 | none => exact ⟨#[], rfl, rfl⟩
 | some m =>
  have hm := hm m rfl
  refine ⟨⟨_, _, rfl⟩, hlt, fun o' ho' => ?_⟩
  simp only [upd, if_true, Option.some.injEq] at ho'
  subst ho'
  refine ⟨cap, putCells (Value.int .i64) 0 ds.toArray arr, by simp [rowRes], ?_, by simp [putCells, hsz], by omega, by omega⟩
  rw [k2, heap_grow_old _ _ (by rw [hsize]; exact hbl)]
  exact hshape arr E hb1
end Go.Ab
/-! Rules for drawn regions with calls that write. -/
namespace Go.Ab
variable {P : Program} {G fr : Nat → AV} {H Hs : Nat → Option AObj} {n : Nat} {Q : AExit → St → Prop} {w : Wit Q}
def xereg (P : Program) (G : Nat → AV) (K : (Nat → AV) → (Nat → Option AObj) → Prop) (_ : Wit K) (segs : List (List AOper × AOper)) (last : List AOper) (fr : Nat → AV) (H : Nat → Option AObj) : Prop := ∃ Hs, Sub Hs H ∧ edops P G Hs segs last H fr K
theorem xw_ereg {segs : List (List AOper × AOper)} {last : List AOper} : xw P G Q w (.ereg segs last) ⟨fr, H, n⟩ = xereg P G (fun fr H' => anyN (fun n' => xq Q w .normal ⟨fr, H', n'⟩) ⟨⟩ n) ⟨⟩ segs last fr H := rfl
def xedops (P : Program) (G : Nat → AV) (Hs : Nat → Option AObj) (K : (Nat → AV) → (Nat → Option AObj) → Prop) (_ : Wit K) (segs : List (List AOper × AOper)) (last : List AOper) (H : Nat → Option AObj) (fr : Nat → AV) : Prop := edops P G Hs segs last H fr K
variable {K : (Nat → AV) → (Nat → Option AObj) → Prop} {u : Wit K} {segs : List (List AOper × AOper)} {A last : List AOper}
def xecall (P : Program) (G : Nat → AV) (Hs : Nat → Option AObj) (KV : AV → (Nat → Option AObj) → Prop) (_ : Wit KV) (f : FuncId) (vs : List AV) (H : Nat → Option AObj) : Prop := ∃ v H1, (∀ n, ACalls P G f vs H n fun r H' _ => r = v ∧ H' = H1) ∧ Sub Hs H1 ∧ KV v H1
theorem xe_nil : xedops P G Hs K u [] last H fr = xdops P G Hs (fun fr' _ => K fr' H) ⟨⟩ last fr := rfl
theorem xe_cons {d : Option Nat} {f : FuncId} {args : List Opd} {af : List Nat} : xedops P G Hs K u ((A, ⟨d, .call f args, none, af⟩) :: segs) last H fr = xdops P G Hs (fun fr' _ => xecall P G Hs (fun v H1 => xedops P G Hs K u segs last H1 (put fr' d v)) ⟨⟩ f (evs G fr' args) H) ⟨⟩ A fr := by
 simp only [xedops, edops, xdops, xecall, ECall, true_and]
attribute [push_cast] xw_ereg xe_nil xe_cons
end Go.Ab
/-! The stepper in a drawn region with one new cell. -/
namespace Go.Ab
variable {P : Program} {G fr : Nat → AV} {H : Nat → Option AObj} {n : Nat}
def xas (P : Program) (G : Nat → AV) (H : Nat → Option AObj) (cs : List AV) (K : (Nat → AV) → Prop) (_ : Wit K) (al : List AOper) (fr : Nat → AV) : Prop := asteps P G H cs al fr K
def xfnA (P : Program) (G : Nat → AV) (H : Nat → Option AObj) (K : AV → Prop) (_ : Wit K) (f : FuncId) (args : List AV) : Prop := ∃ v, (∀ H', Sub H H' → AFn P G f args H' v) ∧ K v
section
variable {KV : AV → Prop} {uv : Wit KV}
end
variable {cs : List AV} {K : (Nat → AV) → Prop} {u : Wit K} {d : Option Nat} {gg : Option (Nat × Bool)} {af : List Nat} {xs : List AOper}
theorem xas_nil : xas P G H cs K u [] fr = K fr := rfl
theorem xas_alloc {E : TypeId} {z : List AV} : xas P G H cs K u (⟨d, .alloc E z, gg, af⟩ :: xs) fr = xas P G H cs K u xs (put fr d .any) := rfl
theorem xas_store {ag : Bool} {k : Nat} {a y : Opd} : xas P G H cs K u (⟨d, .store ag k a y, gg, af⟩ :: xs) fr = pr ((ev G fr y).cells? = some cs) (xas P G H cs K u xs fr) ⟨⟩ := rfl
theorem xas_call {f : FuncId} {args : List Opd} : xas P G H cs K u (⟨d, .call f args, gg, af⟩ :: xs) fr = xfnA P G H (fun v => xas P G H cs K u xs (put fr d v)) ⟨⟩ f (evs G fr args) := rfl
theorem xas_mov {x : Opd} : xas P G H cs K u (⟨d, .mov x, gg, af⟩ :: xs) fr = hold (fun v => xas P G H cs K u xs (put fr d v)) ⟨⟩ (some (ev G fr x)) := rfl
theorem xas_load {ag : Bool} {k : Nat} {x : Opd} : xas P G H cs K u (⟨d, .load ag k x, gg, af⟩ :: xs) fr = hold (fun v => xas P G H cs K u xs (put fr d v)) ⟨⟩ (aload H ag k (ev G fr x)) := rfl
theorem xas_fld {off : Nat} {x : Opd} : xas P G H cs K u (⟨d, .fld off x, gg, af⟩ :: xs) fr = hold (fun v => xas P G H cs K u xs (put fr d v)) ⟨⟩ (afld off (ev G fr x)) := rfl
theorem xas_ext {i : Nat} {x : Opd} : xas P G H cs K u (⟨d, .ext i x, gg, af⟩ :: xs) fr = hold (fun v => xas P G H cs K u xs (put fr d v)) ⟨⟩ (aext i (ev G fr x)) := rfl
theorem xas_bsl {sz len : Nat} {parts : List (Nat × Opd)} : xas P G H cs K u (⟨d, .bsl sz len parts, gg, af⟩ :: xs) fr = hold (fun v => xas P G H cs K u xs (put fr d v)) ⟨⟩ (match arows sz 0 (evq G fr parts) with
 | some rows => if rows.length = len then some (.ls true rows) else none
 | none => none) := rfl
attribute [push_cast] xas_nil xas_alloc xas_store xas_call xas_mov xas_load xas_fld xas_ext xas_bsl
end Go.Ab
/-! The stepper in regions whose order the conflicts decide; bytes and strings. -/
namespace Go.Ab
variable {P : Program} {G : Nat → AV} {Q : AExit → St → Prop} {w : Wit Q} {K : St → Prop} {u : Wit K} {st : St} {fr : Nat → AV} {H Hs : Nat → Option AObj} {n : Nat} {d : Option Nat} {af : List Nat} {os : List AOper}
def xn (P : Program) (G : Nat → AV) (Hs : Nat → Option AObj) (K : St → Prop) (_ : Wit K) (l : List (Bool × AOper)) (st : St) : Prop := naops P G Hs l st K
def xnk (P : Program) (G : Nat → AV) (Hs : Nat → Option AObj) (K : St → Prop) (_ : Wit K) (l : List (Bool × AOper)) (st : St) : Prop := Sub Hs st.H ∧ naops P G Hs l st K
def xnb (P : Program) (G : Nat → AV) (Hs : Nat → Option AObj) (K : St → Prop) (_ : Wit K) (l : List (Bool × AOper)) (H : Nat → Option AObj) (st : St) : Prop := Sub Hs H ∧ naops P G Hs l ⟨st.fr, H, st.n⟩ K
theorem xw_nreg {l : List (Bool × AOper)} (Hs : Nat → Option AObj) (hs : Sub Hs H) (h : xn P G Hs (fun st => xq Q w .normal st) ⟨⟩ l ⟨fr, H, n⟩) : xw P G Q w (.nreg l) ⟨fr, H, n⟩ := ⟨Hs, hs, h⟩
theorem sub_noH (H : Nat → Option AObj) : Sub noH H = True := eq_true fun i o hi => by cases hi
theorem xn_nil : xn P G Hs K u [] st = K st := rfl
theorem xn_f {x : AOper} {l : List (Bool × AOper)} : xn P G Hs K u ((false, x) :: l) ⟨fr, H, n⟩ = xops P G (fun st' => xnk P G Hs K u l st') ⟨⟩ [x] ⟨fr, H, n⟩ := rfl
theorem xn_t {x : AOper} {l : List (Bool × AOper)} : xn P G Hs K u ((true, x) :: l) ⟨fr, H, n⟩ = xops P G (fun st' => xnb P G Hs K u l H st') ⟨⟩ [x] ⟨fr, Hs, n⟩ := rfl
theorem xnb_mk {l : List (Bool × AOper)} {H' : Nat → Option AObj} : xnb P G Hs K u l H ⟨fr, H', n⟩ = pr (Sub Hs H) (xn P G Hs K u l ⟨fr, H, n⟩) ⟨⟩ := rfl
theorem xnk_mk {l : List (Bool × AOper)} : xnk P G Hs K u l ⟨fr, H, n⟩ = pr (Sub Hs H) (xn P G Hs K u l ⟨fr, H, n⟩) ⟨⟩ := rfl
/-! .. with one operation that may come anywhere. -/
def xf (P : Program) (G : Nat → AV) (Hs : Nat → Option AObj) (x : AOper) (K : St → Prop) (_ : Wit K) (l : List (Nat × Bool × AOper)) (st : St) : Prop := faops P G Hs x l st K
def xfk (P : Program) (G : Nat → AV) (Hs : Nat → Option AObj) (x : AOper) (K : St → Prop) (_ : Wit K) (l : List (Nat × Bool × AOper)) (st : St) : Prop := Sub Hs st.H ∧ faops P G Hs x l st K
def xfb (P : Program) (G : Nat → AV) (Hs : Nat → Option AObj) (x : AOper) (K : St → Prop) (_ : Wit K) (l : List (Nat × Bool × AOper)) (H : Nat → Option AObj) (st : St) : Prop := Sub Hs H ∧ faops P G Hs x l ⟨st.fr, H, st.n⟩ K
def xsp (A B : Prop) : Prop := A ∧ B
theorem xsp_intro {A B : Prop} (h : A) (k : B) : xsp A B := ⟨h, k⟩
theorem xw_freg {x : AOper} {l : List (Nat × Bool × AOper)} (Hs : Nat → Option AObj) (hs : Sub Hs H) (h : xf P G Hs x (fun st => xq Q w .normal st) ⟨⟩ l ⟨fr, H, n⟩) : xw P G Q w (.freg x l) ⟨fr, H, n⟩ := ⟨Hs, hs, h⟩
theorem xf_nil {x : AOper} : xf P G Hs x K u [] ⟨fr, H, n⟩ = xn P G Hs K u [(false, x)] ⟨fr, H, n⟩ := rfl
theorem xf_0f {x y : AOper} {l : List (Nat × Bool × AOper)} : xf P G Hs x K u ((0, false, y) :: l) ⟨fr, H, n⟩ = xops P G (fun st' => xfk P G Hs x K u l st') ⟨⟩ [y] ⟨fr, H, n⟩ := rfl
theorem xf_0t {x y : AOper} {l : List (Nat × Bool × AOper)} : xf P G Hs x K u ((0, true, y) :: l) ⟨fr, H, n⟩ = xops P G (fun st' => xfb P G Hs x K u l H st') ⟨⟩ [y] ⟨fr, Hs, n⟩ := rfl
theorem xf_1f {x y : AOper} {l : List (Nat × Bool × AOper)} : xf P G Hs x K u ((1, false, y) :: l) ⟨fr, H, n⟩ = xsp (xn P G Hs K u ((false, x) :: (false, y) :: l.map (·.2)) ⟨fr, H, n⟩) (xops P G (fun st' => xfk P G Hs x K u l st') ⟨⟩ [y] ⟨fr, H, n⟩) := rfl
theorem xf_2 {x y : AOper} {f : Bool} {l : List (Nat × Bool × AOper)} : xf P G Hs x K u ((2, f, y) :: l) ⟨fr, H, n⟩ = xn P G Hs K u ((false, x) :: (f, y) :: l.map (·.2)) ⟨fr, H, n⟩ := rfl
theorem xfb_mk {x : AOper} {l : List (Nat × Bool × AOper)} {H' : Nat → Option AObj} : xfb P G Hs x K u l H ⟨fr, H', n⟩ = pr (Sub Hs H) (xf P G Hs x K u l ⟨fr, H, n⟩) ⟨⟩ := rfl
theorem xfk_mk {x : AOper} {l : List (Nat × Bool × AOper)} : xfk P G Hs x K u l ⟨fr, H, n⟩ = pr (Sub Hs H) (xf P G Hs x K u l ⟨fr, H, n⟩) ⟨⟩ := rfl
theorem xo_bts {x : Opd} : xops P G K u (⟨d, .bts x, none, af⟩ :: os) ⟨fr, H, n⟩ = hold (fun v => xops P G K u os ⟨put fr d v, H, n⟩) ⟨⟩ (abts H (ev G fr x)) := rfl
theorem xo_sdat {x : Opd} : xops P G K u (⟨d, .sdat x, none, af⟩ :: os) ⟨fr, H, n⟩ = hold (fun v => xops P G K u os ⟨put fr d v, H, n⟩) ⟨⟩ (asdat H (ev G fr x)) := rfl
theorem xo_upc {k m : Nat} {x : Opd} : xops P G K u (⟨d, .upc k m x, none, af⟩ :: os) ⟨fr, H, n⟩ = hold (fun v => xops P G K u os ⟨put fr d v, H, n⟩) ⟨⟩ (aupc H k m (ev G fr x)) := rfl
def xapps (P : Program) (G : Nat → AV) (K : St → Prop) (u : Wit K) (os : List AOper) (d : Option Nat) (E : TypeId) (fr : Nat → AV) (H : Nat → Option AObj) (n : Nat) (s x : AV) : Prop := aop P G (.apps E (.k s) (.k x)) d ⟨fr, H, n⟩ fun st' => xops P G K u os st'
theorem xo_apps {E : TypeId} {s x : Opd} : xops P G K u (⟨d, .apps E s x, none, af⟩ :: os) ⟨fr, H, n⟩ = xapps P G K u os d E fr H n (ev G fr s) (ev G fr x) := rfl
def xustr (P : Program) (G : Nat → AV) (K : St → Prop) (u : Wit K) (os : List AOper) (d : Option Nat) (E : TypeId) (fr : Nat → AV) (H : Nat → Option AObj) (n : Nat) (s x : AV) : Prop := aop P G (.ustr E (.k s) (.k x)) d ⟨fr, H, n⟩ fun st' => xops P G K u os st'
theorem xo_ustr {E : TypeId} {s x : Opd} : xops P G K u (⟨d, .ustr E s x, none, af⟩ :: os) ⟨fr, H, n⟩ = xustr P G K u os d E fr H n (ev G fr s) (ev G fr x) := rfl
theorem xustr_nil {E : TypeId} : xustr P G K u os d E fr H n (.lit (.pointer none)) (.lit (.int .i64 0)) = xops P G K u os ⟨put fr d (.str ⟨#[]⟩), H, n⟩ := rfl
theorem abts_nil {nz : Bool} : abts H (.ls nz []) = some (.str ⟨#[]⟩) := rfl
theorem asdat_nil : asdat H (.ls false []) = some (.lit (.pointer none)) := rfl
theorem aupc_nil {k m : Nat} : aupc H k m (.lit (.pointer none)) = some (.lit (.pointer none)) := rfl
theorem ACalls.lowp {f : FuncId} {args : List AV} {R : AV → (Nat → Option AObj) → Nat → Prop} (h : ACalls P G f args H n R) : ACalls P G f args H n fun r H' n' => R r H' n' ∧ n ≤ n' ∧ Low H' n' := by
 intro w g vs h1 h2 h3 h4 h5
 refine (h w g vs h1 h2 h3 h4 h5).mono fun e w' ⟨v, r, g', k1, k2, k3, k4, k5⟩ => ⟨v, r, g', k1, ⟨k2, ?_, fun i o hi => (k4.lt i o hi).1⟩, k3, k4, k5⟩
 rw [← h3]; exact k5.n
attribute [push_cast] xo_copy xn_nil xn_f xn_t xnb_mk xnk_mk sub_noH xf_nil xf_0f xf_0t xf_1f xf_2 xfb_mk xfk_mk xo_bts xo_sdat xo_upc xo_apps xo_ustr asdat_nil aupc_nil abts_nil xustr_nil
end Go.Ab
/-! Functions of the library's that write a row of structs in its place. -/
namespace Go.Ab
open Go.Sort Go.Proofs
variable {P : Program} {G : Nat → AV} {H : Nat → Option AObj} {n : Nat} {α : Type} [Inhabited α]
theorem dm_row {k r c : Nat} (h : c < k) : (r * k + c) / k = r ∧ (r * k + c) % k = c := by
 have e1 : (r * k + c) / k = r := by rw [Nat.add_comm, Nat.add_mul_div_right _ _ (by omega), Nat.div_eq_of_lt h, Nat.zero_add]
 exact ⟨e1, by rw [Nat.mod_eq_sub_div_mul, e1]; omega⟩
theorem ACalls.of_rowK {f : FuncId} (he : Enters P f) {o : Nat} {E : TypeId} {k : Nat} (hk0 : 0 < k) (enc : α → List Value) (hk : ∀ x, (enc x).length = k) {zs : List α} {jr : List (List AV)} {g : Nat} {D : List α → Prop} (ho : H o = some ⟨E, k, zs.map (fun x => (enc x).map .lit) ++ jr⟩)
  (h : ∀ (w : World) (blk cap : Nat), HoldsK enc k w blk 0 zs.toArray → blk < w.heap.size → zs.length ≤ cap → Calls P f #[.slice (some ⟨blk, 0, none⟩) zs.length cap, .func (.func g) #[] #[]] w fun e w' => e = .returned (.tuple #[]) ∧ ∃ ds m os, D ds ∧ ds.length = zs.length ∧ w' = sortWorldK enc k w blk 0 m ds.toArray os) :
  ACalls P G f [.os o 0 zs.length, .fn (.func g) []] H n fun r H' n' => r = .tup [] ∧ ∃ ds, D ds ∧ ds.length = zs.length ∧ H' = hu H o (some ⟨E, k, ds.map (fun x => (enc x).map .lit) ++ jr⟩) := by
 intro w gh vs hI hH hn hG hargs
 obtain ⟨v0, vs', e1, hrep, v1, vs'', rfl, ⟨cv, hfv, hcv⟩, e2⟩ := hargs
 have e2 : vs'' = [] := e2
 subst e2
 have hcv : cv.toList = [] := hcv
 have hcv : cv = #[] := by simpa using hcv
 subst hcv hfv
 have e1 : vs = #[v0, .func (.func g) #[] #[]] := Array.toList_inj.1 (by simpa using e1)
 subst e1
 obtain ⟨_, hlt, hos⟩ := hrep
 have hgo : gh.H o = some ⟨E, k, zs.map (fun x => (enc x).map .lit) ++ jr⟩ := by rw [hH]; exact ho
 obtain ⟨cap, arr, hv, harr, hsz, hle, hmax⟩ := hos _ hgo
 obtain ⟨arr2, harr2, hrows, hcells⟩ := hI.cells hgo ⟨arr, _, harr⟩
 rw [harr] at harr2
 cases harr2
 simp only [Nat.zero_mul, Nat.zero_add] at hv hsz hrows hcells hmax
 subst hv
 have hlen : (zs.length + jr.length) * k ≤ arr.size := by simpa using hrows
 have hbl := (hI.lt o _ hgo).2
 have hold : HoldsK enc k w (gh.μ o) 0 zs.toArray := by
  intro j hj
  rw [size_flatK] at hj
  have hj1 : j / k < zs.length := by rw [Nat.div_lt_iff_lt_mul hk0]; simpa using hj
  have hj2 : j % k < k := Nat.mod_lt _ hk0
  have h1 := hcells (j / k) ((enc zs[j / k]).map .lit) (by rw [List.getElem?_append_left (by simpa using hj1)]; simp [hj1])
  obtain ⟨v, h2, h3⟩ := h1.2 (j % k) (.lit ((enc zs[j / k])[j % k]'(by rw [hk]; exact hj2))) (by simp [hk, hj2])
  have h3 : v = (enc zs[j / k])[j % k]'(by rw [hk]; exact hj2) := h3
  rw [show j / k * k + j % k = j from by rw [Nat.mul_comm]; exact Nat.div_add_mod j k] at h2
  refine ⟨?_, by rw [World.frozen?, harr]; simp⟩
  rw [World.cell?, harr, get_flatK _ _ _ _ hj]
  simp only [Nat.zero_add]
  show arr[j]? = _
  rw [h2, h3]
  simp [hj1, hk, hj2]
 refine .inl ⟨he, (h w (gh.μ o) cap hold hbl hle).mono fun e w' ⟨k1, ds, m, os, hD, hd, k2⟩ => ?_⟩
 have hI1 := inv_ahead hI m
 have hS1 := step_ahead w gh m
 have hb1 : (Sort.ahead w m).heap[gh.μ o]? = some (.cells arr E (0, 0)) := harr
 generalize hF : Go.Sort.flatK enc k ds.toArray = F
 have hFs : F.size = ds.length * k := by rw [← hF, size_flatK]; simp
 have hkeep : ∀ b, b ≠ gh.μ o → (putRow id (Sort.ahead w m) (gh.μ o) 0 F).heap[b]? = (Sort.ahead w m).heap[b]? := fun b hb => by
  simp only [putRow, mapBlock, Array.getElem?_modify, if_neg (Ne.symm hb)]
 have hshape : ∀ (a : Array Value) (E' : TypeId), (Sort.ahead w m).heap[gh.μ o]? = some (Obj.cells a E' (0, 0)) → (putRow id (Sort.ahead w m) (gh.μ o) 0 F).heap[gh.μ o]? = some (Obj.cells (putCells id 0 F a) E' (0, 0)) := fun a E' h1 => by
  simp only [putRow, mapBlock, Array.getElem?_modify, if_true, h1, Option.map_some, onCells]
 have hsize : (putRow id (Sort.ahead w m) (gh.μ o) 0 F).heap.size = (Sort.ahead w m).heap.size := by simp [putRow, mapBlock]
 have hS2 := step_set hI1 hgo ⟨arr, _, hb1⟩ (w' := putRow id (Sort.ahead w m) (gh.μ o) 0 F) (ds.map (fun x => (enc x).map .lit) ++ jr) (fun _ => Nat.le_refl _) rfl rfl rfl hsize hkeep (fun a E' h1 => ⟨_, hshape a E' h1, by simp [putCells]⟩)
 have hI2 := inv_set hI1 hgo _ hS2 hsize hkeep (hshape arr E hb1) (by
  refine ⟨by simpa [putCells, hd] using hlen, fun r row hr => ?_⟩
  by_cases hrl : r < ds.length
  ·have hr : (ds.map (fun x => (enc x).map AV.lit) ++ jr)[r]? = some row := hr
   rw [List.getElem?_append_left (by simpa using hrl)] at hr
   simp only [List.getElem?_map, List.getElem?_eq_getElem hrl, Option.map_some, Option.some.injEq] at hr
   subst hr
   refine ⟨by simp [hk], fun c x hx => ?_⟩
   have hc : c < k := by
    have := (List.getElem?_eq_some_iff.1 hx).1
    simpa [hk] using this
   have hx : x = .lit ((enc ds[r])[c]'(by rw [hk]; exact hc)) := by simpa [hk, hc] using hx.symm
   subst hx
   have hin : r * k + c < ds.length * k := by
    have := Nat.mul_le_mul_right k (show r + 1 ≤ ds.length from hrl); rw [Nat.add_mul, Nat.one_mul] at this; omega
   have hin2 : r * k + c < arr.size := by
    have : ds.length * k ≤ (zs.length + jr.length) * k := Nat.mul_le_mul_right k (by omega)
    omega
   refine ⟨(enc ds[r])[c]'(by rw [hk]; exact hc), ?_, rfl⟩
   simp only [putCells, Array.getElem?_mapIdx]
   rw [Array.getElem?_eq_getElem hin2]
   simp only [Option.map_some, Nat.zero_le, true_and, Nat.zero_add, Nat.sub_zero, hFs, if_pos hin, id]
   rw [← hF, get_flatK _ _ _ _ (by simpa using hin), (dm_row hc).1, (dm_row hc).2]
   simp [hrl, hk, hc]
  ·have hr : (ds.map (fun x => (enc x).map AV.lit) ++ jr)[r]? = some row := hr
   rw [List.getElem?_append_right (by simp; omega)] at hr
   have h1 := hcells r row (by rw [List.getElem?_append_right (by simp; omega), ← hr]; simp [hd])
   refine ⟨h1.1, fun c x hx => ?_⟩
   obtain ⟨v, h2, h3⟩ := h1.2 c x hx
   refine ⟨v, ?_, h3.mono (hS1)⟩
   have hout : ¬ r * k + c < ds.length * k := by
    have := Nat.mul_le_mul_right k (show ds.length ≤ r from by omega); omega
   simp only [putCells, Array.getElem?_mapIdx] at h2 ⊢
   rw [h2]
   simp [hFs, hout])
 have hI3 := inv_grow hI2 os
 have hS3 := step_grow hI2 os
 have hw : w' = grow (putRow id (Sort.ahead w m) (gh.μ o) 0 F) os := by rw [k2, ← hF]; rfl
 exact ⟨_, .tup [], { gh with H := upd gh.H o (some ⟨E, k, ds.map (fun x => (enc x).map .lit) ++ jr⟩) }, k1, ⟨rfl, ds, hD, hd, by rw [hH]; rfl⟩, ⟨#[], rfl, rfl⟩, by rw [hw]; exact hI3, by rw [hw]; exact (hS1.trans hS2).trans hS3⟩
end Go.Ab
