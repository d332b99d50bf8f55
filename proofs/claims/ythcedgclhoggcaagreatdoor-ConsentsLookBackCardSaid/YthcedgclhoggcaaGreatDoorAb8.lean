/- A part of an abstract logic over the model's runs, proved sound against the model; no condition. -/
import Derived.Test.YthcedgclhoggcaaGreatDoorAb7
/-! Each operation resolved. -/
set_option linter.unusedVariables false
set_option linter.unusedSimpArgs false
namespace Go.Ab
open Go.RowKit
variable {P : Program} {w w' : World} {g g' : Gh} {G : Nat → AV} {N : Nat} {st : St} {a : Act}

def absParts (places : List (Nat × Nat)) : List (Nat × Operand) → Option (List (Nat × Nat × Opd))
  | [] => some []
  | (i, x) :: r => match places[i]?, absParts places r with
    | some (o, s), some ps => some ((o, s, absOpd x) :: ps)
    | _, _ => none
def isStrT (P : Program) (t : TypeId) : Bool := match P.underlying t with | some .string => true | _ => false
def isIntT (P : Program) (t : TypeId) : Bool := match P.underlying t with | some (.int _) => true | _ => false
def eqKind (P : Program) (t : TypeId) : Option (Option EqK) := match P.underlying t with
  | some .bool => some (some .bool)
  | some (.int _) | some .string => some none
  | some (.slice _) => some (some .slice)
  | some (.pointer _) => some (some .ptr)
  | some (.struct _) => match flatK P 50 t with
    | some ks => if P.eqGuardType P.depth t = false then some (some (.cells ks)) else none
    | none => none
  | _ => none
def isCmp : BinOp → Bool
  | .eql | .neq => true
  | _ => false
def absBin (P : Program) (op : BinOp) (t : TypeId) (x y : Operand) : Option AOp :=
  if isCmp op then (match eqKind P t with
    | some none => some (.bin op (absOpd x) (absOpd y))
    | some (some k) => some (.eq (match op with | .neq => true | _ => false) k (absOpd x) (absOpd y))
    | none => none) else some (.bin op (absOpd x) (absOpd y))
def ownD (own : List Nat) : Option Nat → Bool
  | some k => own.contains k
  | none => false
/-- The operation, resolved; 'own': the slots whose boxes and literals are owned. -/
def absOp (P : Program) (own : List Nat) (d : Option Nat) : Op → Option AOp
  | .move x | .assign x => some (.mov (absOpd x))
  | .pick c x y => some (.pick (absOpd c) (absOpd x) (absOpd y))
  | .load t x => match aggOf P t, P.info? t with
    | some ag, some i => some (.load ag i.size (absOpd x))
    | _, _ => none
  | .store t x y => match P.info? t with
    | some i => some (.store false i.size (absOpd x) (absOpd y))
    | _ => none
  | .alloc E => match P.info? E with
    | some i => match i.zero with
      | some z => if z.cells.all Value.oneCell' then some (.alloc E (z.cells.toList.map AV.ofVal)) else none
      | none => none
    | none => none
  | .box E x => match P.info? E with
    | some i => if ownD own d then some (.boxo E i.size (absOpd x)) else some (.box i.size (absOpd x))
    | none => none
  | .build t parts => match P.underlying t, P.info? t with
    | some (.struct fs), some i => match i.zero, fs.toList.mapM (fun f => (P.info? f.type).map fun j => (f.offset, j.size)) with
      | some z, some places => match absParts places parts.toList with
        | some ps => some (.build (z.cells.toList.map AV.ofVal) ps)
        | none => none
      | _, _ => none
    | some (.array _ e), some i => match i.zero, P.info? e with
      | some z, some ie => some (.build (z.cells.toList.map AV.ofVal) (parts.toList.map fun (k, x) => (k * ie.size, ie.size, absOpd x)))
      | _, _ => none
    | _, _ => none
  | .buildSlice t len parts => match P.underlying t with
    | some (.slice e) => match P.info? e with
      | some i => match i.zero with
        | some z => if len * i.size ≤ 2 ^ 24 ∧ len ≤ 2 ^ 24 then
            (if ownD own d then some (.bslo e i.size len (parts.toList.map fun (k, x) => (k, absOpd x))) else some (.bsl i.size len (parts.toList.map fun (k, x) => (k, absOpd x)))) else none
        | none => none
      | none => none
    | _ => none
  | .nilCheck x => some (.nilc (absOpd x))
  | .binOp op t x y _ => absBin P op t x y
  | .unOp .not _ x => some (.not (absOpd x))
  | .unOp .neg _ x => some (.neg (absOpd x))
  | .convert s t x => match P.underlying s, P.underlying t with
    | some _, some (.int k) => some (.cvt k (absOpd x))
    | some .string, some .string => some (.same (absOpd x))
    | some (.int _), some .string => some (.same (absOpd x))
    | _, _ => none
  | .extract x i => some (.ext i (absOpd x))
  | .field t x f => match P.underlying t with
    | some (.struct fs) => match fs[f]? with
      | some fi => match aggOf P fi.type, P.info? fi.type with
        | some ag, some i => some (.part ag fi.offset i.size (absOpd x))
        | _, _ => none
      | none => none
    | _ => none
  | .fieldAddr t x f => match P.underlying t with
    | some (.struct fs) => match fs[f]? with
      | some fi => match P.info? fi.type with
        | some i => if i.size = 0 then none else some (.fld fi.offset (absOpd x))
        | none => none
      | none => none
    | _ => none
  | .indexAddr t x i => match P.underlying t with
    | some (.slice e) => match P.info? e with
      | some j => some (.idx j.size (absOpd x) (absOpd i))
      | none => none
    | some (.array n e) => match P.info? e with
      | some j => some (.idxA n j.size (absOpd x) (absOpd i))
      | none => none
    | _ => none
  | .index t x i => if isStrT P t then some (.chr (absOpd x) (absOpd i)) else none
  | .slice t x lo hi none => match P.underlying t with
    | some .string => some (.slS (absOpd x) (lo.map absOpd) (hi.map absOpd))
    | some (.slice e) => match P.info? e with
      | some j => some (.sl j.size (absOpd x) (lo.map absOpd) (hi.map absOpd))
      | none => none
    | _ => none
  | .makeFunc f first caps => if first = #[] then some (.mkf f (caps.toList.map absOpd)) else none
  | .makeSlice t l c => match P.underlying t with
    | some (.slice e) => match P.info? e with
      | some i => match i.zero with
        | some z => if z.cells.size = i.size ∧ z.cells.all Value.oneCell' then some (.make e i.bytes (z.cells.toList.map AV.ofVal) (absOpd l) (absOpd c)) else none
        | none => none
      | none => none
    | _ => none
  | .call c => match c.callee with
    | .value (.func f) => some (.call f (c.args.toList.map absOpd))
    | .value (.tmp t) => some (.callv (.t t) (c.args.toList.map absOpd))
    | .builtin .len => match c.args.toList, c.argTypes.toList with
      | [x], [t] => match P.underlying t with
        | some .string => some (.lenS (absOpd x))
        | some (.slice _) => some (.len (absOpd x))
        | _ => none
      | _, _ => none
    | .builtin .append => match c.args.toList, c.argTypes.toList with
      | [s, x], [t, t'] => if t = t' then (match P.underlying t with
        | some (.slice e) => match P.info? e with
          | some i => match i.zero with
            | some z => if z.cells.size = i.size ∧ 0 < i.size ∧ 0 < i.bytes then some (.app e i.size i.bytes (absOpd s) (absOpd x)) else none
            | none => none
          | none => none
        | _ => none) else none
      | _, _ => none
    | .builtin .clear => match c.args.toList, c.argTypes.toList with
      | [x], [t] => match P.underlying t with
        | some (.slice e) => match P.info? e with
          | some i => match i.zero with
            | some z => if z.cells.size = i.size ∧ z.cells.all Value.oneCell' then some (.clear i.size (z.cells.toList.map AV.ofVal) (absOpd x)) else none
            | none => none
          | none => none
        | _ => none
      | _, _ => none
    | _ => none
  | _ => none

theorem ev_evs (h : Rel G N st g a w) : ∀ (xs : List Operand), RepList w g (evs G st.fr (xs.map absOpd)) (xs.map a.eval)
  | [] => rfl
  | x :: xs => ⟨_, _, rfl, ev_rep h x, ev_evs h xs⟩
theorem ev_evo (h : Rel G N st g a w) (x : Option Operand) : RepO w g (evo G st.fr (x.map absOpd)) (x.map a.eval) := by
  cases x with
  | none => trivial
  | some x => exact ev_rep h x

theorem zero_rep (w : World) (g : Gh) (vs : List Value) : RepList w g (vs.map AV.ofVal) vs := by
  induction vs with
  | nil => rfl
  | cons v vs ih => exact ⟨v, vs, rfl, rep_ofVal w g v, ih⟩
theorem any_rep (w : World) (g : Gh) : ∀ (vs : List Value), RepList w g (List.replicate vs.length .any) vs
  | [] => rfl
  | v :: vs => ⟨v, vs, rfl, trivial, any_rep w g vs⟩

theorem parts_rep (h : Rel G N st g a w) {places : List (Nat × Nat)} : ∀ {parts : List (Nat × Operand)} {ps : List (Nat × Nat × Opd)}, absParts places parts = some ps →
    RepParts w g (places.toArray[·]?) (evp G st.fr ps) (parts.map fun (i, x) => (i, a.eval x))
  | [], ps, hp => by cases hp; rfl
  | (i, x) :: r, ps, hp => by
    simp only [absParts] at hp
    split at hp
    · rename_i o s ps' h1 h2
      cases hp
      exact ⟨i, a.eval x, _, rfl, by simpa using h1, ev_rep h x, parts_rep h h2⟩
    · cases hp
theorem parts_rep_arr (h : Rel G N st g a w) (sz : Nat) : ∀ (parts : List (Nat × Operand)),
    RepParts w g (fun i => some (i * sz, sz)) (evp G st.fr (parts.map fun (k, x) => (k * sz, sz, absOpd x))) (parts.map fun (i, x) => (i, a.eval x))
  | [] => rfl
  | (i, x) :: r => ⟨i, a.eval x, _, rfl, rfl, ev_rep h x, parts_rep_arr h sz r⟩

/-- What a slice literal's places come to. -/
theorem arows_fill (sz : Nat) : ∀ (ps : List (Nat × AV)) (k : Nat) (rows : List (List AV)), arows sz k ps = some rows → rows.length = ps.length ∧ (∀ r ∈ rows, r.length = sz) ∧
    ∀ pre : List AV, pre.length = k * sz → afill (pre ++ List.replicate (rows.length * sz) .any) (ps.map fun (i, v) => (i * sz, sz, v)) = some (pre ++ rows.flatten)
  | [], k, rows, h => by
    simp only [arows, Option.some.injEq] at h
    subst h
    exact ⟨rfl, by simp, fun pre _ => by simp [afill]⟩
  | (i, v) :: r, k, rows, h => by
    simp only [arows] at h
    split at h
    · rename_i cs hcs
      split at h
      · rename_i hk
        obtain ⟨rows', h1, h2⟩ := Option.map_eq_some_iff.1 h
        subst h2
        obtain ⟨h3, h4, h5⟩ := arows_fill sz r (k + 1) rows' h1
        refine ⟨by simp [h3], fun r hr => ?_, fun pre hpre => ?_⟩
        · rcases List.mem_cons.1 hr with rfl | hr
          · exact hk.2
          · exact h4 r hr
        · simp only [List.map_cons, afill, hcs]
          have e1 : (pre ++ List.replicate ((rows'.length + 1) * sz) AV.any).length = k * sz + (rows'.length * sz + sz) := by simp [hpre, Nat.succ_mul]
          rw [List.length_cons, if_pos ⟨hk.2, by rw [e1, hk.1]; omega⟩]
          have : splice (pre ++ List.replicate ((rows'.length + 1) * sz) AV.any) (i * sz) cs = (pre ++ cs) ++ List.replicate (rows'.length * sz) AV.any := by
            unfold splice
            rw [hk.1, ← hpre, List.take_left', List.drop_append, List.drop_eq_nil_of_le (by omega), List.nil_append, List.drop_replicate, List.append_assoc]
            · congr 3
              rw [hpre, hk.2, Nat.succ_mul]; omega
            · rfl
          rw [this, h5 (pre ++ cs) (by simp [hpre, hk.2, Nat.succ_mul])]
          simp
      · cases h
    · cases h
theorem evp_map (sz : Nat) (fr : Nat → AV) : ∀ (ps : List (Nat × Opd)), evp G fr (ps.map fun (k, x) => (k * sz, sz, x)) = (evq G fr ps).map fun (i, v) => (i * sz, sz, v)
  | [] => rfl
  | (k, x) :: r => by simp only [List.map_cons, evp, evq]; rw [evp_map sz fr r]

theorem RepRows.of_flat {b : Nat} : ∀ {rows : List (List AV)} {o : Nat}, RepCells w g b o rows.flatten → RepRows w g b o rows
  | [], o, _ => trivial
  | r :: rows, o, h => by
    have h1 := h.take r.length
    have h2 := h.drop r.length
    simp only [List.flatten_cons, List.take_left', List.drop_left'] at h1 h2
    exact ⟨h1, RepRows.of_flat h2⟩
/-- A new block that nobody owns. -/
theorem new_cells (hI : Inv w g) {E : TypeId} {arr : Array Value} {cs : List AV} (h : RepList w g cs arr.toList) : RepCells (w.alloc (.cells arr E)) g w.heap.size 0 cs := by
  refine RepCells.of (fun ho => by have := Gh.Own.lt hI ho; omega) fun i x hx => ?_
  obtain ⟨v, h1, h2⟩ := h.get i x hx
  exact ⟨v, by rw [Nat.zero_add, World.cell?_alloc_new]; simpa using h1, h2.mono (step_alloc w g _)⟩

theorem flat_len {sz : Nat} : ∀ {rows : List (List AV)}, (∀ r ∈ rows, r.length = sz) → rows.flatten.length = rows.length * sz
  | [], _ => by simp
  | r :: rows, h => by
    rw [List.flatten_cons, List.length_append, flat_len (fun r hr => h r (by simp [hr])), h r (by simp), List.length_cons, Nat.succ_mul, Nat.add_comm]
theorem slice_lit (h : Rel G N st g a w) {t e : TypeId} {i : TypeInfo} {z : Value} {len : Nat} (hu : P.underlying t = some (.slice e)) (hi : P.info? e = some i) (hz : i.zero = some z) (hs : len * i.size ≤ 2 ^ 24) {parts : Array (Nat × Operand)}
    {rows : List (List AV)} (hr : arows i.size 0 (evq G st.fr (parts.toList.map fun (k, x) => (k, absOpd x))) = some rows) (hl : rows.length = len) :
    ∃ arr : Array Value, (Instr.buildSlice t len (parts.map fun (i, x) => (i, a.eval x))).run P w = .ok (.slice (some ⟨w.heap.size, 0, none⟩) len len) (w.alloc (.cells arr e)) ∧ RepList w g rows.flatten arr.toList ∧ (∀ r ∈ rows, r.length = i.size) ∧ arr.size = len * i.size := by
  obtain ⟨h1, h2, h3⟩ := arows_fill i.size _ 0 rows hr
  have h4 := h3 [] (by simp)
  rw [← evp_map, List.map_map] at h4
  simp only [List.nil_append] at h4
  have hp := parts_rep_arr h i.size parts.toList
  have hzz : ∀ zc : Array Value, ((Array.range (len * i.size)).map (zc[· % zc.size]!)).size = len * i.size := by simp
  by_cases h0 : len * i.size = 0
  · have hz0 := hzz #[]
    have hb := any_rep w g ((Array.range (len * i.size)).map (fun k => (#[] : Array Value)[k % (#[] : Array Value).size]!)).toList
    rw [Array.length_toList, hz0, ← hl] at hb
    obtain ⟨arr, k1, k2⟩ := fill_sound hp hb h4
    refine ⟨arr, ?_, k2, h2, ?_⟩
    · rw [hl] at k1
      simp only [Instr.buildSlice, Sem.run_bind, run_underlying hu, Result.andThen_ok, run_sizeOf' w hi]
      rw [if_neg (by omega), if_pos h0]
      simp only [Sem.run_pure, Result.andThen_ok, Sem.run_bind, Array.toList_map, k1]
      simp [newRow, Array.toList_map] at *
    · have := k2.length
      simp only [Array.length_toList] at this
      rw [← this, flat_len h2, hl]
  · have hz0 := hzz z.cells
    have hb := any_rep w g ((Array.range (len * i.size)).map (z.cells[· % z.cells.size]!)).toList
    rw [Array.length_toList, hz0, ← hl] at hb
    obtain ⟨arr, k1, k2⟩ := fill_sound hp hb h4
    refine ⟨arr, ?_, k2, h2, ?_⟩
    · rw [hl] at k1
      exact run_buildSlice w t e len _ arr i z hu hi hz (by omega) h0 (by rw [Array.toList_map]; exact k1)
    · have := k2.length
      simp only [Array.length_toList] at this
      rw [← this, flat_len h2, hl]
end Go.Ab
