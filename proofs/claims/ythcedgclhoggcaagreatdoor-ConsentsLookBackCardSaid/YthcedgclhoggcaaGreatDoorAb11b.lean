/- A part of an abstract logic over the model's runs, proved sound against the model; no condition. -/
import Derived.Test.YthcedgclhoggcaaGreatDoorAb11
/-! What is owned is handed on as what is only read. -/
set_option linter.unusedVariables false
set_option linter.unusedSimpArgs false
namespace Go.Ab
variable {P : Program} {G : Nat → AV} {w w' : World} {g g' : Gh} {H : Nat → Option AObj} {n : Nat} {N : Nat} {a : Act}

/-- A value as it is seen where the objects of 'D' are only read. -/
def frz (D : Nat → Option AObj) : Nat → AV → AV
  | 0, v => v
  | k + 1, .os i off len => match D i with
    | some o => if off + len ≤ o.rows.length then .ls true (((o.rows.drop off).take len).map (List.map (frz D k))) else .os i off len
    | none => .os i off len
  | k + 1, .op i r c => match D i with
    | some o => match o.rows[r]? with
      | some row => if c < row.length then .pp ((row.drop c).map (frz D k)) else .op i r c
      | none => .op i r c
    | none => .op i r c
  | k + 1, .agg cs => .agg (cs.map (frz D k))
  | k + 1, .tup cs => .tup (cs.map (frz D k))
  | k + 1, .ls nz rows => .ls nz (rows.map (List.map (frz D k)))
  | k + 1, .pp cs => .pp (cs.map (frz D k))
  | k + 1, .fn f cs => .fn f (cs.map (frz D k))
  | _ + 1, v => v

structure Drops (g : Gh) (D H' : Nat → Option AObj) : Prop where
  d : Sub D g.H
  h : Sub H' g.H
  no : ∀ i o, D i = some o → H' i = none

theorem RepList.map_frz {f : AV → AV} (hf : ∀ x v, Rep w g x v → Rep w g' (f x) v) : ∀ {xs : List AV} {vs : List Value}, RepList w g xs vs → RepList w g' (xs.map f) vs
  | [], _, h => h
  | x :: xs, _, ⟨v, vs, h1, h2, h3⟩ => ⟨v, vs, h1, hf x v h2, RepList.map_frz hf h3⟩
theorem RepCells.map_frz {f : AV → AV} (hS : Step w g w g') (hf : ∀ x v, Rep w g x v → Rep w g' (f x) v) : ∀ {xs : List AV} {b o : Nat}, RepCells w g b o xs → RepCells w g' b o (xs.map f)
  | [], _, _, _ => trivial
  | x :: xs, b, o, ⟨h1, ⟨v, h2, h3⟩, h4⟩ => ⟨hS.notOwn (World.block_lt_of_cell? w _ h2) h1, ⟨v, h2, hf x v h3⟩, RepCells.map_frz hS hf h4⟩
theorem RepRows.map_frz {f : AV → AV} (hS : Step w g w g') (hf : ∀ x v, Rep w g x v → Rep w g' (f x) v) : ∀ {xs : List (List AV)} {b o : Nat}, RepRows w g b o xs → RepRows w g' b o (xs.map (List.map f))
  | [], _, _, _ => trivial
  | x :: xs, b, o, ⟨h1, h2⟩ => ⟨RepCells.map_frz hS hf h1, by rw [List.length_map]; exact RepRows.map_frz hS hf h2⟩

theorem cell_of_arr {b k : Nat} {arr : Array Value} {E : TypeId} {v : Value} (hb : w.heap[b]? = some (.cells arr E (0, 0))) (hk : arr[k]? = some v) : w.cell? ⟨b, k, none⟩ = some v := by
  simp [World.cell?, hb, hk]
theorem frz_sound (hI : Inv w g) {D H' : Nat → Option AObj} (hd : Drops g D H') : ∀ (k : Nat) (x : AV) (v : Value), Rep w g x v → Rep w (g.less H') (frz D k x) v := by
  have hS : Step w g w (g.less H') := step_less w g hd.h
  intro k
  induction k with
  | zero => intro x v h; exact Rep.mono hS x v h
  | succ k ih =>
    intro x v h
    have hout : ∀ i o, D i = some o → ¬ (g.less H').Own (g.μ i) := by
      rintro i o hi ⟨j, o', h1, h2⟩
      have : j = i := hI.inj j i o' o (hd.h j o' h1) (hd.d i o hi) h2
      subst this
      have := hd.no j o hi
      rw [show (g.less H').H j = H' j from rfl, this] at h1
      cases h1
    cases x with
    | os i off len =>
      simp only [frz]
      split
      · rename_i o hi
        split
        · rename_i hl
          obtain ⟨h0, h1, h2⟩ := h
          have ho := hd.d i o hi
          obtain ⟨cap, arr, rfl, hb, hs, hlc, hmx⟩ := h2 o ho
          obtain ⟨arr', hb', hsz, hrow⟩ := hI.obj i o ho
          rw [hb] at hb'; cases hb'
          have hlen : ((((o.rows.drop off).take len).map (List.map (frz D k)))).length = len := by simp; omega
          refine ⟨some ⟨g.μ i, off * o.sz, none⟩, cap, by rw [hlen], by rw [hlen]; omega, by omega, rfl, by simp, ?_⟩
          rintro ad ⟨rfl⟩
          refine ⟨rfl, ?_⟩
          have key : ∀ (rows : List (List AV)) (off : Nat), (∀ j row, rows[j]? = some row → o.rows[off + j]? = some row) → RepRows w (g.less H') (g.μ i) (off * o.sz) (rows.map (List.map (frz D k))) := by
            intro rows
            induction rows with
            | nil => intro off _; trivial
            | cons row rows ihr =>
              intro off hh
              have hr := hh 0 row rfl
              obtain ⟨hl1, hc⟩ := hrow off row hr
              refine ⟨RepCells.of (hout i o hi) fun c x hx => ?_, ?_⟩
              · rw [List.getElem?_map] at hx
                cases hx' : row[c]? with
                | none => rw [hx'] at hx; cases hx
                | some y =>
                  rw [hx'] at hx
                  simp only [Option.map_some, Option.some.injEq] at hx
                  subst hx
                  obtain ⟨v, k1, k2⟩ := hc c y hx'
                  exact ⟨v, cell_of_arr hb k1, ih y v k2⟩
              · rw [List.length_map, hl1]
                have := ihr (off + 1) (fun j row' hj => by
                  have := hh (j + 1) row' (by simpa using hj)
                  rwa [show off + (j + 1) = off + 1 + j from by omega] at this)
                rwa [Nat.succ_mul] at this
          refine key _ off fun j row hj => ?_
          rw [List.getElem?_take] at hj
          split at hj
          · rwa [List.getElem?_drop] at hj
          · cases hj
        · exact Rep.mono hS _ v h
      · exact Rep.mono hS _ v h
    | op i r c =>
      simp only [frz]
      split
      · rename_i o hi
        split
        · rename_i row hr
          split
          · obtain ⟨h0, h1, h2⟩ := h
            have ho := hd.d i o hi
            have hv := h2 o ho
            obtain ⟨arr', hb', hsz, hrow⟩ := hI.obj i o ho
            refine ⟨g.μ i, r * o.sz + c, hv, RepCells.of (hout i o hi) fun j x hx => ?_⟩
            rw [List.getElem?_map, List.getElem?_drop] at hx
            cases hx' : row[c + j]? with
            | none => rw [hx'] at hx; cases hx
            | some y =>
              rw [hx'] at hx
              simp only [Option.map_some, Option.some.injEq] at hx
              subst hx
              obtain ⟨v, k1, k2⟩ := (hrow r row hr).2 (c + j) y hx'
              exact ⟨v, cell_of_arr hb' (by rw [Nat.add_assoc]; exact k1), ih y v k2⟩
          · exact Rep.mono hS _ v h
        · exact Rep.mono hS _ v h
      · exact Rep.mono hS _ v h
    | agg cs => obtain ⟨vs, h1, h2⟩ := h; exact ⟨vs, h1, h2.map_frz ih⟩
    | tup cs => obtain ⟨vs, h1, h2⟩ := h; exact ⟨vs, h1, h2.map_frz ih⟩
    | fn f cs => obtain ⟨vs, h1, h2⟩ := h; exact ⟨vs, h1, h2.map_frz ih⟩
    | pp cs => obtain ⟨b, o, h1, h2⟩ := h; exact ⟨b, o, h1, h2.map_frz hS ih⟩
    | ls nz rows =>
      obtain ⟨a, cap, h1, h2, h3, h4, h5, h6⟩ := h
      refine ⟨a, cap, by rw [List.length_map]; exact h1, by rw [List.length_map]; exact h2, h3, h4, fun ha => ⟨(h5 ha).1, by rw [(h5 ha).2]; rfl⟩, fun ad ha => ⟨(h6 ad ha).1, (h6 ad ha).2.map_frz hS ih⟩⟩
    | any => exact trivial
    | lit v => exact Rep.mono hS _ _ h


/-- A state some of whose objects are only read from now on. -/
structure Froz (st st' : St) (D : Nat → Option AObj) (k : Nat) : Prop where
  d : Sub D st.H
  no : ∀ i o, D i = some o → st'.H i = none
  n : st'.n = st.n
  fr : ∀ s, st'.fr s = st.fr s ∨ st'.fr s = .any ∨ st'.fr s = frz D k (st.fr s)
  H : ∀ i o', st'.H i = some o' → ∃ o, st.H i = some o ∧ o'.E = o.E ∧ o'.sz = o.sz ∧ (o'.rows = o.rows ∨ o'.rows = o.rows.map (List.map (frz D k)))
theorem Rel.froz {st : St} (hR : Rel G N st g a w) {st' : St} {D : Nat → Option AObj} {k : Nat} (h : Froz st st' D k) : ∃ g', Rel G N st' g' a w ∧ Step w g w g' := by
  let H2 : Nat → Option AObj := fun i => match st'.H i with
    | some _ => g.H i
    | none => none
  have h2 : Sub H2 g.H := fun i o hi => by
    simp only [H2] at hi
    split at hi
    · exact hi
    · cases hi
  have hd : Drops g D H2 := ⟨by rw [hR.H]; exact h.d, h2, fun i o hi => by simp only [H2, h.no i o hi]⟩
  have hin : ∀ i o', st'.H i = some o' → ∃ o, g.H i = some o ∧ H2 i = some o ∧ o'.E = o.E ∧ o'.sz = o.sz ∧ (o'.rows = o.rows ∨ o'.rows = o.rows.map (List.map (frz D k))) := fun i o' hi => by
    obtain ⟨o, k1, k2, k3, k4⟩ := h.H i o' hi
    rw [← hR.H] at k1
    exact ⟨o, k1, by simp only [H2, hi]; exact k1, k2, k3, k4⟩
  have hout : ∀ i o, H2 i = some o → ∃ o', st'.H i = some o' := fun i o hi => by
    simp only [H2] at hi
    split at hi
    · rename_i o' ho'; exact ⟨o', ho'⟩
    · cases hi
  let g2 : Gh := ⟨g.μ, st'.H, g.n⟩
  have hS2 : Step w (g.less H2) w g2 := by
    refine ⟨rfl, rfl, rfl, Nat.le_refl _, fun _ _ _ => rfl, fun _ _ arr _ _ _ h => ⟨arr, h, rfl⟩, fun b ⟨i, o', h1, h3⟩ => .inl ?_, Nat.le_refl _, fun _ _ => rfl, fun i o' _ hi => ?_⟩
    · obtain ⟨o, k1, k2, _⟩ := hin i o' h1
      exact ⟨i, o, k2, h3⟩
    · obtain ⟨o, k1, k2, k3, k4, _⟩ := hin i o' hi
      exact ⟨o, k2, k3.symm, k4.symm⟩
  have hS : Step w g w g2 := (step_less w g h2).trans hS2
  have hz : ∀ x v, Rep w g x v → Rep w g2 (frz D k x) v := fun x v hx => (frz_sound hR.inv hd k x v hx).mono hS2
  have hI2 := inv_less hR.inv h2
  refine ⟨g2, ⟨rfl, by rw [h.n]; exact hR.n, ⟨fun i o' hi => ?_, fun i j o o' hi hj he => ?_, fun i o' hi => ?_⟩, fun k => (hR.gl k).mono hS, fun s => ?_, hR.sz, hR.df⟩, hS⟩
  · obtain ⟨o, k1, _⟩ := hin i o' hi
    exact hR.inv.lt i o k1
  · obtain ⟨o1, k1, _⟩ := hin i o hi
    obtain ⟨o2, k2, _⟩ := hin j o' hj
    exact hR.inv.inj i j o1 o2 k1 k2 he
  · obtain ⟨o, k1, k2, k3, k4, k5⟩ := hin i o' hi
    obtain ⟨arr, j1, j2, j3⟩ := hR.inv.obj i o k1
    refine ⟨arr, by rw [k3]; exact j1, ?_, ?_⟩
    · rw [k4]
      rcases k5 with k5 | k5
      · rw [k5]; exact j2
      · rw [k5, List.length_map]; exact j2
    · intro r row' hr
      rw [k4]
      rcases k5 with k5 | k5
      · rw [k5] at hr
        obtain ⟨l1, l2⟩ := j3 r row' hr
        refine ⟨l1, fun c x hx => ?_⟩
        obtain ⟨v, l3, l4⟩ := l2 c x hx
        exact ⟨v, l3, l4.mono hS⟩
      · rw [k5, List.getElem?_map] at hr
        obtain ⟨row, hrow, rfl⟩ := Option.map_eq_some_iff.1 hr
        obtain ⟨l1, l2⟩ := j3 r row hrow
        refine ⟨by rw [List.length_map]; exact l1, fun c x hx => ?_⟩
        rw [List.getElem?_map] at hx
        obtain ⟨y, hy, rfl⟩ := Option.map_eq_some_iff.1 hx
        obtain ⟨v, l3, l4⟩ := l2 c y hy
        exact ⟨v, l3, hz y v l4⟩
  · rcases h.fr s with h1 | h1 | h1
    · rw [h1]; exact (hR.fr s).mono hS
    · rw [h1]; trivial
    · rw [h1]; exact hz _ _ (hR.fr s)
end Go.Ab
