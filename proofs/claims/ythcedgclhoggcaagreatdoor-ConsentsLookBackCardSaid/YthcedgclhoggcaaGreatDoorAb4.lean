/- A part of an abstract logic over the model's runs, proved sound against the model; no condition. -/
import Derived.Test.YthcedgclhoggcaaGreatDoorAb3
/-! Operations resolved, and what they do. -/
set_option linter.unusedVariables false
set_option linter.unusedSimpArgs false
namespace Go.Ab
open Go.RowKit
variable {P : Program} {w w' : World} {g g' : Gh} {G : Nat → AV} {N : Nat} {st : St} {a : Act}

def absOpd : Operand → Opd
  | .tmp t => .t t
  | .const v => .k (AV.ofVal v)
  | .global g => .g g
  | .func f => .k (.fn (.func f) [])
def aggOf (P : Program) (t : TypeId) : Option Bool := match P.underlying t with
  | some (.struct _) | some (.array _ _) => some true
  | some _ => some false
  | none => none

theorem rep_ofVal (w : World) (g : Gh) (v : Value) : Rep w g (AV.ofVal v) v := by
  unfold AV.ofVal
  split
  · exact ⟨none, 0, rfl, by simp, by simp [maxLen], rfl, fun _ => ⟨rfl, rfl⟩, fun _ h => by cases h⟩
  · rfl
theorem ev_rep (h : Rel G N st g a w) (x : Operand) : Rep w g (ev G st.fr (absOpd x)) (a.eval x) := by
  cases x with
  | tmp t => exact h.fr t
  | const v => exact rep_ofVal w g v
  | global k => exact h.gl k
  | func f => exact ⟨#[], rfl, rfl⟩

theorem run_isAgg (w : World) {t : TypeId} {b : Bool} (h : aggOf P t = some b) : (isAgg t).run P w = .ok b w := by
  unfold aggOf at h
  split at h <;> rename_i hu
  · cases h; simp [isAgg, underlying, hu]
  · cases h; simp [isAgg, underlying, hu]
  · rename_i d h1 h2
    cases h
    have : P.underlying t = some d := by assumption
    simp only [isAgg, Sem.run_bind, run_underlying this, Result.andThen_ok]
    cases d <;> first | rfl | exact absurd rfl (h1 _) | exact absurd rfl (h2 _ _)
  · cases h
theorem run_sizeOf' (w : World) {t : TypeId} {i : TypeInfo} (h : P.info? t = some i) : (sizeOf t).run P w = .ok i.size w := by
  simp [sizeOf, typeInfo, h]
theorem add_none (b o j : Nat) : (⟨b, o, none⟩ : Addr).add j = ⟨b, o + j, none⟩ := by unfold Addr.add; split <;> simp_all
theorem run_loadVar_agg (w : World) {t : TypeId} {i : TypeInfo} (hu : aggOf P t = some true) (hi : P.info? t = some i) (b o : Nat) (cs : List Value) (hl : cs.length = i.size)
    (h : ∀ j v, cs[j]? = some v → w.cell? ⟨b, o + j, none⟩ = some v) : (loadVar t ⟨b, o, none⟩).run P w = .ok (.agg cs.toArray) w := by
  have h1 := run_loadCells_list (P := P) w ⟨b, o, none⟩ cs (fun j v hj => by rw [add_none]; exact h j v hj)
  rw [hl] at h1
  simp [loadVar, run_isAgg w hu, run_sizeOf' w hi, h1]
theorem run_loadVar_one (w : World) {t : TypeId} (hu : aggOf P t = some false) (ad : Addr) (v : Value) (h : w.cell? ad = some v) : (loadVar t ad).run P w = .ok v w := by
  simp [loadVar, run_isAgg w hu, h]

/-- The operation gives a value that x stands for; of what was there nothing changes. -/
def Yield (P : Program) (a : Act) (o : Oper) (w : World) (g : Gh) (x : AV) : Prop :=
  ∃ v w', (execOp a.eval o).run P w = .ok (.value v) w' ∧ Step w g w' g ∧ Inv w' g ∧ Rep w' g x v
theorem Yield.same {o : Oper} {x : AV} {v : Value} (hI : Inv w g) (h : (execOp a.eval o).run P w = .ok (.value v) w) (hx : Rep w g x v) : Yield P a o w g x :=
  ⟨v, w, h, Step.refl _ _, hI, hx⟩

theorem rep_rows {w : World} {g : Gh} {arr : Array Value} {o : AObj} (k : ObjIn w g arr o) {r : Nat} {row : List AV} (hr : o.rows[r]? = some row) (c n : Nat) (hn : c + n ≤ row.length) :
    ∃ cs : List Value, cs.length = n ∧ (∀ j v, cs[j]? = some v → arr[r * o.sz + c + j]? = some v) ∧ RepList w g ((row.drop c).take n) cs := by
  obtain ⟨hl, hk⟩ := k.2 r row hr
  induction n generalizing c with
  | zero => exact ⟨[], rfl, fun j v h => by simp at h, by simp; rfl⟩
  | succ n ih =>
    obtain ⟨cs, h1, h2, h3⟩ := ih (c + 1) (by omega)
    have hc : c < row.length := by omega
    obtain ⟨v, h4, h5⟩ := hk c row[c] (List.getElem?_eq_getElem hc)
    refine ⟨v :: cs, by simp [h1], fun j u hj => ?_, ?_⟩
    · cases j with
      | zero => simp at hj; subst hj; simpa using h4
      | succ j =>
        have := h2 j u (by simpa using hj)
        rwa [show r * o.sz + (c + 1) + j = r * o.sz + c + (j + 1) from by omega] at this
    · rw [List.drop_eq_getElem_cons hc, List.take_succ_cons]
      exact ⟨v, cs, rfl, h5, h3⟩
theorem rep_cells_list {w : World} {g : Gh} {b : Nat} : ∀ {cells : List AV} {o : Nat}, RepCells w g b o cells → ∃ cs : List Value, cs.length = cells.length ∧ (∀ j v, cs[j]? = some v → w.cell? ⟨b, o + j, none⟩ = some v) ∧ RepList w g cells cs
  | [], o, _ => ⟨[], rfl, fun j v h => by simp at h, rfl⟩
  | c :: cs, o, h => by
    obtain ⟨h1, ⟨v, h2, h3⟩, h4⟩ := h
    obtain ⟨vs, h5, h6, h7⟩ := rep_cells_list h4
    refine ⟨v :: vs, by simp [h5], fun j u hj => ?_, v, vs, rfl, h3, h7⟩
    cases j with
    | zero => simp at hj; subst hj; simpa using h2
    | succ j =>
      have := h6 j u (by simpa using hj)
      rwa [show o + 1 + j = o + (j + 1) from by omega] at this
theorem cell_of_heap {w : World} {b : Nat} {arr : Array Value} {E : TypeId} {f : Nat × Nat} (h : w.heap[b]? = some (.cells arr E f)) (o : Nat) : w.cell? ⟨b, o, none⟩ = arr[o]? := by
  simp [World.cell?, h]

theorem load_sound (hI : Inv w g) {t : TypeId} {i : TypeInfo} {ag : Bool} (hu : aggOf P t = some ag) (hi : P.info? t = some i) {p : AV} {pv : Value} (hp : Rep w g p pv) {x : AV}
    (h : aload g.H ag i.size p = some x) : ∃ v, (Instr.loadAt t pv).run P w = .ok v w ∧ Rep w g x v := by
  cases p with
  | pp cells =>
    obtain ⟨b, o, rfl, hc⟩ := hp
    simp only [aload] at h
    cases ag with
    | true =>
      simp only [if_true] at h
      split at h
      · rename_i hn
        cases h
        obtain ⟨cs, h1, h2, h3⟩ := rep_cells_list (hc.take i.size)
        refine ⟨.agg cs.toArray, ?_, cs.toArray, rfl, by simpa using h3⟩
        simp only [Instr.loadAt, Instr.sureAddr, Sem.run_bind, Sem.run_pure, Result.andThen_ok]
        exact run_loadVar_agg w hu hi b o cs (by rw [h1]; simp; omega) h2
      · cases h
    | false =>
      simp only [Bool.false_eq_true, if_false] at h
      obtain ⟨_, v, h1, h2⟩ := hc.get 0 x h
      refine ⟨v, ?_, h2⟩
      simp only [Instr.loadAt, Instr.sureAddr, Sem.run_bind, Sem.run_pure, Result.andThen_ok]
      exact run_loadVar_one w hu _ v (by simpa using h1)
  | op j r c =>
    obtain ⟨_, hlt, hp⟩ := hp
    simp only [aload] at h
    split at h
    · rename_i o ho
      have hv := hp o ho
      subst hv
      obtain ⟨arr, ha, hob⟩ := hI.obj j o ho
      split at h
      · rename_i row hr
        cases ag with
        | true =>
          simp only [if_true] at h
          split at h
          · rename_i hn
            cases h
            obtain ⟨cs, h1, h2, h3⟩ := rep_rows ⟨hob.1, hob.2⟩ hr c i.size hn
            refine ⟨.agg cs.toArray, ?_, cs.toArray, rfl, by simpa using h3⟩
            simp only [Instr.loadAt, Instr.sureAddr, Sem.run_bind, Sem.run_pure, Result.andThen_ok]
            exact run_loadVar_agg w hu hi _ _ cs h1 fun j v hj => by rw [cell_of_heap ha]; exact h2 j v hj
          · cases h
        | false =>
          simp only [Bool.false_eq_true, if_false] at h
          obtain ⟨v, h1, h2⟩ := (hob.2 r row hr).2 c x h
          refine ⟨v, ?_, h2⟩
          simp only [Instr.loadAt, Instr.sureAddr, Sem.run_bind, Sem.run_pure, Result.andThen_ok]
          exact run_loadVar_one w hu _ v (by rw [cell_of_heap ha]; exact h1)
      · cases h
    · cases h
  | _ => simp [aload] at h

theorem fld_sound {s : TypeId} {f : Nat} {fs : Array Field} {fi : Field} {i : TypeInfo} (hu : P.underlying s = some (.struct fs)) (hf : fs[f]? = some fi) (hi : P.info? fi.type = some i) (hz : i.size ≠ 0)
    {p : AV} {pv : Value} (hp : Rep w g p pv) {x : AV} (h : afld fi.offset p = some x) : ∃ v, (Instr.fieldAt s pv f).run P w = .ok v w ∧ Rep w g x v := by
  cases p with
  | pp cells =>
    obtain ⟨b, o, rfl, hc⟩ := hp
    cases h
    refine ⟨.pointer (some ⟨b, o + fi.offset, none⟩), ?_, b, o + fi.offset, rfl, hc.drop _⟩
    simp [Instr.fieldAt, run_underlying hu, hf, Instr.sureAddr, fieldPlace, run_sizeOf' w hi, hz, add_none]
  | op j r c =>
    obtain ⟨⟨ad, rfl⟩, hlt, hp⟩ := hp
    cases h
    refine ⟨.pointer (some (ad.add fi.offset)), ?_, ⟨_, rfl⟩, hlt, fun o ho => ?_⟩
    · simp [Instr.fieldAt, run_underlying hu, hf, Instr.sureAddr, fieldPlace, run_sizeOf' w hi, hz]
    · have hv := hp o ho
      cases hv
      rw [add_none, Nat.add_assoc]
  | _ => simp [afld] at h

/-- A part of a struct by value. -/
theorem part_sound {t : TypeId} {i : TypeInfo} {ag : Bool} (hu : aggOf P t = some ag) (hi : P.info? t = some i) {off : Nat} {cells : List AV} {cs : Array Value} (hp : RepList w g cells cs.toList) {x : AV}
    (h : apart ag off i.size (.agg cells) = some x) : ∃ v, (part t cs off).run P w = .ok v w ∧ Rep w g x v := by
  simp only [apart] at h
  cases ag with
  | true =>
    simp only [if_true] at h
    split at h
    · rename_i hn
      cases h
      refine ⟨.agg (cs.extract off (off + i.size)), by simp [part, run_isAgg w hu, run_sizeOf' w hi], _, rfl, ?_⟩
      have := (hp.drop off).take i.size
      simpa [Array.toList_extract, List.extract_eq_take_drop] using this
    · cases h
  | false =>
    simp only [Bool.false_eq_true, if_false] at h
    obtain ⟨v, h1, h2⟩ := hp.get off x h
    refine ⟨v, ?_, h2⟩
    have h3 : cs[off]? = some v := by simpa using h1
    simp [part, run_isAgg w hu, h3]

theorem idx_sound {t e : TypeId} {i : TypeInfo} (hu : P.underlying t = some (.slice e)) (hi : P.info? e = some i) {p q : AV} {pv qv : Value} (hp : Rep w g p pv) (hq : Rep w g q qv) {x : AV}
    (he : EvenOf i.size p) (h : aidx g.H i.size p q = some x) : ∃ v, (Instr.indexAt t pv qv).run P w = .ok v w ∧ Rep w g x v := by
  unfold aidx at h
  split at h
  · rename_i nz rows k n
    cases hq
    split at h
    · rename_i h0
      split at h
      · rename_i r hr
        cases h
        obtain ⟨ad, cap, rfl, h1, h2, h3, h4, h5⟩ := hp
        have hlt : n.toNat < rows.length := (List.getElem?_eq_some_iff.1 hr).1
        cases ad with
        | none => have := (h4 rfl).2; subst this; simp at hlt
        | some ad =>
          obtain ⟨h6, h7⟩ := h5 ad rfl
          obtain ⟨b, o, sp⟩ := ad
          cases h6
          refine ⟨.pointer (some ⟨b, o + n.toNat * i.size, none⟩), ?_, _, _, rfl, RepRows.get he h7 _ _ hr⟩
          have hlt' : n < (rows.length : Int) := by omega
          simp [Instr.indexAt, run_underlying hu, asIntOf, h0, hlt', run_sizeOf' w hi, add_none]
      · cases h
    · cases h
  · rename_i j off len k n
    cases hq
    split at h
    · rename_i h0
      split at h
      · rename_i o ho
        split at h
        · rename_i hs
          cases h
          obtain ⟨_, h1, h2⟩ := hp
          obtain ⟨cap, arr, rfl, h3, h4, h5, h6⟩ := h2 o ho
          refine ⟨.pointer (some ⟨g.μ j, off * o.sz + n.toNat * i.size, none⟩), ?_, ⟨_, rfl⟩, h1, fun o' ho' => ?_⟩
          · simp [Instr.indexAt, run_underlying hu, asIntOf, h0, run_sizeOf' w hi, add_none]
          · rw [ho] at ho'
            cases ho'
            rw [← hs, Nat.add_mul, Nat.add_zero]
        · cases h
      · cases h
    · cases h
  · cases h

theorem idxA_sound {t e : TypeId} {len : Nat} {i : TypeInfo} (hu : P.underlying t = some (.array len e)) (hi : P.info? e = some i) {p q : AV} {pv qv : Value} (hp : Rep w g p pv) (hq : Rep w g q qv) {x : AV}
    (h : aidxA len i.size p q = some x) : ∃ v, (Instr.indexAt t pv qv).run P w = .ok v w ∧ Rep w g x v := by
  unfold aidxA at h
  split at h
  · cases hq
    split at h
    · rename_i h0
      cases h
      obtain ⟨b, o, rfl, hc⟩ := hp
      exact ⟨.pointer (some ⟨b, o + _, none⟩), by simp [Instr.indexAt, run_underlying hu, asIntOf, Instr.sureAddr, h0, run_sizeOf' w hi, add_none], _, _, rfl, hc.drop _⟩
    · cases h
  · cases hq
    split at h
    · rename_i h0
      cases h
      obtain ⟨⟨ad, rfl⟩, hlt, hp⟩ := hp
      refine ⟨.pointer (some (ad.add _)), by simp [Instr.indexAt, run_underlying hu, asIntOf, Instr.sureAddr, h0, run_sizeOf' w hi]; rfl, ⟨_, rfl⟩, hlt, fun o ho => ?_⟩
      have hv := hp o ho
      cases hv
      rw [add_none, Nat.add_assoc]
    · cases h
  · cases h

theorem chr_sound {t : TypeId} (hu : P.underlying t = some .string) {p q : AV} {pv qv : Value} (hp : Rep w g p pv) (hq : Rep w g q qv) {x : AV}
    (h : achr p q = some x) : ∃ v, (Instr.index t pv qv).run P w = .ok v w ∧ Rep w g x v := by
  unfold achr at h
  split at h
  · rename_i s k n
    cases hp
    cases hq
    split at h
    · rename_i h0
      cases h
      refine ⟨.int .u8 (byteAt s n.toNat), ?_, rfl⟩
      have hlt : n.toNat < s.size := by omega
      have hb : s[n.toNat]? = some s[n.toNat] := by simp [hlt]
      have hd : s.data[n.toNat]? = some s[n.toNat] := by
        have : n.toNat < s.data.size := hlt
        rw [Array.getElem?_eq_getElem this]; rfl
      simp [Instr.index, run_underlying hu, asIntOf, h0.1, hb, byteAt, hd]
    · cases h
  · cases h
end Go.Ab
