/- A part of an abstract logic over the model's runs, proved sound against the model; no condition. -/
import Derived.Test.YthcedgclhoggcaaGreatDoorAb10
/-! Every operation at once. -/
set_option linter.unusedVariables false
set_option linter.unusedSimpArgs false
namespace Go.Ab
open Go.RowKit
variable {P : Program} {w w' : World} {g g' : Gh} {G : Nat → AV} {N : Nat} {st : St} {a : Act}

/-- What is to be shown of the rest. -/
def Next (G : Nat → AV) (N : Nat) (w : World) (g : Gh) (K : St → Prop) (next : Act → World → Prop) : Prop :=
  ∀ st' g' a' w', K st' → Rel G N st' g' a' w' → Step w g w' g' → next a' w'
theorem wp_value {o : Oper} {next : Act → World → Prop} {Q : Exit → Act → World → Prop} {K : St → Prop} (hR : Rel G N st g a w) (hd : ∀ k, o.dst = some k → k < N) (hn : Next G N w g K next) {v : Value}
    (h : (execOp a.eval o).run P w = .ok (.value v) w') (hS : Step w g w' g') (hI : Inv w' g') {x : AV} (hx : Rep w' g' x v) (hK : K ⟨put st.fr o.dst x, g'.H, g'.n⟩) : o.wp P a w next Q := by
  unfold Oper.wp
  rw [h]
  exact hn _ _ _ _ hK (hR.put hS hI hd hx) hS
theorem wp_same {o : Oper} {next : Act → World → Prop} {Q : Exit → Act → World → Prop} {K : St → Prop} (hR : Rel G N st g a w) (hd : ∀ k, o.dst = some k → k < N) (hn : Next G N w g K next) {x : AV}
    (h : ∃ v, (execOp a.eval o).run P w = .ok (.value v) w ∧ Rep w g x v) (hK : K { st with fr := put st.fr o.dst x }) : o.wp P a w next Q := by
  obtain ⟨v, h1, h2⟩ := h
  refine wp_value hR hd hn h1 (Step.refl _ _) hR.inv h2 ?_
  rw [hR.H, hR.n]
  exact hK
theorem wp_skip' {o : Oper} {next : Act → World → Prop} {Q : Exit → Act → World → Prop} {K : St → Prop} (hR : Rel G N st g a w) (hd : ∀ k, o.dst = some k → k < N) (hn : Next G N w g K next)
    (h : (execOp a.eval o).run P w = .ok .skip w') (hS : Step w g w' g') (hI : Inv w' g') (hK : K ⟨put st.fr o.dst .any, g'.H, g'.n⟩) : o.wp P a w next Q := by
  unfold Oper.wp
  rw [h]
  exact hn _ _ _ _ hK (hR.put hS hI hd (x := .any) trivial) hS

theorem val_run {o : Op} {s : Sem Value} {ρ : Operand → Value} {oo : Oper} (ho : execOp ρ oo = (do pure (.value (← s)))) {v : Value} (h : s.run P w = .ok v w') : (execOp ρ oo).run P w = .ok (.value v) w' := by
  rw [ho]; simp [h]

theorem run_enter {f : FuncId} {fn : Func} {c : Code} (hf : P.funcs[f]? = some fn) (hname : (fn.name == "runtime.NumGoroutine") = false) (hb : fn.body = some c) (args : Array Value) (w : World) : (callFunc f args).run P w = .ok (.enter f args) w := by
  have hn : ¬ fn.name = "runtime.NumGoroutine" := by simpa using hname
  simp [callFunc, hf, hn, hb]
theorem wp_call {o : Oper} {next : Act → World → Prop} {Q : Exit → Act → World → Prop} {K : St → Prop} (hR : Rel G N st g a w) (hd : ∀ k, o.dst = some k → k < N) (hn : Next G N w g K next) {f : FuncId} {vs : Array Value} {args : List AV}
    (hx : (execOp a.eval o).run P w = (callFunc f vs).run P w) (hargs : RepList w g args vs.toList) (h : ACalls P G f args st.H st.n fun r H' n' => K ⟨put st.fr o.dst r, H', n'⟩) : o.wp P a w next Q := by
  have h1 := h w g vs hR.inv hR.H hR.n hR.gl hargs
  unfold Oper.wp
  rw [hx]
  rcases h1 with ⟨⟨fn, c, e1, e2, e3⟩, h2⟩ | ⟨v, w', h2, v', r, g', h3, h4, h5, h6, h7⟩
  · rw [run_enter e1 e2 e3]
    refine h2.mono fun e w' ⟨v, r, g', k1, k2, k3, k4, k5⟩ => ?_
    subst k1
    exact hn _ _ _ _ k2 (hR.put k5 k4 hd k3) k5
  · rw [h2]
    cases h3
    exact hn _ _ _ _ h4 (hR.put h7 h6 hd h5) h7

theorem arr2 {α : Type} {xs : Array α} {x y : α} (h : xs.toList = [x, y]) : xs = #[x, y] := by
  apply Array.ext'; simpa using h
theorem arr1 {α : Type} {xs : Array α} {x : α} (h : xs.toList = [x]) : xs = #[x] := by
  apply Array.ext'; simpa using h
theorem gh_set (hR : Rel G N st g a w) {i : Nat} {o : Option AObj} : ({ g with H := upd g.H i o } : Gh).H = upd st.H i o := by rw [← hR.H]

section
variable {o : Oper} {next : Act → World → Prop} {Q : Exit → Act → World → Prop} {K : St → Prop} (hR : Rel G N st g a w) (hd : ∀ k, o.dst = some k → k < N) (hn : Next G N w g K next)
include hR hd hn

theorem s_mov {x : Operand} (ho : o.op = .move x ∨ o.op = .assign x) (h : aop P G (.mov (absOpd x)) o.dst st K) : o.wp P a w next Q := by
  obtain ⟨v, h1, h2⟩ := h
  cases h1
  exact wp_same hR hd hn ⟨a.eval x, by rcases ho with ho | ho <;> simp [execOp, ho], ev_rep hR x⟩ h2
theorem s_pick {c x y : Operand} (ho : o.op = .pick c x y) (h : aop P G (.pick (absOpd c) (absOpd x) (absOpd y)) o.dst st K) : o.wp P a w next Q := by
  obtain ⟨v, h1, h2⟩ := h
  simp only [aval] at h1
  split at h1
  · rename_i t ht
    cases h1
    have hc := ev_rep hR c
    rw [ht] at hc
    have hc : a.eval c = .bool t := hc
    refine wp_same hR hd hn ⟨if t then a.eval x else a.eval y, by simp [execOp, ho, hc, asBool], ?_⟩ h2
    cases t
    · exact ev_rep hR y
    · exact ev_rep hR x
  · cases h1
theorem s_load {t : TypeId} {x : Operand} {ag : Bool} {i : TypeInfo} (ho : o.op = .load t x) (hu : aggOf P t = some ag) (hi : P.info? t = some i) (h : aop P G (.load ag i.size (absOpd x)) o.dst st K) : o.wp P a w next Q := by
  obtain ⟨v, h1, h2⟩ := h
  simp only [aval] at h1
  rw [← hR.H] at h1
  obtain ⟨u, h3, h4⟩ := load_sound (P := P) hR.inv hu hi (ev_rep hR x) h1
  exact wp_same hR hd hn ⟨u, by simp [execOp, ho, h3], h4⟩ h2
theorem s_fld {t : TypeId} {x : Operand} {f : Nat} {fs : Array Field} {fi : Field} {i : TypeInfo} (ho : o.op = .fieldAddr t x f) (hu : P.underlying t = some (.struct fs)) (hf : fs[f]? = some fi) (hi : P.info? fi.type = some i) (hz : i.size ≠ 0) (h : aop P G (.fld fi.offset (absOpd x)) o.dst st K) : o.wp P a w next Q := by
  obtain ⟨v, h1, h2⟩ := h
  obtain ⟨u, h3, h4⟩ := fld_sound (P := P) hu hf hi hz (ev_rep hR x) h1
  exact wp_same hR hd hn ⟨u, by simp [execOp, ho, h3], h4⟩ h2
theorem s_part {t : TypeId} {x : Operand} {f : Nat} {fs : Array Field} {fi : Field} {i : TypeInfo} {ag : Bool} (ho : o.op = .field t x f) (hu : P.underlying t = some (.struct fs)) (hf : fs[f]? = some fi) (hag : aggOf P fi.type = some ag) (hi : P.info? fi.type = some i) (h : aop P G (.part ag fi.offset i.size (absOpd x)) o.dst st K) : o.wp P a w next Q := by
  obtain ⟨v, h1, h2⟩ := h
  simp only [aval] at h1
  have hx := ev_rep hR x
  cases hev : ev G st.fr (absOpd x) with
  | agg cells =>
    rw [hev] at h1 hx
    obtain ⟨vs, h5, h6⟩ := hx
    obtain ⟨u, h3, h4⟩ := part_sound (P := P) hag hi h6 h1
    exact wp_same hR hd hn ⟨u, by simp [execOp, ho, Instr.field, run_underlying hu, hf, h5, asAgg, h3], h4⟩ h2
  | _ => rw [hev] at h1; simp [apart] at h1
theorem s_idx {t e : TypeId} {x y : Operand} {i : TypeInfo} (ho : o.op = .indexAddr t x y) (hu : P.underlying t = some (.slice e)) (hi : P.info? e = some i) (h : aop P G (.idx i.size (absOpd x) (absOpd y)) o.dst st K) : o.wp P a w next Q := by
  obtain ⟨h0, v, h1, h2⟩ := h
  rw [← hR.H] at h1
  obtain ⟨u, h3, h4⟩ := idx_sound (P := P) hu hi (ev_rep hR x) (ev_rep hR y) h0 h1
  exact wp_same hR hd hn ⟨u, by simp [execOp, ho, h3], h4⟩ h2
theorem s_idxA {t e : TypeId} {n : Nat} {x y : Operand} {i : TypeInfo} (ho : o.op = .indexAddr t x y) (hu : P.underlying t = some (.array n e)) (hi : P.info? e = some i) (h : aop P G (.idxA n i.size (absOpd x) (absOpd y)) o.dst st K) : o.wp P a w next Q := by
  obtain ⟨v, h1, h2⟩ := h
  obtain ⟨u, h3, h4⟩ := idxA_sound (P := P) hu hi (ev_rep hR x) (ev_rep hR y) h1
  exact wp_same hR hd hn ⟨u, by simp [execOp, ho, h3], h4⟩ h2
theorem s_chr {t : TypeId} {x y : Operand} (ho : o.op = .index t x y) (hu : P.underlying t = some .string) (h : aop P G (.chr (absOpd x) (absOpd y)) o.dst st K) : o.wp P a w next Q := by
  obtain ⟨v, h1, h2⟩ := h
  obtain ⟨u, h3, h4⟩ := chr_sound (P := P) hu (ev_rep hR x) (ev_rep hR y) h1
  exact wp_same hR hd hn ⟨u, by simp [execOp, ho, h3], h4⟩ h2
theorem s_bin {op : BinOp} {t t' : TypeId} {x y : Operand} (ho : o.op = .binOp op t x y t') (h : aop P G (.bin op (absOpd x) (absOpd y)) o.dst st K) : o.wp P a w next Q := by
  obtain ⟨v, h1, h2⟩ := h
  obtain ⟨u, h3, h4⟩ := bin_sound (P := P) t op x y (ev_rep hR x) (ev_rep hR y) h1
  exact wp_same hR hd hn ⟨u, by simp only [execOp, ho]; rw [Sem.run_bind, h3]; rfl, h4⟩ h2
theorem s_eq {op : BinOp} {neg : Bool} (hop : op = if neg then .neq else .eql) {t t' : TypeId} {x y : Operand} (ho : o.op = .binOp op t x y t') {k : EqK} (hk : eqKind P t = some (some k)) (h : aop P G (.eq neg k (absOpd x) (absOpd y)) o.dst st K) : o.wp P a w next Q := by
  obtain ⟨v, h1, h2⟩ := h
  simp only [aval] at h1
  obtain ⟨b, h3, h4⟩ := Option.map_eq_some_iff.1 h1
  subst h4
  have hk' : EqOk P t k := by
    unfold eqKind at hk
    split at hk
    · rename_i hu; cases hk; exact hu
    · cases hk
    · cases hk
    · rename_i e hu; cases hk; exact ⟨e, hu⟩
    · rename_i e hu; cases hk; exact ⟨e, hu⟩
    · rename_i fs hu
      split at hk
      · rename_i ks hks
        split at hk
        · rename_i hg; cases hk; exact ⟨hks, by simp [aggOf, hu], hg⟩
        · cases hk
      · cases hk
    · cases hk
  have h5 := eq_sound (P := P) t op neg hop x y hk' (ev_rep hR x) (ev_rep hR y) h3
  exact wp_same hR hd hn (x := .bool (nego neg b)) ⟨.bool (nego neg b), by simp only [execOp, ho]; rw [Sem.run_bind, h5]; rfl, rfl⟩ h2
theorem s_not {t : TypeId} {x : Operand} (ho : o.op = .unOp .not t x) (h : aop P G (.not (absOpd x)) o.dst st K) : o.wp P a w next Q := by
  obtain ⟨v, h1, h2⟩ := h
  obtain ⟨u, h3, h4⟩ := not_sound (P := P) (ev_rep hR x) h1
  exact wp_same hR hd hn ⟨u, by simp [execOp, ho, h3], h4⟩ h2
theorem s_neg {t : TypeId} {x : Operand} (ho : o.op = .unOp .neg t x) (h : aop P G (.neg (absOpd x)) o.dst st K) : o.wp P a w next Q := by
  obtain ⟨v, h1, h2⟩ := h
  obtain ⟨u, h3, h4⟩ := neg_sound (P := P) (ev_rep hR x) h1
  exact wp_same hR hd hn ⟨u, by simp [execOp, ho, h3], h4⟩ h2
theorem s_cvt {s t : TypeId} {x : Operand} {d : TypeDesc} {k : IntKind} (ho : o.op = .convert s t x) (hs : P.underlying s = some d) (ht : P.underlying t = some (.int k)) (h : aop P G (.cvt k (absOpd x)) o.dst st K) : o.wp P a w next Q := by
  obtain ⟨v, h1, h2⟩ := h
  obtain ⟨u, h3, h4⟩ := cvt_sound (P := P) hs ht (ev_rep hR x) h1
  exact wp_same hR hd hn ⟨u, by simp [execOp, ho, h3], h4⟩ h2
theorem s_same {s t : TypeId} {x : Operand} {d : TypeDesc} (ho : o.op = .convert s t x) (hs : P.underlying s = some d) (ht : P.underlying t = some .string) (h : aop P G (.same (absOpd x)) o.dst st K) : o.wp P a w next Q := by
  obtain ⟨v, h1, h2⟩ := h
  obtain ⟨u, h3, h4⟩ := same_sound (P := P) hs ht (ev_rep hR x) h1
  exact wp_same hR hd hn ⟨u, by simp [execOp, ho, h3], h4⟩ h2
theorem s_ext {x : Operand} {i : Nat} (ho : o.op = .extract x i) (h : aop P G (.ext i (absOpd x)) o.dst st K) : o.wp P a w next Q := by
  obtain ⟨v, h1, h2⟩ := h
  obtain ⟨u, h3, h4⟩ := ext_sound (P := P) (ev_rep hR x) h1
  exact wp_same hR hd hn ⟨u, by simp [execOp, ho, h3], h4⟩ h2
theorem s_nilc {x : Operand} (ho : o.op = .nilCheck x) (h : aop P G (.nilc (absOpd x)) o.dst st K) : o.wp P a w next Q := by
  obtain ⟨v, h1, h2⟩ := h
  simp only [aval] at h1
  have hx := ev_rep hR x
  unfold anilc at h1
  split at h1
  · rename_i c hc
    cases h1
    rw [hc] at hx
    refine wp_same hR hd hn ⟨a.eval x, ?_, hx⟩ h2
    obtain ⟨b, off, h3, _⟩ := hx
    simp [execOp, ho, h3]
  · rename_i i r c hc
    cases h1
    rw [hc] at hx
    refine wp_same hR hd hn ⟨a.eval x, ?_, hx⟩ h2
    obtain ⟨⟨b, h3⟩, _⟩ := hx
    simp [execOp, ho, h3]
  · rename_i f caps hc
    cases h1
    rw [hc] at hx
    refine wp_same hR hd hn ⟨a.eval x, ?_, hx⟩ h2
    obtain ⟨vs, h3, _⟩ := hx
    simp [execOp, ho, h3]
  · cases h1
theorem s_mkf {f : Fn} {caps : Array Operand} (ho : o.op = .makeFunc f #[] caps) (h : aop P G (.mkf f (caps.toList.map absOpd)) o.dst st K) : o.wp P a w next Q := by
  obtain ⟨v, h1, h2⟩ := h
  cases h1
  have hx : Rep w g (.fn f (evs G st.fr (caps.toList.map absOpd))) (.func f #[] (caps.map a.eval)) := ⟨caps.map a.eval, rfl, by rw [Array.toList_map]; exact ev_evs hR caps.toList⟩
  exact wp_same hR hd hn ⟨_, by simp [execOp, ho, Instr.makeFunc], hx⟩ h2
theorem s_len {c : Call} {x : Operand} {t e : TypeId} (ho : o.op = .call c) (hc : c.callee = .builtin .len) (ha : c.args.toList = [x]) (ht : c.argTypes.toList = [t]) (hu : P.underlying t = some (.slice e)) (h : aop P G (.len (absOpd x)) o.dst st K) : o.wp P a w next Q := by
  obtain ⟨v, h1, h2⟩ := h
  obtain ⟨u, h3, h4⟩ := len_sound (P := P) (ty := o.type) hu (ev_rep hR x) h1
  exact wp_same hR hd hn ⟨u, by simp [execOp, ho, resolve, hc, invoke, builtin, arr1 ha, arr1 ht, h3], h4⟩ h2
theorem s_lenS {c : Call} {x : Operand} {t : TypeId} (ho : o.op = .call c) (hc : c.callee = .builtin .len) (ha : c.args.toList = [x]) (ht : c.argTypes.toList = [t]) (hu : P.underlying t = some .string) (h : aop P G (.lenS (absOpd x)) o.dst st K) : o.wp P a w next Q := by
  obtain ⟨v, h1, h2⟩ := h
  obtain ⟨u, h3, h4⟩ := lenS_sound (P := P) (ty := o.type) hu (ev_rep hR x) h1
  exact wp_same hR hd hn ⟨u, by simp [execOp, ho, resolve, hc, invoke, builtin, arr1 ha, arr1 ht, h3], h4⟩ h2
theorem s_slS {t : TypeId} {x : Operand} {lo hi : Option Operand} (ho : o.op = .slice t x lo hi none) (hu : P.underlying t = some .string) (h : aop P G (.slS (absOpd x) (lo.map absOpd) (hi.map absOpd)) o.dst st K) : o.wp P a w next Q := by
  obtain ⟨v, h1, h2⟩ := h
  obtain ⟨u, h3, h4⟩ := slS_sound (P := P) hu (ev_rep hR x) (ev_evo hR lo) (ev_evo hR hi) h1
  exact wp_same hR hd hn ⟨u, by simp [execOp, ho, h3], h4⟩ h2
theorem s_sl {t e : TypeId} {i : TypeInfo} {x : Operand} {lo hi : Option Operand} (ho : o.op = .slice t x lo hi none) (hu : P.underlying t = some (.slice e)) (hi' : P.info? e = some i) (h : aop P G (.sl i.size (absOpd x) (lo.map absOpd) (hi.map absOpd)) o.dst st K) : o.wp P a w next Q := by
  obtain ⟨h0, v, h1, h2⟩ := h
  rw [← hR.H] at h0
  obtain ⟨u, h3, h4⟩ := sl_sound (P := P) hR.inv hu hi' (ev_rep hR x) (ev_evo hR lo) (ev_evo hR hi) h0 h1
  exact wp_same hR hd hn ⟨u, by simp [execOp, ho, h3], h4⟩ h2
theorem s_build {t : TypeId} {parts : Array (Nat × Operand)} {fs : Array Field} {i : TypeInfo} {z : Value} {places : List (Nat × Nat)} {ps : List (Nat × Nat × Opd)} (ho : o.op = .build t parts) (hu : P.underlying t = some (.struct fs)) (hi : P.info? t = some i) (hz : i.zero = some z)
    (hp : fs.toList.mapM (fun f => (P.info? f.type).map fun j => (f.offset, j.size)) = some places) (hps : absParts places parts.toList = some ps) (h : aop P G (.build (z.cells.toList.map AV.ofVal) ps) o.dst st K) : o.wp P a w next Q := by
  obtain ⟨v, h1, h2⟩ := h
  simp only [aval] at h1
  obtain ⟨out, h3, h4⟩ := Option.map_eq_some_iff.1 h1
  subst h4
  obtain ⟨arr, h5, h6⟩ := fill_sound (parts_rep hR hps) (zero_rep w g z.cells.toList) h3
  have hb : P.built t (parts.map fun (i, x) => (i, a.eval x)).toList = some arr := by
    simp only [Program.built, hi, hu, hz, hp, Array.toList_map]
    exact h5
  exact wp_same hR hd hn (x := .agg out) ⟨.agg arr, by simp [execOp, ho, run_build w t _ arr hb], arr, rfl, h6⟩ h2
theorem s_buildA {t e : TypeId} {n : Nat} {parts : Array (Nat × Operand)} {i ie : TypeInfo} {z : Value} (ho : o.op = .build t parts) (hu : P.underlying t = some (.array n e)) (hi : P.info? t = some i) (hz : i.zero = some z) (hie : P.info? e = some ie)
    (h : aop P G (.build (z.cells.toList.map AV.ofVal) (parts.toList.map fun (k, x) => (k * ie.size, ie.size, absOpd x))) o.dst st K) : o.wp P a w next Q := by
  obtain ⟨v, h1, h2⟩ := h
  simp only [aval] at h1
  obtain ⟨out, h3, h4⟩ := Option.map_eq_some_iff.1 h1
  subst h4
  obtain ⟨arr, h5, h6⟩ := fill_sound (parts_rep_arr hR ie.size parts.toList) (zero_rep w g z.cells.toList) h3
  have hb : P.built t (parts.map fun (i, x) => (i, a.eval x)).toList = some arr := by
    simp only [Program.built, hi, hu, hz, hie, Array.toList_map]
    exact h5
  exact wp_same hR hd hn (x := .agg out) ⟨.agg arr, by simp [execOp, ho, run_build w t _ arr hb], arr, rfl, h6⟩ h2
theorem s_box {E : TypeId} {n : Nat} {x : Operand} (ho : o.op = .box E x) (h : aop P G (.box n (absOpd x)) o.dst st K) : o.wp P a w next Q := by
  obtain ⟨v, h1, h2⟩ := h
  simp only [aval] at h1
  split at h1
  · rename_i cs hcs
    split at h1
    · cases h1
      have hv := cells_sound (ev_rep hR x) hcs
      refine wp_value hR hd hn (w' := w.alloc (.cells (a.eval x).cells E)) (g' := g) (x := .pp cs) (v := .pointer (some ⟨w.heap.size, 0, none⟩)) (by simp [execOp, ho, Instr.box, newVar, newRow]) (step_alloc w g _) (inv_alloc hR.inv _) ⟨w.heap.size, 0, rfl, new_cells hR.inv hv⟩ ?_
      rw [hR.H, hR.n]
      exact h2
    · cases h1
  · cases h1
theorem s_bsl {t e : TypeId} {i : TypeInfo} {z : Value} {len : Nat} {parts : Array (Nat × Operand)} (ho : o.op = .buildSlice t len parts) (hu : P.underlying t = some (.slice e)) (hi : P.info? e = some i) (hz : i.zero = some z) (hs : len * i.size ≤ 2 ^ 24) (hs2 : len ≤ 2 ^ 24)
    (h : aop P G (.bsl i.size len (parts.toList.map fun (k, x) => (k, absOpd x))) o.dst st K) : o.wp P a w next Q := by
  obtain ⟨v, h1, h2⟩ := h
  simp only [aval] at h1
  split at h1
  · rename_i rows hrows
    split at h1
    · rename_i hl
      cases h1
      obtain ⟨arr, h3, h4, h5, h6⟩ := slice_lit (P := P) hR hu hi hz hs hrows hl
      refine wp_value hR hd hn (w' := w.alloc (.cells arr e)) (g' := g) (x := .ls true rows) (v := .slice (some ⟨w.heap.size, 0, none⟩) len len) (by simp [execOp, ho, h3]) (step_alloc w g _) (inv_alloc hR.inv _)
        ⟨some ⟨w.heap.size, 0, none⟩, len, by rw [hl], by omega, by simp only [maxLen]; omega, rfl, fun h => (by cases h), fun ad had => by cases had; exact ⟨rfl, RepRows.of_flat (new_cells hR.inv h4)⟩⟩ ?_
      rw [hR.H, hR.n]
      exact h2
    · cases h1
  · cases h1
theorem s_alloc {E : TypeId} {i : TypeInfo} {z : Value} (ho : o.op = .alloc E) (hi : P.info? E = some i) (hz : i.zero = some z) (h : aop P G (.alloc E (z.cells.toList.map AV.ofVal)) o.dst st K) : o.wp P a w next Q := by
  have hob : ObjIn w g z.cells ⟨E, (z.cells.toList.map AV.ofVal).length, [z.cells.toList.map AV.ofVal]⟩ := ObjIn.of_flat (by simp) (by simp) (by
    simp only [List.flatten_cons, List.flatten_nil, List.append_nil, List.length_cons, List.length_nil, Nat.zero_add, Nat.one_mul, List.length_map, Array.length_toList]
    rw [List.take_of_length_le (by simp)]
    exact zero_rep w g _)
  refine wp_value hR hd hn (w' := w.alloc (.cells z.cells E)) (g' := g.more w.heap.size ⟨E, (z.cells.toList.map AV.ofVal).length, [z.cells.toList.map AV.ofVal]⟩) (x := .op g.n 0 0) (v := .pointer (some ⟨w.heap.size, 0, none⟩))
    (by simp [execOp, ho, Instr.alloc, zeroValue, typeInfo, hi, hz, newVar, newRow]) (step_more hR.inv ⟨E, _, [z.cells.toList.map AV.ofVal]⟩ _) (inv_more hR.inv _ _ hob) (more_rep _ _ _ _) ?_
  show K ⟨_, upd g.H g.n _, g.n + 1⟩
  rw [hR.H, hR.n]
  exact h
theorem s_boxo {E : TypeId} {n : Nat} {x : Operand} (ho : o.op = .box E x) (h : aop P G (.boxo E n (absOpd x)) o.dst st K) : o.wp P a w next Q := by
  obtain ⟨cs, hcs, hl, h2⟩ := h
  have hv := cells_sound (ev_rep hR x) hcs
  have hvl := hv.length
  simp at hvl
  have hob : ObjIn w g (a.eval x).cells ⟨E, n, [cs]⟩ := ObjIn.of_flat (by simp [hl]) (by simp; omega) (by
    simp only [List.flatten_cons, List.flatten_nil, List.append_nil, List.length_cons, List.length_nil, Nat.zero_add, Nat.one_mul]
    rw [List.take_of_length_le (by simp; omega)]
    exact hv)
  refine wp_value hR hd hn (w' := w.alloc (.cells (a.eval x).cells E)) (g' := g.more w.heap.size ⟨E, n, [cs]⟩) (x := .op g.n 0 0) (v := .pointer (some ⟨w.heap.size, 0, none⟩))
    (by simp [execOp, ho, Instr.box, newVar, newRow]) (step_more hR.inv ⟨E, n, [cs]⟩ _) (inv_more hR.inv _ _ hob) (more_rep _ _ _ _) ?_
  show K ⟨_, upd g.H g.n _, g.n + 1⟩
  rw [hR.H, hR.n]
  exact h2
theorem s_bslo {t e : TypeId} {i : TypeInfo} {z : Value} {len : Nat} {parts : Array (Nat × Operand)} (ho : o.op = .buildSlice t len parts) (hu : P.underlying t = some (.slice e)) (hi : P.info? e = some i) (hz : i.zero = some z) (hs : len * i.size ≤ 2 ^ 24) (hs2 : len ≤ 2 ^ 24)
    (h : aop P G (.bslo e i.size len (parts.toList.map fun (k, x) => (k, absOpd x))) o.dst st K) : o.wp P a w next Q := by
  obtain ⟨rows, hrows, hl, h2⟩ := h
  obtain ⟨arr, h3, h4, h5, h6⟩ := slice_lit (P := P) hR hu hi hz hs hrows hl
  have hob : ObjIn w g arr ⟨e, i.size, rows⟩ := ObjIn.of_flat h5 (by show rows.length * i.size ≤ arr.size; rw [hl, h6]; exact Nat.le_refl _) (by
    show RepList w g rows.flatten (arr.toList.take (rows.length * i.size))
    rw [List.take_of_length_le (by simp [hl, h6])]
    exact h4)
  refine wp_value hR hd hn (w' := w.alloc (.cells arr e)) (g' := g.more w.heap.size ⟨e, i.size, rows⟩) (x := .os g.n 0 len) (v := .slice (some ⟨w.heap.size, 0, none⟩) len len)
    (by simp [execOp, ho, h3]) (step_more hR.inv ⟨e, i.size, rows⟩ _) (inv_more hR.inv _ _ hob) (more_rep_os _ _ _ (heap_alloc_new' _ _) h6 (Nat.le_refl _) (by simp only [maxLen]; omega)) ?_
  show K ⟨_, upd g.H g.n _, g.n + 1⟩
  rw [hR.H, hR.n]
  exact h2
theorem s_store {t : TypeId} {i : TypeInfo} {x y : Operand} (ho : o.op = .store t x y) (hi : P.info? t = some i) (h : aop P G (.store false i.size (absOpd x) (absOpd y)) o.dst st K) : o.wp P a w next Q := by
  simp only [aop] at h
  have hx := ev_rep hR x
  split at h
  · rename_i j r c hc
    obtain ⟨ob, cs, ob', h1, h2, h3, h4, h5, h6⟩ := h
    rw [hc] at hx
    rw [← hR.H] at h1
    obtain ⟨w', k1, k2, k3⟩ := store_sound (P := P) hR.inv hi hx (ev_rep hR y) h1 h2 h3 h4 h5
    refine wp_skip' hR hd hn (by simp [execOp, ho, k1]) k2 k3 ?_
    show K ⟨_, upd g.H j _, g.n⟩
    rw [hR.H, hR.n]
    exact h6
  · exact h.elim
theorem s_make {t e : TypeId} {i : TypeInfo} {z : Value} {l c : Operand} (ho : o.op = .makeSlice t l c) (hu : P.underlying t = some (.slice e)) (hi : P.info? e = some i) (hz : i.zero = some z) (hzs : z.cells.size = i.size)
    (h : aop P G (.make e i.bytes (z.cells.toList.map AV.ofVal) (absOpd l) (absOpd c)) o.dst st K) : o.wp P a w next Q := by
  simp only [aop] at h
  have hl := ev_rep hR l
  have hc := ev_rep hR c
  split at h
  · rename_i m m' e1 e2
    obtain ⟨h1, h2, h3, h4, h5⟩ := h
    rw [e1] at hl
    rw [e2] at hc
    have hl : a.eval l = .int .i64 m := hl
    have hc : a.eval c = .int .i64 m' := hc
    obtain ⟨v, w', g', k1, k2, k3, k4, k5, k6⟩ := make_sound (P := P) hR.inv hu hi hz hzs h1 h2 h3 h4
    refine wp_value hR hd hn (by simp [execOp, ho, hl, hc, k1]) k2 k3 k6 ?_
    rw [k4, k5, hR.H, hR.n]
    simpa [hzs] using h5
  · exact h.elim
theorem s_clear {c : Call} {x : Operand} {t e : TypeId} {i : TypeInfo} {z : Value} (ho : o.op = .call c) (hc : c.callee = .builtin .clear) (ha : c.args.toList = [x]) (ht : c.argTypes.toList = [t]) (hu : P.underlying t = some (.slice e)) (hi : P.info? e = some i) (hz : i.zero = some z)
    (hzs : z.cells.size = i.size) (hz1 : z.cells.all Value.oneCell' = true) (h : aop P G (.clear i.size (z.cells.toList.map AV.ofVal) (absOpd x)) o.dst st K) : o.wp P a w next Q := by
  simp only [aop] at h
  have hx := ev_rep hR x
  split at h
  · rename_i j off len e1
    obtain ⟨ob, h1, h2, h3, h4, h5, h6⟩ := h
    rw [e1] at hx
    rw [← hR.H] at h1
    obtain ⟨w', k1, k2, k3⟩ := clear_sound (P := P) (ty := o.type) hR.inv hu hi hz hzs hz1 h4 hx h1 h2 h5
    refine wp_value hR hd hn (v := .tuple #[]) (x := .any) (by simp [execOp, ho, resolve, hc, invoke, builtin, arr1 ha, arr1 ht, k1]) k2 k3 trivial ?_
    show K ⟨_, upd g.H j _, g.n⟩
    rw [hR.H, hR.n]
    exact h6
  · exact h.elim
theorem s_app {c : Call} {s x : Operand} {t e : TypeId} {i : TypeInfo} {z : Value} (ho : o.op = .call c) (hc : c.callee = .builtin .append) (ha : c.args.toList = [s, x]) (ht : c.argTypes.toList = [t, t]) (hu : P.underlying t = some (.slice e)) (hi : P.info? e = some i) (hz : i.zero = some z)
    (hzs : z.cells.size = i.size) (h0 : 0 < i.size) (hb : 0 < i.bytes) (h : aop P G (.app e i.size i.bytes (absOpd s) (absOpd x)) o.dst st K) : o.wp P a w next Q := by
  have hs := ev_rep hR s
  have hx := ev_rep hR x
  have hrun : ∀ v w', (Builtin.append_ #[t, t] o.type #[a.eval s, a.eval x]).run P w = .ok v w' → (execOp a.eval o).run P w = .ok (.value v) w' := by
    intro v w' hv
    simp [execOp, ho, resolve, hc, invoke, builtin, arr2 ha, arr2 ht, hv]
  simp only [aop] at h
  split at h
  · rename_i nz news e1 e2
    obtain ⟨h1, h2, h3, h4⟩ := h
    rw [e1] at hs
    rw [e2] at hx
    obtain ⟨k1, k2⟩ := app_sound (P := P) (ty := o.type) hR.inv hu hi hz hzs h0 hb hx h1 _ hs h3
    cases news with
    | nil =>
      refine wp_same hR hd hn (x := .ls false []) ⟨.slice none 0 0, hrun _ _ (k1 rfl), rep_ofVal w g (.slice none 0 0)⟩ h4
    | cons r rs =>
      obtain ⟨v, w', g', m1, m2, m3, m4, m5, m6⟩ := k2 (by simp)
      refine wp_value hR hd hn (hrun _ _ m1) m2 m3 m6 ?_
      rw [m4, m5, hR.H, hR.n]
      exact h4
  · rename_i j off len nz news e1 e2
    obtain ⟨ob, h1, h2, h3, h4, h5, h6, h7, h8, h9⟩ := h
    subst h2
    rw [e1] at hs
    rw [e2] at hx
    rw [← hR.H] at h1
    obtain ⟨v, w', g', m1, m2, m3, m4, m5, m6⟩ := app_own_sound (P := P) (ty := o.type) hR.inv hu hi hz hzs h0 hb hx h6 hs h1 h3 h4 h5 h8 h7
    refine wp_value hR hd hn (hrun _ _ m1) m2 m3 m6 ?_
    rw [m4, m5, hR.H, hR.n]
    exact h9
  · exact h.elim
theorem s_call {c : Call} {f : FuncId} (ho : o.op = .call c) (hc : c.callee = .value (.func f)) (h : aop P G (.call f (c.args.toList.map absOpd)) o.dst st K) : o.wp P a w next Q := by
  refine wp_call hR hd hn (f := f) (vs := c.args.map a.eval) (args := evs G st.fr (c.args.toList.map absOpd)) ?_ (by rw [Array.toList_map]; exact ev_evs hR _) h
  simp [execOp, ho, resolve, hc, Act.eval, Deferred.ofValue, invoke]
theorem s_callv {c : Call} {t : Tmp} (ho : o.op = .call c) (hc : c.callee = .value (.tmp t)) (h : aop P G (.callv (.t t) (c.args.toList.map absOpd)) o.dst st K) : o.wp P a w next Q := by
  simp only [aop] at h
  have hx := ev_rep hR (.tmp t)
  split at h
  · rename_i f caps e1
    have e1' : ev G st.fr (absOpd (.tmp t)) = .fn (.func f) caps := e1
    rw [e1'] at hx
    obtain ⟨vs, h1, h2⟩ := hx
    refine wp_call hR hd hn (f := f) (vs := c.args.map a.eval ++ vs) (args := evs G st.fr (c.args.toList.map absOpd) ++ caps) ?_ (by
      rw [Array.toList_append, Array.toList_map]; exact (ev_evs hR _).append h2) h
    simp only [execOp, ho, resolve, hc, h1, Deferred.ofValue, Sem.run_bind, Sem.run_pure, Result.andThen_ok, invoke]
    simp
  · exact h.elim

theorem s_binop {op : BinOp} {t t' : TypeId} {x y : Operand} {ao : AOp} (hop : o.op = .binOp op t x y t') (hab : absBin P op t x y = some ao) (h : aop P G ao o.dst st K) : o.wp P a w next Q := by
  unfold absBin at hab
  split at hab
  · rename_i hcmp
    split at hab
    · cases hab; exact s_bin hR hd hn hop h
    · rename_i k hk
      cases hab
      cases op <;> simp [isCmp] at hcmp
      · exact s_eq hR hd hn (neg := false) rfl hop hk h
      · exact s_eq hR hd hn (neg := true) rfl hop hk h
    · cases hab
  · cases hab; exact s_bin hR hd hn hop h
/-- EVERY OPERATION. -/
theorem aop_sound {own : List Nat} {ao : AOp} (hab : absOp P own o.dst o.op = some ao) (h : aop P G ao o.dst st K) : o.wp P a w next Q := by
  generalize hop : o.op = op at hab
  unfold absOp at hab
  split at hab
  · cases hab; exact s_mov hR hd hn (.inl hop) h
  · cases hab; exact s_mov hR hd hn (.inr hop) h
  · cases hab; exact s_pick hR hd hn hop h
  · split at hab
    · rename_i h1 h2; cases hab; exact s_load hR hd hn hop h1 h2 h
    · cases hab
  · split at hab
    · rename_i h1; cases hab; exact s_store hR hd hn hop h1 h
    · cases hab
  · split at hab
    · rename_i h1
      split at hab
      · rename_i h2
        split at hab
        · cases hab; exact s_alloc hR hd hn hop h1 h2 h
        · cases hab
      · cases hab
    · cases hab
  · split at hab
    · split at hab
      · cases hab; exact s_boxo hR hd hn hop h
      · cases hab; exact s_box hR hd hn hop h
    · cases hab
  · split at hab
    · rename_i h1 h2
      split at hab
      · rename_i h3 h4
        split at hab
        · rename_i h5; cases hab; exact s_build hR hd hn hop h1 h2 h3 h4 h5 h
        · cases hab
      · cases hab
    · rename_i h1 h2
      split at hab
      · rename_i h3 h4; cases hab; exact s_buildA hR hd hn hop h1 h2 h3 h4 h
      · cases hab
    · cases hab
  · split at hab
    · rename_i h1
      split at hab
      · rename_i h2
        split at hab
        · rename_i h3
          split at hab
          · rename_i h4
            split at hab
            · cases hab; exact s_bslo hR hd hn hop h1 h2 h3 h4.1 h4.2 h
            · cases hab; exact s_bsl hR hd hn hop h1 h2 h3 h4.1 h4.2 h
          · cases hab
        · cases hab
      · cases hab
    · cases hab
  · cases hab; exact s_nilc hR hd hn hop h
  · exact s_binop hR hd hn hop hab h
  · cases hab; exact s_not hR hd hn hop h
  · cases hab; exact s_neg hR hd hn hop h
  · split at hab
    · rename_i h1 h2; cases hab; exact s_cvt hR hd hn hop h1 h2 h
    · rename_i h1 h2; cases hab; exact s_same hR hd hn hop h1 h2 h
    · rename_i h1 h2; cases hab; exact s_same hR hd hn hop h1 h2 h
    · cases hab
  · cases hab; exact s_ext hR hd hn hop h
  · split at hab
    · rename_i h1
      split at hab
      · rename_i h2
        split at hab
        · rename_i h3 h4; cases hab; exact s_part hR hd hn hop h1 h2 h3 h4 h
        · cases hab
      · cases hab
    · cases hab
  · split at hab
    · rename_i h1
      split at hab
      · rename_i h2
        split at hab
        · rename_i h3
          split at hab
          · cases hab
          · rename_i h4; cases hab; exact s_fld hR hd hn hop h1 h2 h3 h4 h
        · cases hab
      · cases hab
    · cases hab
  · split at hab
    · rename_i h1
      split at hab
      · rename_i h2; cases hab; exact s_idx hR hd hn hop h1 h2 h
      · cases hab
    · rename_i h1
      split at hab
      · rename_i h2; cases hab; exact s_idxA hR hd hn hop h1 h2 h
      · cases hab
    · cases hab
  · split at hab
    · rename_i h1
      cases hab
      refine s_chr hR hd hn hop ?_ h
      unfold isStrT at h1
      split at h1
      · assumption
      · cases h1
    · cases hab
  · split at hab
    · rename_i h1; cases hab; exact s_slS hR hd hn hop h1 h
    · rename_i h1
      split at hab
      · rename_i h2; cases hab; exact s_sl hR hd hn hop h1 h2 h
      · cases hab
    · cases hab
  · split at hab
    · rename_i h1; cases hab; subst h1; exact s_mkf hR hd hn hop h
    · cases hab
  · split at hab
    · rename_i h1
      split at hab
      · rename_i h2
        split at hab
        · rename_i h3
          split at hab
          · rename_i h4; cases hab; exact s_make hR hd hn hop h1 h2 h3 h4.1 h
          · cases hab
        · cases hab
      · cases hab
    · cases hab
  · split at hab
    · rename_i h1; cases hab; exact s_call hR hd hn hop h1 h
    · rename_i h1; cases hab; exact s_callv hR hd hn hop h1 h
    · rename_i h1
      split at hab
      · rename_i h2 h3
        split at hab
        · rename_i h4; cases hab; exact s_lenS hR hd hn hop h1 h2 h3 h4 h
        · rename_i h4; cases hab; exact s_len hR hd hn hop h1 h2 h3 h4 h
        · cases hab
      · cases hab
    · rename_i h1
      split at hab
      · rename_i h2 h3
        split at hab
        · rename_i h4
          subst h4
          split at hab
          · rename_i h5
            split at hab
            · rename_i h6
              split at hab
              · rename_i h7
                split at hab
                · rename_i h8; cases hab; exact s_app hR hd hn hop h1 h2 h3 h5 h6 h7 h8.1 h8.2.1 h8.2.2 h
                · cases hab
              · cases hab
            · cases hab
          · cases hab
        · cases hab
      · cases hab
    · rename_i h1
      split at hab
      · rename_i h2 h3
        split at hab
        · rename_i h4
          split at hab
          · rename_i h5
            split at hab
            · rename_i h6
              split at hab
              · rename_i h7; cases hab; exact s_clear hR hd hn hop h1 h2 h3 h4 h5 h6 h7.1 h7.2 h
              · cases hab
            · cases hab
          · cases hab
        · cases hab
      · cases hab
    · cases hab
  · cases hab
end
end Go.Ab
