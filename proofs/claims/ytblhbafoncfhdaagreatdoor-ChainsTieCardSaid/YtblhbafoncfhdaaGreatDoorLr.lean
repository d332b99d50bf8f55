/- What the listed variables hold, as plain cells; no condition. -/
import Derived.Test.YtblhbafoncfhdaaGreatDoorA5
import Derived.LaidMore
import Derived.LaidSub
import Derived.MakeChecks
import Derived.OpenShut
import Derived.ChangeArms
import Derived.Shelf.Vars
import Derived.WalkKit
import Derived.Below
set_option linter.unusedVariables false
/-! What the package-level variables hold that a row lists, as plain cells. -/
namespace Go.Ab
open Go Go.ChangeShapes Go.WideShapes Go.RowKit Go.WideMaps Go.WideElems
def litF (P : Program) (rec : TypeId → DataW Unit → Option (List Value)) (tot : Nat) : List Field → List (DataW Unit) → Nat → Option (List Value)
 | [], [], off => if off = tot then some [] else none
 | f :: fs, d :: ds, off => if f.offset = off then match rec f.type d, litF P rec tot fs ds (off + P.cellsOf f.type) with
  | some v, some r => some (v ++ r)
  | _, _ => none else none
 | _, _, _ => none
def litA (rec : DataW Unit → Option (List Value)) : List (DataW Unit) → Option (List Value)
 | [] => some []
 | d :: ds => match rec d, litA rec ds with
  | some v, some r => some (v ++ r)
  | _, _ => none
def litV (P : Program) : Nat → TypeId → DataW Unit → Option (List Value)
 | 0, _, _ => none
 | n + 1, t, d => match P.underlying t, d with
  | some .bool, .lit (.bool b) => some [.bool b]
  | some (.int k), .lit (.int k' z) => if k' = k then some [.int k z] else none
  | some .string, .lit (.string bs) => some [.string ⟨bs.toArray⟩]
  | some (.array m e), .agg ds => if ds.length = m ∧ P.cellsOf t = m * P.cellsOf e then litA (litV P n e) ds else none
  | some (.struct fs), .agg ds => litF P (litV P n) (P.cellsOf t) fs.toList ds 0
  | _, _ => none
variable {P : Program} {w : World} {base : Nat} {sp : Nat → Bool} {held : Bool}
theorem litF_sound {rec : TypeId → DataW Unit → Option (List Value)} {m tot : Nat} {cs : List Value} (hcs : cs.length = tot)
  (hrec : ∀ t d vs, rec t d = some vs → ∀ cs p, DataW.trod (fun _ => ()) P w base sp held m t cs = some (d, p) → cs = vs) :
  ∀ (fs : List Field) (xs : List (DataW Unit × List MemPlace)) (off : Nat) (vs : List Value), litF P rec tot fs (xs.map (·.1)) off = some vs →
   (∀ (i : Nat) (f : Field), fs[i]? = some f → DataW.trod (fun _ => ()) P w base sp held m f.type ((cs.drop f.offset).take (P.cellsOf f.type)) = xs[i]?) → cs.drop off = vs
 | [], [], off, vs, h, _ => by
  simp only [litF, List.map_nil] at h
  split at h
  ·cases h; rw [List.drop_eq_nil_iff]; omega
  ·cases h
 | [], x :: xs, off, vs, h, _ => by simp [litF] at h
 | f :: fs, [], off, vs, h, _ => by simp [litF] at h
 | f :: fs, x :: xs, off, vs, h, hf => by
  simp only [litF, List.map_cons] at h
  split at h
  ·rename_i ho
   split at h
   ·rename_i v r h1 h2
    cases h
    have h0 := hf 0 f rfl
    have e1 := hrec _ _ _ h1 _ _ (show _ = some (x.1, x.2) from h0)
    have e2 := litF_sound hcs hrec fs xs _ r h2 fun i g hg => by
     have := hf (i + 1) g (by simpa using hg)
     simpa using this
    rw [ho] at e1
    rw [← List.take_append_drop (P.cellsOf f.type) (cs.drop off), e1, List.drop_drop, e2]
   ·cases h
  ·cases h
theorem litA_sound {rec : DataW Unit → Option (List Value)} {tr : List Value → Option (DataW Unit × List MemPlace)} {c : Nat} (hrec : ∀ d vs, rec d = some vs → ∀ cs p, tr cs = some (d, p) → cs = vs) :
  ∀ (xs : List (DataW Unit × List MemPlace)) (cs : List Value) (vs : List Value), cs.length = xs.length * c → litA rec (xs.map (·.1)) = some vs →
   (∀ (i : Nat), i < xs.length → tr ((cs.drop (i * c)).take c) = xs[i]?) → cs = vs
 | [], cs, vs, hl, h, _ => by
  simp only [litA, List.map_nil] at h
  cases h
  simpa using hl
 | x :: xs, cs, vs, hl, h, hf => by
  simp only [litA, List.map_cons] at h
  split at h
  ·rename_i v r h1 h2
   cases h
   have h0 := hf 0 (by simp)
   rw [Nat.zero_mul, List.drop_zero] at h0
   have e1 := hrec _ _ h1 _ _ (show _ = some (x.1, x.2) from h0)
   have e2 := litA_sound (c := c) hrec xs (cs.drop c) r (by simp only [List.length_drop, hl, List.length_cons, Nat.succ_mul]; omega) h2 fun i hi => by
    have := hf (i + 1) (by simp only [List.length_cons]; omega)
    rw [List.drop_drop, show c + i * c = (i + 1) * c from by rw [Nat.succ_mul]; omega]
    simpa using this
   rw [← List.take_append_drop c cs, e1, e2]
  ·cases h
theorem litV_sound : ∀ (n : Nat) (t : TypeId) (d : DataW Unit) (vs : List Value), litV P n t d = some vs → ∀ (fuel : Nat) (cs : List Value) (p : List MemPlace), DataW.trod (fun _ => ()) P w base sp held fuel t cs = some (d, p) → cs = vs
 | 0, _, _, _, h, _, _, _, _ => by simp [litV] at h
 | n + 1, t, d, vs, h, fuel, cs, p, ht => by
  unfold litV at h
  split at h
  ·rename_i b hu
   obtain ⟨b', rfl, h2⟩ := DataW.trod_bool hu ht
   cases h; cases h2; rfl
  ·rename_i k k' z hu
   obtain ⟨z', rfl, h2, _⟩ := DataW.trod_int hu ht
   cases h2
   split at h <;> cases h
   rfl
  ·rename_i bs hu
   obtain ⟨s, rfl, h2, _⟩ := DataW.trod_string hu ht
   cases h2; cases h
   obtain ⟨⟨l⟩⟩ := s
   rfl
  ·rename_i m e ds hu
   obtain ⟨xs, m1, rfl, hx, hl, hn, hel⟩ := DataW.trod_array hu ht
   split at h
   ·rename_i hc
    have hd : ds = xs.map (·.1) := by
     have := (Prod.mk.inj hx).1
     injection this
    subst hd
    exact litA_sound (tr := fun cs => DataW.trod (fun _ => ()) P w base sp held m1 e cs) (c := P.cellsOf e) (fun d vs h cs p => litV_sound n e d vs h m1 cs p) xs cs vs (by rw [hl, hc.2, hn]) h fun i hi => hel i (by omega)
   ·cases h
  ·rename_i fs ds hu
   obtain ⟨xs, m1, rfl, hx, hl, hn, hel⟩ := DataW.trod_struct hu ht
   have hd : ds = xs.map (·.1) := by
    have := (Prod.mk.inj hx).1
    injection this
   subst hd
   have := litF_sound hl (fun t d vs h cs p => litV_sound n t d vs h m1 cs p) fs.toList xs 0 vs h fun i f hf => hel i f (by simpa using hf)
   simpa using this
  ·cases h
theorem laidVars_mem : ∀ {L : List (String × DataW Unit)} {ps : List MemPlace}, DataW.LaidVars P w L ps → ∀ x ∈ L, ∃ g t cs fuel p, P.globalNamed x.1 = some g ∧ (P.globals[g]?).map (·.type) = some t ∧ w.var? P x.1 = some cs ∧ DataW.trod (fun _ => ()) P w 0 (fun _ => true) false fuel t cs.toList = some (x.2, p)
 | [], _, _, x, hx => by cases hx
 | (n, d) :: L, ps, ⟨g, t, cs, fuel, p, q, h1, h2, h3, h4, h5, _⟩, x, hx => by
  rcases List.mem_cons.1 hx with rfl | hx
  ·exact ⟨g, t, cs, fuel, p, h1, h2, h3, h4⟩
  ·exact laidVars_mem h5 x hx
theorem laid_cells {L : List (String × DataW Unit)} (h : laidMetH P L w) (hL : (L.all fun x => x.2.handleName?.isNone) = true) {x : String × DataW Unit} (hx : x ∈ L) {g : Nat} {t : TypeId} (hg : P.globalNamed x.1 = some g) (ht : (P.globals[g]?).map (·.type) = some t) (n : Nat) {vs : List Value} (hv : litV P n t x.2 = some vs) :
  (∃ arr E f, w.heap[g]? = some (.cells arr E f) ∧ arr.size = vs.length) ∧ ∀ i v, vs[i]? = some v → w.cell? ⟨g, i, none⟩ = some v := by
 rw [MakeChecks.laidMetH_plain _ _ _ hL] at h
 obtain ⟨ps, h, _⟩ := h
 obtain ⟨g1, t1, cs, fuel, p, h1, h2, h3, h4⟩ := laidVars_mem h x hx
 obtain rfl := Option.some.inj (hg.symm.trans h1)
 obtain rfl := Option.some.inj (ht.symm.trans h2)
 have e := litV_sound n _ _ _ hv _ _ _ h4
 constructor
 ·simp only [World.var?, hg, Option.bind_some] at h3
  split at h3
  ·rename_i arr E f ha
   cases h3
   exact ⟨_, E, f, ha, by rw [← Array.length_toList, e]⟩
  ·cases h3
 ·intro i v hi
  have := World.var?_cell hg h3 i
  rw [this, ← Array.getElem?_toList, e]
  exact hi
end Go.Ab
/-! What is so where a law's call begins. -/
namespace Go.Ab
open Go Go.ChangeShapes Go.WideShapes Go.RowKit
def g0 : Gh := ⟨fun _ => 0, noObj, 0, false⟩
theorem inv0 (W : World) : Inv W g0 := ⟨fun i o h => (by cases h), fun i j o o' h => (by cases h), fun i o h => (by cases h)⟩
theorem no_own (b : Nat) : ¬ g0.Own b := fun ⟨i, o, h, _⟩ => by cases h
theorem run_callFunc {P : Program} {f : FuncId} (he : Go.Ab.Enters P f) (vs : Array Value) (w : World) : (callFunc f vs).run P w = .ok (.enter f vs) w := by
 obtain ⟨fn, c, h1, h2, h3⟩ := he
 rw [beq_eq_false_iff_ne] at h2
 simp [callFunc, h1, h2, h3]
theorem calls_of_acalls {P : Program} {G : Nat → AV} {f : FuncId} (he : Go.Ab.Enters P f) {args : List AV} {R : AV → (Nat → Option AObj) → Nat → Prop} (h : ACalls P G f args noObj 0 R) {W : World} {vs : Array Value} (hg : ∀ k, Rep W g0 (G k) (.pointer (some ⟨k, 0, none⟩))) (hfix : ∀ k, G (1000000100 + k) = .pp [] → ∀ cs, G k = .pp cs → ∃ arr E f, W.heap[k]? = some (.cells arr E f) ∧ arr.size = cs.length) (hr : RepList W g0 args vs.toList) :
  Calls P f vs W fun e w' => ∃ v r g', e = .returned v ∧ R r g'.H g'.n ∧ Rep w' g' r v ∧ Go.RowKit.Below W.heap.size W w' := by
 have hi := h W g0 vs (inv0 W) rfl rfl ⟨hg, (fun h => by cases h), fun k hk cs hcs => ⟨no_own _, hfix k hk cs hcs⟩⟩ hr
 rcases hi with ⟨_, hc⟩ | ⟨v, w', hc, _⟩
 ·refine hc.mono fun e w' ⟨v, r, g', k1, k2, k3, k4, k5⟩ => ⟨v, r, g', k1, k2, k3, k5.os, k5.tape, k5.output, k5.size, fun b hb => k5.keep b hb (no_own b)⟩
 ·rw [run_callFunc he] at hc
  cases hc
theorem rep_ints {W : World} {x : Addr} {len cap : Nat} {zs : List Int} (hs : x.spot = none) (h1 : len ≤ cap) (h2 : cap ≤ maxLen) (h3 : zs.length = cap) (h4 : ∀ i, i < zs.length → W.cell? (x.add i) = some (.int .i64 (zs.getD i 0))) : Rep W g0 ((.ls true ((zs.take len).map fun y => [AV.int y]))) (.slice (some x) len cap) := by
 have hlen : ((zs.take len).map fun y => [AV.int y]).length = len := by simp; omega
 refine ⟨some x, cap, by rw [hlen], by rw [hlen]; exact h1, h2, rfl, fun h => (by cases h), fun ad had => ?_⟩
 cases had
 refine ⟨hs, ?_⟩
 have key : ∀ (ys : List Int) (o : Nat), (∀ j y, ys[j]? = some y → zs[o + j]? = some y) → RepRows W g0 x.block (x.off + o) (ys.map fun y => [AV.int y]) := by
  intro ys
  induction ys with
  | nil => intro o _; trivial
  | cons y ys ih =>
   intro o hh
   have h0 := hh 0 y rfl
   have hlt : o < zs.length := by
    rcases Nat.lt_or_ge o zs.length with h | h
    ·exact h
    ·rw [Nat.add_zero, List.getElem?_eq_none h] at h0; cases h0
   have hc := h4 o hlt
   have hy : zs.getD o 0 = y := by
    rw [List.getD_eq_getElem?_getD]
    rw [Nat.add_zero] at h0
    rw [h0]; rfl
   have ha : x.add o = ⟨x.block, x.off + o, none⟩ := by
    obtain ⟨b, of, sp⟩ := x
    cases hs
    cases o with
    | zero => simp [Addr.add]
    | succ o => simp [Addr.add]
   refine ⟨⟨no_own _, ⟨.int .i64 y, by rw [← ha, hc, hy], rfl⟩, trivial⟩, ?_⟩
   have := ih (o + 1) fun j z hj => by
    have := hh (j + 1) z (by simpa using hj)
    rwa [show o + (j + 1) = o + 1 + j from by omega] at this
   exact this
 exact key _ 0 fun j y hj => by
  rw [List.getElem?_take] at hj
  split at hj
  ·rwa [Nat.zero_add]
  ·cases hj
theorem rep_ints_nil {W : World} : Rep W g0 ((.ls false [])) (.slice none 0 0) := ⟨none, 0, rfl, Nat.le_refl _, by decide, rfl, fun _ => ⟨rfl, rfl⟩, fun ad h => (by cases h)⟩
theorem rep_cells {W : World} {b : Nat} {vs : List Value} (h : ∀ i v, vs[i]? = some v → W.cell? ⟨b, i, none⟩ = some v) : RepCells W g0 b 0 (vs.map .lit) := by
 have key : ∀ (ys : List Value) (o : Nat), (∀ j v, ys[j]? = some v → W.cell? ⟨b, o + j, none⟩ = some v) → RepCells W g0 b o (ys.map .lit) := by
  intro ys
  induction ys with
  | nil => intro o _; trivial
  | cons y ys ih =>
   intro o hh
   refine ⟨no_own _, ⟨y, hh 0 y rfl, rfl⟩, ih (o + 1) fun j v hj => ?_⟩
   have := hh (j + 1) v (by simpa using hj)
   rwa [show o + (j + 1) = o + 1 + j from by omega] at this
 exact key vs 0 fun j v hj => by rw [Nat.zero_add]; exact h j v hj
end Go.Ab
