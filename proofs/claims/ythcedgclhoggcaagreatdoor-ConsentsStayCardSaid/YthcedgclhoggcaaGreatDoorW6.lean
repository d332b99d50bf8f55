/- Contracts of functions of the program: each computes what its model says; the conditions stand at each. -/
import Derived.Test.YthcedgclhoggcaaGreatDoorTw64
import Derived.Test.YthcedgclhoggcaaGreatDoorRows
import Derived.Test.YthcedgclhoggcaaGreatDoorTie
import Derived.Test.YthcedgclhoggcaaGreatDoorCards
import Derived.WalkKit
import Derived.ProofKit
import Derived.OpenShut
import Derived.ChangeOld
import Derived.Below
import Derived.LaidMore
import Derived.Stop.Joined
import Derived.Deep.DeepHandedRow
import Derived.Shelf.Vars
import Derived.SevenTiedAt
import Derived.Lay
namespace Go.Proofs.YthcedgclhoggcaaGreatDoor
open Go Go.Ab Go.Pm Go.Cm
open Go.ChangeShapes Go.WideShapes Go.ChangeAt Go.RowKit
set_option linter.unusedVariables false
/-- Nothing is owned at the start. -/
def g0 : Gh := ⟨fun _ => 0, noObj, 0, false⟩
theorem inv0 (W : World) : Inv W g0 := ⟨fun i o h => (by cases h), fun i j o o' h => (by cases h), fun i o h => (by cases h)⟩
theorem no_own (b : Nat) : ¬ g0.Own b := fun ⟨i, o, h, _⟩ => by cases h
theorem run_callFunc {P : Program} {f : FuncId} (he : Go.Ab.Enters P f) (vs : Array Value) (w : World) : (callFunc f vs).run P w = .ok (.enter f vs) w := by
  obtain ⟨fn, c, h1, h2, h3⟩ := he
  rw [beq_eq_false_iff_ne] at h2
  simp [callFunc, h1, h2, h3]
theorem calls_of_acalls {P : Program} {G : Nat → AV} {f : FuncId} (he : Go.Ab.Enters P f) {args : List AV} {R : AV → (Nat → Option AObj) → Nat → Prop} (h : ACalls P G f args noObj 0 R) {W : World} {vs : Array Value} (hg : ∀ k, Rep W g0 (G k) (.pointer (some ⟨k, 0, none⟩))) (hfix : ∀ k, G (1000000100 + k) = .pp [] → ∀ cs, G k = .pp cs → ∃ arr E f, W.heap[k]? = some (.cells arr E f) ∧ arr.size = cs.length) (hr : RepList W g0 args vs.toList) :
    Calls P f vs W fun e w' => ∃ v r g', e = .returned v ∧ R r g'.H g'.n ∧ Rep w' g' r v ∧ Go.RowKit.Below W.heap.size W w' := by
  have hi := h W g0 vs (inv0 W) rfl rfl ⟨hg, (fun h => by cases h), fun k hk cs hcs => ⟨no_own _, hfix k hk cs hcs⟩⟩ hr
  rcases hi with ⟨_, hc⟩ | ⟨v, w', hc, _⟩
  · refine hc.mono fun e w' ⟨v, r, g', k1, k2, k3, k4, k5⟩ => ⟨v, r, g', k1, k2, k3, k5.os, k5.tape, k5.output, k5.size, fun b hb => k5.keep b hb (no_own b)⟩
  · rw [run_callFunc he] at hc
    cases hc
/-- A slice of numbers that came in. -/
theorem rep_ints {W : World} {x : Addr} {len cap : Nat} {zs : List Int} (hs : x.spot = none) (h1 : len ≤ cap) (h2 : cap ≤ maxLen) (h3 : zs.length = cap) (h4 : ∀ i, i < zs.length → W.cell? (x.add i) = some (.int .i64 (zs.getD i 0))) : Rep W g0 (LL true (zs.take len)) (.slice (some x) len cap) := by
  have hlen : ((zs.take len).map fun y => [AV.int y]).length = len := by simp; omega
  refine ⟨some x, cap, by rw [hlen], by rw [hlen]; exact h1, h2, rfl, fun h => (by cases h), fun ad had => ?_⟩
  cases had
  refine ⟨hs, ?_⟩
  have key : ∀ (ys : List Int) (o : Nat), (∀ j y, ys[j]? = some y → zs[o + j]? = some y) → RepRows W g0 x.block (x.off + o) (ys.map fun y => [AV.int y]) := by
    intro ys
    induction ys with
    | nil => intro o _; trivial
    | cons y ys ih =>
      intro o hh
      have h0 := hh 0 y rfl
      have hlt : o < zs.length := by
        rcases Nat.lt_or_ge o zs.length with h | h
        · exact h
        · rw [Nat.add_zero, List.getElem?_eq_none h] at h0; cases h0
      have hc := h4 o hlt
      have hy : zs.getD o 0 = y := by
        rw [List.getD_eq_getElem?_getD]
        rw [Nat.add_zero] at h0
        rw [h0]; rfl
      have ha : x.add o = ⟨x.block, x.off + o, none⟩ := by
        obtain ⟨b, of, sp⟩ := x
        cases hs
        cases o with
        | zero => simp [Addr.add]
        | succ o => simp [Addr.add]
      refine ⟨⟨no_own _, ⟨.int .i64 y, by rw [← ha, hc, hy], rfl⟩, trivial⟩, ?_⟩
      have := ih (o + 1) fun j z hj => by
        have := hh (j + 1) z (by simpa using hj)
        rwa [show o + (j + 1) = o + 1 + j from by omega] at this
      exact this
  exact key _ 0 fun j y hj => by
    rw [List.getElem?_take] at hj
    split at hj
    · rwa [Nat.zero_add]
    · cases hj
theorem rep_ints_nil {W : World} : Rep W g0 (LL false []) (.slice none 0 0) := ⟨none, 0, rfl, Nat.le_refl _, by decide, rfl, fun _ => ⟨rfl, rfl⟩, fun ad h => (by cases h)⟩
/-- The variables that the walk reads. -/
def theG (m : Int) (k : Nat) : AV := if k = 0 then .pp poolC else if k = 1 then .pp (tab10.map .lit) else if k = 2 then .pp [.lit (.int .i64 m)] else if k = 1000000101 then .pp [] else .any
theorem theG_ok (m : Int) : GOk (theG m) := ⟨rfl, ⟨m, [], rfl⟩, fun h => by simp [Strict, theG] at h⟩
theorem theG_t (m : Int) : GT (theG m) := ⟨rfl, rfl, (theG_ok m).ns⟩
theorem theG_fix {W : World} {m : Int} (h : ∃ arr E f, W.heap[1]? = some (.cells arr E f) ∧ arr.size = 20) (k : Nat) (hk : theG m (1000000100 + k) = .pp []) (cs : List AV) (hcs : theG m k = .pp cs) : ∃ arr E f, W.heap[k]? = some (.cells arr E f) ∧ arr.size = cs.length := by
  have hk1 : k = 1 := by
    unfold theG at hk
    rw [if_neg (by omega), if_neg (by omega), if_neg (by omega)] at hk
    split at hk
    · omega
    · cases hk
  subst hk1
  obtain ⟨arr, E, f, h1, h2⟩ := h
  have hcs : (.pp (tab10.map AV.lit) : AV) = .pp cs := hcs
  cases hcs
  exact ⟨arr, E, f, h1, by rw [h2]; simp [tab10, Lib.pow10Tab]⟩
/-- Cells that hold plain values. -/
theorem rep_cells {W : World} {b : Nat} {vs : List Value} (h : ∀ i v, vs[i]? = some v → W.cell? ⟨b, i, none⟩ = some v) : RepCells W g0 b 0 (vs.map .lit) := by
  have key : ∀ (ys : List Value) (o : Nat), (∀ j v, ys[j]? = some v → W.cell? ⟨b, o + j, none⟩ = some v) → RepCells W g0 b o (ys.map .lit) := by
    intro ys
    induction ys with
    | nil => intro o _; trivial
    | cons y ys ih =>
      intro o hh
      refine ⟨no_own _, ⟨y, hh 0 y rfl, rfl⟩, ih (o + 1) fun j v hj => ?_⟩
      have := hh (j + 1) v (by simpa using hj)
      rwa [show o + (j + 1) = o + 1 + j from by omega] at this
  exact key vs 0 fun j v hj => by rw [Nat.zero_add]; exact h j v hj
def poolV : List Value := pool.flatMap fun x => [.int .i64 x.kind, .string x.text]
theorem poolC_eq : poolC = poolV.map .lit := rfl
theorem theG_rep {W : World} {m : Int} (hm : W.cell? ⟨2, 0, none⟩ = some (.int .i64 m)) (hp : ∀ i v, poolV[i]? = some v → W.cell? ⟨0, i, none⟩ = some v) (ht : ∀ i v, tab10[i]? = some v → W.cell? ⟨1, i, none⟩ = some v) (k : Nat) : Rep W g0 (theG m k) (.pointer (some ⟨k, 0, none⟩)) := by
  unfold theG
  split
  · rename_i h; subst h
    exact ⟨0, 0, rfl, by rw [poolC_eq]; exact rep_cells hp⟩
  · split
    · rename_i h; subst h
      exact ⟨1, 0, rfl, rep_cells ht⟩
    · split
      · rename_i h; subst h
        exact ⟨2, 0, rfl, no_own _, ⟨_, hm, rfl⟩, trivial⟩
      · split
        · exact ⟨k, 0, rfl, trivial⟩
        · trivial
end Go.Proofs.YthcedgclhoggcaaGreatDoor

namespace Go.Proofs.YthcedgclhoggcaaGreatDoor
open Go Go.Ab Go.Pm Go.Cm
open Go.ChangeShapes Go.WideShapes Go.ChangeAt Go.RowKit Go.WideMaps Go.WideElems
set_option linter.unusedVariables false
theorem gPool : Tryz.prog.globalNamed "handbill/handmake.idPool" = some 0 := by kernel_rfl
theorem tPool : (Tryz.prog.globals[0]?).map (·.type) = some 93 := by kernel_rfl
theorem cells93 : Tryz.prog.cellsOf 93 = 20 := by kernel_rfl
theorem cells32 : Tryz.prog.cellsOf 32 = 2 := by kernel_rfl
theorem cells3 : Tryz.prog.cellsOf 3 = 1 := by kernel_rfl
theorem cells9 : Tryz.prog.cellsOf 9 = 1 := by kernel_rfl
abbrev laidL : List (String × DataW Unit) := [("math/bits.deBruijn32tab", Rows.laid_math_bits_deBruijn32tab), ("math/bits.deBruijn64tab", Rows.laid_math_bits_deBruijn64tab), ("internal/strconv.uint64pow10", Rows.laid_internal_strconv_uint64pow10), ("unicode/utf8.acceptRanges", Rows.laid_unicode_utf8_acceptRanges), ("handbill/handmake.idPool", Rows.laid_handbill_handmake_idPool), ("unicode/utf8.first", Rows.laid_unicode_utf8_first)]
theorem chunks : ∀ (ps : List Idn) (L : List Value), L.length = 2 * ps.length → (∀ i x, ps[i]? = some x → (L.drop (i * 2)).take 2 = [.int .i64 x.kind, .string x.text]) → L = ps.flatMap fun x => [.int .i64 x.kind, .string x.text]
  | [], L, h, _ => by simpa using h
  | p :: ps, L, h, hh => by
    have h0 := hh 0 p rfl
    simp only [Nat.zero_mul, List.drop_zero] at h0
    have hs := chunks ps (L.drop 2) (by simp only [List.length_drop, List.length_cons] at h ⊢; omega) fun i x hi => by
      have := hh (i + 1) x (by simpa using hi)
      rwa [show (i + 1) * 2 = 2 + i * 2 from by omega, ← List.drop_drop] at this
    rw [← List.take_append_drop 2 L, h0, hs]
    rfl
set_option maxRecDepth 100000 in
theorem of_laid {W : World} (h : laidMetH Tryz.prog laidL W) : ∀ i v, poolV[i]? = some v → W.cell? ⟨0, i, none⟩ = some v := by
  rw [MakeChecks.laidMetH_plain _ _ _ (by kernel_rfl)] at h
  obtain ⟨ps, ⟨_, _, _, _, _, _, _, _, _, _, ⟨_, _, _, _, _, _, _, _, _, _, ⟨_, _, _, _, _, _, _, _, _, _, ⟨_, _, _, _, _, _, _, _, _, _, ⟨g1, t1, cs1, f1, p1, q1, hg1, ht1, hv1, hd1, _⟩, _⟩, _⟩, _⟩, _⟩, _⟩ := h
  obtain rfl := Option.some.inj (gPool.symm.trans hg1)
  obtain rfl := Option.some.inj (tPool.symm.trans ht1)
  obtain ⟨xs, m1, rfl, hx1, hlen, hn3, hel⟩ := DataW.trod_array Tryz.underlying93 hd1
  rw [cells93] at hlen
  rw [cells32] at hel
  have hD : xs.map (fun x => x.fst) = pool.map fun x => DataW.agg [.lit (.int .i64 x.kind), .lit (.string x.text.data.toList)] := by
    have := (Prod.mk.inj hx1).1
    injection this with this
    exact this.symm.trans rfl
  have hcs : cs1.toList = poolV := by
    refine chunks pool _ (by rw [hlen]; rfl) fun i x hi => ?_
    have hi10 : i < 10 := by
      rcases Nat.lt_or_ge i 10 with h | h
      · exact h
      · rw [List.getElem?_eq_none (by exact h)] at hi; cases hi
    have hxi : (xs.map (fun x => x.fst))[i]? = some (DataW.agg [.lit (.int .i64 x.kind), .lit (.string x.text.data.toList)]) := by rw [hD, List.getElem?_map, hi]; rfl
    rw [List.getElem?_map] at hxi
    obtain ⟨y, hy, hy1⟩ := Option.map_eq_some_iff.1 hxi
    have he := hel i hi10
    rw [hy] at he
    obtain ⟨zs, m2, rfl, hz1, hzl, hzn, hzf⟩ := DataW.trod_struct Tryz.underlying32 he
    rw [cells32] at hzl
    have e0 := hzf 0 _ rfl
    have e1 := hzf 1 _ rfl
    have e0 : DataW.trod _ Tryz.prog W 0 _ false m2 3 ((List.drop 0 _).take (Tryz.prog.cellsOf 3)) = zs[0]? := e0
    have e1 : DataW.trod _ Tryz.prog W 0 _ false m2 9 ((List.drop 1 _).take (Tryz.prog.cellsOf 9)) = zs[1]? := e1
    rw [cells3] at e0
    rw [cells9] at e1
    have hzn2 : zs.length = 2 := hzn
    match zs, hzn2, hz1, e0, e1 with
    | [u0, u1], _, hz1, e0, e1 =>
      obtain ⟨k, q0, q1', _⟩ := DataW.trod_int Tryz.underlying3 (show DataW.trod _ Tryz.prog W 0 _ false m2 3 _ = some u0 from e0)
      obtain ⟨s, r0, r1', _⟩ := DataW.trod_string Tryz.underlying9 (show DataW.trod _ Tryz.prog W 0 _ false m2 9 _ = some u1 from e1)
      rw [hz1, q1', r1'] at hy1
      simp only [List.map_cons, List.map_nil, DataW.agg.injEq, List.cons.injEq, DataW.lit.injEq, Lit.int.injEq, Lit.string.injEq, true_and, and_true] at hy1
      obtain ⟨hk, hs⟩ := hy1
      have hsx : s = x.text := by
        obtain ⟨⟨sl⟩⟩ := s
        obtain ⟨kx, ⟨⟨tl⟩⟩⟩ := x
        have hs : sl = tl := hs
        rw [hs]
      subst hk hsx
      generalize List.take 2 (List.drop (i * 2) cs1.toList) = L2 at q0 r0 hzl
      match L2, hzl, q0, r0 with
      | [a, b], _, q0, r0 =>
        simp only [List.drop_zero, List.take_succ_cons, List.take_zero, List.cons.injEq, and_true, List.drop_succ_cons] at q0 r0
        rw [q0, r0]
  intro i v hi
  have := World.var?_cell hg1 hv1 i
  rw [this, ← Array.getElem?_toList, hcs]
  exact hi
theorem tTab : (Tryz.prog.globals[1]?).map (·.type) = some 219 := by kernel_rfl
theorem cells184 : Tryz.prog.cellsOf 184 = 1 := by kernel_rfl
theorem cells219 : Tryz.prog.cellsOf 219 = 20 := by kernel_rfl
set_option maxRecDepth 100000 in
theorem tab_laid {W : World} (h : laidMetH Tryz.prog laidL W) : (∃ arr E f, W.heap[1]? = some (.cells arr E f) ∧ arr.size = 20) ∧ ∀ i v, tab10[i]? = some v → W.cell? ⟨1, i, none⟩ = some v := by
  rw [MakeChecks.laidMetH_plain _ _ _ (by kernel_rfl)] at h
  obtain ⟨ps, ⟨_, _, _, _, _, _, _, _, _, _, ⟨_, _, _, _, _, _, _, _, _, _, ⟨g1, t1, cs1, f1, p1, q1, hg1, ht1, hv1, hd1, _⟩, _⟩, _⟩, _⟩ := h
  obtain rfl := Option.some.inj (gTab.symm.trans hg1)
  obtain rfl := Option.some.inj (tTab.symm.trans ht1)
  obtain ⟨xs, m1, rfl, hx1, hlen, hn3, hel⟩ := DataW.trod_array Tryz.underlying219 hd1
  rw [cells219] at hlen
  rw [cells184] at hel
  have hD : xs.map (fun x => x.fst) = Lib.pow10Tab.map fun z => DataW.lit (.int .u64 z) := by
    have := (Prod.mk.inj hx1).1
    injection this with this
    exact this.symm.trans (by kernel_rfl)
  have hpl : Lib.pow10Tab.length = 20 := by simp [Lib.pow10Tab]
  have hcs : cs1.toList = tab10 := by
    apply List.ext_getElem?
    intro i
    rcases Nat.lt_or_ge i 20 with hi | hi
    · have hz : Lib.pow10Tab[i]? = some (Lib.pow10Tab[i]'(by omega)) := List.getElem?_eq_getElem _
      generalize Lib.pow10Tab[i]'(by omega) = z at hz
      have hxi : (xs.map (fun x => x.fst))[i]? = some (DataW.lit (.int .u64 z)) := by rw [hD, List.getElem?_map, hz]; rfl
      rw [List.getElem?_map] at hxi
      obtain ⟨y, hy, hy1⟩ := Option.map_eq_some_iff.1 hxi
      have he := hel i hi
      rw [hy] at he
      obtain ⟨k, q0, q1', _⟩ := DataW.trod_int Tryz.underlying184 he
      rw [q1'] at hy1
      have hk : k = z := by
        have hy1 : DataW.lit (.int .u64 k) = DataW.lit (.int .u64 z) := hy1
        injection hy1 with hy1
        injection hy1
      rw [Nat.mul_one] at q0
      have h0 : (List.take 1 (List.drop i cs1.toList))[0]? = some (Value.int .u64 k) := by rw [q0]; rfl
      rw [List.getElem?_take_of_lt (by decide), List.getElem?_drop, Nat.add_zero] at h0
      rw [h0, tab10, List.getElem?_map, hz, hk]; rfl
    · rw [List.getElem?_eq_none (by omega), List.getElem?_eq_none (by simp [tab10, hpl]; omega)]
  constructor
  · simp only [World.var?, hg1, Option.bind_some] at hv1
    split at hv1
    · rename_i arr E f ha
      cases hv1
      exact ⟨_, E, f, ha, by rw [← Array.length_toList, hlen]⟩
    · cases hv1
  · intro i v hi
    have := World.var?_cell hg1 hv1 i
    rw [this, ← Array.getElem?_toList, hcs]
    exact hi
theorem own : ownKnob Tryz.prog.godebug = none := by kernel_rfl
theorem laidOut : laidOutB Tryz.prog = true := by kernel_rfl
theorem laid_met (os : Os) (args : Array Value) : laidMetH Tryz.prog laidL ((World.laidAll Tryz.prog os laidL).forCall (fun _ _ => 0) ⟨#[], args, []⟩).memory := by
  rw [MakeChecks.laidMetH_plain _ _ _ (by kernel_rfl)]
  exact laidMet_laidAll _ (by kernel_rfl) (by kernel_rfl)
end Go.Proofs.YthcedgclhoggcaaGreatDoor

