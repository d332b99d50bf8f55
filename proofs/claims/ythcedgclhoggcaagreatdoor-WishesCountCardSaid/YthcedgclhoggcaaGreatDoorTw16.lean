/- Contracts of functions of the program: each computes what its model says; the conditions stand at each. -/
import Derived.Test.YthcedgclhoggcaaGreatDoorTw15
import Derived.Test.YthcedgclhoggcaaGreatDoorRows
import Derived.Test.YthcedgclhoggcaaGreatDoorTie
import Derived.Test.YthcedgclhoggcaaGreatDoorCards
import Derived.WalkKit
import Derived.ProofKit
import Derived.OpenShut
import Derived.ChangeOld
import Derived.Below
import Derived.LaidMore
import Derived.Stop.Joined
import Derived.Deep.DeepHandedRow
import Derived.Shelf.Vars
import Derived.SevenTiedAt
namespace Go.Proofs.YthcedgclhoggcaaGreatDoor
open Go Go.Ab Go.Pm Go.Cm
open Go.ChangeShapes Go.WideShapes Go.ChangeAt Go.RowKit
set_option linter.unusedVariables false
/-- Nothing is owned at the start. -/
def g0 : Gh := ⟨fun _ => 0, noObj, 0, false⟩
theorem inv0 (W : World) : Inv W g0 := ⟨fun i o h => (by cases h), fun i j o o' h => (by cases h), fun i o h => (by cases h)⟩
theorem no_own (b : Nat) : ¬ g0.Own b := fun ⟨i, o, h, _⟩ => by cases h
theorem run_callFunc {P : Program} {f : FuncId} (he : Go.Ab.Enters P f) (vs : Array Value) (w : World) : (callFunc f vs).run P w = .ok (.enter f vs) w := by
  obtain ⟨fn, c, h1, h2, h3⟩ := he
  rw [beq_eq_false_iff_ne] at h2
  simp [callFunc, h1, h2, h3]
theorem calls_of_acalls {P : Program} {G : Nat → AV} {f : FuncId} (he : Go.Ab.Enters P f) {args : List AV} {R : AV → (Nat → Option AObj) → Nat → Prop} (h : ACalls P G f args noObj 0 R) {W : World} {vs : Array Value} (hg : ∀ k, Rep W g0 (G k) (.pointer (some ⟨k, 0, none⟩))) (hr : RepList W g0 args vs.toList) :
    Calls P f vs W fun e w' => ∃ v r g', e = .returned v ∧ R r g'.H g'.n ∧ Rep w' g' r v ∧ Go.RowKit.Below W.heap.size W w' := by
  have hi := h W g0 vs (inv0 W) rfl rfl ⟨hg, fun h => by cases h⟩ hr
  rcases hi with ⟨_, hc⟩ | ⟨v, w', hc, _⟩
  · refine hc.mono fun e w' ⟨v, r, g', k1, k2, k3, k4, k5⟩ => ⟨v, r, g', k1, k2, k3, k5.os, k5.tape, k5.output, k5.size, fun b hb => k5.keep b hb (no_own b)⟩
  · rw [run_callFunc he] at hc
    cases hc
/-- A slice of numbers that came in. -/
theorem rep_ints {W : World} {x : Addr} {len cap : Nat} {zs : List Int} (hs : x.spot = none) (h1 : len ≤ cap) (h2 : cap ≤ maxLen) (h3 : zs.length = cap) (h4 : ∀ i, i < zs.length → W.cell? (x.add i) = some (.int .i64 (zs.getD i 0))) : Rep W g0 (LL true (zs.take len)) (.slice (some x) len cap) := by
  have hlen : ((zs.take len).map fun y => [AV.int y]).length = len := by simp; omega
  refine ⟨some x, cap, by rw [hlen], by rw [hlen]; exact h1, h2, rfl, fun h => (by cases h), fun ad had => ?_⟩
  cases had
  refine ⟨hs, ?_⟩
  have key : ∀ (ys : List Int) (o : Nat), (∀ j y, ys[j]? = some y → zs[o + j]? = some y) → RepRows W g0 x.block (x.off + o) (ys.map fun y => [AV.int y]) := by
    intro ys
    induction ys with
    | nil => intro o _; trivial
    | cons y ys ih =>
      intro o hh
      have h0 := hh 0 y rfl
      have hlt : o < zs.length := by
        rcases Nat.lt_or_ge o zs.length with h | h
        · exact h
        · rw [Nat.add_zero, List.getElem?_eq_none h] at h0; cases h0
      have hc := h4 o hlt
      have hy : zs.getD o 0 = y := by
        rw [List.getD_eq_getElem?_getD]
        rw [Nat.add_zero] at h0
        rw [h0]; rfl
      have ha : x.add o = ⟨x.block, x.off + o, none⟩ := by
        obtain ⟨b, of, sp⟩ := x
        cases hs
        cases o with
        | zero => simp [Addr.add]
        | succ o => simp [Addr.add]
      refine ⟨⟨no_own _, ⟨.int .i64 y, by rw [← ha, hc, hy], rfl⟩, trivial⟩, ?_⟩
      have := ih (o + 1) fun j z hj => by
        have := hh (j + 1) z (by simpa using hj)
        rwa [show o + (j + 1) = o + 1 + j from by omega] at this
      exact this
  exact key _ 0 fun j y hj => by
    rw [List.getElem?_take] at hj
    split at hj
    · rwa [Nat.zero_add]
    · cases hj
theorem rep_ints_nil {W : World} : Rep W g0 (LL false []) (.slice none 0 0) := ⟨none, 0, rfl, Nat.le_refl _, by decide, rfl, fun _ => ⟨rfl, rfl⟩, fun ad h => (by cases h)⟩
/-- The variables that the walk reads. -/
def theG (m : Int) (k : Nat) : AV := if k = 0 then .pp poolC else if k = 2 then .pp [.lit (.int .i64 m)] else .any
theorem theG_ok (m : Int) : GOk (theG m) := ⟨rfl, ⟨m, [], rfl⟩, fun h => by simp [Strict, theG] at h⟩
/-- Cells that hold plain values. -/
theorem rep_cells {W : World} {b : Nat} {vs : List Value} (h : ∀ i v, vs[i]? = some v → W.cell? ⟨b, i, none⟩ = some v) : RepCells W g0 b 0 (vs.map .lit) := by
  have key : ∀ (ys : List Value) (o : Nat), (∀ j v, ys[j]? = some v → W.cell? ⟨b, o + j, none⟩ = some v) → RepCells W g0 b o (ys.map .lit) := by
    intro ys
    induction ys with
    | nil => intro o _; trivial
    | cons y ys ih =>
      intro o hh
      refine ⟨no_own _, ⟨y, hh 0 y rfl, rfl⟩, ih (o + 1) fun j v hj => ?_⟩
      have := hh (j + 1) v (by simpa using hj)
      rwa [show o + (j + 1) = o + 1 + j from by omega] at this
  exact key vs 0 fun j v hj => by rw [Nat.zero_add]; exact h j v hj
def poolV : List Value := pool.flatMap fun x => [.int .i64 x.kind, .string x.text]
theorem poolC_eq : poolC = poolV.map .lit := rfl
theorem theG_rep {W : World} {m : Int} (hm : W.cell? ⟨2, 0, none⟩ = some (.int .i64 m)) (hp : ∀ i v, poolV[i]? = some v → W.cell? ⟨0, i, none⟩ = some v) (k : Nat) : Rep W g0 (theG m k) (.pointer (some ⟨k, 0, none⟩)) := by
  unfold theG
  split
  · rename_i h; subst h
    exact ⟨0, 0, rfl, by rw [poolC_eq]; exact rep_cells hp⟩
  · split
    · rename_i h; subst h
      exact ⟨2, 0, rfl, no_own _, ⟨_, hm, rfl⟩, trivial⟩
    · trivial
end Go.Proofs.YthcedgclhoggcaaGreatDoor
