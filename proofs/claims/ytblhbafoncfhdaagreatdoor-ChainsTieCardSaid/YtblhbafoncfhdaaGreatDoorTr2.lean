/- Contracts of functions of the program: each computes what its model says; the conditions stand at each. -/
import Derived.Test.YtblhbafoncfhdaaGreatDoorE4
import Derived.Test.YtblhbafoncfhdaaGreatDoorLr
import Derived.Test.YtblhbafoncfhdaaGreatDoorRows
import Derived.Test.YtblhbafoncfhdaaGreatDoorTie
import Derived.Test.YtblhbafoncfhdaaGreatDoorCards
import Derived.ProofKit
import Derived.OpenShut
import Derived.ChangeOld
import Derived.LaidMore
import Derived.Stop.Joined
import Derived.Deep.DeepHandedRow
import Derived.SevenTiedAt
import Derived.Lay
namespace Go.Proofs.YtblhbafoncfhdaaGreatDoor
open Go Go.Ab Go.Pm Go.Cm
open Go.ChangeShapes Go.WideShapes Go.ChangeAt Go.RowKit Go.WideMaps Go.WideElems
set_option linter.unusedVariables false
def theG (m : Int) (k : Nat) : AV := if k = 0 then .pp (fldNames.map .str) else if k = 1 then .pp poolC else if k = 2 then .pp (tabF.map .lit) else if k = 3 then .pp (tabA.map .lit) else if k = 4 then .pp [.lit (.int .i64 m)] else .any
theorem theG_ok (m : Int) : GU (theG m) := ⟨⟨⟨m, [], rfl⟩, rfl, fun h => by simp [Strict, theG] at h⟩, rfl, rfl⟩
theorem theG_fix {W : World} {m : Int} (k : Nat) (hk : theG m (1000000100 + k) = .pp []) (cs : List AV) (hcs : theG m k = .pp cs) : ∃ arr E f, W.heap[k]? = some (.cells arr E f) ∧ arr.size = cs.length := by
 exfalso
 unfold theG at hk
 rw [if_neg (by omega), if_neg (by omega), if_neg (by omega), if_neg (by omega), if_neg (by omega)] at hk
 cases hk
def poolV : List Value := pool.flatMap fun x => [.int .i64 x.kind, .string x.text]
abbrev laidL : List (String × DataW Unit) := [("unicode/utf8.acceptRanges", Rows.laid_unicode_utf8_acceptRanges), ("handbill/handmake.idPool", Rows.laid_handbill_handmake_idPool), ("handbill/handmake.fieldNames", Rows.laid_handbill_handmake_fieldNames), ("unicode/utf8.first", Rows.laid_unicode_utf8_first)]
theorem laidL_plain : (laidL.all fun x => x.2.handleName?.isNone) = true := by kernel_rfl
theorem rep_plain {W : World} {k : Nat} {vs : List Value} (h : ∀ i v, vs[i]? = some v → W.cell? ⟨k, i, none⟩ = some v) : Rep W g0 (.pp (vs.map .lit)) (.pointer (some ⟨k, 0, none⟩)) := ⟨k, 0, rfl, rep_cells h⟩
set_option maxRecDepth 100000 in
theorem theG_rep {W : World} {m : Int} (hm : W.cell? ⟨4, 0, none⟩ = some (.int .i64 m)) (h : laidMetH Tryz.prog laidL W) (k : Nat) : Rep W g0 (theG m k) (.pointer (some ⟨k, 0, none⟩)) := by
 unfold theG
 split
 ·rename_i e; subst e
  have := (laid_cells h laidL_plain (x := laidL[2]) (List.getElem_mem _) (g := 0) (t := 117) (by kernel_rfl) (by kernel_rfl) 3 (vs := fldNames.map .string) (by kernel_rfl)).2
  have e1 : fldNames.map AV.str = (fldNames.map Value.string).map .lit := by rw [List.map_map]; rfl
  rw [e1]
  exact rep_plain this
 split
 ·rename_i e; subst e
  have := (laid_cells h laidL_plain (x := laidL[1]) (List.getElem_mem _) (g := 1) (t := 213) (by kernel_rfl) (by kernel_rfl) 3 (vs := poolV) (by kernel_rfl)).2
  exact rep_plain (vs := poolV) this
 split
 ·rename_i e; subst e
  exact rep_plain (laid_cells h laidL_plain (x := laidL[3]) (List.getElem_mem _) (g := 2) (t := 301) (by kernel_rfl) (by kernel_rfl) 3 (vs := tabF) (by kernel_rfl)).2
 split
 ·rename_i e; subst e
  exact rep_plain (laid_cells h laidL_plain (x := laidL[0]) (List.getElem_mem _) (g := 3) (t := 304) (by kernel_rfl) (by kernel_rfl) 4 (vs := tabA) (by kernel_rfl)).2
 split
 ·rename_i e; subst e
  exact ⟨4, 0, rfl, no_own _, ⟨_, hm, rfl⟩, trivial⟩
 trivial
theorem maxLen_at (w : World) (h : w.ShapedOpen Tryz.prog) : ∃ m, w.cell? ⟨4, 0, none⟩ = some (.int .i64 m) := Go.Proofs.cell_of_shapedOpen_int (zero := #[.int .i64 0]) (t := 3) h (of_decide_eq_true (by kernel_rfl)) (by kernel_rfl) rfl (by kernel_rfl) (by kernel_rfl) Tryz.underlying3
theorem own : ownKnob Tryz.prog.godebug = none := by kernel_rfl
theorem laidOut : laidOutB Tryz.prog = true := by kernel_rfl
theorem laid_met (os : Os) (args : Array Value) : laidMetH Tryz.prog laidL ((World.laidAll Tryz.prog os laidL).forCall (fun _ _ => 0) ⟨#[], args, []⟩).memory := by
 rw [MakeChecks.laidMetH_plain _ _ _ (by kernel_rfl)]
 exact laidMet_laidAll _ (by kernel_rfl) (by kernel_rfl)
end Go.Proofs.YtblhbafoncfhdaaGreatDoor
