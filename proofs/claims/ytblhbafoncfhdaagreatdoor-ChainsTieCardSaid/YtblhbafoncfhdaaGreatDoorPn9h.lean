/- The statement is proved: what its card says holds for every input, with no condition beyond the statement's own. -/
import Derived.Test.YtblhbafoncfhdaaGreatDoorPn9
import Derived.Test.YtblhbafoncfhdaaGreatDoorPn9g
namespace Go.Proofs.YtblhbafoncfhdaaGreatDoor
open Go Go.Ab Go.Pm Go.Cm
open Go.ChangeShapes Go.WideShapes Go.ChangeAt Go.RowKit Go.WideMaps Go.WideElems
set_option linter.unusedVariables false
set_option maxRecDepth 100000 in
theorem chainsTie_holds : Rows.ChainsTieCardSaid :=
 Claim7.holds_tied_plain_at .later [] [.data, .data, .data, .pinned] true (true, "47f849fb938800985dae5141abfdd94e6ff011cdbadf23517725ffa9089ec449") false
  chainsTie_said (fun _ h => by cases h) (by kernel_rfl) (fun _ h => by cases h) chainsTie_row_tie rfl ⟨rfl, rfl⟩ chainsTie_jg_main rfl
  (fun f fn hf hfn => by
   obtain rfl : f = 9 := Option.some.inj ((show Tryz.prog.funcNamed "handbill/handkeep2.ChainsTie" = some 9 by kernel_rfl).symm.trans hf) |>.symm
   obtain rfl : fn = Tryz.f9 := (Option.some.inj (Tryz.func9.symm.trans hfn)).symm
   exact ⟨chainsTie_jg_looks, fun j t ht => by
    rw [Tryz.params9] at ht
    have hm : t ∈ [22] := by simpa using Array.mem_of_getElem? ht
    have hall := chainsTie_jg_stand
    exact (show Tryz.prog.wantsStandIn t = false by simpa using List.all_eq_true.1 hall t hm)⟩)
  chainsTie_jg_goes
#print axioms chainsTie_holds
end Go.Proofs.YtblhbafoncfhdaaGreatDoor
