/- The statement is proved: what its card says holds for every input, with no condition beyond the statement's own. -/
import Derived.Test.YtblhbafoncfhdaaGreatDoorPk6
import Derived.Test.YtblhbafoncfhdaaGreatDoorPk6g
namespace Go.Proofs.YtblhbafoncfhdaaGreatDoor
open Go Go.Ab Go.Pm Go.Cm
open Go.ChangeShapes Go.WideShapes Go.ChangeAt Go.RowKit Go.WideMaps Go.WideElems
set_option linter.unusedVariables false
set_option maxRecDepth 100000 in
theorem personsPart_holds : Rows.PersonsPartCardSaid :=
  Claim7.holds_tied_plain_at .later [] [.data, .data, .data, .pinned] true (true, "47f849fb938800985dae5141abfdd94e6ff011cdbadf23517725ffa9089ec449") false
    personsPart_said (fun _ h => by cases h) (by kernel_rfl) (fun _ h => by cases h) personsPart_row_tie rfl ⟨rfl, rfl⟩ personsPart_jg_main rfl
    (fun f fn hf hfn => by
      obtain rfl : f = 6 := Option.some.inj ((show Tryz.prog.funcNamed "handbill/handkeep2.PersonsPart" = some 6 by kernel_rfl).symm.trans hf) |>.symm
      obtain rfl : fn = Tryz.f6 := (Option.some.inj (Tryz.func6.symm.trans hfn)).symm
      exact ⟨personsPart_jg_looks, fun j t ht => by
        rw [Tryz.params6] at ht
        have hm : t ∈ [22] := by simpa using Array.mem_of_getElem? ht
        have hall := personsPart_jg_stand
        exact (show Tryz.prog.wantsStandIn t = false by simpa using List.all_eq_true.1 hall t hm)⟩)
    personsPart_jg_goes
#print axioms personsPart_holds
end Go.Proofs.YtblhbafoncfhdaaGreatDoor
