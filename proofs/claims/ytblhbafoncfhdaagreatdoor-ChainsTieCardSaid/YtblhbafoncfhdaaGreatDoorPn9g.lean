/- A closed fact about the program's text, checked in the kernel; no condition. -/
import Derived.Test.YtblhbafoncfhdaaGreatDoorRows
import Derived.SevenTiedAt
import Derived.KernelRfl
namespace Go.Proofs.YtblhbafoncfhdaaGreatDoor
open Go
set_option maxRecDepth 100000
theorem chainsTie_jg_main : Tryz.pinned.checked.prog.mainIs = some ((true, "47f849fb938800985dae5141abfdd94e6ff011cdbadf23517725ffa9089ec449").1, (true, "47f849fb938800985dae5141abfdd94e6ff011cdbadf23517725ffa9089ec449").2.toList) := by kernel_rfl
theorem chainsTie_jg_looks : false = Tryz.pinned.checked.prog.looks [] := by kernel_rfl
theorem chainsTie_jg_goes : false = Rows.chainsTieRow.goesBy Tryz.pinned.checked.prog := by kernel_rfl
theorem chainsTie_jg_stand : ([22].all fun u => !Tryz.prog.wantsStandIn u) = true := by kernel_rfl
end Go.Proofs.YtblhbafoncfhdaaGreatDoor
