/- A closed fact about the program's text, checked in the kernel; no condition. -/
import Derived.Test.YtblhbafoncfhdaaGreatDoorRows
import Derived.JoinedOf
import Derived.KernelRfl
namespace Go.Proofs.YtblhbafoncfhdaaGreatDoor
open Go
set_option maxRecDepth 100000
theorem personsPart_jf_inPlace : (Rows.personsPartRow.inPlace == Tryz.pinned.checked.prog.inPlace 6) = true := by kernel_rfl
theorem personsPart_jf_unfollowed : (Rows.personsPartRow.unfollowed == Tryz.pinned.checked.prog.unfollowed 6) = true := by kernel_rfl
theorem personsPart_jf_recurses : (Rows.personsPartRow.recurses == Tryz.pinned.checked.prog.recurses 6) = true := by kernel_rfl
theorem personsPart_jf_named : (Rows.personsPartRow.named == Tryz.pinned.checked.prog.varsNamed 6) = true := by kernel_rfl
theorem personsPart_jf_all : joinedFacts Tryz.pinned.checked.prog 6 Tryz.f6 Rows.personsPartSpec Rows.personsPartRow = true := by
  unfold joinedFacts
  repeat' (with_reducible refine Bool.and_eq_true_iff.2 ⟨?_, ?_⟩)
  all_goals first
    | with_reducible exact personsPart_jf_inPlace
    | with_reducible exact personsPart_jf_unfollowed
    | with_reducible exact personsPart_jf_recurses
    | with_reducible exact personsPart_jf_named
    | kernel_rfl
end Go.Proofs.YtblhbafoncfhdaaGreatDoor
