/- A closed fact about the program's text, checked in the kernel; no condition. -/
import Derived.Test.YtblhbafoncfhdaaGreatDoorRows
import Derived.JoinedOf
import Derived.KernelRfl
namespace Go.Proofs.YtblhbafoncfhdaaGreatDoor
open Go
set_option maxRecDepth 100000
theorem touchesOnlyJoin_jf_inPlace : (Rows.touchesOnlyJoinRow.inPlace == Tryz.pinned.checked.prog.inPlace 4) = true := by kernel_rfl
theorem touchesOnlyJoin_jf_unfollowed : (Rows.touchesOnlyJoinRow.unfollowed == Tryz.pinned.checked.prog.unfollowed 4) = true := by kernel_rfl
theorem touchesOnlyJoin_jf_recurses : (Rows.touchesOnlyJoinRow.recurses == Tryz.pinned.checked.prog.recurses 4) = true := by kernel_rfl
theorem touchesOnlyJoin_jf_named : (Rows.touchesOnlyJoinRow.named == Tryz.pinned.checked.prog.varsNamed 4) = true := by kernel_rfl
theorem touchesOnlyJoin_jf_all : joinedFacts Tryz.pinned.checked.prog 4 Tryz.f4 Rows.touchesOnlyJoinSpec Rows.touchesOnlyJoinRow = true := by
  unfold joinedFacts
  repeat' (with_reducible refine Bool.and_eq_true_iff.2 ⟨?_, ?_⟩)
  all_goals first
    | with_reducible exact touchesOnlyJoin_jf_inPlace
    | with_reducible exact touchesOnlyJoin_jf_unfollowed
    | with_reducible exact touchesOnlyJoin_jf_recurses
    | with_reducible exact touchesOnlyJoin_jf_named
    | kernel_rfl
end Go.Proofs.YtblhbafoncfhdaaGreatDoor

