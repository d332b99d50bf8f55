/- A closed fact about the program's text, checked in the kernel; no condition. -/
import Derived.Test.YtblhbafoncfhdaaGreatDoorRows
import Derived.JoinedOf
import Derived.KernelRfl
namespace Go.Proofs.YtblhbafoncfhdaaGreatDoor
open Go
set_option maxRecDepth 100000
theorem pointsTurn_jf_inPlace : (Rows.pointsTurnRow.inPlace == Tryz.pinned.checked.prog.inPlace 3) = true := by kernel_rfl
theorem pointsTurn_jf_unfollowed : (Rows.pointsTurnRow.unfollowed == Tryz.pinned.checked.prog.unfollowed 3) = true := by kernel_rfl
theorem pointsTurn_jf_recurses : (Rows.pointsTurnRow.recurses == Tryz.pinned.checked.prog.recurses 3) = true := by kernel_rfl
theorem pointsTurn_jf_named : (Rows.pointsTurnRow.named == Tryz.pinned.checked.prog.varsNamed 3) = true := by kernel_rfl
theorem pointsTurn_jf_all : joinedFacts Tryz.pinned.checked.prog 3 Tryz.f3 Rows.pointsTurnSpec Rows.pointsTurnRow = true := by
  unfold joinedFacts
  repeat' (with_reducible refine Bool.and_eq_true_iff.2 ⟨?_, ?_⟩)
  all_goals first
    | with_reducible exact pointsTurn_jf_inPlace
    | with_reducible exact pointsTurn_jf_unfollowed
    | with_reducible exact pointsTurn_jf_recurses
    | with_reducible exact pointsTurn_jf_named
    | kernel_rfl
end Go.Proofs.YtblhbafoncfhdaaGreatDoor

