/- A closed fact about the program's text, checked in the kernel; no condition. -/
import Derived.Test.YtblhbafoncfhdaaGreatDoorRows
import Derived.JoinedOf
import Derived.KernelRfl
namespace Go.Proofs.YtblhbafoncfhdaaGreatDoor
open Go
set_option maxRecDepth 100000
theorem chainsTie_jf_inPlace : (Rows.chainsTieRow.inPlace == Tryz.pinned.checked.prog.inPlace 9) = true := by kernel_rfl
theorem chainsTie_jf_unfollowed : (Rows.chainsTieRow.unfollowed == Tryz.pinned.checked.prog.unfollowed 9) = true := by kernel_rfl
theorem chainsTie_jf_recurses : (Rows.chainsTieRow.recurses == Tryz.pinned.checked.prog.recurses 9) = true := by kernel_rfl
theorem chainsTie_jf_named : (Rows.chainsTieRow.named == Tryz.pinned.checked.prog.varsNamed 9) = true := by kernel_rfl
theorem chainsTie_jf_all : joinedFacts Tryz.pinned.checked.prog 9 Tryz.f9 Rows.chainsTieSpec Rows.chainsTieRow = true := by
 unfold joinedFacts
 repeat' (with_reducible refine Bool.and_eq_true_iff.2 ⟨?_, ?_⟩)
 all_goals first
  | with_reducible exact chainsTie_jf_inPlace
  | with_reducible exact chainsTie_jf_unfollowed
  | with_reducible exact chainsTie_jf_recurses
  | with_reducible exact chainsTie_jf_named
  | kernel_rfl
end Go.Proofs.YtblhbafoncfhdaaGreatDoor
