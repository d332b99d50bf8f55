/- The functions that the law reaches, resolved to the logic's own form, each by a closed fact; no condition. -/
import Derived.Test.YthcedgclhoggcaaGreatDoorTc3
namespace Go.Proofs.YthcedgclhoggcaaGreatDoor
open Go Go.Ab
set_option maxRecDepth 100000
/-- slices.Clone, with its new slice owned. -/
def c15o : ACode := .seq (.reg [⟨some 2, .mov (.k (.ls false [])), none, []⟩]) (.seq (.seq (.reg [⟨some 3, .mov (.t 0), none, []⟩, ⟨some 4, .eq false .slice (.t 3) (.k (.ls false [])), none, []⟩]) (.cond (.t 4) (.seq (.reg [⟨some 2, .mov (.k (.ls false [])), none, []⟩]) (.ret)) (.skip))) (.seq (.reg [⟨some 5, .bslo 43 8 0 [], none, []⟩, ⟨some 6, .mov (.t 0), none, []⟩, ⟨some 7, .app 43 8 88 (.t 5) (.t 6), none, []⟩, ⟨some 2, .mov (.t 7), none, []⟩]) (.ret)))
theorem F15o : absFn Tryz.prog [5] 15 = some ⟨8, c15o, [.t 2]⟩ := by kernel_rfl
end Go.Proofs.YthcedgclhoggcaaGreatDoor

