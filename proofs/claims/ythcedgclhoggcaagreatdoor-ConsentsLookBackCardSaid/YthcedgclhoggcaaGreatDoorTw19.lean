/- The statement is proved: what its card says holds for every input, with no condition beyond the statement's own. -/
import Derived.Test.YthcedgclhoggcaaGreatDoorTw18
namespace Go.Proofs.YthcedgclhoggcaaGreatDoor
open Go
set_option maxRecDepth 100000 in
theorem consentsLookBack_said : Rows.ConsentsLookBackSaid :=
  OpenClaim.holds_of_wide 3 Tryz.f3 rfl rfl rfl rfl rfl rfl rfl ⟨rfl, rfl, rfl, rfl, rfl⟩ rfl rfl rfl rfl rfl (by kernel_rfl) Tryz.func3 (by kernel_rfl)
    (of_decide_eq_true (by kernel_rfl)) (by unfold Func.isWrapper; first | (rw [if_pos (by decide +kernel)]; kernel_rfl) | (rw [if_neg (by decide +kernel)]; exact ⟨rfl, rfl⟩))
    (fun os started H enc _ => by rw [OpenClaim.pre_eq_preRow]; exact look_lifted os started H enc)
set_option maxRecDepth 100000 in
theorem consentsLookBack_holds : Rows.ConsentsLookBackCardSaid :=
  Claim7.holds_tied_plain_at .later [] [.data, .data, .pinned] true (true, "5591740a3d70935b385d28bde39456ed1702040d7fe6fb6096c2fedda52405d4") false
    consentsLookBack_said (fun _ h => by cases h) (by kernel_rfl) (fun _ h => by cases h) consentsLookBack_row_tie rfl ⟨rfl, rfl⟩ (by kernel_rfl) rfl
    (fun f fn hf hfn => by
      obtain rfl : f = 3 := Option.some.inj ((show Tryz.prog.funcNamed "handbill/handkeep2.ConsentsLookBack" = some 3 by kernel_rfl).symm.trans hf) |>.symm
      obtain rfl : fn = Tryz.f3 := (Option.some.inj (Tryz.func3.symm.trans hfn)).symm
      exact ⟨by kernel_rfl, fun j t ht => by
        rw [Tryz.params3] at ht
        have hm : t ∈ [22] := by simpa using Array.mem_of_getElem? ht
        have hall : ([22].all fun u => !Tryz.prog.wantsStandIn u) = true := by kernel_rfl
        exact (show Tryz.prog.wantsStandIn t = false by simpa using List.all_eq_true.1 hall t hm)⟩)
    (by kernel_rfl)
#print axioms consentsLookBack_holds
end Go.Proofs.YthcedgclhoggcaaGreatDoor
