/- Contracts of functions of the program: each computes what its model says; the conditions stand at each. -/
import Derived.Test.YtblhbafoncfhdaaGreatDoorTe12
import Derived.Test.YtblhbafoncfhdaaGreatDoorTs5
import Derived.Shelf.Strings.SlTrimAscii
set_option linter.unusedSimpArgs false
set_option linter.unusedVariables false
set_option maxRecDepth 20000
set_option pp.deepTerms false
set_option pp.deepTerms.threshold 3
namespace Go.Proofs.YtblhbafoncfhdaaGreatDoor
open Go Go.Ab Go.Pm Go.Cm Go.El Go.Rm
variable (G : Nat → AV) (H : Nat → Option AObj)
/-! The reference's checks. -/
def tabF : List Value := (List.range 256).map fun c => .int .u8 (Lib.firstT c)
def tabA : List Value := (List.range 32).map fun c => .int .u8 (if c % 2 = 0 then Lib.accLo (c / 2) else Lib.accHi (c / 2))
structure GU (G : Nat → AV) : Prop where
  ok : GOk G
  first : G 2 = .pp (tabF.map .lit)
  acc : G 3 = .pp (tabA.map .lit)
theorem glob_at {G : Nat → AV} {w : World} {g : Gh} {k : Nat} {cs : List Value} (hk : G k = .pp (cs.map .lit)) (hg : Gl G g w) {i : Nat} {v : Value} (h : cs[i]? = some v) : w.cell? ⟨k, i, none⟩ = some v := by
  have h3 := hg.at' k
  rw [hk] at h3
  obtain ⟨b, o, h4, h5⟩ := h3
  cases h4
  obtain ⟨_, u, h6, h7⟩ := h5.get i (.lit v) (by rw [List.getElem?_map, h]; rfl)
  have h7 : u = v := h7
  rw [Nat.zero_add] at h6
  rw [h6, h7]
theorem utf8Tabs {G : Nat → AV} (hU : GU G) {w : World} {g : Gh} (hg : Gl G g w) : Lib.Utf8Tabs 2 3 w := by
  refine ⟨fun c hc => glob_at hU.first hg ?_, fun i hi => ⟨glob_at hU.acc hg ?_, glob_at hU.acc hg ?_⟩⟩
  · simp [tabF, hc]
  · simp only [tabA, List.getElem?_map, List.getElem?_range (show 2 * i < 32 by omega), Option.map_some, show 2 * i % 2 = 0 by omega, if_true, show 2 * i / 2 = i by omega]
  · simp only [tabA, List.getElem?_map, List.getElem?_range (show 2 * i + 1 < 32 by omega), Option.map_some, show ¬ (2 * i + 1) % 2 = 0 by omega, if_false, show (2 * i + 1) / 2 = i by omega]
theorem decode_c (hU : GU G) (s : T) : AFn Tryz.prog G 145 [.str s] H (.tup [.lit (.int .i32 (Lib.decodeGo s).1), .int (Lib.decodeGo s).2]) := by
  refine AFn.of_calls (xs := [.string s]) (enters_of_b (by kernel_rfl)) fun w g hI hg => ?_
  refine (Tryz.utf8_DecodeRuneInString s w (utf8Tabs hU hg)).mono fun e w' ⟨k1, k2⟩ => ?_
  obtain ⟨k3, k4⟩ := step_below hI (fun h => hU.ok.ns (hg.dr h)) k2
  exact ⟨_, k1, ⟨_, rfl, _, _, rfl, rfl, _, _, rfl, rfl, rfl⟩, k4, k3⟩
theorem valid_c (hU : GU G) (s : T) (hs : s.size ≤ 9223372036854775807) (f : FuncId) (hf : Tryz.lays196_ren.f 196 = f) (he : Go.Ab.Enters Tryz.prog f) : AFn Tryz.prog G f [.str s] H (.bool (Lib.validD s.data.toList)) := by
  refine AFn.of_calls (xs := [.string s]) he fun w g hI hg => ?_
  subst hf
  refine (Any.utf8_ValidString Tryz.lays196 s w hs (utf8Tabs hU hg)).mono fun e w' ⟨k1, k2⟩ => ?_
  obtain ⟨k3, k4⟩ := step_below hI (fun h => hU.ok.ns (hg.dr h)) k2
  exact ⟨_, k1, rfl, k4, k3⟩
end Go.Proofs.YtblhbafoncfhdaaGreatDoor

