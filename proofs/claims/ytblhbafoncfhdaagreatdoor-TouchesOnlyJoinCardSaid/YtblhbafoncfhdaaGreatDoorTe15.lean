/- Contracts of functions of the program: each computes what its model says; the conditions stand at each. -/
import Derived.Test.YtblhbafoncfhdaaGreatDoorTs5
import Derived.Test.YtblhbafoncfhdaaGreatDoorTe12
import Derived.Shelf.Strings.SlTrimAscii
set_option linter.unusedSimpArgs false
set_option linter.unusedVariables false
set_option maxRecDepth 20000
set_option pp.deepTerms false
set_option pp.deepTerms.threshold 3
namespace Go.Proofs.YtblhbafoncfhdaaGreatDoor
open Go Go.Ab Go.Pm Go.Cm Go.El Go.Rm
variable (G : Nat → AV) (H : Nat → Option AObj)
/-! The reference's checks. -/
def tabF : List Value := (List.range 256).map fun c => .int .u8 (Lib.firstT c)
def tabA : List Value := (List.range 32).map fun c => .int .u8 (if c % 2 = 0 then Lib.accLo (c / 2) else Lib.accHi (c / 2))
structure GU (G : Nat → AV) : Prop where
  ok : GOk G
  first : G 2 = .pp (tabF.map .lit)
  acc : G 3 = .pp (tabA.map .lit)
theorem glob_at {G : Nat → AV} {w : World} {g : Gh} {k : Nat} {cs : List Value} (hk : G k = .pp (cs.map .lit)) (hg : Gl G g w) {i : Nat} {v : Value} (h : cs[i]? = some v) : w.cell? ⟨k, i, none⟩ = some v := by
  have h3 := hg.at' k
  rw [hk] at h3
  obtain ⟨b, o, h4, h5⟩ := h3
  cases h4
  obtain ⟨_, u, h6, h7⟩ := h5.get i (.lit v) (by rw [List.getElem?_map, h]; rfl)
  have h7 : u = v := h7
  rw [Nat.zero_add] at h6
  rw [h6, h7]
theorem utf8Tabs {G : Nat → AV} (hU : GU G) {w : World} {g : Gh} (hg : Gl G g w) : Lib.Utf8Tabs 2 3 w := by
  refine ⟨fun c hc => glob_at hU.first hg ?_, fun i hi => ⟨glob_at hU.acc hg ?_, glob_at hU.acc hg ?_⟩⟩
  · simp [tabF, hc]
  · simp only [tabA, List.getElem?_map, List.getElem?_range (show 2 * i < 32 by omega), Option.map_some, show 2 * i % 2 = 0 by omega, if_true, show 2 * i / 2 = i by omega]
  · simp only [tabA, List.getElem?_map, List.getElem?_range (show 2 * i + 1 < 32 by omega), Option.map_some, show ¬ (2 * i + 1) % 2 = 0 by omega, if_false, show (2 * i + 1) / 2 = i by omega]
theorem trim_c (hns : ¬ Strict G) (s set : T) (hs : s.size ≤ 9223372036854775807) (hc : set.size < 4294967281) (ha : set.data.toList.all (fun b => decide (b.toNat < 128)) = true) : AFn Tryz.prog G 91 [.str s, .str set] H (.str (trimT s set)) := by
  refine AFn.of_calls (xs := [.string s, .string set]) (enters_of_b (by kernel_rfl)) fun w g hI hg => ?_
  refine (Any.strings_Trim_laid Tryz.lays160 (by kernel_rfl) s set w hs hc (ascii_of_all ha)).mono fun e w' ⟨k1, k2⟩ => ?_
  obtain ⟨k3, k4⟩ := step_below hI (fun h => hns (hg.dr h)) k2
  exact ⟨_, k1, rfl, k4, k3⟩
theorem decode_c (hU : GU G) (s : T) : AFn Tryz.prog G 145 [.str s] H (.tup [.lit (.int .i32 (Lib.decodeGo s).1), .int (Lib.decodeGo s).2]) := by
  refine AFn.of_calls (xs := [.string s]) (enters_of_b (by kernel_rfl)) fun w g hI hg => ?_
  refine (Tryz.utf8_DecodeRuneInString s w (utf8Tabs hU hg)).mono fun e w' ⟨k1, k2⟩ => ?_
  obtain ⟨k3, k4⟩ := step_below hI (fun h => hU.ok.ns (hg.dr h)) k2
  exact ⟨_, k1, ⟨_, rfl, _, _, rfl, rfl, _, _, rfl, rfl, rfl⟩, k4, k3⟩
theorem valid_c (hU : GU G) (s : T) (hs : s.size ≤ 9223372036854775807) (f : FuncId) (hf : Tryz.lays196_ren.f 196 = f) (he : Go.Ab.Enters Tryz.prog f) : AFn Tryz.prog G f [.str s] H (.bool (Lib.validD s.data.toList)) := by
  refine AFn.of_calls (xs := [.string s]) he fun w g hI hg => ?_
  subst hf
  refine (Any.utf8_ValidString Tryz.lays196 s w hs (utf8Tabs hU hg)).mono fun e w' ⟨k1, k2⟩ => ?_
  obtain ⟨k3, k4⟩ := step_below hI (fun h => hU.ok.ns (hg.dr h)) k2
  exact ⟨_, k1, rfl, k4, k3⟩
theorem cutPrefix_c (s p : T) : AFn Tryz.prog G 261 [.str s, .str p] H (.tup [.str ⟨(Lib.trimPrefix s.data.toList p.data.toList).toArray⟩, .bool (Lib.hasPrefix s.data.toList p.data.toList)]) :=
  AFn.of_calls (enters_of_b (by kernel_rfl)) (xs := [.string s, .string p]) fun w g hI hg => by
    refine (Tryz.strings_CutPrefix s p w).mono fun e w' ⟨h1, h2⟩ => ?_
    subst h2
    exact ⟨_, h1, ⟨_, rfl, _, _, rfl, rfl, _, _, rfl, rfl, rfl⟩, hI, Step.refl _ _⟩
theorem in_c (n lo hi : Int) : AFn Tryz.prog G 148 [.int n, .int lo, .int hi] H (.bool (within n lo hi)) := by
  refine AFn.start mix F148 (by simp) fun k hlow => ?_
  simp -dsimp -implicitDefEqProofs (disch := omega) only [↓wpre, push_cast, seval, c148]
  (first | with_reducible refine cnd_ndec (fun hc => ?_) (fun hc => ?_) | with_reducible refine cnd_dec (fun hc => ?_) (fun hc => ?_) | with_reducible refine cnd_nb (fun hc => ?_) (fun hc => ?_) | with_reducible refine cnd_intro (fun hc => ?_) (fun hc => ?_)) <;> (first | (exfalso; omega) | (try simp -dsimp -implicitDefEqProofs (disch := omega) only [↓wpre, push_cast, seval, hc, Pm.within]))
  all_goals simp_all
theorem only_c (hns : ¬ Strict G) (s set : T) (hs : s.size ≤ 9223372036854775807) (hc : set.size < 4294967281) (ha : set.data.toList.all (fun b => decide (b.toNat < 128)) = true) : AFn Tryz.prog G 260 [.str s, .str set] H (.bool (Rm.only s set)) := by
  refine AFn.start mix F260 (by simp) fun k hlow => ?_
  simp -dsimp -implicitDefEqProofs (disch := omega) only [↓wpre, push_cast, seval, c260]
  (first | with_reducible refine (trim_c _ _ hns s set hs hc ha).x fun n' hn' => ?_ | with_reducible refine xfn_intro (trim_c _ _ hns s set hs hc ha) ?_); try simp -dsimp -implicitDefEqProofs (disch := omega) only [↓wpre, push_cast, seval, true_and]
  try rfl
theorem only_smallsT (hns : ¬ Strict G) (s : T) (hs : s.size ≤ 1000000) : AFn Tryz.prog G 260 [.str s, .str ⟨#[97, 98, 99, 100, 101, 102, 103, 104, 105, 106, 107, 108, 109, 110, 111, 112, 113, 114, 115, 116, 117, 118, 119, 120, 121, 122]⟩] H (.bool (Rm.only s smallsT)) := only_c G H hns s smallsT (by omega) (by decide) (by decide)
theorem only_keyT (hns : ¬ Strict G) (s : T) (hs : s.size ≤ 1000000) : AFn Tryz.prog G 260 [.str s, .str ⟨#[97, 98, 99, 100, 101, 102, 103, 104, 105, 106, 107, 108, 109, 110, 111, 112, 113, 114, 115, 116, 117, 118, 119, 120, 121, 122, 48, 49, 50, 51, 52, 53, 54, 55, 56, 57, 45, 95]⟩] H (.bool (Rm.only s keyT)) := only_c G H hns s keyT (by omega) (by decide) (by decide)
theorem only_mailT (hns : ¬ Strict G) (s : T) (hs : s.size ≤ 1000000) : AFn Tryz.prog G 260 [.str s, .str ⟨#[97, 98, 99, 100, 101, 102, 103, 104, 105, 106, 107, 108, 109, 110, 111, 112, 113, 114, 115, 116, 117, 118, 119, 120, 121, 122, 48, 49, 50, 51, 52, 53, 54, 55, 56, 57, 46, 45, 95]⟩] H (.bool (Rm.only s mailT)) := only_c G H hns s mailT (by omega) (by decide) (by decide)
theorem only_labelT (hns : ¬ Strict G) (s : T) (hs : s.size ≤ 1000000) : AFn Tryz.prog G 260 [.str s, .str ⟨#[97, 98, 99, 100, 101, 102, 103, 104, 105, 106, 107, 108, 109, 110, 111, 112, 113, 114, 115, 116, 117, 118, 119, 120, 121, 122, 48, 49, 50, 51, 52, 53, 54, 55, 56, 57, 45]⟩] H (.bool (Rm.only s labelT)) := only_c G H hns s labelT (by omega) (by decide) (by decide)
theorem only_digitT (hns : ¬ Strict G) (s : T) (hs : s.size ≤ 1000000) : AFn Tryz.prog G 260 [.str s, .str ⟨#[48, 49, 50, 51, 52, 53, 54, 55, 56, 57]⟩] H (.bool (Rm.only s digitT)) := only_c G H hns s digitT (by omega) (by decide) (by decide)
theorem only_deviceT (hns : ¬ Strict G) (s : T) (hs : s.size ≤ 1000000) : AFn Tryz.prog G 260 [.str s, .str ⟨#[48, 49, 50, 51, 52, 53, 54, 55, 56, 57, 97, 98, 99, 100, 101, 102]⟩] H (.bool (Rm.only s deviceT)) := only_c G H hns s deviceT (by omega) (by decide) (by decide)
theorem trim_dot (hns : ¬ Strict G) (s : T) (hs : s.size ≤ 1000000) : AFn Tryz.prog G 91 [.str s, .str ⟨#[46]⟩] H (.str (trimT s ⟨#[46]⟩)) := trim_c G H hns s ⟨#[46]⟩ (by omega) (by decide) (by decide)
theorem trim_dash (hns : ¬ Strict G) (s : T) (hs : s.size ≤ 1000000) : AFn Tryz.prog G 91 [.str s, .str ⟨#[45]⟩] H (.str (trimT s ⟨#[45]⟩)) := trim_c G H hns s ⟨#[45]⟩ (by omega) (by decide) (by decide)
theorem rkey_c (hns : ¬ Strict G) (s : T) (hs : s.size ≤ 1000000) : AFn Tryz.prog G 217 [.str s] H (.bool (rKey s)) := by
  have hs1 : (s.extract 0 1).size ≤ 1000000 := by rw [ByteArray.size_extract]; omega
  refine AFn.start mix F217 (by simp) fun k hlow => ?_
  simp -dsimp -implicitDefEqProofs (disch := omega) only [↓wpre, push_cast, seval, c217, Int.toNat_zero, Int.toNat_one]
  repeat' (first | ((first | with_reducible refine cnd_ndec (fun hc => ?_) (fun hc => ?_) | with_reducible refine cnd_dec (fun hc => ?_) (fun hc => ?_) | with_reducible refine cnd_nb (fun hc => ?_) (fun hc => ?_) | with_reducible refine cnd_intro (fun hc => ?_) (fun hc => ?_)) <;> (first | (exfalso; omega) | (try simp -dsimp -implicitDefEqProofs (disch := omega) only [↓wpre, push_cast, seval, hc, Int.toNat_zero, Int.toNat_one]))) | (with_reducible refine anyN_intro fun n' hn' => ?_; try simp -dsimp -implicitDefEqProofs (disch := omega) only [↓wpre, push_cast, seval, Int.toNat_zero, Int.toNat_one]) | ((first | with_reducible refine (in_c _ _ _ _ _).x fun n' hn' => ?_ | with_reducible refine xfn_intro (in_c _ _ _ _ _) ?_); try simp -dsimp -implicitDefEqProofs (disch := omega) only [↓wpre, push_cast, seval, Pm.within, Int.toNat_zero, Int.toNat_one]) | ((first | with_reducible refine (only_smallsT _ _ hns _ hs1).x fun n' hn' => ?_ | with_reducible refine xfn_intro (only_smallsT _ _ hns _ hs1) ?_); try simp -dsimp -implicitDefEqProofs (disch := omega) only [↓wpre, push_cast, seval, true_and]) | ((first | with_reducible refine (only_keyT _ _ hns _ hs).x fun n' hn' => ?_ | with_reducible refine xfn_intro (only_keyT _ _ hns _ hs) ?_); try simp -dsimp -implicitDefEqProofs (disch := omega) only [↓wpre, push_cast, seval, true_and]))
  all_goals (simp only [AV.lit.injEq, Value.bool.injEq, rKey, Pm.within]; grind)
theorem rcheckSign_c (s : T) (hs : s.size ≤ 1000000) : AFn Tryz.prog G 262 [.str s] H (.int (rCheckSign s)) := by
  refine AFn.start mix F262 (by simp) fun k hlow => ?_
  simp -dsimp -implicitDefEqProofs (disch := omega) only [↓wpre, push_cast, seval, c262]
  have hlenb : (bytesOf s).length = s.size := by simp only [bytesOf, List.length_map]; rfl
  refine xw_loopJ (σ := Nat × Int) (fun t => [(0, .str s), (3, .int t.2), (8, .int s.size), (9, .int t.1)]) (fun t H' n' => t.1 ≤ s.size ∧ -100 * (t.1 : Int) ≤ t.2 ∧ t.2 ≤ 100 * (t.1 : Int) ∧ t.2 + rSum ((bytesOf s).drop t.1) = rSum (bytesOf s) ∧ Qt H H' n') (fun t => s.size - t.1) (0, 0) ⟨Nat.zero_le _, by simp, by simp, by simp, .refl hlow⟩ (by simp -dsimp -implicitDefEqProofs (disch := omega) only [↓wpre, push_cast, seval]) ?_
  rintro ⟨i, sum⟩ fr H' n ⟨hi, hs1, hs2, hf, hq⟩ hh
  simp only [has_nil, has_cons, and_true] at hh hi hs1 hs2 hf
  by_cases hlt : (i : Int) < s.size
  · have hi' : i < s.size := by omega
    have hb := indexByte_bound signs.data.toList (byteAt s i).toNat.toUInt8
    have hbl : signs.data.toList.length = 36 := by decide
    rw [hbl] at hb
    have hb : -1 ≤ Lib.indexByte [48, 49, 50, 51, 52, 53, 54, 55, 56, 57, 65, 66, 67, 68, 69, 70, 71, 72, 73, 74, 75, 76, 77, 78, 79, 80, 81, 82, 83, 84, 85, 86, 87, 88, 89, 90] (byteAt s i).toNat.toUInt8 ∧ Lib.indexByte [48, 49, 50, 51, 52, 53, 54, 55, 56, 57, 65, 66, 67, 68, 69, 70, 71, 72, 73, 74, 75, 76, 77, 78, 79, 80, 81, 82, 83, 84, 85, 86, 87, 88, 89, 90] (byteAt s i).toNat.toUInt8 < 37 := ⟨hb.1, hb.2⟩
    generalize hk : Lib.indexByte [48, 49, 50, 51, 52, 53, 54, 55, 56, 57, 65, 66, 67, 68, 69, 70, 71, 72, 73, 74, 75, 76, 77, 78, 79, 80, 81, 82, 83, 84, 85, 86, 87, 88, 89, 90] (byteAt s i).toNat.toUInt8 = ix at hb
    have hk' : Lib.indexByte signs.data.toList (byteAt s i).toNat.toUInt8 = ix := hk
    have hdr : (bytesOf s).drop i = byteAt s i :: (bytesOf s).drop (i + 1) := by
      rw [List.drop_eq_getElem_cons (by omega)]
      have := bytesOf_get hi'
      rw [List.getElem?_eq_getElem (by omega)] at this
      rw [Option.some.inj this]
    have hdl : ((bytesOf s).drop (i + 1)).length + 1 = s.size - i := by rw [List.length_drop]; omega
    rw [hdr, rSum, hdl, hk'] at hf
    have hm1 : ((s.size : Int) - i).tmod 2 = ((s.size - i) % 2 : Nat) := by
      rw [show (s.size : Int) - i = ((s.size - i : Nat) : Int) by omega]; rfl
    simp -dsimp -implicitDefEqProofs (disch := omega) only [↓wpre, push_cast, seval, hh, hlt, Int.toNat_natCast]
    have hp : -2 ≤ ix * 2 ∧ ix * 2 ≤ 74 := by omega
    have hp1 := tmod36 (ix * 2)
    have hp2 := tdiv36 (ix * 2) (by omega) (by omega)
    have hp3 := tmod36 ix
    have hp4 := tdiv36 ix (by omega) (by omega)
    (first | with_reducible refine (indexByte_c _ _ _ _).x fun n' hn' => ?_ | with_reducible refine xfn_intro (indexByte_c _ _ _ _) ?_); try simp -dsimp -implicitDefEqProofs (disch := omega) only [↓wpre, push_cast, seval, hh, signs_eq, Int.toNat_natCast, hk]
    (first | with_reducible refine cnd_ndec (fun hc => ?_) (fun hc => ?_) | with_reducible refine cnd_dec (fun hc => ?_) (fun hc => ?_) | with_reducible refine cnd_nb (fun hc => ?_) (fun hc => ?_) | with_reducible refine cnd_intro (fun hc => ?_) (fun hc => ?_)) <;> (first | (exfalso; omega) | (try simp -dsimp -implicitDefEqProofs (disch := omega) only [↓wpre, push_cast, seval, hc, hh]))
    · rw [if_pos (by omega), Int.mul_comm] at hf
      refine againJ (i + 1, sum + ((ix * 2).tdiv 36 + (ix * 2).tmod 36)) (by dsimp only; omega) ⟨by dsimp only; omega, by dsimp only; omega, by dsimp only; omega, by dsimp only; omega, by exact Qt.mono (n := n) (by repeat (first | exact hq | refine Qt.hu ?_ (by omega))) (by omega)⟩ (by simp -dsimp -implicitDefEqProofs (disch := omega) only [↓wpre, push_cast, seval, hh]; all_goals (try simp only [AV.lit.injEq, Value.int.injEq, Value.bool.injEq, true_and, and_true]); all_goals (try (repeat' apply And.intro)); all_goals (first | rfl | omega | simp_all | skip))
    · rw [if_neg (by omega), Int.one_mul] at hf
      refine againJ (i + 1, sum + (ix.tdiv 36 + ix.tmod 36)) (by dsimp only; omega) ⟨by dsimp only; omega, by dsimp only; omega, by dsimp only; omega, by dsimp only; omega, by exact Qt.mono (n := n) (by repeat (first | exact hq | refine Qt.hu ?_ (by omega))) (by omega)⟩ (by simp -dsimp -implicitDefEqProofs (disch := omega) only [↓wpre, push_cast, seval, hh]; all_goals (try simp only [AV.lit.injEq, Value.int.injEq, Value.bool.injEq, true_and, and_true]); all_goals (try (repeat' apply And.intro)); all_goals (first | rfl | omega | simp_all | skip))
  · have hend : i = s.size := by omega
    subst hend
    rw [List.drop_eq_nil_of_le (by omega), rSum, Int.add_zero] at hf
    subst hf
    simp -dsimp -implicitDefEqProofs (disch := omega) only [↓wpre, push_cast, seval, hh, hlt]
    refine xw_loopJ (σ := Nat) (fun c => [(3, .int (rSum (bytesOf s))), (32, .int c)]) (fun c H' n' => c ≤ 36 ∧ rFind (rSum (bytesOf s)) (36 - c) c = rCheckSign s ∧ Qt H H' n') (fun c => 36 - c) 0 ⟨Nat.zero_le _, rfl, hq⟩ (by simp -dsimp -implicitDefEqProofs (disch := omega) only [↓wpre, push_cast, seval, hh]) ?_
    clear hq
    rintro c fr H' n ⟨hc0, hf, hq⟩ hh
    simp only [has_nil, has_cons, and_true] at hh hc0 hf
    by_cases hlt : (c : Int) < 36
    · rw [show 36 - c = (36 - (c + 1)) + 1 by omega, rFind] at hf
      have hp1 := tmod36 (rSum (bytesOf s) + c)
      simp -dsimp -implicitDefEqProofs (disch := omega) only [↓wpre, push_cast, seval, hh, hlt]
      (first | with_reducible refine cnd_ndec (fun hc => ?_) (fun hc => ?_) | with_reducible refine cnd_dec (fun hc => ?_) (fun hc => ?_) | with_reducible refine cnd_nb (fun hc => ?_) (fun hc => ?_) | with_reducible refine cnd_intro (fun hc => ?_) (fun hc => ?_)) <;> (first | (exfalso; omega) | (try simp -dsimp -implicitDefEqProofs (disch := omega) only [↓wpre, push_cast, seval, hc, hh]))
      · rw [if_pos hc] at hf
        rw [← hf]
        exact ⟨rfl, hq.1⟩
      · rw [if_neg hc] at hf
        refine againJ (c + 1) (by omega) ⟨by omega, hf, by exact Qt.mono (n := n) (by repeat (first | exact hq | refine Qt.hu ?_ (by omega))) (by omega)⟩ (by simp -dsimp -implicitDefEqProofs (disch := omega) only [↓wpre, push_cast, seval, hh])
    · have : c = 36 := by omega
      subst this
      simp -dsimp -implicitDefEqProofs (disch := omega) only [↓wpre, push_cast, seval, hh, hlt]
      rw [← hf]
      exact ⟨rfl, hq.1⟩
end Go.Proofs.YtblhbafoncfhdaaGreatDoor

