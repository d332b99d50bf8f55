/- Contracts of functions of the program: each computes what its model says; the conditions stand at each. -/
import Derived.Test.YtblhbafoncfhdaaGreatDoorE1
import Derived.Test.YtblhbafoncfhdaaGreatDoorTs5
import Derived.Shelf.Strings.SlTrimAscii
import Derived.Lib.MapLaws
set_option linter.unusedSimpArgs false
set_option linter.unusedVariables false
set_option maxRecDepth 20000
namespace Go.Proofs.YtblhbafoncfhdaaGreatDoor
open Go Go.Ab Go.Pm Go.Cm Go.El Go.Rm
variable (G : Nat → AV) (H : Nat → Option AObj)
/-! The reference's checks. -/
def tabF : List Value := (List.range 256).map fun c => .int .u8 (Lib.firstT c)
def tabA : List Value := (List.range 32).map fun c => .int .u8 (if c % 2 = 0 then Lib.accLo (c / 2) else Lib.accHi (c / 2))
structure GU (G : Nat → AV) : Prop where
 ok : GOk G
 first : G 2 = .pp (tabF.map .lit)
 acc : G 3 = .pp (tabA.map .lit)
theorem glob_at {G : Nat → AV} {w : World} {g : Gh} {k : Nat} {cs : List Value} (hk : G k = .pp (cs.map .lit)) (hg : Gl G g w) {i : Nat} {v : Value} (h : cs[i]? = some v) : w.cell? ⟨k, i, none⟩ = some v := by
 have h3 := hg.at' k
 rw [hk] at h3
 obtain ⟨b, o, h4, h5⟩ := h3
 cases h4
 obtain ⟨_, u, h6, h7⟩ := h5.get i (.lit v) (by rw [List.getElem?_map, h]; rfl)
 have h7 : u = v := h7
 rw [Nat.zero_add] at h6
 rw [h6, h7]
theorem utf8Tabs {G : Nat → AV} (hU : GU G) {w : World} {g : Gh} (hg : Gl G g w) : Lib.Utf8Tabs 2 3 w := by
 refine ⟨fun c hc => glob_at hU.first hg ?_, fun i hi => ⟨glob_at hU.acc hg ?_, glob_at hU.acc hg ?_⟩⟩
 ·simp [tabF, hc]
 ·simp only [tabA, List.getElem?_map, List.getElem?_range (show 2 * i < 32 by omega), Option.map_some, show 2 * i % 2 = 0 by omega, if_true, show 2 * i / 2 = i by omega]
 ·simp only [tabA, List.getElem?_map, List.getElem?_range (show 2 * i + 1 < 32 by omega), Option.map_some, show ¬ (2 * i + 1) % 2 = 0 by omega, if_false, show (2 * i + 1) / 2 = i by omega]
theorem trim_c (hns : ¬ Strict G) (s set : T) (hs : s.size ≤ 9223372036854775807) (hc : set.size < 4294967281) (ha : set.data.toList.all (fun b => decide (b.toNat < 128)) = true) : AFn Tryz.prog G 91 [.str s, .str set] H (.str (trimT s set)) := by
 refine AFn.of_calls (xs := [.string s, .string set]) (enters_of_b (by kernel_rfl)) fun w g hI hg => ?_
 refine (Any.strings_Trim_laid Tryz.lays160 (by kernel_rfl) s set w hs hc (ascii_of_all ha)).mono fun e w' ⟨k1, k2⟩ => ?_
 obtain ⟨k3, k4⟩ := step_below hI (fun h => hns (hg.dr h)) k2
 exact ⟨_, k1, rfl, k4, k3⟩
theorem decode_c (hU : GU G) (s : T) : AFn Tryz.prog G 145 [.str s] H (.tup [.lit (.int .i32 (Lib.decodeGo s).1), .int (Lib.decodeGo s).2]) := by
 refine AFn.of_calls (xs := [.string s]) (enters_of_b (by kernel_rfl)) fun w g hI hg => ?_
 refine (Tryz.utf8_DecodeRuneInString s w (utf8Tabs hU hg)).mono fun e w' ⟨k1, k2⟩ => ?_
 obtain ⟨k3, k4⟩ := step_below hI (fun h => hU.ok.ns (hg.dr h)) k2
 exact ⟨_, k1, ⟨_, rfl, _, _, rfl, rfl, _, _, rfl, rfl, rfl⟩, k4, k3⟩
theorem valid_c (hU : GU G) (s : T) (hs : s.size ≤ 9223372036854775807) (f : FuncId) (hf : Tryz.lays196_ren.f 196 = f) (he : Go.Ab.Enters Tryz.prog f) : AFn Tryz.prog G f [.str s] H (.bool (Lib.validD s.data.toList)) := by
 refine AFn.of_calls (xs := [.string s]) he fun w g hI hg => ?_
 subst hf
 refine (Any.utf8_ValidString Tryz.lays196 s w hs (utf8Tabs hU hg)).mono fun e w' ⟨k1, k2⟩ => ?_
 obtain ⟨k3, k4⟩ := step_below hI (fun h => hU.ok.ns (hg.dr h)) k2
 exact ⟨_, k1, rfl, k4, k3⟩
theorem cutPrefix_c (s p : T) : AFn Tryz.prog G 261 [.str s, .str p] H (.tup [.str ⟨(Lib.trimPrefix s.data.toList p.data.toList).toArray⟩, .bool (Lib.hasPrefix s.data.toList p.data.toList)]) :=
 AFn.of_calls (enters_of_b (by kernel_rfl)) (xs := [.string s, .string p]) fun w g hI hg => by
  refine (Tryz.strings_CutPrefix s p w).mono fun e w' ⟨h1, h2⟩ => ?_
  subst h2
  exact ⟨_, h1, ⟨_, rfl, _, _, rfl, rfl, _, _, rfl, rfl, rfl⟩, hI, Step.refl _ _⟩
theorem in_c (n lo hi : Int) : AFn Tryz.prog G 148 [.int n, .int lo, .int hi] H (.bool (within n lo hi)) := by
 refine AFn.start mix F148 (by simp) fun k hlow => ?_
 simp (disch := omega) only [↓wpre, push_cast, seval, c148]
 (first | with_reducible refine cnd_ndec (fun hc => ?_) (fun hc => ?_) | with_reducible refine cnd_dec (fun hc => ?_) (fun hc => ?_) | with_reducible refine cnd_nb (fun hc => ?_) (fun hc => ?_) | with_reducible refine cnd_intro (fun hc => ?_) (fun hc => ?_)) <;> (first | (exfalso; omega) | (try simp (disch := omega) only [↓wpre, push_cast, seval, hc, Pm.within]))
 all_goals simp_all
theorem only_c (hns : ¬ Strict G) (s set : T) (hs : s.size ≤ 9223372036854775807) (hc : set.size < 4294967281) (ha : set.data.toList.all (fun b => decide (b.toNat < 128)) = true) : AFn Tryz.prog G 260 [.str s, .str set] H (.bool (Rm.only s set)) := by
 refine AFn.start mix F260 (by simp) fun k hlow => ?_
 simp (disch := omega) only [↓wpre, push_cast, seval, c260]
 (first | with_reducible refine (trim_c _ _ hns s set hs hc ha).x fun n' hn' => ?_ | with_reducible refine xfn_intro (trim_c _ _ hns s set hs hc ha) ?_); try simp (disch := omega) only [↓wpre, push_cast, seval, true_and]
 try rfl
theorem only_smallsT (hns : ¬ Strict G) (s : T) (hs : s.size ≤ 1000000) : AFn Tryz.prog G 260 [.str s, .str ⟨#[97, 98, 99, 100, 101, 102, 103, 104, 105, 106, 107, 108, 109, 110, 111, 112, 113, 114, 115, 116, 117, 118, 119, 120, 121, 122]⟩] H (.bool (Rm.only s smallsT)) := only_c G H hns s smallsT (by omega) (by decide) (by decide)
theorem only_keyT (hns : ¬ Strict G) (s : T) (hs : s.size ≤ 1000000) : AFn Tryz.prog G 260 [.str s, .str ⟨#[97, 98, 99, 100, 101, 102, 103, 104, 105, 106, 107, 108, 109, 110, 111, 112, 113, 114, 115, 116, 117, 118, 119, 120, 121, 122, 48, 49, 50, 51, 52, 53, 54, 55, 56, 57, 45, 95]⟩] H (.bool (Rm.only s keyT)) := only_c G H hns s keyT (by omega) (by decide) (by decide)
theorem only_mailT (hns : ¬ Strict G) (s : T) (hs : s.size ≤ 1000000) : AFn Tryz.prog G 260 [.str s, .str ⟨#[97, 98, 99, 100, 101, 102, 103, 104, 105, 106, 107, 108, 109, 110, 111, 112, 113, 114, 115, 116, 117, 118, 119, 120, 121, 122, 48, 49, 50, 51, 52, 53, 54, 55, 56, 57, 46, 45, 95]⟩] H (.bool (Rm.only s mailT)) := only_c G H hns s mailT (by omega) (by decide) (by decide)
theorem only_labelT (hns : ¬ Strict G) (s : T) (hs : s.size ≤ 1000000) : AFn Tryz.prog G 260 [.str s, .str ⟨#[97, 98, 99, 100, 101, 102, 103, 104, 105, 106, 107, 108, 109, 110, 111, 112, 113, 114, 115, 116, 117, 118, 119, 120, 121, 122, 48, 49, 50, 51, 52, 53, 54, 55, 56, 57, 45]⟩] H (.bool (Rm.only s labelT)) := only_c G H hns s labelT (by omega) (by decide) (by decide)
theorem only_digitT (hns : ¬ Strict G) (s : T) (hs : s.size ≤ 1000000) : AFn Tryz.prog G 260 [.str s, .str ⟨#[48, 49, 50, 51, 52, 53, 54, 55, 56, 57]⟩] H (.bool (Rm.only s digitT)) := only_c G H hns s digitT (by omega) (by decide) (by decide)
theorem only_deviceT (hns : ¬ Strict G) (s : T) (hs : s.size ≤ 1000000) : AFn Tryz.prog G 260 [.str s, .str ⟨#[48, 49, 50, 51, 52, 53, 54, 55, 56, 57, 97, 98, 99, 100, 101, 102]⟩] H (.bool (Rm.only s deviceT)) := only_c G H hns s deviceT (by omega) (by decide) (by decide)
theorem trim_dot (hns : ¬ Strict G) (s : T) (hs : s.size ≤ 1000000) : AFn Tryz.prog G 91 [.str s, .str ⟨#[46]⟩] H (.str (trimT s ⟨#[46]⟩)) := trim_c G H hns s ⟨#[46]⟩ (by omega) (by decide) (by decide)
theorem trim_dash (hns : ¬ Strict G) (s : T) (hs : s.size ≤ 1000000) : AFn Tryz.prog G 91 [.str s, .str ⟨#[45]⟩] H (.str (trimT s ⟨#[45]⟩)) := trim_c G H hns s ⟨#[45]⟩ (by omega) (by decide) (by decide)
theorem rkey_c (hns : ¬ Strict G) (s : T) (hs : s.size ≤ 1000000) : AFn Tryz.prog G 217 [.str s] H (.bool (rKey s)) := by
 have hs1 : (s.extract 0 1).size ≤ 1000000 := by rw [ByteArray.size_extract]; omega
 refine AFn.start mix F217 (by simp) fun k hlow => ?_
 simp (disch := omega) only [↓wpre, push_cast, seval, c217, Int.toNat_zero, Int.toNat_one]
 repeat' (first | ((first | with_reducible refine cnd_ndec (fun hc => ?_) (fun hc => ?_) | with_reducible refine cnd_dec (fun hc => ?_) (fun hc => ?_) | with_reducible refine cnd_nb (fun hc => ?_) (fun hc => ?_) | with_reducible refine cnd_intro (fun hc => ?_) (fun hc => ?_)) <;> (first | (exfalso; omega) | (try simp (disch := omega) only [↓wpre, push_cast, seval, hc, Int.toNat_zero, Int.toNat_one]))) | (with_reducible refine anyN_intro fun n' hn' => ?_; try simp (disch := omega) only [↓wpre, push_cast, seval, Int.toNat_zero, Int.toNat_one]) | ((first | with_reducible refine (in_c _ _ _ _ _).x fun n' hn' => ?_ | with_reducible refine xfn_intro (in_c _ _ _ _ _) ?_); try simp (disch := omega) only [↓wpre, push_cast, seval, Pm.within, Int.toNat_zero, Int.toNat_one]) | ((first | with_reducible refine (only_smallsT _ _ hns _ hs1).x fun n' hn' => ?_ | with_reducible refine xfn_intro (only_smallsT _ _ hns _ hs1) ?_); try simp (disch := omega) only [↓wpre, push_cast, seval, true_and]) | ((first | with_reducible refine (only_keyT _ _ hns _ hs).x fun n' hn' => ?_ | with_reducible refine xfn_intro (only_keyT _ _ hns _ hs) ?_); try simp (disch := omega) only [↓wpre, push_cast, seval, true_and]))
 all_goals (simp only [AV.lit.injEq, Value.bool.injEq, rKey, Pm.within]; grind)
theorem rcheckSign_c (s : T) (hs : s.size ≤ 1000000) : AFn Tryz.prog G 262 [.str s] H (.int (rCheckSign s)) := by
 refine AFn.start mix F262 (by simp) fun k hlow => ?_
 simp (disch := omega) only [↓wpre, push_cast, seval, c262]
 have hlenb : (bytesOf s).length = s.size := by simp only [bytesOf, List.length_map]; rfl
 refine xw_loopJ (σ := Nat × Int) (fun t => [(0, .str s), (3, .int t.2), (8, .int s.size), (9, .int t.1)]) (fun t H' n' => t.1 ≤ s.size ∧ -100 * (t.1 : Int) ≤ t.2 ∧ t.2 ≤ 100 * (t.1 : Int) ∧ t.2 + rSum ((bytesOf s).drop t.1) = rSum (bytesOf s) ∧ Qt H H' n') (fun t => s.size - t.1) (0, 0) ⟨Nat.zero_le _, by simp, by simp, by simp, .refl hlow⟩ (by simp (disch := omega) only [↓wpre, push_cast, seval]) ?_
 rintro ⟨i, sum⟩ fr H' n ⟨hi, hs1, hs2, hf, hq⟩ hh
 simp only [has_nil, has_cons, and_true] at hh hi hs1 hs2 hf
 by_cases hlt : (i : Int) < s.size
 ·have hi' : i < s.size := by omega
  have hb := indexByte_bound signs.data.toList (byteAt s i).toNat.toUInt8
  have hbl : signs.data.toList.length = 36 := by decide
  rw [hbl] at hb
  have hb : -1 ≤ Lib.indexByte [48, 49, 50, 51, 52, 53, 54, 55, 56, 57, 65, 66, 67, 68, 69, 70, 71, 72, 73, 74, 75, 76, 77, 78, 79, 80, 81, 82, 83, 84, 85, 86, 87, 88, 89, 90] (byteAt s i).toNat.toUInt8 ∧ Lib.indexByte [48, 49, 50, 51, 52, 53, 54, 55, 56, 57, 65, 66, 67, 68, 69, 70, 71, 72, 73, 74, 75, 76, 77, 78, 79, 80, 81, 82, 83, 84, 85, 86, 87, 88, 89, 90] (byteAt s i).toNat.toUInt8 < 37 := ⟨hb.1, hb.2⟩
  generalize hk : Lib.indexByte [48, 49, 50, 51, 52, 53, 54, 55, 56, 57, 65, 66, 67, 68, 69, 70, 71, 72, 73, 74, 75, 76, 77, 78, 79, 80, 81, 82, 83, 84, 85, 86, 87, 88, 89, 90] (byteAt s i).toNat.toUInt8 = ix at hb
  have hk' : Lib.indexByte signs.data.toList (byteAt s i).toNat.toUInt8 = ix := hk
  have hdr : (bytesOf s).drop i = byteAt s i :: (bytesOf s).drop (i + 1) := by
   rw [List.drop_eq_getElem_cons (by omega)]
   have := bytesOf_get hi'
   rw [List.getElem?_eq_getElem (by omega)] at this
   rw [Option.some.inj this]
  have hdl : ((bytesOf s).drop (i + 1)).length + 1 = s.size - i := by rw [List.length_drop]; omega
  rw [hdr, rSum, hdl, hk'] at hf
  have hm1 : ((s.size : Int) - i).tmod 2 = ((s.size - i) % 2 : Nat) := by
   rw [show (s.size : Int) - i = ((s.size - i : Nat) : Int) by omega]; rfl
  simp (disch := omega) only [↓wpre, push_cast, seval, hh, hlt, Int.toNat_natCast]
  have hp : -2 ≤ ix * 2 ∧ ix * 2 ≤ 74 := by omega
  have hp1 := tmod36 (ix * 2)
  have hp2 := tdiv36 (ix * 2) (by omega) (by omega)
  have hp3 := tmod36 ix
  have hp4 := tdiv36 ix (by omega) (by omega)
  (first | with_reducible refine (indexByte_c _ _ _ _).x fun n' hn' => ?_ | with_reducible refine xfn_intro (indexByte_c _ _ _ _) ?_); try simp (disch := omega) only [↓wpre, push_cast, seval, hh, signs_eq, Int.toNat_natCast, hk]
  (first | with_reducible refine cnd_ndec (fun hc => ?_) (fun hc => ?_) | with_reducible refine cnd_dec (fun hc => ?_) (fun hc => ?_) | with_reducible refine cnd_nb (fun hc => ?_) (fun hc => ?_) | with_reducible refine cnd_intro (fun hc => ?_) (fun hc => ?_)) <;> (first | (exfalso; omega) | (try simp (disch := omega) only [↓wpre, push_cast, seval, hc, hh]))
  ·rw [if_pos (by omega), Int.mul_comm] at hf
   refine againJ (i + 1, sum + ((ix * 2).tdiv 36 + (ix * 2).tmod 36)) (by dsimp only; omega) ⟨by dsimp only; omega, by dsimp only; omega, by dsimp only; omega, by dsimp only; omega, by exact Qt.mono (n := n) (by repeat (first | exact hq | refine Qt.hu ?_ (by omega))) (by omega)⟩ (by simp (disch := omega) only [↓wpre, push_cast, seval, hh]; all_goals (try simp only [AV.lit.injEq, Value.int.injEq, Value.bool.injEq, true_and, and_true]); all_goals (try (repeat' apply And.intro)); all_goals (first | rfl | omega | simp_all | skip))
  ·rw [if_neg (by omega), Int.one_mul] at hf
   refine againJ (i + 1, sum + (ix.tdiv 36 + ix.tmod 36)) (by dsimp only; omega) ⟨by dsimp only; omega, by dsimp only; omega, by dsimp only; omega, by dsimp only; omega, by exact Qt.mono (n := n) (by repeat (first | exact hq | refine Qt.hu ?_ (by omega))) (by omega)⟩ (by simp (disch := omega) only [↓wpre, push_cast, seval, hh]; all_goals (try simp only [AV.lit.injEq, Value.int.injEq, Value.bool.injEq, true_and, and_true]); all_goals (try (repeat' apply And.intro)); all_goals (first | rfl | omega | simp_all | skip))
 ·have hend : i = s.size := by omega
  subst hend
  rw [List.drop_eq_nil_of_le (by omega), rSum, Int.add_zero] at hf
  subst hf
  simp (disch := omega) only [↓wpre, push_cast, seval, hh, hlt]
  refine xw_loopJ (σ := Nat) (fun c => [(3, .int (rSum (bytesOf s))), (32, .int c)]) (fun c H' n' => c ≤ 36 ∧ rFind (rSum (bytesOf s)) (36 - c) c = rCheckSign s ∧ Qt H H' n') (fun c => 36 - c) 0 ⟨Nat.zero_le _, rfl, hq⟩ (by simp (disch := omega) only [↓wpre, push_cast, seval, hh]) ?_
  clear hq
  rintro c fr H' n ⟨hc0, hf, hq⟩ hh
  simp only [has_nil, has_cons, and_true] at hh hc0 hf
  by_cases hlt : (c : Int) < 36
  ·rw [show 36 - c = (36 - (c + 1)) + 1 by omega, rFind] at hf
   have hp1 := tmod36 (rSum (bytesOf s) + c)
   simp (disch := omega) only [↓wpre, push_cast, seval, hh, hlt]
   (first | with_reducible refine cnd_ndec (fun hc => ?_) (fun hc => ?_) | with_reducible refine cnd_dec (fun hc => ?_) (fun hc => ?_) | with_reducible refine cnd_nb (fun hc => ?_) (fun hc => ?_) | with_reducible refine cnd_intro (fun hc => ?_) (fun hc => ?_)) <;> (first | (exfalso; omega) | (try simp (disch := omega) only [↓wpre, push_cast, seval, hc, hh]))
   ·rw [if_pos hc] at hf
    rw [← hf]
    exact ⟨rfl, hq.1⟩
   ·rw [if_neg hc] at hf
    refine againJ (c + 1) (by omega) ⟨by omega, hf, by exact Qt.mono (n := n) (by repeat (first | exact hq | refine Qt.hu ?_ (by omega))) (by omega)⟩ (by simp (disch := omega) only [↓wpre, push_cast, seval, hh])
  ·have : c = 36 := by omega
   subst this
   simp (disch := omega) only [↓wpre, push_cast, seval, hh, hlt]
   rw [← hf]
   exact ⟨rfl, hq.1⟩
def okM (s : T) : Bool :=
 let c := cutT s ⟨#[64]⟩
 c.2.2 && (decide (s.size ≤ 80) && (within c.1.size 1 64 && (Rm.only c.1 mailT && (decide (trimT c.1 ⟨#[46]⟩ = c.1) && (!Lib.contains c.1.data.toList [46, 46] && decide (2 ≤ (splitT c.2.1 ⟨#[46]⟩).length))))))
theorem rMail_eq (s : T) : rMail s = (okM s && (splitT (cutT s ⟨#[64]⟩).2.1 ⟨#[46]⟩).all rLabel) := rfl
theorem rFind_bound (sum : Int) : ∀ (k c : Nat), c + k ≤ 36 → 0 ≤ rFind sum k c ∧ rFind sum k c < 36
 | 0, _, _ => by simp [rFind]
 | k + 1, c, h => by
  rw [rFind]
  split
  ·omega
  ·exact rFind_bound sum k (c + 1) (by omega)
theorem rCheckSign_bound (s : T) : 0 ≤ rCheckSign s ∧ rCheckSign s < 36 := rFind_bound _ 36 0 (Nat.le_refl _)
set_option maxHeartbeats 3200000 in
theorem idMail_c (hG : GOk G) (s : T) (hs : s.size ≤ 1000000) : AFn Tryz.prog G 216 [.agg [.int 1, .str s]] H (.int (if rMail s then 0 else 3)) := by
 obtain ⟨m, cs, hG3⟩ := hG.maxLen
 have hns := hG.ns
 have h1 := (cutT_size s ⟨#[64]⟩).1
 have h2 := (cutT_size s ⟨#[64]⟩).2
 have g0 : s.size < 4294967281 := by omega
 have g1 : (cutT s ⟨#[64]⟩).1.size < 4294967281 := by omega
 have g2 : (cutT s ⟨#[64]⟩).2.1.size < 4294967281 := by omega
 have g3 : (cutT s ⟨#[64]⟩).1.size ≤ 1000000 := by omega
 have e2 : ∀ x ∈ splitT (cutT s ⟨#[64]⟩).2.1 ⟨#[46]⟩, x.size ≤ 1000000 := fun x hx => by
  have := splitT_size _ _ x hx
  omega
 have e3 : (splitT (cutT s ⟨#[64]⟩).2.1 ⟨#[46]⟩).length ≤ 4294967281 := by
  rw [splitB_length _ _ (by decide)]
  have := Lib.countB_le ⟨#[46]⟩ (by decide) _ (cutT s ⟨#[64]⟩).2.1 (Nat.le_refl _)
  omega
 refine AFn.start mix F216 (by simp) fun k hlow => ?_
 have hq := Qt.refl hlow
 have hM := rMail_eq s
 have hO : okM s = (let c := cutT s ⟨#[64]⟩
  c.2.2 && (decide (s.size ≤ 80) && (within c.1.size 1 64 && (Rm.only c.1 mailT && (decide (trimT c.1 ⟨#[46]⟩ = c.1) && (!Lib.contains c.1.data.toList [46, 46] && decide (2 ≤ (splitT c.2.1 ⟨#[46]⟩).length))))))) := rfl
 simp (disch := omega) only [↓wpre, push_cast, seval, c216]
 (first | with_reducible refine (cut_c _ _ hG3 _ _ g0).x fun n' hn' => ?_ | with_reducible refine xfn_intro (cut_c _ _ hG3 _ _ g0) ?_); try simp (disch := omega) only [↓wpre, push_cast, seval, true_and]
 generalize cutT s ⟨#[64]⟩ = c at *
 obtain ⟨local', domain, ok⟩ := c
 simp only at *
 (first | with_reducible refine (split_c _ _ hG3 _ _ g2 (by decide)).x fun n' hn' => ?_ | with_reducible refine xfn_intro (split_c _ _ hG3 _ _ g2 (by decide)) ?_); try simp (disch := omega) only [↓wpre, push_cast, seval, true_and]
 generalize splitT domain ⟨#[46]⟩ = labels at *
 have hl2 : decide ((2 : Int) ≤ (labels.length : Int)) = decide (2 ≤ labels.length) := decide_eq_decide.2 ⟨fun h => by omega, fun h => by omega⟩
 generalize rMail s = rm at *
 generalize hok : okM s = ok0 at *
 repeat' (first | ((first | with_reducible refine cnd_ndec (fun hc => ?_) (fun hc => ?_) | with_reducible refine cnd_dec (fun hc => ?_) (fun hc => ?_) | with_reducible refine cnd_nb (fun hc => ?_) (fun hc => ?_) | with_reducible refine cnd_intro (fun hc => ?_) (fun hc => ?_)) <;> (first | (exfalso; omega) | (try simp (disch := omega) only [↓wpre, push_cast, seval, hc, true_and]))) | (with_reducible refine anyN_intro fun n' hn' => ?_; try simp (disch := omega) only [↓wpre, push_cast, seval, true_and]) | ((first | with_reducible refine (in_c _ _ _ _ _).x fun n' hn' => ?_ | with_reducible refine xfn_intro (in_c _ _ _ _ _) ?_); try simp (disch := omega) only [↓wpre, push_cast, seval, Pm.within]) | ((first | with_reducible refine (only_mailT _ _ hns _ g3).x fun n' hn' => ?_ | with_reducible refine xfn_intro (only_mailT _ _ hns _ g3) ?_); try simp (disch := omega) only [↓wpre, push_cast, seval, true_and]) | ((first | with_reducible refine (trim_dot _ _ hns _ g3).x fun n' hn' => ?_ | with_reducible refine xfn_intro (trim_dot _ _ hns _ g3) ?_); try simp (disch := omega) only [↓wpre, push_cast, seval, true_and]) | ((first | with_reducible refine (contains_c _ _ hG3 _ _ g1).x fun n' hn' => ?_ | with_reducible refine xfn_intro (contains_c _ _ hG3 _ _ g1) ?_); try simp (disch := omega) only [↓wpre, push_cast, seval, true_and]))
 all_goals
  refine xw_loopJ (σ := List T × List T × Bool) (fun t => [(4, .bool t.2.2), (58, .ls true (labels.map fun x => [AV.str x])), (59, .int labels.length), (60, .int t.1.length)]) (fun t H' n' => labels = t.1 ++ t.2.1 ∧ (t.2.2 && t.2.1.all rLabel) = rm ∧ Qt H H' n') (fun t => t.2.1.length) ([], labels, ok0) ⟨rfl, hM.symm, by exact Qt.mono (n := k) (by repeat (first | exact hq | refine Qt.hu ?_ (by omega))) (by omega)⟩ (by simp (disch := omega) only [↓wpre, push_cast, seval]; clear e2 hq hlow hG3 hG; grind [Pm.within]) ?_
  clear hM hO hok hq
  rintro ⟨a, b, okb⟩ fr H' n ⟨hab, hf, hq⟩ hh
  simp only [has_nil, has_cons, and_true] at hh hab hf
  have hll : labels.length = a.length + b.length := by rw [hab]; simp
  cases b with
  | nil =>
   have hnl : ¬ (a.length : Int) < labels.length := by rw [hll]; simp
   simp only [List.all_nil, Bool.and_true] at hf
   subst hf
   simp (disch := omega) only [↓wpre, push_cast, seval, hh, hnl]
   (first | with_reducible refine cnd_ndec (fun hc => ?_) (fun hc => ?_) | with_reducible refine cnd_dec (fun hc => ?_) (fun hc => ?_) | with_reducible refine cnd_nb (fun hc => ?_) (fun hc => ?_) | with_reducible refine cnd_intro (fun hc => ?_) (fun hc => ?_)) <;> (first | (exfalso; omega) | (try simp (disch := omega) only [↓wpre, push_cast, seval, hc, hh]))
   all_goals first | exact hq.1 | exact ⟨by simp [hc], hq.1⟩
  | cons x b =>
   have hlt : (a.length : Int) < labels.length := by rw [hll]; simp only [List.length_cons]; omega
   have hx : labels[a.length]? = some x := by rw [hab]; simp
   have hxs : x.size ≤ 1000000 := e2 x (by rw [hab]; simp)
   simp (disch := omega) only [↓wpre, push_cast, seval, hh, hlt, even_strs', aidx_at _ hx]
   repeat' (first | ((first | with_reducible refine cnd_ndec (fun hc => ?_) (fun hc => ?_) | with_reducible refine cnd_dec (fun hc => ?_) (fun hc => ?_) | with_reducible refine cnd_nb (fun hc => ?_) (fun hc => ?_) | with_reducible refine cnd_intro (fun hc => ?_) (fun hc => ?_)) <;> (first | (exfalso; omega) | (try simp (disch := omega) only [↓wpre, push_cast, seval, hc, hh]))) | (with_reducible refine anyN_intro fun n' hn' => ?_; try simp (disch := omega) only [↓wpre, push_cast, seval, hh]) | ((first | with_reducible refine (in_c _ _ _ _ _).x fun n' hn' => ?_ | with_reducible refine xfn_intro (in_c _ _ _ _ _) ?_); try simp (disch := omega) only [↓wpre, push_cast, seval, Pm.within]) | ((first | with_reducible refine (only_labelT _ _ hns _ hxs).x fun n' hn' => ?_ | with_reducible refine xfn_intro (only_labelT _ _ hns _ hxs) ?_); try simp (disch := omega) only [↓wpre, push_cast, seval, hh]) | ((first | with_reducible refine (trim_dash _ _ hns _ hxs).x fun n' hn' => ?_ | with_reducible refine xfn_intro (trim_dash _ _ hns _ hxs) ?_); try simp (disch := omega) only [↓wpre, push_cast, seval, hh]))
   all_goals refine againJ (a ++ [x], b, okb && rLabel x) (Nat.lt_succ_self _) ⟨by rw [hab]; simp, by rw [← hf, List.all_cons, Bool.and_assoc], by exact Qt.mono (n := n) (by repeat (first | exact hq | refine Qt.hu ?_ (by omega))) (by omega)⟩ (by simp (disch := omega) only [↓wpre, push_cast, seval, hh]; clear e2 hq hlow hG3 hG; (try simp only [List.length_append, List.length_cons, List.length_nil]); grind [Pm.within, rLabel])
theorem hasPrefix_plus (s : T) : Lib.hasPrefix s.data.toList [43] = Pm.hasPrefix s ⟨#[43]⟩ := by
 obtain ⟨⟨l⟩⟩ := s
 cases l with
 | nil => rfl
 | cons x r =>
  have e1 : Lib.hasPrefix (x :: r) [43] = (43 == x) := by simp [Lib.hasPrefix, List.isPrefixOf]
  have e2 : Pm.hasPrefix ⟨⟨x :: r⟩⟩ ⟨#[43]⟩ = decide (x = 43) := by
   have h : (⟨⟨x :: r⟩⟩ : ByteArray).extract 0 1 = ⟨#[x]⟩ := toList_ext (by rw [ByteArray.data_extract, Array.toList_extract]; rfl)
   have hs : (⟨#[43]⟩ : ByteArray).size = 1 := rfl
   have hs2 : (⟨⟨x :: r⟩⟩ : ByteArray).size = r.length + 1 := rfl
   rw [Pm.hasPrefix, hs, h, hs2]
   by_cases hx : x = 43
   ·subst hx; simp
   ·have : ¬ (⟨#[x]⟩ : ByteArray) = ⟨#[43]⟩ := fun e => hx (by injection e with e; injection e with e; injection e)
    simp [hx, this]
  rw [e1, e2]
  by_cases hx : x = 43
  ·subst hx; rfl
  ·have : ¬ (43 : UInt8) = x := fun e => hx e.symm
   simp [hx, this]
theorem trimPrefix_plus (s : T) (h : Pm.hasPrefix s ⟨#[43]⟩ = true) : (⟨(Lib.trimPrefix s.data.toList [43]).toArray⟩ : T) = s.extract 1 s.size := by
 rw [Lib.trimPrefix, if_pos (by rw [hasPrefix_plus]; exact h)]
 refine toList_ext ?_
 rw [ByteArray.data_extract, Array.toList_extract]
 show List.drop 1 s.data.toList = _
 rw [List.extract_eq_take_drop, List.take_of_length_le (by rw [List.length_drop, tlen]; omega)]
set_option maxHeartbeats 3200000 in
theorem idPhone_c (hG : GOk G) (s : T) (hs : s.size ≤ 1000000) : AFn Tryz.prog G 216 [.agg [.int 2, .str s]] H (.int (if rPhone s then 0 else 3)) := by
 have hns := hG.ns
 refine AFn.start mix F216 (by simp) fun k hlow => ?_
 have hq := Qt.refl hlow
 simp (disch := omega) only [↓wpre, push_cast, seval, c216]
 (first | with_reducible refine (cutPrefix_c _ _ _ _).x fun n' hn' => ?_ | with_reducible refine xfn_intro (cutPrefix_c _ _ _ _) ?_); try simp (disch := omega) only [↓wpre, push_cast, seval, true_and]
 have hR : rPhone s = (Pm.hasPrefix s ⟨#[43]⟩ && (within (s.extract 1 s.size).size 7 15 && (Rm.only (s.extract 1 s.size) digitT && !decide (byteAt (s.extract 1 s.size) 0 = 48)))) := rfl
 rw [hasPrefix_plus]
 cases hp : Pm.hasPrefix s ⟨#[43]⟩ with
 | false =>
  simp (disch := omega) only [↓wpre, push_cast, seval, hp]
  rw [hR, hp]
  rfl
 | true =>
  rw [trimPrefix_plus s hp]
  have hxs : (s.extract 1 s.size).size ≤ 1000000 := by rw [ByteArray.size_extract]; omega
  generalize s.extract 1 s.size = x at *
  simp (disch := omega) only [↓wpre, push_cast, seval, hp]
  repeat' (first | ((first | with_reducible refine cnd_ndec (fun hc => ?_) (fun hc => ?_) | with_reducible refine cnd_dec (fun hc => ?_) (fun hc => ?_) | with_reducible refine cnd_nb (fun hc => ?_) (fun hc => ?_) | with_reducible refine cnd_intro (fun hc => ?_) (fun hc => ?_)) <;> (first | (exfalso; omega) | (try simp (disch := omega) only [↓wpre, push_cast, seval, hc, Int.toNat_zero]))) | (with_reducible refine anyN_intro fun n' hn' => ?_; try simp (disch := omega) only [↓wpre, push_cast, seval, Int.toNat_zero]) | ((first | with_reducible refine (in_c _ _ _ _ _).x fun n' hn' => ?_ | with_reducible refine xfn_intro (in_c _ _ _ _ _) ?_); try simp (disch := omega) only [↓wpre, push_cast, seval, Pm.within]) | ((first | with_reducible refine (only_digitT _ _ hns _ hxs).x fun n' hn' => ?_ | with_reducible refine xfn_intro (only_digitT _ _ hns _ hxs) ?_); try simp (disch := omega) only [↓wpre, push_cast, seval, true_and]))
  all_goals (rw [hR, hp]; clear hq hlow hG hR; grind [Pm.within])
theorem only_signs2 (hns : ¬ Strict G) (s : T) (hs : s.size ≤ 1000000) : AFn Tryz.prog G 260 [.str s, .str signs] H (.bool (Rm.only s signs)) := only_c G H hns s signs (by omega) (by decide) (by decide)
set_option maxHeartbeats 3200000 in
theorem idMember_c (hG : GOk G) (s : T) (hs : s.size ≤ 1000000) : AFn Tryz.prog G 216 [.agg [.int 3, .str s]] H (.int (rId 3 s)) := by
 have hns := hG.ns
 have hR : rId 3 s = if rMember s then (if byteAt signs (rCheckSign (s.extract 0 ((s.size : Int) - 1).toNat)).toNat ≠ byteAt s ((s.size : Int) - 1).toNat then 15 else 0) else 3 := rfl
 have hM : rMember s = (within s.size 4 20 && Rm.only s signs) := rfl
 have hxs : (s.extract 0 ((s.size : Int) - 1).toNat).size ≤ 1000000 := by rw [ByteArray.size_extract]; omega
 have hb := rCheckSign_bound (s.extract 0 ((s.size : Int) - 1).toNat)
 refine AFn.start mix F216 (by simp) fun k hlow => ?_
 have hq := Qt.refl hlow
 have hsz := signs_size
 simp (disch := omega) only [↓wpre, push_cast, seval, c216]
 repeat' (first | ((first | with_reducible refine cnd_ndec (fun hc => ?_) (fun hc => ?_) | with_reducible refine cnd_dec (fun hc => ?_) (fun hc => ?_) | with_reducible refine cnd_nb (fun hc => ?_) (fun hc => ?_) | with_reducible refine cnd_intro (fun hc => ?_) (fun hc => ?_)) <;> (first | (exfalso; omega) | (try simp (disch := omega) only [↓wpre, push_cast, seval, hc, signs_eq]))) | (with_reducible refine anyN_intro fun n' hn' => ?_; try simp (disch := omega) only [↓wpre, push_cast, seval, signs_eq]) | ((first | with_reducible refine (in_c _ _ _ _ _).x fun n' hn' => ?_ | with_reducible refine xfn_intro (in_c _ _ _ _ _) ?_); try simp (disch := omega) only [↓wpre, push_cast, seval, Pm.within]) | ((first | with_reducible refine (only_signs2 _ _ hns _ hs).x fun n' hn' => ?_ | with_reducible refine xfn_intro (only_signs2 _ _ hns _ hs) ?_); try simp (disch := omega) only [↓wpre, push_cast, seval, signs_eq]) | ((first | with_reducible refine (rcheckSign_c _ _ _ hxs).x fun n' hn' => ?_ | with_reducible refine xfn_intro (rcheckSign_c _ _ _ hxs) ?_); try simp (disch := omega) only [↓wpre, push_cast, seval, signs_eq]))
 all_goals (rw [hR, hM]; clear hq hlow hG hR hM hb hsz; (first | grind [Pm.within] | simp_all [Pm.within]))
theorem idDevice_c (hG : GOk G) (s : T) (hs : s.size ≤ 1000000) : AFn Tryz.prog G 216 [.agg [.int 4, .str s]] H (.int (if rDevice s then 0 else 3)) := by
 have hns := hG.ns
 have hM : rDevice s = (decide ((s.size : Int) = 32) && Rm.only s deviceT) := rfl
 refine AFn.start mix F216 (by simp) fun k hlow => ?_
 have hq := Qt.refl hlow
 simp (disch := omega) only [↓wpre, push_cast, seval, c216]
 repeat' (first | ((first | with_reducible refine cnd_ndec (fun hc => ?_) (fun hc => ?_) | with_reducible refine cnd_dec (fun hc => ?_) (fun hc => ?_) | with_reducible refine cnd_nb (fun hc => ?_) (fun hc => ?_) | with_reducible refine cnd_intro (fun hc => ?_) (fun hc => ?_)) <;> (first | (exfalso; omega) | (try simp (disch := omega) only [↓wpre, push_cast, seval, hc, true_and]))) | (with_reducible refine anyN_intro fun n' hn' => ?_; try simp (disch := omega) only [↓wpre, push_cast, seval, true_and]) | ((first | with_reducible refine (only_deviceT _ _ hns _ hs).x fun n' hn' => ?_ | with_reducible refine xfn_intro (only_deviceT _ _ hns _ hs) ?_); try simp (disch := omega) only [↓wpre, push_cast, seval, true_and]))
 all_goals (rw [hM]; clear hq hlow hG hM; grind)
theorem idFault_c (hG : GOk G) (kind : Int) (s : T) (hs : s.size ≤ 1000000) : AFn Tryz.prog G 216 [.agg [.int kind, .str s]] H (.int (rId kind s)) := by
 by_cases h1 : kind = 1
 ·subst h1; exact idMail_c G H hG s hs
 by_cases h2 : kind = 2
 ·subst h2; exact idPhone_c G H hG s hs
 by_cases h3 : kind = 3
 ·subst h3; exact idMember_c G H hG s hs
 by_cases h4 : kind = 4
 ·subst h4; exact idDevice_c G H hG s hs
 have hR : rId kind s = 4 := by rw [rId, if_neg h1, if_neg h2, if_neg h3, if_neg h4]
 rw [hR]
 refine AFn.start mix F216 (by simp) fun k hlow => ?_
 simp (disch := omega) only [↓wpre, push_cast, seval, c216, h1, h2, h3, h4]
theorem decodeGo_of {s : T} (h : ¬ s = ⟨#[]⟩) : Lib.decodeGo s = Utf8.decode s 0 := by
 have := size_pos h
 rw [Lib.decodeGo, if_neg (by omega)]
theorem decodeGo_pos {s : T} (h : ¬ s = ⟨#[]⟩) : 1 ≤ (Lib.decodeGo s).2 := by rw [decodeGo_of h]; exact Lib.width_pos _ _
theorem decodeGo_rune {s : T} (h : ¬ s = ⟨#[]⟩) : (Lib.decodeGo s).1 ≤ 1114111 := by rw [decodeGo_of h]; exact Lib.rune_le _ _
theorem decodeGo_le {s : T} (h : ¬ s = ⟨#[]⟩) : (Lib.decodeGo s).2 ≤ s.size := by
 rw [decodeGo_of h]
 have h1 : s.data.toList ≠ [] := fun e => h (toList_ext e)
 have := Lib.decodeL_le s.data.toList h1
 rw [tlen] at this
 exact this
theorem ptsF_more : ∀ (n m : Nat) (s : T), s.size ≤ n → s.size ≤ m → ptsF n s = ptsF m s
 | 0, 0, _, _, _ => rfl
 | 0, m + 1, s, h, _ => by
  have : s = ⟨#[]⟩ := by
   by_cases h0 : s = ⟨#[]⟩
   ·exact h0
   ·have := size_pos h0; omega
  rw [ptsF, ptsF, if_pos this]
 | n + 1, 0, s, _, h => by
  have : s = ⟨#[]⟩ := by
   by_cases h0 : s = ⟨#[]⟩
   ·exact h0
   ·have := size_pos h0; omega
  rw [ptsF, ptsF, if_pos this]
 | n + 1, m + 1, s, h1, h2 => by
  rw [ptsF, ptsF]
  by_cases h0 : s = ⟨#[]⟩
  ·rw [if_pos h0, if_pos h0]
  ·have hp := decodeGo_pos h0
   have hs := size_pos h0
   rw [if_neg h0, if_neg h0, ptsF_more n m _ (by rw [ByteArray.size_extract]; omega) (by rw [ByteArray.size_extract]; omega)]
theorem pts_nil : pts ⟨#[]⟩ = [] := rfl
theorem pts_cons {s : T} (h : ¬ s = ⟨#[]⟩) : pts s = (if (Lib.decodeGo s).1 = 65533 ∧ (Lib.decodeGo s).2 = 1 then -1 - byteAt s 0 else (Lib.decodeGo s).1) :: pts (s.extract (Lib.decodeGo s).2 s.size) := by
 have hs := size_pos h
 have hp := decodeGo_pos h
 obtain ⟨n, hn⟩ : ∃ n, s.size = n + 1 := ⟨s.size - 1, by omega⟩
 have hu : pts s = ptsF (n + 1) s := by rw [pts, hn]
 rw [hu, ptsF, if_neg h, pts, ptsF_more n _ _ (by rw [ByteArray.size_extract]; omega) (Nat.le_refl _)]
theorem pts_len : ∀ (n : Nat) (s : T), (ptsF n s).length ≤ n
 | 0, _ => Nat.le_refl _
 | n + 1, s => by
  rw [ptsF]
  split
  ·simp
  ·have := pts_len n (s.extract (Lib.decodeGo s).2 s.size)
   simp only [List.length_cons]; omega
theorem byteAt_lt (s : T) (i : Nat) : 0 ≤ byteAt s i ∧ byteAt s i < 256 := by
 unfold byteAt
 have := ((s.data[i]?).getD 0).toNat_lt
 omega
set_option maxHeartbeats 3200000 in
theorem points_run (hU : GU G) (s0 : T) (hs0 : s0.size ≤ 1000000) (n : Nat) : ACalls Tryz.prog G 293 [.str s0] H n fun r H' n' => Sub H H' ∧ ((pts s0 = [] ∧ r = .ls false []) ∨ ∃ o, r = .os o 0 (pts s0).length ∧ H' o = some ⟨3, 1, (pts s0).map fun x => [AV.int x]⟩ ∧ H o = none ∧ pts s0 ≠ []) := by
 refine ACalls.start mix F293 (by simp) fun hlow => ?_
 have hq := Qt.refl hlow
 have hpl : (pts s0).length ≤ 1000000 := Nat.le_trans (pts_len _ _) hs0
 simp (disch := omega) only [↓wpre, push_cast, seval, c293]
 refine xw_loopJ (σ := List Int × T × Option Nat) (fun t => [(0, .str t.2.1), (3, outAV t.2.2 t.1.length)]) (fun t H' n' => pts s0 = t.1 ++ pts t.2.1 ∧ t.2.1.size ≤ s0.size ∧ OutIs n H' t.2.2 3 1 (t.1.map fun x => [AV.int x]) n' ∧ (t.2.2 ≠ none → t.1 ≠ []) ∧ Qt H H' n ∧ n ≤ n') (fun t => t.2.1.size) ([], s0, none) ⟨rfl, Nat.le_refl _, rfl, fun h => (h rfl).elim, hq, Nat.le_refl _⟩ (by simp (disch := omega) only [↓wpre, push_cast, seval, outAV]) ?_
 clear hq
 rintro ⟨d, s, oid⟩ fr H' n1 ⟨hp, hs, ho, hne, hq, hn1⟩ hh
 simp only [has_nil, has_cons, and_true] at hh hp hs ho hne
 by_cases h0 : s = ⟨#[]⟩
 ·simp (disch := omega) only [↓wpre, push_cast, seval, hh, h0]
  rw [h0, pts_nil, List.append_nil] at hp
  refine fin_intro (Sub.refl _) ⟨hq.1, ?_⟩
  rw [hp]
  cases oid with
  | none =>
   have : (d.map fun x => [AV.int x]) = [] := ho
   exact .inl ⟨by simpa using this, rfl⟩
  | some o => exact .inr ⟨o, rfl, ho.1, by
    cases hx : H o with
    | none => rfl
    | some q => exact absurd (hlow o q hx) (by have := ho.2.1; omega), hne (by simp)⟩
 ·have hdp := decodeGo_pos h0
  have hdr := decodeGo_rune h0
  have hdl := decodeGo_le h0
  have hsz := size_pos h0
  have hpc := pts_cons h0
  have hby := byteAt_lt s 0
  simp (disch := omega) only [↓wpre, push_cast, seval, hh, h0]
  refine (decode_c G _ hU s).x fun n2 hn2 => ?_
  generalize Lib.decodeGo s = dd at *
  obtain ⟨c, w⟩ := dd
  simp only at *
  obtain ⟨p, hpe⟩ : ∃ p : Int, (if c = 65533 ∧ w = 1 then -1 - byteAt s 0 else (c : Int)) = p := ⟨_, rfl⟩
  rw [hpe] at hpc
  rw [hpc] at hp
  have hdl2 : d.length + 1 ≤ 1000000 := by have := congrArg List.length hp; simp at this; omega
  simp (disch := omega) only [↓wpre, push_cast, seval, hh, Int.toNat_zero]
  repeat' (first | ((first | with_reducible refine cnd_ndec (fun hc => ?_) (fun hc => ?_) | with_reducible refine cnd_dec (fun hc => ?_) (fun hc => ?_) | with_reducible refine cnd_nb (fun hc => ?_) (fun hc => ?_) | with_reducible refine cnd_intro (fun hc => ?_) (fun hc => ?_)) <;> (first | (exfalso; omega) | (try simp (disch := omega) only [↓wpre, push_cast, seval, hc, hh, Int.toNat_zero]))) | (with_reducible refine anyN_intro fun n' hn' => ?_; try simp (disch := omega) only [↓wpre, push_cast, seval, hh, Int.toNat_zero]) | fail)
  all_goals
   first
    | (rw [if_pos ⟨by omega, by omega⟩] at hpe; have hw1 : 1 = w := by omega)
    | (rw [if_neg (by omega)] at hpe; have hw1 : w = w := rfl)
   simp only [hpe]
   refine xapp_out (n0 := n) (rows := d.map fun x => [AV.int x]) (by (refine OutIs.mono (n := n1) ?_ (by omega); repeat (first | exact ho | refine OutIs.put ?_ (by omega) | refine OutIs.far ?_ (by omega)))) (by simp) (by intro r hr; simp at hr; subst hr; exact ⟨rfl, rfl⟩) (by simp only [List.length_map]; omega) ?_
   simp (disch := omega) only [↓wpre, push_cast, seval, hh]
   refine againJ (d ++ [p], s.extract w s.size, some n2) (by dsimp only; rw [ByteArray.size_extract]; omega) ⟨by rw [hp]; simp, by dsimp only; rw [ByteArray.size_extract]; omega, by dsimp only; rw [List.map_append]; exact OutIs.new (n0 := n) (n := n2) (by omega), fun _ => by simp, ?_, by omega⟩ (by simp (disch := omega) only [↓wpre, push_cast, seval, hh]; (try simp [outAV]); (try rw [← hw1]))
   exact (Qt.dropO (n := n2) (n0 := n) (E := 3) (sz := 1) (rows := d.map fun x => [AV.int x]) (by (refine OutIs.mono (n := n1) ?_ (by omega); repeat (first | exact ho | refine OutIs.put ?_ (by omega) | refine OutIs.far ?_ (by omega)))) hq).hu (by omega)
abbrev lsP (l : List Int) : AV := .ls (decide (l ≠ [])) (l.map fun x => [AV.int x])
theorem plain_ints (l : List Int) : ∀ r ∈ l.map (fun x => [AV.int x]), plain r = true := fun r hr => by
 obtain ⟨s, _, rfl⟩ := List.mem_map.1 hr; rfl
theorem points_c (hU : GU G) (s : T) (hs : s.size ≤ 1000000) : AFn Tryz.prog G 293 [.str s] H (lsP (pts s)) := by
 intro n
 refine ACalls.frz (points_run G H hU s hs n) ?_
 rintro r H1 n1 ⟨h1, ⟨h2, rfl⟩ | ⟨o, rfl, h3, h4, h5⟩⟩
 ·exact ⟨fun _ => none, H, 0, fun _ _ h => (by cases h), h1, fun _ _ h => (by cases h), by rw [h2]; exact ⟨rfl, rfl⟩⟩
 ·refine ⟨Ab.only o ⟨3, 1, (pts s).map fun x => [AV.int x]⟩, H, 1, only_sub h3, h1, fun j x hj => ?_, ?_, rfl⟩
  ·unfold Ab.only at hj
   split at hj
   ·rename_i e; subst e; exact h4
   ·cases hj
  ·rw [frz_os_plain (plain_ints _) (by simp)]
   simp [lsP, h5]
set_option maxHeartbeats 3200000 in
theorem rvalue_c (hU : GU G) (v : Val) (hs : v.text.size ≤ 1000000) : AFn Tryz.prog G 263 [.agg v.c] H (.int (rValue v)) := by
 obtain ⟨kind, t, num⟩ := v
 have hs : t.size ≤ 1000000 := hs
 have hpl : (pts t).length ≤ 1000000 := Nat.le_trans (pts_len _ _) hs
 refine AFn.start mix F263 (by simp) fun k hlow => ?_
 have hq := Qt.refl hlow
 by_cases hk : within kind 1 4 = false
 ·have hR : rValue ⟨kind, t, num⟩ = 4 := if_pos hk
  simp (disch := omega) only [↓wpre, push_cast, seval, c263]
  (first | with_reducible refine (in_c _ _ _ _ _).x fun n' hn' => ?_ | with_reducible refine xfn_intro (in_c _ _ _ _ _) ?_); try simp (disch := omega) only [↓wpre, push_cast, seval, hk]
  rw [hR]
 have hk1 : within kind 1 4 = true := by simpa using hk
 by_cases h1 : kind = 1
 ·subst h1
  simp (disch := omega) only [↓wpre, push_cast, seval, c263]
  (first | with_reducible refine (in_c _ _ _ _ _).x fun n' hn' => ?_ | with_reducible refine xfn_intro (in_c _ _ _ _ _) ?_); try simp (disch := omega) only [↓wpre, push_cast, seval, hk1]
  by_cases hn : num = 0
  ·by_cases hz : (200 : Int) < t.size
   ·have hR : rValue ⟨1, t, num⟩ = 2 := by simp [rValue, hk1, hn, hz]
    rw [hR]
    simp (disch := omega) only [↓wpre, push_cast, seval, hn, hz]
   ·have hR : rValue ⟨1, t, num⟩ = if rText t = false then 3 else 0 := by simp [rValue, hk1, hn, hz]
    rw [hR]
    simp (disch := omega) only [↓wpre, push_cast, seval, hn, hz]
    (first | with_reducible refine (points_c _ _ hU t hs).x fun n' hn' => ?_ | with_reducible refine xfn_intro (points_c _ _ hU t hs) ?_); try simp (disch := omega) only [↓wpre, push_cast, seval, true_and]
    have hT : rText t = (pts t).all fun p => !(decide (p < 32) || decide (p = 127)) := rfl
    generalize rText t = rt at *
    generalize pts t = ps at *
    refine xw_loopJ (σ := List Int × List Int) (fun u => [(25, lsP ps), (26, .int ps.length), (27, .int u.1.length)]) (fun u H' n' => ps = u.1 ++ u.2 ∧ (u.2.all fun p => !(decide (p < 32) || decide (p = 127))) = rt ∧ Qt H H' n') (fun u => u.2.length) ([], ps) ⟨rfl, hT.symm, by exact Qt.mono (n := k) (by repeat (first | exact hq | refine Qt.hu ?_ (by omega))) (by omega)⟩ (by simp (disch := omega) only [↓wpre, push_cast, seval]) ?_
    clear hT hq hR
    rintro ⟨a, b⟩ fr H' n ⟨hab, hf, hq⟩ hh
    simp only [has_nil, has_cons, and_true] at hh hab hf
    have hll : ps.length = a.length + b.length := by rw [hab]; simp
    cases b with
    | nil =>
     have hnl : ¬ (a.length : Int) < ps.length := by rw [hll]; simp
     rw [← hf]
     simp (disch := omega) only [↓wpre, push_cast, seval, hh, hnl]
     first | exact hq.1 | exact ⟨rfl, hq.1⟩
    | cons p b =>
     have hlt : (a.length : Int) < ps.length := by rw [hll]; simp only [List.length_cons]; omega
     have hx : ps[a.length]? = some p := by rw [hab]; simp
     simp (disch := omega) only [↓wpre, push_cast, seval, hh, hlt, even_ints', aidx_at _ hx]
     repeat' (first | ((first | with_reducible refine cnd_ndec (fun hc => ?_) (fun hc => ?_) | with_reducible refine cnd_dec (fun hc => ?_) (fun hc => ?_) | with_reducible refine cnd_nb (fun hc => ?_) (fun hc => ?_) | with_reducible refine cnd_intro (fun hc => ?_) (fun hc => ?_)) <;> (first | (exfalso; omega) | (try simp (disch := omega) only [↓wpre, push_cast, seval, hc, hh]))) | (with_reducible refine anyN_intro fun n' hn' => ?_; try simp (disch := omega) only [↓wpre, push_cast, seval, hh]) | fail)
     all_goals first
      | (refine againJ (a ++ [p], b) (Nat.lt_succ_self _) ⟨by rw [hab]; simp, by rw [← hf, List.all_cons]; simp_all, by exact Qt.mono (n := n) (by repeat (first | exact hq | refine Qt.hu ?_ (by omega))) (by omega)⟩ (by simp (disch := omega) only [↓wpre, push_cast, seval, hh]; all_goals (try simp only [AV.lit.injEq, Value.int.injEq, Value.bool.injEq, true_and, and_true]); all_goals (try (repeat' apply And.intro)); all_goals (first | rfl | omega | simp_all | skip)))
      | (refine ⟨?_, hq.1⟩; rw [← hf, List.all_cons]; simp_all)
      | trace_state
  ·have hR : rValue ⟨1, t, num⟩ = 3 := by simp [rValue, hk1, hn]
   rw [hR]
   simp (disch := omega) only [↓wpre, push_cast, seval, hn]
 by_cases ht : t = ⟨#[]⟩
 ·have hR : rValue ⟨kind, t, num⟩ = if within num (rLow kind) (rHigh kind) = false then 1 else 0 := by simp [rValue, hk1, h1, ht]
  rw [hR]
  have hk2 : kind = 2 ∨ kind = 3 ∨ kind = 4 := by simp only [within, decide_eq_true_eq] at hk1; omega
  have t2 : Int.toNat 2 = 2 := rfl
  have t3 : Int.toNat 3 = 3 := rfl
  have t4 : Int.toNat 4 = 4 := rfl
  rcases hk2 with rfl | rfl | rfl
  all_goals
   simp (disch := omega) only [↓wpre, push_cast, seval, c263]
   (first | with_reducible refine (in_c _ _ _ _ _).x fun n' hn' => ?_ | with_reducible refine xfn_intro (in_c _ _ _ _ _) ?_); try simp (disch := omega) only [↓wpre, push_cast, seval, hk1]
   simp (disch := omega) only [↓wpre, push_cast, seval, ht, t2, t3, t4, Nat.mul_one, List.getElem?_cons_succ, List.getElem?_cons_zero]
   refine anyN_intro fun n2 hn2 => ?_
   simp (disch := omega) only [↓wpre, push_cast, seval, true_and]
   repeat' (first | ((first | with_reducible refine cnd_ndec (fun hc => ?_) (fun hc => ?_) | with_reducible refine cnd_dec (fun hc => ?_) (fun hc => ?_) | with_reducible refine cnd_nb (fun hc => ?_) (fun hc => ?_) | with_reducible refine cnd_intro (fun hc => ?_) (fun hc => ?_)) <;> (first | (exfalso; omega) | (try simp (disch := omega) only [↓wpre, push_cast, seval, hc, true_and]))) | (with_reducible refine anyN_intro fun n' hn' => ?_; try simp (disch := omega) only [↓wpre, push_cast, seval, true_and]) | ((first | with_reducible refine (in_c _ _ _ _ _).x fun n' hn' => ?_ | with_reducible refine xfn_intro (in_c _ _ _ _ _) ?_); try simp (disch := omega) only [↓wpre, push_cast, seval, true_and]))
   all_goals (simp only [rLow, rHigh]; simp_all)
 ·have hR : rValue ⟨kind, t, num⟩ = 3 := by simp [rValue, hk1, h1, ht]
  rw [hR]
  simp (disch := omega) only [↓wpre, push_cast, seval, c263]
  (first | with_reducible refine (in_c _ _ _ _ _).x fun n' hn' => ?_ | with_reducible refine xfn_intro (in_c _ _ _ _ _) ?_); try simp (disch := omega) only [↓wpre, push_cast, seval, hk1]
  simp (disch := omega) only [↓wpre, push_cast, seval, h1, ht]
def SmallF (l : List Fld) : Prop := ∀ f ∈ l, f.name.size ≤ 1000 ∧ f.val.text.size ≤ 1000
set_option maxHeartbeats 3200000 in
theorem rfields_c (hU : GU G) (nz : Bool) (l : List Fld) (hk : SmallF l) (hl0 : l.length ≤ 1000) : AFn Tryz.prog G 222 [.ls nz (l.map Fld.c)] H (.int (rFields l)) := by
 have hns := hU.ok.ns
 refine AFn.start mix F222 (by simp) fun k hlow => ?_
 by_cases hl : (30 : Int) < l.length
 ·simp (disch := omega) only [↓wpre, push_cast, seval, c222, hl]
  rw [rFields, if_pos (by omega)]
 simp (disch := omega) only [↓wpre, push_cast, seval, c222, hl]
 have hgo : rFields l = rFieldsGo ⟨#[]⟩ l := by rw [rFields, if_neg (by omega)]
 rw [hgo]
 generalize hrr : rFieldsGo ⟨#[]⟩ l = res
 refine xw_loopJ (σ := List Fld × List Fld × T) (fun t => [(3, .str t.2.2), (10, .ls nz (l.map Fld.c)), (11, .int l.length), (12, .int t.1.length)]) (fun t H' n' => l = t.1 ++ t.2.1 ∧ rFieldsGo t.2.2 t.2.1 = res ∧ Qt H H' n') (fun t => t.2.1.length) ([], l, ⟨#[]⟩) ⟨rfl, hrr, .refl hlow⟩ (by simp (disch := omega) only [↓wpre, push_cast, seval]) ?_
 clear hgo hrr
 rintro ⟨a, b, last⟩ fr H' n ⟨hab, hf, hq⟩ hh
 simp only [has_nil, has_cons, and_true] at hh hab hf
 have hll : l.length = a.length + b.length := by rw [hab]; simp
 cases b with
 | nil =>
  have hnl : ¬ (a.length : Int) < l.length := by rw [hll]; simp
  rw [rFieldsGo] at hf
  rw [← hf]
  simp (disch := omega) only [↓wpre, push_cast, seval, hh, hnl]
  first | exact hq.1 | exact ⟨rfl, hq.1⟩
 | cons x b =>
  have hlt : (a.length : Int) < l.length := by rw [hll]; simp only [List.length_cons]; omega
  have hx : l[a.length]? = some x := by rw [hab]; simp
  have hsx := hk x (by rw [hab]; simp)
  have hs1 : x.name.size ≤ 1000000 := by omega
  have hs2 : x.val.text.size ≤ 1000000 := by omega
  rw [rFieldsGo] at hf
  have hret : ∀ e : Int, rFieldErr last x = e → e ≠ 0 → AV.int e = AV.int res := fun e h1 h2 => by rw [← hf, if_pos (by rw [h1]; exact h2), h1]
  have hend : rFieldErr last x = 0 → rFieldsGo x.name b = res := fun e => by rw [← hf, if_neg (by simp [e])]
  clear hf
  simp (disch := omega) only [↓wpre, push_cast, seval, hh, hlt, even_flds, aidx_at _ hx]
  repeat' (first | ((first | with_reducible refine cnd_ndec (fun hc => ?_) (fun hc => ?_) | with_reducible refine cnd_dec (fun hc => ?_) (fun hc => ?_) | with_reducible refine cnd_nb (fun hc => ?_) (fun hc => ?_) | with_reducible refine cnd_intro (fun hc => ?_) (fun hc => ?_)) <;> (first | (exfalso; omega) | (try simp (disch := omega) only [↓wpre, push_cast, seval, hc, hh]))) | (with_reducible refine anyN_intro fun n' hn' => ?_; try simp (disch := omega) only [↓wpre, push_cast, seval, hh]) | ((first | with_reducible refine (rkey_c _ _ hns _ hs1).x fun n' hn' => ?_ | with_reducible refine xfn_intro (rkey_c _ _ hns _ hs1) ?_); try simp (disch := omega) only [↓wpre, push_cast, seval, hh]) | ((first | with_reducible refine (rvalue_c _ _ hU x.val hs2).x fun n' hn' => ?_ | with_reducible refine xfn_intro (rvalue_c _ _ hU x.val hs2) ?_); try simp (disch := omega) only [↓wpre, push_cast, seval, hh]))
  all_goals first
   | (refine againJ (a ++ [x], b, x.name) (Nat.lt_succ_self _) ⟨by rw [hab]; simp, hend ?_, by exact Qt.mono (n := n) (by repeat (first | exact hq | refine Qt.hu ?_ (by omega))) (by omega)⟩ (by simp (disch := omega) only [↓wpre, push_cast, seval, hh]; all_goals (try simp only [AV.lit.injEq, Value.int.injEq, Value.bool.injEq, true_and, and_true]); all_goals (try (repeat' apply And.intro)); all_goals (first | rfl | omega | simp_all | skip)); (grind [rFieldErr]))
   | (refine ⟨hret _ ?_ ?_, by exact (Qt.mono (n := n) (by repeat (first | exact hq | refine Qt.hu ?_ (by omega))) (Nat.le_refl _)).1⟩ <;> (grind [rFieldErr]))
/-! An event. -/
theorem first_c (f1 f2 : FuncId) (c1 c2 : List AV) (x y : Int) (h1 : ∀ H, AFn Tryz.prog G f1 c1 H (.int x)) (h2 : ∀ H, AFn Tryz.prog G f2 c2 H (.int y)) : AFn Tryz.prog G 219 [.ls true [[.fn (.func f1) c1], [.fn (.func f2) c2]]] H (.int (if x ≠ 0 then x else y)) := by
 refine AFn.start mix F219 (by simp) fun k hlow => ?_
 simp (disch := omega) only [↓wpre, push_cast, seval, c219]
 refine xw_loopJ (σ := Nat) (fun i => [(6, .ls true [[.fn (.func f1) c1], [.fn (.func f2) c2]]), (7, .int 2), (8, .int i)]) (fun i H' n' => i ≤ 2 ∧ (1 ≤ i → x = 0) ∧ (2 ≤ i → y = 0) ∧ Qt H H' n') (fun i => 2 - i) 0 ⟨by omega, by omega, by omega, .refl hlow⟩ (by simp (disch := omega) only [↓wpre, push_cast, seval]) ?_
 rintro i fr H' n ⟨hi, hx, hy, hq⟩ hh
 simp only [has_nil, has_cons, and_true] at hh hi hx hy
 have he : Even 1 [[AV.fn (.func f1) c1], [AV.fn (.func f2) c2]] = True := eq_true fun r hr => by
  simp only [List.mem_cons, List.not_mem_nil, or_false] at hr
  rcases hr with rfl | rfl <;> exact ⟨rfl, rfl⟩
 have a0 : ∀ H' : Nat → Option AObj, aidx H' 1 (.ls true [[.fn (.func f1) c1], [.fn (.func f2) c2]]) (.int 0) = some (.pp [.fn (.func f1) c1]) := fun H' => aidx_at (c := fun p : FuncId × List AV => [AV.fn (.func p.1) p.2]) (l := [(f1, c1), (f2, c2)]) (j := 0) rfl rfl
 have a1 : ∀ H' : Nat → Option AObj, aidx H' 1 (.ls true [[.fn (.func f1) c1], [.fn (.func f2) c2]]) (.int 1) = some (.pp [.fn (.func f2) c2]) := fun H' => aidx_at (c := fun p : FuncId × List AV => [AV.fn (.func p.1) p.2]) (l := [(f1, c1), (f2, c2)]) (j := 1) rfl rfl
 have hcs : i = 0 ∨ i = 1 ∨ i = 2 := by omega
 rcases hcs with rfl | rfl | rfl
 ·simp (disch := omega) only [↓wpre, push_cast, seval, hh, he, a0]
  refine (h1 _).x fun n2 hn2 => ?_
  simp (disch := omega) only [↓wpre, push_cast, seval, hh]
  (first | with_reducible refine cnd_ndec (fun hc => ?_) (fun hc => ?_) | with_reducible refine cnd_dec (fun hc => ?_) (fun hc => ?_) | with_reducible refine cnd_nb (fun hc => ?_) (fun hc => ?_) | with_reducible refine cnd_intro (fun hc => ?_) (fun hc => ?_)) <;> (first | (exfalso; omega) | (try simp (disch := omega) only [↓wpre, push_cast, seval, hc, hh]))
  ·first | exact ⟨by rw [if_pos hc], hq.1⟩ | exact hq.1
  ·refine againJ 1 (by omega) ⟨by omega, fun _ => by simpa using hc, by omega, by exact Qt.mono (n := n) (by repeat (first | exact hq | refine Qt.hu ?_ (by omega))) (by omega)⟩ (by simp (disch := omega) only [↓wpre, push_cast, seval, hh])
 ·have hx0 := hx (by omega)
  simp (disch := omega) only [↓wpre, push_cast, seval, hh, he, a1]
  refine (h2 _).x fun n2 hn2 => ?_
  simp (disch := omega) only [↓wpre, push_cast, seval, hh]
  (first | with_reducible refine cnd_ndec (fun hc => ?_) (fun hc => ?_) | with_reducible refine cnd_dec (fun hc => ?_) (fun hc => ?_) | with_reducible refine cnd_nb (fun hc => ?_) (fun hc => ?_) | with_reducible refine cnd_intro (fun hc => ?_) (fun hc => ?_)) <;> (first | (exfalso; omega) | (try simp (disch := omega) only [↓wpre, push_cast, seval, hc, hh]))
  ·first | exact hq.1 | exact ⟨by rw [if_neg (by simp [hx0])], hq.1⟩
  ·refine againJ 2 (by omega) ⟨by omega, fun _ => hx0, fun _ => by simpa using hc, by exact Qt.mono (n := n) (by repeat (first | exact hq | refine Qt.hu ?_ (by omega))) (by omega)⟩ (by simp (disch := omega) only [↓wpre, push_cast, seval, hh])
 ·have hx0 := hx (by omega)
  have hy0 := hy (by omega)
  simp (disch := omega) only [↓wpre, push_cast, seval, hh]
  first | exact hq.1 | exact ⟨by simp [hx0, hy0], hq.1⟩
end Go.Proofs.YtblhbafoncfhdaaGreatDoor
