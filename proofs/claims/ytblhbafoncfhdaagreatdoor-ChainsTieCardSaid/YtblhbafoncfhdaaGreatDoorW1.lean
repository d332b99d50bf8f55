/- Contracts of functions of the program: each computes what its model says; the conditions stand at each. -/
import Derived.Test.YtblhbafoncfhdaaGreatDoorP1
import Derived.Test.YtblhbafoncfhdaaGreatDoorTc3
set_option linter.unusedSimpArgs false
set_option linter.unusedVariables false
set_option maxRecDepth 20000
namespace Go.Proofs.YtblhbafoncfhdaaGreatDoor
open Go Go.Ab Go.Pm
theorem mix : Tryz.prog.follows .mixedOrders = true := by kernel_rfl
variable (G : Nat → AV) (H : Nat → Option AObj)
theorem within_c (n lo hi : Int) : AFn Tryz.prog G 73 [.int n, .int lo, .int hi] H (.bool (within n lo hi)) := by
 refine AFn.start mix F73 (by simp) fun k hlow => ?_
 simp (disch := omega) only [↓wpre, push_cast, seval, c73]
 (first | with_reducible refine cnd_ndec (fun hc => ?_) (fun hc => ?_) | with_reducible refine cnd_dec (fun hc => ?_) (fun hc => ?_) | with_reducible refine cnd_nb (fun hc => ?_) (fun hc => ?_) | with_reducible refine cnd_intro (fun hc => ?_) (fun hc => ?_)) <;> (first | (exfalso; omega) | (try simp (disch := omega) only [↓wpre, push_cast, seval, hc, Pm.within]))
 all_goals simp_all
theorem pwithin_c (n lo hi : Int) : AFn Tryz.prog G 73 [.int n, .int lo, .int hi] H (.bool (within n lo hi)) := within_c G H n lo hi
theorem small_c (c : Int) : AFn Tryz.prog G 140 [.lit (.int .u8 c)] H (.bool (small c)) := by
 refine AFn.start mix F140 (by simp) fun k hlow => ?_
 simp (disch := omega) only [↓wpre, push_cast, seval, c140]
 (first | with_reducible refine cnd_ndec (fun hc => ?_) (fun hc => ?_) | with_reducible refine cnd_dec (fun hc => ?_) (fun hc => ?_) | with_reducible refine cnd_nb (fun hc => ?_) (fun hc => ?_) | with_reducible refine cnd_intro (fun hc => ?_) (fun hc => ?_)) <;> (first | (exfalso; omega) | (try simp (disch := omega) only [↓wpre, push_cast, seval, hc, Pm.small]))
theorem digit_c (c : Int) : AFn Tryz.prog G 90 [.lit (.int .u8 c)] H (.bool (digit c)) := by
 refine AFn.start mix F90 (by simp) fun k hlow => ?_
 simp (disch := omega) only [↓wpre, push_cast, seval, c90]
 (first | with_reducible refine cnd_ndec (fun hc => ?_) (fun hc => ?_) | with_reducible refine cnd_dec (fun hc => ?_) (fun hc => ?_) | with_reducible refine cnd_nb (fun hc => ?_) (fun hc => ?_) | with_reducible refine cnd_intro (fun hc => ?_) (fun hc => ?_)) <;> (first | (exfalso; omega) | (try simp (disch := omega) only [↓wpre, push_cast, seval, hc, Pm.digit]))
theorem capital_c (c : Int) : AFn Tryz.prog G 162 [.lit (.int .u8 c)] H (.bool (capital c)) := by
 refine AFn.start mix F162 (by simp) fun k hlow => ?_
 simp (disch := omega) only [↓wpre, push_cast, seval, c162]
 (first | with_reducible refine cnd_ndec (fun hc => ?_) (fun hc => ?_) | with_reducible refine cnd_dec (fun hc => ?_) (fun hc => ?_) | with_reducible refine cnd_nb (fun hc => ?_) (fun hc => ?_) | with_reducible refine cnd_intro (fun hc => ?_) (fun hc => ?_)) <;> (first | (exfalso; omega) | (try simp (disch := omega) only [↓wpre, push_cast, seval, hc, Pm.capital]))
theorem keyC_c (c : Int) : AFn Tryz.prog G 141 [.lit (.int .u8 c)] H (.bool (keyC c)) := by
 refine AFn.start mix F141 (by simp) fun k hlow => ?_
 simp (disch := omega) only [↓wpre, push_cast, seval, c141]
 repeat' (first | ((first | with_reducible refine cnd_ndec (fun hc => ?_) (fun hc => ?_) | with_reducible refine cnd_dec (fun hc => ?_) (fun hc => ?_) | with_reducible refine cnd_nb (fun hc => ?_) (fun hc => ?_) | with_reducible refine cnd_intro (fun hc => ?_) (fun hc => ?_)) <;> (first | (exfalso; omega) | (try simp (disch := omega) only [↓wpre, push_cast, seval, hc, true_and]))) | (with_reducible refine anyN_intro fun n' hn' => ?_; try simp (disch := omega) only [↓wpre, push_cast, seval, true_and]) | ((first | with_reducible refine (small_c _ _ _).x fun n' hn' => ?_ | with_reducible refine xfn_intro (small_c _ _ _) ?_); try simp (disch := omega) only [↓wpre, push_cast, seval, true_and]) | ((first | with_reducible refine (digit_c _ _ _).x fun n' hn' => ?_ | with_reducible refine xfn_intro (digit_c _ _ _) ?_); try simp (disch := omega) only [↓wpre, push_cast, seval, true_and]))
 all_goals simp_all [keyC]
theorem mailC_c (c : Int) : AFn Tryz.prog G 165 [.lit (.int .u8 c)] H (.bool (mailC c)) := by
 refine AFn.start mix F165 (by simp) fun k hlow => ?_
 simp (disch := omega) only [↓wpre, push_cast, seval, c165]
 repeat' (first | ((first | with_reducible refine cnd_ndec (fun hc => ?_) (fun hc => ?_) | with_reducible refine cnd_dec (fun hc => ?_) (fun hc => ?_) | with_reducible refine cnd_nb (fun hc => ?_) (fun hc => ?_) | with_reducible refine cnd_intro (fun hc => ?_) (fun hc => ?_)) <;> (first | (exfalso; omega) | (try simp (disch := omega) only [↓wpre, push_cast, seval, hc, true_and]))) | (with_reducible refine anyN_intro fun n' hn' => ?_; try simp (disch := omega) only [↓wpre, push_cast, seval, true_and]) | ((first | with_reducible refine (small_c _ _ _).x fun n' hn' => ?_ | with_reducible refine xfn_intro (small_c _ _ _) ?_); try simp (disch := omega) only [↓wpre, push_cast, seval, true_and]) | ((first | with_reducible refine (digit_c _ _ _).x fun n' hn' => ?_ | with_reducible refine xfn_intro (digit_c _ _ _) ?_); try simp (disch := omega) only [↓wpre, push_cast, seval, true_and]))
 all_goals simp_all [mailC]
theorem labelC_c (c : Int) : AFn Tryz.prog G 230 [.lit (.int .u8 c)] H (.bool (labelC c)) := by
 refine AFn.start mix F230 (by simp) fun k hlow => ?_
 simp (disch := omega) only [↓wpre, push_cast, seval, c230]
 repeat' (first | ((first | with_reducible refine cnd_ndec (fun hc => ?_) (fun hc => ?_) | with_reducible refine cnd_dec (fun hc => ?_) (fun hc => ?_) | with_reducible refine cnd_nb (fun hc => ?_) (fun hc => ?_) | with_reducible refine cnd_intro (fun hc => ?_) (fun hc => ?_)) <;> (first | (exfalso; omega) | (try simp (disch := omega) only [↓wpre, push_cast, seval, hc, true_and]))) | (with_reducible refine anyN_intro fun n' hn' => ?_; try simp (disch := omega) only [↓wpre, push_cast, seval, true_and]) | ((first | with_reducible refine (small_c _ _ _).x fun n' hn' => ?_ | with_reducible refine xfn_intro (small_c _ _ _) ?_); try simp (disch := omega) only [↓wpre, push_cast, seval, true_and]) | ((first | with_reducible refine (digit_c _ _ _).x fun n' hn' => ?_ | with_reducible refine xfn_intro (digit_c _ _ _) ?_); try simp (disch := omega) only [↓wpre, push_cast, seval, true_and]))
 all_goals simp_all [labelC]
theorem memberC_c (c : Int) : AFn Tryz.prog G 168 [.lit (.int .u8 c)] H (.bool (memberC c)) := by
 refine AFn.start mix F168 (by simp) fun k hlow => ?_
 simp (disch := omega) only [↓wpre, push_cast, seval, c168]
 repeat' (first | ((first | with_reducible refine cnd_ndec (fun hc => ?_) (fun hc => ?_) | with_reducible refine cnd_dec (fun hc => ?_) (fun hc => ?_) | with_reducible refine cnd_nb (fun hc => ?_) (fun hc => ?_) | with_reducible refine cnd_intro (fun hc => ?_) (fun hc => ?_)) <;> (first | (exfalso; omega) | (try simp (disch := omega) only [↓wpre, push_cast, seval, hc, true_and]))) | (with_reducible refine anyN_intro fun n' hn' => ?_; try simp (disch := omega) only [↓wpre, push_cast, seval, true_and]) | ((first | with_reducible refine (capital_c _ _ _).x fun n' hn' => ?_ | with_reducible refine xfn_intro (capital_c _ _ _) ?_); try simp (disch := omega) only [↓wpre, push_cast, seval, true_and]) | ((first | with_reducible refine (digit_c _ _ _).x fun n' hn' => ?_ | with_reducible refine xfn_intro (digit_c _ _ _) ?_); try simp (disch := omega) only [↓wpre, push_cast, seval, true_and]))
 all_goals simp_all [memberC]
theorem deviceC_c (c : Int) : AFn Tryz.prog G 169 [.lit (.int .u8 c)] H (.bool (deviceC c)) := by
 refine AFn.start mix F169 (by simp) fun k hlow => ?_
 simp (disch := omega) only [↓wpre, push_cast, seval, c169]
 repeat' (first | ((first | with_reducible refine cnd_ndec (fun hc => ?_) (fun hc => ?_) | with_reducible refine cnd_dec (fun hc => ?_) (fun hc => ?_) | with_reducible refine cnd_nb (fun hc => ?_) (fun hc => ?_) | with_reducible refine cnd_intro (fun hc => ?_) (fun hc => ?_)) <;> (first | (exfalso; omega) | (try simp (disch := omega) only [↓wpre, push_cast, seval, hc, true_and]))) | (with_reducible refine anyN_intro fun n' hn' => ?_; try simp (disch := omega) only [↓wpre, push_cast, seval, true_and]) | ((first | with_reducible refine (digit_c _ _ _).x fun n' hn' => ?_ | with_reducible refine xfn_intro (digit_c _ _ _) ?_); try simp (disch := omega) only [↓wpre, push_cast, seval, true_and]))
 all_goals simp_all [deviceC]
 all_goals omega
theorem bytesOf_get {s : ByteArray} {i : Nat} (h : i < s.size) : (bytesOf s)[i]? = some (byteAt s i) := by
 have h : i < s.data.size := h
 simp only [bytesOf, byteAt, List.getElem?_map, Array.getElem?_toList, Array.getElem?_eq_getElem h, Option.map_some, Option.getD_some]
theorem all_c (s : ByteArray) (hs : s.size ≤ 9223372036854775807) (f : FuncId) (p : Int → Bool) (hp : ∀ H c, AFn Tryz.prog G f [.lit (.int .u8 c)] H (.bool (p c))) : AFn Tryz.prog G 89 [.str s, .fn (.func f) []] H (.bool (allB s p)) := by
 refine AFn.start mix F89 (by simp) fun k hlow => ?_
 simp (disch := omega) only [↓wpre, push_cast, seval, c89]
 refine xw_loopJ (σ := Nat) (fun i => [(0, .str s), (1, .fn (.func f) []), (7, .int s.size), (8, .int i)]) (fun i H' n' => i ≤ s.size ∧ ((bytesOf s).drop i).all p = allB s p ∧ Qt H H' n') (fun i => s.size - i) 0 ⟨Nat.zero_le _, rfl, .refl hlow⟩ ?_ ?_
 ·simp (disch := omega) only [↓wpre, push_cast, seval]
 rintro i fr H' n ⟨hi, hf, hq⟩ hh
 simp only [has_nil, has_cons, and_true] at hh
 have hlen : (bytesOf s).length = s.size := by simp only [bytesOf, List.length_map]; rfl
 by_cases hlt : (i : Int) < s.size
 ·have hi' : i < s.size := by omega
  rw [List.drop_eq_getElem_cons (by omega), List.all_cons] at hf
  have hb : (bytesOf s)[i]'(by omega) = byteAt s i := by
   have := bytesOf_get hi'
   rw [List.getElem?_eq_getElem (by omega)] at this
   exact Option.some.inj this
  rw [hb] at hf
  simp (disch := omega) only [↓wpre, push_cast, seval, hh, hlt, Int.toNat_natCast]
  refine (hp _ _).x fun n' hn => ?_
  simp (disch := omega) only [↓wpre, push_cast, seval]
  (first | with_reducible refine cnd_ndec (fun hc => ?_) (fun hc => ?_) | with_reducible refine cnd_dec (fun hc => ?_) (fun hc => ?_) | with_reducible refine cnd_nb (fun hc => ?_) (fun hc => ?_) | with_reducible refine cnd_intro (fun hc => ?_) (fun hc => ?_)) <;> (first | (exfalso; omega) | (try simp (disch := omega) only [↓wpre, push_cast, seval, hc, hh, Int.toNat_natCast]))
  ·rw [hc, Bool.false_and] at hf
   rw [← hf]
   exact ⟨rfl, hq.1⟩
  ·rw [hc, Bool.true_and] at hf
   refine againJ (i + 1) (by omega) ⟨hi', hf, ?_⟩ ?_
   ·exact Qt.mono (n := n) (by repeat (first | exact hq | refine Qt.hu ?_ (by omega))) (by omega)
   ·simp (disch := omega) only [↓wpre, push_cast, seval, hh]
 ·have : s.size = i := by omega
  rw [List.drop_eq_nil_of_le (by omega)] at hf
  simp (disch := omega) only [↓wpre, push_cast, seval, hh, hlt]
  rw [← hf]
  exact ⟨rfl, hq.1⟩
theorem isKey_c (s : ByteArray) (hs : s.size ≤ 9223372036854775807) : AFn Tryz.prog G 72 [.str s] H (.bool (isKey s)) := by
 refine AFn.start mix F72 (by simp) fun k hlow => ?_
 simp (disch := omega) only [↓wpre, push_cast, seval, c72]
 repeat' (first | ((first | with_reducible refine cnd_ndec (fun hc => ?_) (fun hc => ?_) | with_reducible refine cnd_dec (fun hc => ?_) (fun hc => ?_) | with_reducible refine cnd_nb (fun hc => ?_) (fun hc => ?_) | with_reducible refine cnd_intro (fun hc => ?_) (fun hc => ?_)) <;> (first | (exfalso; omega) | (try simp (disch := omega) only [↓wpre, push_cast, seval, hc, Int.toNat_zero]))) | (with_reducible refine anyN_intro fun n' hn' => ?_; try simp (disch := omega) only [↓wpre, push_cast, seval, Int.toNat_zero]) | ((first | with_reducible refine (pwithin_c _ _ _ _ _).x fun n' hn' => ?_ | with_reducible refine xfn_intro (pwithin_c _ _ _ _ _) ?_); try simp (disch := omega) only [↓wpre, push_cast, seval, Pm.within]) | ((first | with_reducible refine (small_c _ _ _).x fun n' hn' => ?_ | with_reducible refine xfn_intro (small_c _ _ _) ?_); try simp (disch := omega) only [↓wpre, push_cast, seval, Int.toNat_zero]) | ((first | with_reducible refine (all_c _ _ _ hs _ _ (fun H c => keyC_c _ H c)).x fun n' hn' => ?_ | with_reducible refine xfn_intro (all_c _ _ _ hs _ _ (fun H c => keyC_c _ H c)) ?_); try simp (disch := omega) only [↓wpre, push_cast, seval, true_and]))
 all_goals grind [isKey, Pm.within]
end Go.Proofs.YtblhbafoncfhdaaGreatDoor
namespace Go.Proofs.YtblhbafoncfhdaaGreatDoor
open Go Go.Ab Go.Pm
variable (G : Nat → AV) (H : Nat → Option AObj)
theorem isMember_c (s : ByteArray) (hs : s.size ≤ 9223372036854775807) : AFn Tryz.prog G 99 [.str s] H (.bool (isMember s)) := by
 refine AFn.start mix F99 (by simp) fun k hlow => ?_
 simp (disch := omega) only [↓wpre, push_cast, seval, c99]
 (first | with_reducible refine (pwithin_c _ _ _ _ _).x fun n' hn' => ?_ | with_reducible refine xfn_intro (pwithin_c _ _ _ _ _) ?_); try simp (disch := omega) only [↓wpre, push_cast, seval, Pm.within]
 repeat' (first | ((first | with_reducible refine cnd_ndec (fun hc => ?_) (fun hc => ?_) | with_reducible refine cnd_dec (fun hc => ?_) (fun hc => ?_) | with_reducible refine cnd_nb (fun hc => ?_) (fun hc => ?_) | with_reducible refine cnd_intro (fun hc => ?_) (fun hc => ?_)) <;> (first | (exfalso; omega) | (try simp (disch := omega) only [↓wpre, push_cast, seval, hc, true_and]))) | (with_reducible refine anyN_intro fun n' hn' => ?_; try simp (disch := omega) only [↓wpre, push_cast, seval, true_and]) | ((first | with_reducible refine (all_c _ _ _ hs _ _ (fun H c => memberC_c _ H c)).x fun n' hn' => ?_ | with_reducible refine xfn_intro (all_c _ _ _ hs _ _ (fun H c => memberC_c _ H c)) ?_); try simp (disch := omega) only [↓wpre, push_cast, seval, true_and]))
 all_goals grind [isMember, Pm.within]
theorem isDevice_c (s : ByteArray) (hs : s.size ≤ 9223372036854775807) : AFn Tryz.prog G 100 [.str s] H (.bool (isDevice s)) := by
 refine AFn.start mix F100 (by simp) fun k hlow => ?_
 simp (disch := omega) only [↓wpre, push_cast, seval, c100]
 repeat' (first | ((first | with_reducible refine cnd_ndec (fun hc => ?_) (fun hc => ?_) | with_reducible refine cnd_dec (fun hc => ?_) (fun hc => ?_) | with_reducible refine cnd_nb (fun hc => ?_) (fun hc => ?_) | with_reducible refine cnd_intro (fun hc => ?_) (fun hc => ?_)) <;> (first | (exfalso; omega) | (try simp (disch := omega) only [↓wpre, push_cast, seval, hc, true_and]))) | (with_reducible refine anyN_intro fun n' hn' => ?_; try simp (disch := omega) only [↓wpre, push_cast, seval, true_and]) | ((first | with_reducible refine (all_c _ _ _ hs _ _ (fun H c => deviceC_c _ H c)).x fun n' hn' => ?_ | with_reducible refine xfn_intro (all_c _ _ _ hs _ _ (fun H c => deviceC_c _ H c)) ?_); try simp (disch := omega) only [↓wpre, push_cast, seval, true_and]))
 all_goals simp_all [isDevice]
theorem isLabel_c (s : ByteArray) (hs : s.size ≤ 9223372036854775807) : AFn Tryz.prog G 167 [.str s] H (.bool (isLabel s)) := by
 refine AFn.start mix F167 (by simp) fun k hlow => ?_
 simp (disch := omega) only [↓wpre, push_cast, seval, c167]
 repeat' (first | ((first | with_reducible refine cnd_ndec (fun hc => ?_) (fun hc => ?_) | with_reducible refine cnd_dec (fun hc => ?_) (fun hc => ?_) | with_reducible refine cnd_nb (fun hc => ?_) (fun hc => ?_) | with_reducible refine cnd_intro (fun hc => ?_) (fun hc => ?_)) <;> (first | (exfalso; omega) | (try simp (disch := omega) only [↓wpre, push_cast, seval, hc, Int.toNat_zero]))) | (with_reducible refine anyN_intro fun n' hn' => ?_; try simp (disch := omega) only [↓wpre, push_cast, seval, Int.toNat_zero]) | ((first | with_reducible refine (pwithin_c _ _ _ _ _).x fun n' hn' => ?_ | with_reducible refine xfn_intro (pwithin_c _ _ _ _ _) ?_); try simp (disch := omega) only [↓wpre, push_cast, seval, Pm.within]) | ((first | with_reducible refine (all_c _ _ _ hs _ _ (fun H c => labelC_c _ H c)).x fun n' hn' => ?_ | with_reducible refine xfn_intro (all_c _ _ _ hs _ _ (fun H c => labelC_c _ H c)) ?_); try simp (disch := omega) only [↓wpre, push_cast, seval, true_and]))
 all_goals grind [isLabel, Pm.within]
theorem hasPrefix_c (s p : ByteArray) (hs : s.size ≤ 9223372036854775807) (hp : p.size ≤ 9223372036854775807) : AFn Tryz.prog G 135 [.str s, .str p] H (.bool (hasPrefix s p)) := by
 have h154 : ∀ H, AFn Tryz.prog G 204 [.str s, .str p] H (.bool (hasPrefix s p)) := by
  intro H
  refine AFn.start mix F204 (by simp) fun k hlow => ?_
  simp (disch := omega) only [↓wpre, push_cast, seval, c204]
  repeat' (first | ((first | with_reducible refine cnd_ndec (fun hc => ?_) (fun hc => ?_) | with_reducible refine cnd_dec (fun hc => ?_) (fun hc => ?_) | with_reducible refine cnd_nb (fun hc => ?_) (fun hc => ?_) | with_reducible refine cnd_intro (fun hc => ?_) (fun hc => ?_)) <;> (first | (exfalso; omega) | (try simp (disch := omega) only [↓wpre, push_cast, seval, hc, true_and]))) | (with_reducible refine anyN_intro fun n' hn' => ?_; try simp (disch := omega) only [↓wpre, push_cast, seval, true_and]) | (fail))
  ·have : p.size ≤ s.size := by omega
   simp [hasPrefix, this]
  ·have : ¬ p.size ≤ s.size := by omega
   simp [hasPrefix, this]
 refine AFn.start mix F135 (by simp) fun k hlow => ?_
 simp (disch := omega) only [↓wpre, push_cast, seval, c135]
 (first | with_reducible refine (h154 _).x fun n' hn' => ?_ | with_reducible refine xfn_intro (h154 _) ?_); try simp (disch := omega) only [↓wpre, push_cast, seval, true_and]
theorem isPhone_c (s : ByteArray) (hs : s.size ≤ 9223372036854775807) : AFn Tryz.prog G 98 [.str s] H (.bool (isPhone s)) := by
 have e : (s.extract 1 s.size).size ≤ 9223372036854775807 := by simp; omega
 refine AFn.start mix F98 (by simp) fun k hlow => ?_
 simp (disch := omega) only [↓wpre, push_cast, seval, c98]
 (first | with_reducible refine (hasPrefix_c _ _ _ _ hs (by decide)).x fun n' hn' => ?_ | with_reducible refine xfn_intro (hasPrefix_c _ _ _ _ hs (by decide)) ?_); try simp (disch := omega) only [↓wpre, push_cast, seval, true_and]
 repeat' (first | ((first | with_reducible refine cnd_ndec (fun hc => ?_) (fun hc => ?_) | with_reducible refine cnd_dec (fun hc => ?_) (fun hc => ?_) | with_reducible refine cnd_nb (fun hc => ?_) (fun hc => ?_) | with_reducible refine cnd_intro (fun hc => ?_) (fun hc => ?_)) <;> (first | (exfalso; omega) | (try simp (disch := omega) only [↓wpre, push_cast, seval, hc, Int.toNat_one]))) | (with_reducible refine anyN_intro fun n' hn' => ?_; try simp (disch := omega) only [↓wpre, push_cast, seval, Int.toNat_one]) | ((first | with_reducible refine (pwithin_c _ _ _ _ _).x fun n' hn' => ?_ | with_reducible refine xfn_intro (pwithin_c _ _ _ _ _) ?_); try simp (disch := omega) only [↓wpre, push_cast, seval, Pm.within]) | ((first | with_reducible refine (all_c _ _ _ e _ _ (fun H c => digit_c _ H c)).x fun n' hn' => ?_ | with_reducible refine xfn_intro (all_c _ _ _ e _ _ (fun H c => digit_c _ H c)) ?_); try simp (disch := omega) only [↓wpre, push_cast, seval, true_and]))
 all_goals grind [isPhone, Pm.within]
theorem cut_c {m : Int} {cs : List AV} (hG : G 4 = .pp (.lit (.int .i64 m) :: cs)) (s sep : ByteArray) (hs : s.size < 4294967281) : AFn Tryz.prog G 161 [.str s, .str sep] H (.tup [.str (cutT s sep).1, .str (cutT s sep).2.1, .bool (cutT s sep).2.2]) :=
 AFn.of_calls (enters_of_b (by kernel_rfl)) (xs := [.string s, .string sep]) fun w g hI hg => by
  refine (Tryz.strings_Cut s sep m w hs (glob_cell hG (hg 4))).mono fun e w' ⟨h1, n, h2⟩ => ?_
  subst h2
  exact ⟨_, h1, ⟨_, rfl, _, _, rfl, rfl, _, _, rfl, rfl, _, _, rfl, rfl, rfl⟩, (step_drewN w g n).2 hI, (step_drewN w g n).1⟩
theorem contains_c {m : Int} {cs : List AV} (hG : G 4 = .pp (.lit (.int .i64 m) :: cs)) (s sub : ByteArray) (hs : s.size < 4294967281) : AFn Tryz.prog G 164 [.str s, .str sub] H (.bool (Lib.contains s.data.toList sub.data.toList)) :=
 AFn.of_still (enters_of_b (by kernel_rfl)) (xs := [.string s, .string sub]) fun w g hg => Tryz.strings_Contains s sub m w hs (glob_cell hG (hg 4))
theorem indexByte_c (s : ByteArray) (c : Int) : AFn Tryz.prog G 163 [.str s, .lit (.int .u8 c)] H (.int (Lib.indexByte s.data.toList c.toNat.toUInt8)) :=
 AFn.of_still (enters_of_b (by kernel_rfl)) (xs := [.string s, .int .u8 c]) fun w g hg => Tryz.strings_IndexByte s c w
theorem splitB_length (s sep : ByteArray) (h1 : 1 ≤ sep.size) : (splitT s sep).length = Lib.countB s sep + 1 := Lib.splitB_all sep h1 0 _ s rfl
theorem split_c {m : Int} {cs : List AV} (hG : G 4 = .pp (.lit (.int .i64 m) :: cs)) (s sep : ByteArray) (hs : s.size < 4294967281) (h1 : 1 ≤ sep.size) : AFn Tryz.prog G 166 [.str s, .str sep] H (.ls true ((splitT s sep).map fun x => [.str x])) :=
 AFn.of_calls (enters_of_b (by kernel_rfl)) (xs := [.string s, .string sep]) fun w g hI hg => by
  refine (Tryz.strings_Split s sep m w hs (glob_cell hG (hg 4)) h1).mono fun e w' ⟨k1, k2⟩ => ?_
  subst k2
  refine ⟨_, k1, ?_, inv_alloc hI _, step_alloc _ _ _⟩
  have := new_ls hI (xs := (splitT s sep).map Value.string) (E := 9) (n := Lib.countB s sep + 1) (by rw [List.length_map, splitB_length _ _ h1]) (by have := Lib.countB_le sep h1 s.size s (Nat.le_refl _); unfold maxLen; omega)
  rw [List.map_map] at this
  exact this
theorem even_strs (l : List ByteArray) : Even 1 (l.map fun x => [AV.str x]) := by
 intro r hr
 obtain ⟨s, _, rfl⟩ := List.mem_map.1 hr
 exact ⟨rfl, rfl⟩
theorem even_strs' (l : List ByteArray) : Even 1 (l.map fun x => [AV.str x]) = True := eq_true (even_strs l)
theorem splitT_size (s sep : ByteArray) : ∀ x ∈ splitT s sep, x.size ≤ s.size := by
 have : ∀ (k : Nat) (s : ByteArray), ∀ x ∈ Lib.splitB sep 0 k s, x.size ≤ s.size := by
  intro k
  induction k with
  | zero => intro s x hx; simp only [Lib.splitB, List.mem_singleton] at hx; subst hx; exact Nat.le_refl _
  | succ k ih =>
   intro s x hx
   simp only [Lib.splitB] at hx
   split at hx
   ·simp only [List.mem_singleton] at hx; subst hx; exact Nat.le_refl _
   ·rcases List.mem_cons.1 hx with rfl | hx
    ·simp only [ByteArray.size_extract]; omega
    ·have := ih _ x hx
     simp only [ByteArray.size_extract] at this; omega
 exact this _ s
theorem cutT_size (s sep : ByteArray) : (cutT s sep).1.size ≤ s.size ∧ (cutT s sep).2.1.size ≤ s.size := by
 have h : s.size = s.data.toList.length := rfl
 simp only [cutT, Lib.cut]
 split
 ·constructor
  ·show (List.take _ _).toArray.size ≤ _
   simp only [List.size_toArray, List.length_take]; omega
  ·show (List.drop _ _).toArray.size ≤ _
   simp only [List.size_toArray, List.length_drop]; omega
 ·constructor
  ·show s.data.toList.toArray.size ≤ _
   simp only [List.size_toArray]; omega
  ·exact Nat.zero_le _
theorem isMail_c {m : Int} {cs : List AV} (hG : G 4 = .pp (.lit (.int .i64 m) :: cs)) (s : ByteArray) (hs : s.size < 4294967281) : AFn Tryz.prog G 97 [.str s] H (.bool (isMail s)) := by
 have h1 := (cutT_size s ⟨#[64]⟩).1
 have h2 := (cutT_size s ⟨#[64]⟩).2
 have g1 : (cutT s ⟨#[64]⟩).1.size < 4294967281 := by omega
 have g2 : (cutT s ⟨#[64]⟩).2.1.size < 4294967281 := by omega
 have g3 : (cutT s ⟨#[64]⟩).1.size ≤ 9223372036854775807 := by omega
 have e2 : ∀ x ∈ splitT (cutT s ⟨#[64]⟩).2.1 ⟨#[46]⟩, x.size ≤ 9223372036854775807 := fun x hx => by
  have := splitT_size _ _ x hx
  omega
 have e3 : (splitT (cutT s ⟨#[64]⟩).2.1 ⟨#[46]⟩).length ≤ 4294967281 := by
  rw [splitB_length _ _ (by decide)]
  have := Lib.countB_le ⟨#[46]⟩ (by decide) _ (cutT s ⟨#[64]⟩).2.1 (Nat.le_refl _)
  omega
 refine AFn.start mix F97 (by simp) fun k hlow => ?_
 simp (disch := omega) only [↓wpre, push_cast, seval, c97]
 (first | with_reducible refine (cut_c _ _ hG _ _ hs).x fun n' hn' => ?_ | with_reducible refine xfn_intro (cut_c _ _ hG _ _ hs) ?_); try simp (disch := omega) only [↓wpre, push_cast, seval, true_and]
 have hM : isMail s = (let c := cutT s ⟨#[64]⟩
  if !c.2.2 || decide (80 < (s.size : Int)) || !within c.1.size 1 64 || decide (byteAt c.1 0 = 46) || decide (byteAt c.1 ((c.1.size : Int) - 1).toNat = 46) || Lib.contains c.1.data.toList [46, 46] then false
  else if !allB c.1 mailC then false
  else (splitT c.2.1 ⟨#[46]⟩).all isLabel && decide (2 ≤ ((splitT c.2.1 ⟨#[46]⟩).length : Int))) := rfl
 generalize cutT s ⟨#[64]⟩ = c at *
 obtain ⟨local', domain, ok⟩ := c
 simp only at *
 repeat' (first | ((first | with_reducible refine cnd_ndec (fun hc => ?_) (fun hc => ?_) | with_reducible refine cnd_dec (fun hc => ?_) (fun hc => ?_) | with_reducible refine cnd_nb (fun hc => ?_) (fun hc => ?_) | with_reducible refine cnd_intro (fun hc => ?_) (fun hc => ?_)) <;> (first | (exfalso; omega) | (try simp (disch := omega) only [↓wpre, push_cast, seval, hc, true_and]))) | (with_reducible refine anyN_intro fun n' hn' => ?_; try simp (disch := omega) only [↓wpre, push_cast, seval, true_and]) | ((first | with_reducible refine (pwithin_c _ _ _ _ _).x fun n' hn' => ?_ | with_reducible refine xfn_intro (pwithin_c _ _ _ _ _) ?_); try simp (disch := omega) only [↓wpre, push_cast, seval, Pm.within]) | ((first | with_reducible refine (contains_c _ _ hG _ _ g1).x fun n' hn' => ?_ | with_reducible refine xfn_intro (contains_c _ _ hG _ _ g1) ?_); try simp (disch := omega) only [↓wpre, push_cast, seval, true_and]) | ((first | with_reducible refine (all_c _ _ _ g3 _ _ (fun H c => mailC_c _ H c)).x fun n' hn' => ?_ | with_reducible refine xfn_intro (all_c _ _ _ g3 _ _ (fun H c => mailC_c _ H c)) ?_); try simp (disch := omega) only [↓wpre, push_cast, seval, true_and]) | ((first | with_reducible refine (split_c _ _ hG _ _ g2 (by decide)).x fun n' hn' => ?_ | with_reducible refine xfn_intro (split_c _ _ hG _ _ g2 (by decide)) ?_); try simp (disch := omega) only [↓wpre, push_cast, seval, true_and]))
 all_goals first
  | (grind [Pm.within, Lib.contains])
  | skip
 have hM2 : isMail s = ((splitT domain ⟨#[46]⟩).all isLabel && decide (2 ≤ ((splitT domain ⟨#[46]⟩).length : Int))) := by
  rw [hM, if_neg, if_neg]
  ·grind
  ·clear hM e2 e3; grind [Pm.within, Lib.contains]
 clear hM
 generalize splitT domain ⟨#[46]⟩ = L at *
 refine xw_loopJ (σ := List ByteArray × List ByteArray) (fun t => [(6, .ls true (L.map fun x => [AV.str x])), (50, .ls true (L.map fun x => [AV.str x])), (51, .int L.length), (52, .int t.1.length)]) (fun t H' n' => L = t.1 ++ t.2 ∧ t.2.all isLabel = L.all isLabel ∧ Qt H H' n') (fun t => t.2.length) ([], L) ⟨rfl, rfl, .mono (.refl hlow) (by omega)⟩ (by simp (disch := omega) only [↓wpre, push_cast, seval]) ?_
 rintro ⟨a, b⟩ fr H' n ⟨rfl, hf, hq⟩ hh
 simp only [has_nil, has_cons, and_true, List.length_append] at hh e3
 cases b with
 | nil =>
  simp (disch := omega) only [↓wpre, push_cast, seval, hh, Nat.add_zero]
  refine ⟨?_, hq.1⟩
  simp only [List.append_nil, List.all_nil] at hM2 hf
  rw [hM2, ← hf]
  rfl
 | cons x b =>
  have hlt : (a.length : Int) < a.length + (b.length + 1) := by omega
  simp only [List.length_cons] at e3
  simp (disch := omega) only [↓wpre, push_cast, seval, hh, hlt, even_strs', aidx_split]
  (first | with_reducible refine (isLabel_c _ _ _ (e2 x (by simp))).x fun n' hn' => ?_ | with_reducible refine xfn_intro (isLabel_c _ _ _ (e2 x (by simp))) ?_); try simp (disch := omega) only [↓wpre, push_cast, seval, hh]
  (first | with_reducible refine cnd_ndec (fun hc => ?_) (fun hc => ?_) | with_reducible refine cnd_dec (fun hc => ?_) (fun hc => ?_) | with_reducible refine cnd_nb (fun hc => ?_) (fun hc => ?_) | with_reducible refine cnd_intro (fun hc => ?_) (fun hc => ?_)) <;> (first | (exfalso; omega) | (try simp (disch := omega) only [↓wpre, push_cast, seval, hc, hh]))
  ·refine ⟨?_, hq.1⟩
   simp only [List.all_cons, hc, Bool.false_and] at hM2 hf
   rw [hM2, ← hf]
   rfl
  ·refine againJ (a ++ [x], b) (Nat.lt_succ_self _) ⟨by simp, ?_, ?_⟩ ?_
   ·rw [← hf, List.all_cons, hc, Bool.true_and]
   ·exact Qt.mono (n := n) (by repeat (first | exact hq | refine Qt.hu ?_ (by omega))) (by omega)
   ·simp (disch := omega) only [↓wpre, push_cast, seval, hh]
    try (simp only [AV.lit.injEq, Value.int.injEq, true_and]; omega)
theorem tmod36 (a : Int) : -36 < a.tmod 36 ∧ a.tmod 36 < 36 ∧ (0 ≤ a → 0 ≤ a.tmod 36) := by
 rcases Int.le_total 0 a with h | h
 ·rw [Int.tmod_eq_emod_of_nonneg h]; omega
 ·have : a.tmod 36 = -((-a).tmod 36) := by rw [Int.neg_tmod, Int.neg_neg]
  rw [this, Int.tmod_eq_emod_of_nonneg (by omega)]; omega
theorem tdiv36 (a : Int) (h1 : -100 ≤ a) (h2 : a ≤ 100) : -3 ≤ a.tdiv 36 ∧ a.tdiv 36 ≤ 3 := by
 rcases Int.le_total 0 a with h | h
 ·rw [Int.tdiv_eq_ediv_of_nonneg h]; omega
 ·have : a.tdiv 36 = -((-a).tdiv 36) := by rw [Int.neg_tdiv, Int.neg_neg]
  rw [this, Int.tdiv_eq_ediv_of_nonneg (by omega)]; omega
theorem signs_size : signs.size = 36 := by decide
theorem signs_eq : (⟨#[48, 49, 50, 51, 52, 53, 54, 55, 56, 57, 65, 66, 67, 68, 69, 70, 71, 72, 73, 74, 75, 76, 77, 78, 79, 80, 81, 82, 83, 84, 85, 86, 87, 88, 89, 90]⟩ : ByteArray) = signs := rfl
theorem indexByte_bound (l : List UInt8) (c : UInt8) : -1 ≤ Lib.indexByte l c ∧ Lib.indexByte l c < l.length + 1 := by
 refine ⟨Lib.indexByte_ge l c, ?_⟩
 rcases Int.lt_or_le (Lib.indexByte l c) 0 with h | h
 ·omega
 ·obtain ⟨n, hn⟩ : ∃ n : Nat, Lib.indexByte l c = n := ⟨(Lib.indexByte l c).toNat, by omega⟩
  have := (Lib.indexByte_some hn).1
  have : n < l.length := (List.getElem?_eq_some_iff.1 this).1
  omega
theorem checkSign_c (s : ByteArray) (hs : s.size < 4294967281) : AFn Tryz.prog G 101 [.str s] H (.lit (.int .u8 (checkSign s))) := by
 refine AFn.start mix F101 (by simp) fun k hlow => ?_
 simp (disch := omega) only [↓wpre, push_cast, seval, c101]
 refine xw_loopJ (σ := Nat × Int × Int) (fun t => [(0, .str s), (5, .int ((t.1 : Int) - 1)), (3, .int t.2.1), (4, .int t.2.2)]) (fun t H' n' => t.1 ≤ s.size ∧ -100 * ((s.size : Int) - t.1) ≤ t.2.1 ∧ t.2.1 ≤ 100 * ((s.size : Int) - t.1) ∧ (t.2.2 = 1 ∨ t.2.2 = 2) ∧ signSum ((bytesOf s).take t.1).reverse t.2.1 t.2.2 = signSum (bytesOf s).reverse 0 2 ∧ Qt H H' n') (fun t => t.1) (s.size, 0, 2) ⟨Nat.le_refl _, by simp, by simp, .inr rfl, ?_, .refl hlow⟩ ?_ ?_
 ·rw [List.take_of_length_le]; simp only [bytesOf, List.length_map]; exact Nat.le_refl _
 ·simp (disch := omega) only [↓wpre, push_cast, seval]
 rintro ⟨i, sum, times⟩ fr H' n ⟨hi, hs1, hs2, ht, hf, hq⟩ hh
 simp only [has_nil, has_cons, and_true] at *
 cases i with
 | zero =>
  have hc1 := tmod36 sum
  have hc2 := tmod36 (36 - sum.tmod 36)
  have hsz := signs_size
  simp (disch := omega) only [↓wpre, push_cast, seval, hh, signs_eq]
  refine ⟨?_, hq.1⟩
  rw [checkSign, ← hf]
  rfl
 | succ i =>
  have hi' : i < s.size := by omega
  have hpos : (0 : Int) ≤ (i : Int) + 1 - 1 := by omega
  simp (disch := omega) only [↓wpre, push_cast, seval, hh, hpos]
  have hb := indexByte_bound signs.data.toList (byteAt s i).toNat.toUInt8
  have hbl : signs.data.toList.length = 36 := by decide
  rw [hbl] at hb
  have e1 : ((i : Int) + 1 - 1).toNat = i := by omega
  have hb : -1 ≤ Lib.indexByte [48, 49, 50, 51, 52, 53, 54, 55, 56, 57, 65, 66, 67, 68, 69, 70, 71, 72, 73, 74, 75, 76, 77, 78, 79, 80, 81, 82, 83, 84, 85, 86, 87, 88, 89, 90] (byteAt s i).toNat.toUInt8 ∧ Lib.indexByte [48, 49, 50, 51, 52, 53, 54, 55, 56, 57, 65, 66, 67, 68, 69, 70, 71, 72, 73, 74, 75, 76, 77, 78, 79, 80, 81, 82, 83, 84, 85, 86, 87, 88, 89, 90] (byteAt s i).toNat.toUInt8 < 37 := ⟨hb.1, hb.2⟩
  generalize hk : Lib.indexByte [48, 49, 50, 51, 52, 53, 54, 55, 56, 57, 65, 66, 67, 68, 69, 70, 71, 72, 73, 74, 75, 76, 77, 78, 79, 80, 81, 82, 83, 84, 85, 86, 87, 88, 89, 90] (byteAt s i).toNat.toUInt8 = ix at hb
  have hk' : Lib.indexByte signs.data.toList (byteAt s i).toNat.toUInt8 = ix := hk
  have hp : -2 ≤ times * ix ∧ times * ix ≤ 74 := by rcases ht with rfl | rfl <;> omega
  have hp1 := tmod36 (times * ix)
  have hp2 := tdiv36 (times * ix) (by omega) (by omega)
  have hst : signSum ((bytesOf s).take (i + 1)).reverse sum times = signSum ((bytesOf s).take i).reverse (sum + ((times * ix).tdiv 36 + (times * ix).tmod 36)) (3 - times) := by
   rw [List.take_add_one, bytesOf_get hi']
   simp only [Option.toList_some, List.reverse_append, List.reverse_cons, List.reverse_nil, List.nil_append, List.cons_append, signSum, hk']
  (first | with_reducible refine (indexByte_c _ _ _ _).x fun n' hn' => ?_ | with_reducible refine xfn_intro (indexByte_c _ _ _ _) ?_); try simp (disch := omega) only [↓wpre, push_cast, seval, hh, signs_eq, e1, hk]
  refine againJ (i, sum + ((times * ix).tdiv 36 + (times * ix).tmod 36), 3 - times) (Nat.lt_succ_self _) ⟨by dsimp only; omega, by dsimp only; omega, by dsimp only; omega, by dsimp only; omega, by rw [← hf, hst], ?_⟩ ?_
  ·exact Qt.mono (n := n) (by repeat (first | exact hq | refine Qt.hu ?_ (by omega))) (by omega)
  ·simp (disch := omega) only [↓wpre, push_cast, seval, hh]
   all_goals (try simp only [AV.lit.injEq, Value.int.injEq, Value.bool.injEq, true_and, and_true]); all_goals (try (repeat' apply And.intro)); all_goals (first | rfl | omega | simp_all | skip)
theorem checkId_c {m : Int} {cs : List AV} (hG : G 4 = .pp (.lit (.int .i64 m) :: cs)) (kind : Int) (s : ByteArray) (hs : s.size < 4294967281) : AFn Tryz.prog G 27 [.agg [.int kind, .str s]] H (.int (checkId kind s)) := by
 have g : s.size ≤ 9223372036854775807 := by omega
 have g4 : (s.extract 0 ((s.size : Int) - 1).toNat).size < 4294967281 := by simp; omega
 have g3 : isMember s = true → 4 ≤ s.size := by intro h; simp [isMember, Pm.within] at h; omega
 refine AFn.start mix F27 (by simp) fun k hlow => ?_
 simp (disch := omega) only [↓wpre, push_cast, seval, c27]
 repeat' (first | ((first | with_reducible refine cnd_ndec (fun hc => ?_) (fun hc => ?_) | with_reducible refine cnd_dec (fun hc => ?_) (fun hc => ?_) | with_reducible refine cnd_nb (fun hc => ?_) (fun hc => ?_) | with_reducible refine cnd_intro (fun hc => ?_) (fun hc => ?_)) <;> (first | (exfalso; omega) | (try simp (disch := omega) only [↓wpre, push_cast, seval, hc, true_and]))) | (with_reducible refine anyN_intro fun n' hn' => ?_; try simp (disch := omega) only [↓wpre, push_cast, seval, true_and]) | ((first | with_reducible refine (isMail_c _ _ hG _ hs).x fun n' hn' => ?_ | with_reducible refine xfn_intro (isMail_c _ _ hG _ hs) ?_); try simp (disch := omega) only [↓wpre, push_cast, seval, true_and]) | ((first | with_reducible refine (isPhone_c _ _ _ g).x fun n' hn' => ?_ | with_reducible refine xfn_intro (isPhone_c _ _ _ g) ?_); try simp (disch := omega) only [↓wpre, push_cast, seval, true_and]) | ((first | with_reducible refine (isMember_c _ _ _ g).x fun n' hn' => ?_ | with_reducible refine xfn_intro (isMember_c _ _ _ g) ?_); try simp (disch := omega) only [↓wpre, push_cast, seval, true_and]) | ((first | with_reducible refine (isDevice_c _ _ _ g).x fun n' hn' => ?_ | with_reducible refine xfn_intro (isDevice_c _ _ _ g) ?_); try simp (disch := omega) only [↓wpre, push_cast, seval, true_and]) | ((first | with_reducible refine (checkSign_c _ _ _ g4).x fun n' hn' => ?_ | with_reducible refine xfn_intro (checkSign_c _ _ _ g4) ?_); try simp (disch := omega) only [↓wpre, push_cast, seval, true_and]) | (have g5 := g3 (by assumption); clear g3; simp (disch := omega) only [↓wpre, push_cast, seval]))
 all_goals first | grind [checkId] | skip
end Go.Proofs.YtblhbafoncfhdaaGreatDoor
