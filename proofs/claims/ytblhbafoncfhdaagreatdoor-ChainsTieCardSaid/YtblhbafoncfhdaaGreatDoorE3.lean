/- Contracts of functions of the program: each computes what its model says; the conditions stand at each. -/
import Derived.Test.YtblhbafoncfhdaaGreatDoorE4
set_option linter.unusedSimpArgs false
set_option linter.unusedVariables false
set_option maxRecDepth 20000
namespace Go.Proofs.YtblhbafoncfhdaaGreatDoor
open Go Go.Ab Go.Pm Go.Cm Go.El Go.Rm
variable (G : Nat → AV) (H : Nat → Option AObj)
/-! The program's checks. -/
theorem textC_c (c : Int) : AFn Tryz.prog G 208 [.lit (.int .u8 c)] H (.bool (textC c)) := by
 refine AFn.start mix F208 (by simp) fun k hlow => ?_
 simp (disch := omega) only [↓wpre, push_cast, seval, c208]
 repeat' (first | ((first | with_reducible refine cnd_ndec (fun hc => ?_) (fun hc => ?_) | with_reducible refine cnd_dec (fun hc => ?_) (fun hc => ?_) | with_reducible refine cnd_nb (fun hc => ?_) (fun hc => ?_) | with_reducible refine cnd_intro (fun hc => ?_) (fun hc => ?_)) <;> (first | (exfalso; omega) | (try simp (disch := omega) only [↓wpre, push_cast, seval, hc, true_and]))) | (with_reducible refine anyN_intro fun n' hn' => ?_; try simp (disch := omega) only [↓wpre, push_cast, seval, true_and]) | fail)
 all_goals (simp only [AV.lit.injEq, Value.bool.injEq, textC]; grind)
theorem checkText_c (hU : GU G) (s : T) (hs : s.size ≤ 1000000) : AFn Tryz.prog G 142 [.str s] H (.int (checkText s)) := by
 have hs1 : s.size ≤ 9223372036854775807 := by omega
 have hv : ∀ H, AFn Tryz.prog G 207 [.str s] H (.bool (Lib.validD s.data.toList)) := fun H => valid_c G H hU s hs1 207 (by kernel_rfl) (enters_of_b (by kernel_rfl))
 refine AFn.start mix F142 (by simp) fun k hlow => ?_
 simp (disch := omega) only [↓wpre, push_cast, seval, c142]
 repeat' (first | ((first | with_reducible refine cnd_ndec (fun hc => ?_) (fun hc => ?_) | with_reducible refine cnd_dec (fun hc => ?_) (fun hc => ?_) | with_reducible refine cnd_nb (fun hc => ?_) (fun hc => ?_) | with_reducible refine cnd_intro (fun hc => ?_) (fun hc => ?_)) <;> (first | (exfalso; omega) | (try simp (disch := omega) only [↓wpre, push_cast, seval, hc, true_and]))) | (with_reducible refine anyN_intro fun n' hn' => ?_; try simp (disch := omega) only [↓wpre, push_cast, seval, true_and]) | ((first | with_reducible refine (hv _).x fun n' hn' => ?_ | with_reducible refine xfn_intro (hv _) ?_); try simp (disch := omega) only [↓wpre, push_cast, seval, true_and]) | ((first | with_reducible refine (all_c _ _ _ hs1 _ _ (fun H c => textC_c _ H c)).x fun n' hn' => ?_ | with_reducible refine xfn_intro (all_c _ _ _ hs1 _ _ (fun H c => textC_c _ H c)) ?_); try simp (disch := omega) only [↓wpre, push_cast, seval, true_and]))
 all_goals (clear hv hlow hU; grind [checkText])
theorem checkValue_c (hU : GU G) (v : Val) (hs : v.text.size ≤ 1000000) : AFn Tryz.prog G 74 [.agg v.c] H (.int (checkValue v)) := by
 obtain ⟨kind, t, num⟩ := v
 have hs : t.size ≤ 1000000 := hs
 refine AFn.start mix F74 (by simp) fun k hlow => ?_
 simp (disch := omega) only [↓wpre, push_cast, seval, c74]
 repeat' (first | ((first | with_reducible refine cnd_ndec (fun hc => ?_) (fun hc => ?_) | with_reducible refine cnd_dec (fun hc => ?_) (fun hc => ?_) | with_reducible refine cnd_nb (fun hc => ?_) (fun hc => ?_) | with_reducible refine cnd_intro (fun hc => ?_) (fun hc => ?_)) <;> (first | (exfalso; omega) | (try simp (disch := omega) only [↓wpre, push_cast, seval, hc, true_and]))) | (with_reducible refine anyN_intro fun n' hn' => ?_; try simp (disch := omega) only [↓wpre, push_cast, seval, true_and]) | ((first | with_reducible refine (checkText_c _ _ hU t hs).x fun n' hn' => ?_ | with_reducible refine xfn_intro (checkText_c _ _ hU t hs) ?_); try simp (disch := omega) only [↓wpre, push_cast, seval, true_and]) | ((first | with_reducible refine (pwithin_c _ _ _ _ _).x fun n' hn' => ?_ | with_reducible refine xfn_intro (pwithin_c _ _ _ _ _) ?_); try simp (disch := omega) only [↓wpre, push_cast, seval, Pm.within]))
 all_goals (clear hlow hU; grind [checkValue, Pm.within])
set_option maxHeartbeats 3200000 in
theorem checkFields_c (hU : GU G) (nz : Bool) (l : List Fld) (hk : SmallF l) (hl0 : l.length ≤ 1000) : AFn Tryz.prog G 14 [.ls nz (l.map Fld.c)] H (.int (checkFields l)) := by
 refine AFn.start mix F14 (by simp) fun k hlow => ?_
 by_cases hl : (30 : Int) < l.length
 ·simp (disch := omega) only [↓wpre, push_cast, seval, c14, hl]
  rw [checkFields, if_pos (by omega)]
 simp (disch := omega) only [↓wpre, push_cast, seval, c14, hl]
 have hgo : checkFields l = checkFieldsGo none l := by rw [checkFields, if_neg (by omega)]
 rw [hgo]
 generalize hrr : checkFieldsGo none l = res
 refine xw_loopJ (σ := List Fld × List Fld) (fun t => [(0, .ls nz (l.map Fld.c)), (9, .ls nz (l.map Fld.c)), (10, .int l.length), (11, .int t.1.length)]) (fun t H' n' => l = t.1 ++ t.2 ∧ checkFieldsGo t.1.getLast? t.2 = res ∧ Qt H H' n') (fun t => t.2.length) ([], l) ⟨rfl, hrr, .refl hlow⟩ (by simp (disch := omega) only [↓wpre, push_cast, seval]) ?_
 clear hgo hrr
 rintro ⟨a, b⟩ fr H' n ⟨hab, hf, hq⟩ hh
 simp only [has_nil, has_cons, and_true] at hh hab hf
 have hll : l.length = a.length + b.length := by rw [hab]; simp
 cases b with
 | nil =>
  have hnl : ¬ (a.length : Int) < l.length := by rw [hll]; simp
  rw [checkFieldsGo] at hf
  rw [← hf]
  simp (disch := omega) only [↓wpre, push_cast, seval, hh, hnl]
  first | exact hq.1 | exact ⟨rfl, hq.1⟩
 | cons x b =>
  have hlt : (a.length : Int) < l.length := by rw [hll]; simp only [List.length_cons]; omega
  have hx : l[a.length]? = some x := by rw [hab]; simp
  have hsx := hk x (by rw [hab]; simp)
  have hs1 : x.name.size ≤ 9223372036854775807 := by omega
  have hs2 : x.val.text.size ≤ 1000000 := by omega
  rw [checkFieldsGo] at hf
  have hret : ∀ e : Int, fieldErr a.getLast? x = e → e ≠ 0 → AV.int e = AV.int res := fun e h1 h2 => by rw [← hf, if_pos (by rw [h1]; exact h2), h1]
  have hend : fieldErr a.getLast? x = 0 → checkFieldsGo (a ++ [x]).getLast? b = res := fun e => by rw [getLast?_snoc, ← hf, if_neg (by simp [e])]
  clear hf
  cases hp : a.getLast? with
  | none =>
   have hz := len_of_none hp
   rw [hp] at hret hend
   simp (disch := omega) only [↓wpre, push_cast, seval, hh, hlt, even_flds, aidx_at _ hx]
   repeat' (first | ((first | with_reducible refine cnd_ndec (fun hc => ?_) (fun hc => ?_) | with_reducible refine cnd_dec (fun hc => ?_) (fun hc => ?_) | with_reducible refine cnd_nb (fun hc => ?_) (fun hc => ?_) | with_reducible refine cnd_intro (fun hc => ?_) (fun hc => ?_)) <;> (first | (exfalso; omega) | (try simp (disch := omega) only [↓wpre, push_cast, seval, hc, hh, hz]))) | (with_reducible refine anyN_intro fun n' hn' => ?_; try simp (disch := omega) only [↓wpre, push_cast, seval, hh, hz]) | ((first | with_reducible refine (isKey_c _ _ _ hs1).x fun n' hn' => ?_ | with_reducible refine xfn_intro (isKey_c _ _ _ hs1) ?_); try simp (disch := omega) only [↓wpre, push_cast, seval, hh]) | ((first | with_reducible refine (checkValue_c _ _ hU x.val hs2).x fun n' hn' => ?_ | with_reducible refine xfn_intro (checkValue_c _ _ hU x.val hs2) ?_); try simp (disch := omega) only [↓wpre, push_cast, seval, hh]))
   all_goals first
    | (refine againJ (a ++ [x], b) (Nat.lt_succ_self _) ⟨by rw [hab]; simp, hend ?_, by exact Qt.mono (n := n) (by repeat (first | exact hq | refine Qt.hu ?_ (by omega))) (by omega)⟩ (by simp (disch := omega) only [↓wpre, push_cast, seval, hh]; all_goals (try simp only [AV.lit.injEq, Value.int.injEq, Value.bool.injEq, true_and, and_true]); all_goals (try (repeat' apply And.intro)); all_goals (first | rfl | omega | simp_all | skip)); (grind [fieldErr]))
    | (refine ⟨hret _ ?_ ?_, by exact (Qt.mono (n := n) (by repeat (first | exact hq | refine Qt.hu ?_ (by omega))) (Nat.le_refl _)).1⟩ <;> (grind [fieldErr]))
  | some p =>
   have hz := len_of_last hp
   have hpx : l[a.length - 1]? = some p := by
    rw [hab, List.getElem?_append_left (by omega), ← List.getLast?_eq_getElem?, hp]
   have e1 : ((a.length : Int) - 1) = ((a.length - 1 : Nat) : Int) := by omega
   rw [hp] at hret hend
   simp (disch := omega) only [↓wpre, push_cast, seval, hh, hlt, even_flds, aidx_at _ hx]
   repeat' (first | ((first | with_reducible refine cnd_ndec (fun hc => ?_) (fun hc => ?_) | with_reducible refine cnd_dec (fun hc => ?_) (fun hc => ?_) | with_reducible refine cnd_nb (fun hc => ?_) (fun hc => ?_) | with_reducible refine cnd_intro (fun hc => ?_) (fun hc => ?_)) <;> (first | (exfalso; omega) | (try simp (disch := omega) only [↓wpre, push_cast, seval, hc, hh, hz, even_flds, aidx_at e1 hpx]))) | (with_reducible refine anyN_intro fun n' hn' => ?_; try simp (disch := omega) only [↓wpre, push_cast, seval, hh, hz, even_flds, aidx_at e1 hpx]) | ((first | with_reducible refine (isKey_c _ _ _ hs1).x fun n' hn' => ?_ | with_reducible refine xfn_intro (isKey_c _ _ _ hs1) ?_); try simp (disch := omega) only [↓wpre, push_cast, seval, hh]) | ((first | with_reducible refine (checkValue_c _ _ hU x.val hs2).x fun n' hn' => ?_ | with_reducible refine xfn_intro (checkValue_c _ _ hU x.val hs2) ?_); try simp (disch := omega) only [↓wpre, push_cast, seval, hh]))
   all_goals first
    | (refine againJ (a ++ [x], b) (Nat.lt_succ_self _) ⟨by rw [hab]; simp, hend ?_, by exact Qt.mono (n := n) (by repeat (first | exact hq | refine Qt.hu ?_ (by omega))) (by omega)⟩ (by simp (disch := omega) only [↓wpre, push_cast, seval, hh]; all_goals (try simp only [AV.lit.injEq, Value.int.injEq, Value.bool.injEq, true_and, and_true]); all_goals (try (repeat' apply And.intro)); all_goals (first | rfl | omega | simp_all | skip)); (grind [fieldErr]))
    | (refine ⟨hret _ ?_ ?_, by exact (Qt.mono (n := n) (by repeat (first | exact hq | refine Qt.hu ?_ (by omega))) (Nat.le_refl _)).1⟩ <;> (grind [fieldErr]))
    | trace_state
end Go.Proofs.YtblhbafoncfhdaaGreatDoor
