/- Contracts of functions of the program: each computes what its model says; the conditions stand at each. -/
import Derived.Test.YtdbfkibbhmbaoaaGreatDoorE2
set_option linter.unusedSimpArgs false
set_option linter.unusedVariables false
set_option maxRecDepth 20000
set_option pp.deepTerms false
set_option pp.deepTerms.threshold 3
namespace Go.Proofs.YtdbfkibbhmbaoaaGreatDoor
open Go Go.Ab Go.Pm Go.Cm Go.El Go.Em Go.Rm
variable (G : Nat → AV) (H : Nat → Option AObj)
theorem evts_frz {D : Nat → Option AObj} {k : Nat} (l : List Evt) : (l.map Evt.c).map (List.map (frz D (k + 1))) = l.map Evt.c := by
  rw [List.map_map]
  refine List.map_congr_left fun e _ => ?_
  show [frz D (k + 1) (.str e.id), frz D (k + 1) (.str e.name), frz D (k + 1) (.int e.at'), frz D (k + 1) (.int e.who.kind), frz D (k + 1) (.str e.who.text), frz D (k + 1) (.ls e.nz _)] = _
  rw [frz_lit, frz_lit, frz_lit, frz_lit, frz_lit, frz_ls_plain (plain_fld _)]
theorem rightEvents_c (hU : GU G) (nz : Bool) (l : List Int) (a many : Int) (i : Nat) (hi : H i = some (strm (LL nz l) a)) (ha : 0 ≤ a ∧ a ≤ 1099511620000) (hm : 1 ≤ many ∧ many ≤ 14) : SC G H 8 [.op i 0 0, .int many] i (LL nz l) a 1200 fun r => ∃ es : List Evt, r = .ls true (es.map Evt.c) ∧ Em.Good es ∧ (∀ e ∈ es, e.at' ≤ 100000) ∧ es.length ≤ 14 := by
  intro n
  refine low_of G H fun hlow => ACalls.frz (rightEvents_run G H hU nz l a many i hi ha hm n) ?_
  have hin := hlow i _ hi
  rintro r H1 n1 ⟨a', o, es, h1, h2, h3, h4, h5, rfl, h6, h7, h8⟩
  refine ⟨Ab.only o ⟨42, 6, es.map Evt.c⟩, hu H i (some (strm (LL nz l) a')), 2, only_sub h6, h8, fun j x hj => ?_, a', h1, h2, rfl, es, ?_, h3, h4, h5⟩
  · unfold Ab.only at hj
    split at hj
    · rename_i e; subst e
      rw [hu_ne (by omega)]
      cases hx : H j with
      | none => rfl
      | some y => exact absurd (hlow j y hx) (by omega)
    · cases hj
  · simp only [frz, Ab.only, if_true, Nat.zero_add, List.length_map, Nat.le_refl, List.drop_zero]
    rw [List.take_of_length_le (by simp), evts_frz]
/-! The program's checks. -/
theorem ewithin_c (n lo hi : Int) : AFn Tryz.prog G 46 [.int n, .int lo, .int hi] H (.bool (within n lo hi)) := within_c G H n lo hi
end Go.Proofs.YtdbfkibbhmbaoaaGreatDoor

set_option linter.unusedSimpArgs false
set_option linter.unusedVariables false
set_option maxRecDepth 20000
set_option pp.deepTerms false
set_option pp.deepTerms.threshold 3
namespace Go.Proofs.YtdbfkibbhmbaoaaGreatDoor
open Go Go.Ab Go.Pm Go.Cm Go.El Go.Em Go.Rm
variable (G : Nat → AV) (H : Nat → Option AObj)
/-! The program's checks. -/
theorem textC_c (c : Int) : AFn Tryz.prog G 281 [.lit (.int .u8 c)] H (.bool (textC c)) := by
  refine AFn.start mix F281 (by simp) fun k hlow => ?_
  simp -dsimp -implicitDefEqProofs (disch := omega) only [↓wpre, push_cast, reduceCtorEq, ↓reduceIte, Nat.reduceEqDiff, Nat.reduceLeDiff, Nat.reduceAdd, Nat.reduceLT, Int.reduceEq, Int.reduceLT, Int.reduceLE, Int.reduceNeg, Int.reduceAdd, c281]
  repeat' (first | ((first | with_reducible refine cnd_ndec (fun hc => ?_) (fun hc => ?_) | with_reducible refine cnd_dec (fun hc => ?_) (fun hc => ?_) | with_reducible refine cnd_nb (fun hc => ?_) (fun hc => ?_) | with_reducible refine cnd_intro (fun hc => ?_) (fun hc => ?_)) <;> (first | (exfalso; omega) | (try simp -dsimp -implicitDefEqProofs (disch := omega) only [↓wpre, push_cast, reduceCtorEq, ↓reduceIte, Nat.reduceEqDiff, Nat.reduceLeDiff, Nat.reduceAdd, Nat.reduceLT, Int.reduceEq, Int.reduceLT, Int.reduceLE, Int.reduceNeg, Int.reduceAdd, hc, true_and]))) | (with_reducible refine anyN_intro fun n' hn' => ?_; try simp -dsimp -implicitDefEqProofs (disch := omega) only [↓wpre, push_cast, reduceCtorEq, ↓reduceIte, Nat.reduceEqDiff, Nat.reduceLeDiff, Nat.reduceAdd, Nat.reduceLT, Int.reduceEq, Int.reduceLT, Int.reduceLE, Int.reduceNeg, Int.reduceAdd, true_and]) | fail)
  all_goals (simp only [AV.lit.injEq, Value.bool.injEq, textC]; grind)
theorem checkText_c (hU : GU G) (s : T) (hs : s.size ≤ 1000000) : AFn Tryz.prog G 250 [.str s] H (.int (checkText s)) := by
  have hs1 : s.size ≤ 9223372036854775807 := by omega
  have hv : ∀ H, AFn Tryz.prog G 280 [.str s] H (.bool (Lib.validD s.data.toList)) := fun H => valid_c G H hU s hs1 280 (by kernel_rfl) (enters_of_b (by kernel_rfl))
  refine AFn.start mix F250 (by simp) fun k hlow => ?_
  simp -dsimp -implicitDefEqProofs (disch := omega) only [↓wpre, push_cast, reduceCtorEq, ↓reduceIte, Nat.reduceEqDiff, Nat.reduceLeDiff, Nat.reduceAdd, Nat.reduceLT, Int.reduceEq, Int.reduceLT, Int.reduceLE, Int.reduceNeg, Int.reduceAdd, c250]
  repeat' (first | ((first | with_reducible refine cnd_ndec (fun hc => ?_) (fun hc => ?_) | with_reducible refine cnd_dec (fun hc => ?_) (fun hc => ?_) | with_reducible refine cnd_nb (fun hc => ?_) (fun hc => ?_) | with_reducible refine cnd_intro (fun hc => ?_) (fun hc => ?_)) <;> (first | (exfalso; omega) | (try simp -dsimp -implicitDefEqProofs (disch := omega) only [↓wpre, push_cast, reduceCtorEq, ↓reduceIte, Nat.reduceEqDiff, Nat.reduceLeDiff, Nat.reduceAdd, Nat.reduceLT, Int.reduceEq, Int.reduceLT, Int.reduceLE, Int.reduceNeg, Int.reduceAdd, hc, true_and]))) | (with_reducible refine anyN_intro fun n' hn' => ?_; try simp -dsimp -implicitDefEqProofs (disch := omega) only [↓wpre, push_cast, reduceCtorEq, ↓reduceIte, Nat.reduceEqDiff, Nat.reduceLeDiff, Nat.reduceAdd, Nat.reduceLT, Int.reduceEq, Int.reduceLT, Int.reduceLE, Int.reduceNeg, Int.reduceAdd, true_and]) | ((first | with_reducible refine (hv _).x fun n' hn' => ?_ | with_reducible refine xfn_intro (hv _) ?_); try simp -dsimp -implicitDefEqProofs (disch := omega) only [↓wpre, push_cast, reduceCtorEq, ↓reduceIte, Nat.reduceEqDiff, Nat.reduceLeDiff, Nat.reduceAdd, Nat.reduceLT, Int.reduceEq, Int.reduceLT, Int.reduceLE, Int.reduceNeg, Int.reduceAdd, true_and]) | ((first | with_reducible refine (all_c _ _ _ hs1 _ _ (fun H c => textC_c _ H c)).x fun n' hn' => ?_ | with_reducible refine xfn_intro (all_c _ _ _ hs1 _ _ (fun H c => textC_c _ H c)) ?_); try simp -dsimp -implicitDefEqProofs (disch := omega) only [↓wpre, push_cast, reduceCtorEq, ↓reduceIte, Nat.reduceEqDiff, Nat.reduceLeDiff, Nat.reduceAdd, Nat.reduceLT, Int.reduceEq, Int.reduceLT, Int.reduceLE, Int.reduceNeg, Int.reduceAdd, true_and]))
  all_goals (clear hv hlow hU; grind [checkText])
theorem checkValue_c (hU : GU G) (v : Val) (hs : v.text.size ≤ 1000000) : AFn Tryz.prog G 216 [.agg v.c] H (.int (checkValue v)) := by
  obtain ⟨kind, t, num⟩ := v
  have hs : t.size ≤ 1000000 := hs
  refine AFn.start mix F216 (by simp) fun k hlow => ?_
  simp -dsimp -implicitDefEqProofs (disch := omega) only [↓wpre, push_cast, reduceCtorEq, ↓reduceIte, Nat.reduceEqDiff, Nat.reduceLeDiff, Nat.reduceAdd, Nat.reduceLT, Int.reduceEq, Int.reduceLT, Int.reduceLE, Int.reduceNeg, Int.reduceAdd, c216]
  repeat' (first | ((first | with_reducible refine cnd_ndec (fun hc => ?_) (fun hc => ?_) | with_reducible refine cnd_dec (fun hc => ?_) (fun hc => ?_) | with_reducible refine cnd_nb (fun hc => ?_) (fun hc => ?_) | with_reducible refine cnd_intro (fun hc => ?_) (fun hc => ?_)) <;> (first | (exfalso; omega) | (try simp -dsimp -implicitDefEqProofs (disch := omega) only [↓wpre, push_cast, reduceCtorEq, ↓reduceIte, Nat.reduceEqDiff, Nat.reduceLeDiff, Nat.reduceAdd, Nat.reduceLT, Int.reduceEq, Int.reduceLT, Int.reduceLE, Int.reduceNeg, Int.reduceAdd, hc, true_and]))) | (with_reducible refine anyN_intro fun n' hn' => ?_; try simp -dsimp -implicitDefEqProofs (disch := omega) only [↓wpre, push_cast, reduceCtorEq, ↓reduceIte, Nat.reduceEqDiff, Nat.reduceLeDiff, Nat.reduceAdd, Nat.reduceLT, Int.reduceEq, Int.reduceLT, Int.reduceLE, Int.reduceNeg, Int.reduceAdd, true_and]) | ((first | with_reducible refine (checkText_c _ _ hU t hs).x fun n' hn' => ?_ | with_reducible refine xfn_intro (checkText_c _ _ hU t hs) ?_); try simp -dsimp -implicitDefEqProofs (disch := omega) only [↓wpre, push_cast, reduceCtorEq, ↓reduceIte, Nat.reduceEqDiff, Nat.reduceLeDiff, Nat.reduceAdd, Nat.reduceLT, Int.reduceEq, Int.reduceLT, Int.reduceLE, Int.reduceNeg, Int.reduceAdd, true_and]) | ((first | with_reducible refine (pwithin_c _ _ _ _ _).x fun n' hn' => ?_ | with_reducible refine xfn_intro (pwithin_c _ _ _ _ _) ?_); try simp -dsimp -implicitDefEqProofs (disch := omega) only [↓wpre, push_cast, reduceCtorEq, ↓reduceIte, Nat.reduceEqDiff, Nat.reduceLeDiff, Nat.reduceAdd, Nat.reduceLT, Int.reduceEq, Int.reduceLT, Int.reduceLE, Int.reduceNeg, Int.reduceAdd, Pm.within]))
  all_goals (clear hlow hU; grind [checkValue, Pm.within])
set_option maxHeartbeats 3200000 in
theorem checkFields_c (hU : GU G) (nz : Bool) (l : List Fld) (hk : SmallF l) (hl0 : l.length ≤ 1000) : AFn Tryz.prog G 159 [.ls nz (l.map Fld.c)] H (.int (checkFields l)) := by
  refine AFn.start mix F159 (by simp) fun k hlow => ?_
  by_cases hl : (30 : Int) < l.length
  · simp -dsimp -implicitDefEqProofs (disch := omega) only [↓wpre, push_cast, reduceCtorEq, ↓reduceIte, Nat.reduceEqDiff, Nat.reduceLeDiff, Nat.reduceAdd, Nat.reduceLT, Int.reduceEq, Int.reduceLT, Int.reduceLE, Int.reduceNeg, Int.reduceAdd, c159, hl]
    rw [checkFields, if_pos (by omega)]
  simp -dsimp -implicitDefEqProofs (disch := omega) only [↓wpre, push_cast, reduceCtorEq, ↓reduceIte, Nat.reduceEqDiff, Nat.reduceLeDiff, Nat.reduceAdd, Nat.reduceLT, Int.reduceEq, Int.reduceLT, Int.reduceLE, Int.reduceNeg, Int.reduceAdd, c159, hl]
  have hgo : checkFields l = checkFieldsGo none l := by rw [checkFields, if_neg (by omega)]
  rw [hgo]
  generalize hrr : checkFieldsGo none l = res
  refine xw_loopJ (σ := List Fld × List Fld) (fun t => [(0, .ls nz (l.map Fld.c)), (9, .ls nz (l.map Fld.c)), (10, .int l.length), (11, .int t.1.length)]) (fun t H' n' => l = t.1 ++ t.2 ∧ checkFieldsGo t.1.getLast? t.2 = res ∧ Qt H H' n') (fun t => t.2.length) ([], l) ⟨rfl, hrr, .refl hlow⟩ (by simp -dsimp -implicitDefEqProofs (disch := omega) only [↓wpre, push_cast, reduceCtorEq, ↓reduceIte, Nat.reduceEqDiff, Nat.reduceLeDiff, Nat.reduceAdd, Nat.reduceLT, Int.reduceEq, Int.reduceLT, Int.reduceLE, Int.reduceNeg, Int.reduceAdd]) ?_
  clear hgo hrr
  rintro ⟨a, b⟩ fr H' n ⟨hab, hf, hq⟩ hh
  simp only [has_nil, has_cons, and_true] at hh hab hf
  have hll : l.length = a.length + b.length := by rw [hab]; simp
  cases b with
  | nil =>
    have hnl : ¬ (a.length : Int) < l.length := by rw [hll]; simp
    rw [checkFieldsGo] at hf
    rw [← hf]
    simp -dsimp -implicitDefEqProofs (disch := omega) only [↓wpre, push_cast, reduceCtorEq, ↓reduceIte, Nat.reduceEqDiff, Nat.reduceLeDiff, Nat.reduceAdd, Nat.reduceLT, Int.reduceEq, Int.reduceLT, Int.reduceLE, Int.reduceNeg, Int.reduceAdd, hh, hnl]
    first | exact hq.1 | exact ⟨rfl, hq.1⟩
  | cons x b =>
    have hlt : (a.length : Int) < l.length := by rw [hll]; simp only [List.length_cons]; omega
    have hx : l[a.length]? = some x := by rw [hab]; simp
    have hsx := hk x (by rw [hab]; simp)
    have hs1 : x.name.size ≤ 9223372036854775807 := by omega
    have hs2 : x.val.text.size ≤ 1000000 := by omega
    rw [checkFieldsGo] at hf
    have hret : ∀ e : Int, fieldErr a.getLast? x = e → e ≠ 0 → AV.int e = AV.int res := fun e h1 h2 => by rw [← hf, if_pos (by rw [h1]; exact h2), h1]
    have hend : fieldErr a.getLast? x = 0 → checkFieldsGo (a ++ [x]).getLast? b = res := fun e => by rw [getLast?_snoc, ← hf, if_neg (by simp [e])]
    clear hf
    cases hp : a.getLast? with
    | none =>
      have hz := len_of_none hp
      rw [hp] at hret hend
      simp -dsimp -implicitDefEqProofs (disch := omega) only [↓wpre, push_cast, reduceCtorEq, ↓reduceIte, Nat.reduceEqDiff, Nat.reduceLeDiff, Nat.reduceAdd, Nat.reduceLT, Int.reduceEq, Int.reduceLT, Int.reduceLE, Int.reduceNeg, Int.reduceAdd, hh, hlt, even_flds, aidx_at _ hx]
      repeat' (first | ((first | with_reducible refine cnd_ndec (fun hc => ?_) (fun hc => ?_) | with_reducible refine cnd_dec (fun hc => ?_) (fun hc => ?_) | with_reducible refine cnd_nb (fun hc => ?_) (fun hc => ?_) | with_reducible refine cnd_intro (fun hc => ?_) (fun hc => ?_)) <;> (first | (exfalso; omega) | (try simp -dsimp -implicitDefEqProofs (disch := omega) only [↓wpre, push_cast, reduceCtorEq, ↓reduceIte, Nat.reduceEqDiff, Nat.reduceLeDiff, Nat.reduceAdd, Nat.reduceLT, Int.reduceEq, Int.reduceLT, Int.reduceLE, Int.reduceNeg, Int.reduceAdd, hc, hh, hz]))) | (with_reducible refine anyN_intro fun n' hn' => ?_; try simp -dsimp -implicitDefEqProofs (disch := omega) only [↓wpre, push_cast, reduceCtorEq, ↓reduceIte, Nat.reduceEqDiff, Nat.reduceLeDiff, Nat.reduceAdd, Nat.reduceLT, Int.reduceEq, Int.reduceLT, Int.reduceLE, Int.reduceNeg, Int.reduceAdd, hh, hz]) | ((first | with_reducible refine (isKey_c _ _ _ hs1).x fun n' hn' => ?_ | with_reducible refine xfn_intro (isKey_c _ _ _ hs1) ?_); try simp -dsimp -implicitDefEqProofs (disch := omega) only [↓wpre, push_cast, reduceCtorEq, ↓reduceIte, Nat.reduceEqDiff, Nat.reduceLeDiff, Nat.reduceAdd, Nat.reduceLT, Int.reduceEq, Int.reduceLT, Int.reduceLE, Int.reduceNeg, Int.reduceAdd, hh]) | ((first | with_reducible refine (checkValue_c _ _ hU x.val hs2).x fun n' hn' => ?_ | with_reducible refine xfn_intro (checkValue_c _ _ hU x.val hs2) ?_); try simp -dsimp -implicitDefEqProofs (disch := omega) only [↓wpre, push_cast, reduceCtorEq, ↓reduceIte, Nat.reduceEqDiff, Nat.reduceLeDiff, Nat.reduceAdd, Nat.reduceLT, Int.reduceEq, Int.reduceLT, Int.reduceLE, Int.reduceNeg, Int.reduceAdd, hh]))
      all_goals first
        | (refine againJ (a ++ [x], b) (Nat.lt_succ_self _) ⟨by rw [hab]; simp, hend ?_, by exact Qt.mono (n := n) (by repeat (first | exact hq | refine Qt.hu ?_ (by omega))) (by omega)⟩ (by simp -dsimp -implicitDefEqProofs (disch := omega) only [↓wpre, push_cast, reduceCtorEq, ↓reduceIte, Nat.reduceEqDiff, Nat.reduceLeDiff, Nat.reduceAdd, Nat.reduceLT, Int.reduceEq, Int.reduceLT, Int.reduceLE, Int.reduceNeg, Int.reduceAdd, hh]; all_goals (try simp only [AV.lit.injEq, Value.int.injEq, Value.bool.injEq, true_and, and_true]); all_goals (try (repeat' apply And.intro)); all_goals (first | rfl | omega | simp_all | skip)); (grind [fieldErr]))
        | (refine ⟨hret _ ?_ ?_, by exact (Qt.mono (n := n) (by repeat (first | exact hq | refine Qt.hu ?_ (by omega))) (Nat.le_refl _)).1⟩ <;> (grind [fieldErr]))
    | some p =>
      have hz := len_of_last hp
      have hpx : l[a.length - 1]? = some p := by
        rw [hab, List.getElem?_append_left (by omega), ← List.getLast?_eq_getElem?, hp]
      have e1 : ((a.length : Int) - 1) = ((a.length - 1 : Nat) : Int) := by omega
      rw [hp] at hret hend
      simp -dsimp -implicitDefEqProofs (disch := omega) only [↓wpre, push_cast, reduceCtorEq, ↓reduceIte, Nat.reduceEqDiff, Nat.reduceLeDiff, Nat.reduceAdd, Nat.reduceLT, Int.reduceEq, Int.reduceLT, Int.reduceLE, Int.reduceNeg, Int.reduceAdd, hh, hlt, even_flds, aidx_at _ hx]
      repeat' (first | ((first | with_reducible refine cnd_ndec (fun hc => ?_) (fun hc => ?_) | with_reducible refine cnd_dec (fun hc => ?_) (fun hc => ?_) | with_reducible refine cnd_nb (fun hc => ?_) (fun hc => ?_) | with_reducible refine cnd_intro (fun hc => ?_) (fun hc => ?_)) <;> (first | (exfalso; omega) | (try simp -dsimp -implicitDefEqProofs (disch := omega) only [↓wpre, push_cast, reduceCtorEq, ↓reduceIte, Nat.reduceEqDiff, Nat.reduceLeDiff, Nat.reduceAdd, Nat.reduceLT, Int.reduceEq, Int.reduceLT, Int.reduceLE, Int.reduceNeg, Int.reduceAdd, hc, hh, hz, even_flds, aidx_at e1 hpx]))) | (with_reducible refine anyN_intro fun n' hn' => ?_; try simp -dsimp -implicitDefEqProofs (disch := omega) only [↓wpre, push_cast, reduceCtorEq, ↓reduceIte, Nat.reduceEqDiff, Nat.reduceLeDiff, Nat.reduceAdd, Nat.reduceLT, Int.reduceEq, Int.reduceLT, Int.reduceLE, Int.reduceNeg, Int.reduceAdd, hh, hz, even_flds, aidx_at e1 hpx]) | ((first | with_reducible refine (isKey_c _ _ _ hs1).x fun n' hn' => ?_ | with_reducible refine xfn_intro (isKey_c _ _ _ hs1) ?_); try simp -dsimp -implicitDefEqProofs (disch := omega) only [↓wpre, push_cast, reduceCtorEq, ↓reduceIte, Nat.reduceEqDiff, Nat.reduceLeDiff, Nat.reduceAdd, Nat.reduceLT, Int.reduceEq, Int.reduceLT, Int.reduceLE, Int.reduceNeg, Int.reduceAdd, hh]) | ((first | with_reducible refine (checkValue_c _ _ hU x.val hs2).x fun n' hn' => ?_ | with_reducible refine xfn_intro (checkValue_c _ _ hU x.val hs2) ?_); try simp -dsimp -implicitDefEqProofs (disch := omega) only [↓wpre, push_cast, reduceCtorEq, ↓reduceIte, Nat.reduceEqDiff, Nat.reduceLeDiff, Nat.reduceAdd, Nat.reduceLT, Int.reduceEq, Int.reduceLT, Int.reduceLE, Int.reduceNeg, Int.reduceAdd, hh]))
      all_goals first
        | (refine againJ (a ++ [x], b) (Nat.lt_succ_self _) ⟨by rw [hab]; simp, hend ?_, by exact Qt.mono (n := n) (by repeat (first | exact hq | refine Qt.hu ?_ (by omega))) (by omega)⟩ (by simp -dsimp -implicitDefEqProofs (disch := omega) only [↓wpre, push_cast, reduceCtorEq, ↓reduceIte, Nat.reduceEqDiff, Nat.reduceLeDiff, Nat.reduceAdd, Nat.reduceLT, Int.reduceEq, Int.reduceLT, Int.reduceLE, Int.reduceNeg, Int.reduceAdd, hh]; all_goals (try simp only [AV.lit.injEq, Value.int.injEq, Value.bool.injEq, true_and, and_true]); all_goals (try (repeat' apply And.intro)); all_goals (first | rfl | omega | simp_all | skip)); (grind [fieldErr]))
        | (refine ⟨hret _ ?_ ?_, by exact (Qt.mono (n := n) (by repeat (first | exact hq | refine Qt.hu ?_ (by omega))) (Nat.le_refl _)).1⟩ <;> (grind [fieldErr]))
        | trace_state
theorem checkOne_c (hU : GU G) (e : Evt) (hs : SmallE e) : AFn Tryz.prog G 98 [.agg e.c] H (.int (checkOne e)) := by
  obtain ⟨m, cs, hG3⟩ := hU.ok.maxLen
  have s1 : e.id.size ≤ 9223372036854775807 := by have := hs.1; omega
  have s2 : e.name.size ≤ 9223372036854775807 := by have := hs.2.1; omega
  have s3 : e.who.text.size < 4294967281 := by have := hs.2.2.1; omega
  have hf : SmallF e.fs := hs.2.2.2.2
  have hl : e.fs.length ≤ 1000 := by have := hs.2.2.2.1; omega
  refine AFn.start mix F98 (by simp) fun k hlow => ?_
  simp -dsimp -implicitDefEqProofs (disch := omega) only [↓wpre, push_cast, reduceCtorEq, ↓reduceIte, Nat.reduceEqDiff, Nat.reduceLeDiff, Nat.reduceAdd, Nat.reduceLT, Int.reduceEq, Int.reduceLT, Int.reduceLE, Int.reduceNeg, Int.reduceAdd, c98]
  repeat' (first | ((first | with_reducible refine cnd_ndec (fun hc => ?_) (fun hc => ?_) | with_reducible refine cnd_dec (fun hc => ?_) (fun hc => ?_) | with_reducible refine cnd_nb (fun hc => ?_) (fun hc => ?_) | with_reducible refine cnd_intro (fun hc => ?_) (fun hc => ?_)) <;> (first | (exfalso; omega) | (try simp -dsimp -implicitDefEqProofs (disch := omega) only [↓wpre, push_cast, reduceCtorEq, ↓reduceIte, Nat.reduceEqDiff, Nat.reduceLeDiff, Nat.reduceAdd, Nat.reduceLT, Int.reduceEq, Int.reduceLT, Int.reduceLE, Int.reduceNeg, Int.reduceAdd, hc, true_and]))) | (with_reducible refine anyN_intro fun n' hn' => ?_; try simp -dsimp -implicitDefEqProofs (disch := omega) only [↓wpre, push_cast, reduceCtorEq, ↓reduceIte, Nat.reduceEqDiff, Nat.reduceLeDiff, Nat.reduceAdd, Nat.reduceLT, Int.reduceEq, Int.reduceLT, Int.reduceLE, Int.reduceNeg, Int.reduceAdd, true_and]) | ((first | with_reducible refine (isKey_c _ _ _ s1).x fun n' hn' => ?_ | with_reducible refine xfn_intro (isKey_c _ _ _ s1) ?_); try simp -dsimp -implicitDefEqProofs (disch := omega) only [↓wpre, push_cast, reduceCtorEq, ↓reduceIte, Nat.reduceEqDiff, Nat.reduceLeDiff, Nat.reduceAdd, Nat.reduceLT, Int.reduceEq, Int.reduceLT, Int.reduceLE, Int.reduceNeg, Int.reduceAdd, true_and]) | ((first | with_reducible refine (isKey_c _ _ _ s2).x fun n' hn' => ?_ | with_reducible refine xfn_intro (isKey_c _ _ _ s2) ?_); try simp -dsimp -implicitDefEqProofs (disch := omega) only [↓wpre, push_cast, reduceCtorEq, ↓reduceIte, Nat.reduceEqDiff, Nat.reduceLeDiff, Nat.reduceAdd, Nat.reduceLT, Int.reduceEq, Int.reduceLT, Int.reduceLE, Int.reduceNeg, Int.reduceAdd, true_and]) | ((first | with_reducible refine (within_c _ _ _ _ _).x fun n' hn' => ?_ | with_reducible refine xfn_intro (within_c _ _ _ _ _) ?_); try simp -dsimp -implicitDefEqProofs (disch := omega) only [↓wpre, push_cast, reduceCtorEq, ↓reduceIte, Nat.reduceEqDiff, Nat.reduceLeDiff, Nat.reduceAdd, Nat.reduceLT, Int.reduceEq, Int.reduceLT, Int.reduceLE, Int.reduceNeg, Int.reduceAdd, Pm.within]) | ((first | with_reducible refine (checkId_c _ _ hG3 _ _ s3).x fun n' hn' => ?_ | with_reducible refine xfn_intro (checkId_c _ _ hG3 _ _ s3) ?_); try simp -dsimp -implicitDefEqProofs (disch := omega) only [↓wpre, push_cast, reduceCtorEq, ↓reduceIte, Nat.reduceEqDiff, Nat.reduceLeDiff, Nat.reduceAdd, Nat.reduceLT, Int.reduceEq, Int.reduceLT, Int.reduceLE, Int.reduceNeg, Int.reduceAdd, true_and]) | ((first | with_reducible refine (checkFields_c _ _ hU e.nz e.fs hf hl).x fun n' hn' => ?_ | with_reducible refine xfn_intro (checkFields_c _ _ hU e.nz e.fs hf hl) ?_); try simp -dsimp -implicitDefEqProofs (disch := omega) only [↓wpre, push_cast, reduceCtorEq, ↓reduceIte, Nat.reduceEqDiff, Nat.reduceLeDiff, Nat.reduceAdd, Nat.reduceLT, Int.reduceEq, Int.reduceLT, Int.reduceLE, Int.reduceNeg, Int.reduceAdd, true_and]))
  all_goals (clear hlow hU hf hG3; rw [checkOne]; grind [Pm.within])
end Go.Proofs.YtdbfkibbhmbaoaaGreatDoor

