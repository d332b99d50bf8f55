/- Contracts of functions of the program: each computes what its model says; the conditions stand at each. -/
import Derived.Test.YthcedgclhoggcaaGreatDoorP1
import Derived.Test.YthcedgclhoggcaaGreatDoorW1
set_option linter.unusedSimpArgs false
set_option linter.unusedVariables false
set_option maxRecDepth 20000
set_option pp.deepTerms false
set_option pp.deepTerms.threshold 3
namespace Go.Proofs.YthcedgclhoggcaaGreatDoor
open Go Go.Ab Go.Pm Go.Cm
variable (G : Nat → AV) (H : Nat → Option AObj)
theorem isNaNI_c (n : Int) : AFn Tryz.prog G 128 [.int n] H (.bool false) := by
  refine AFn.start mix F128 (by simp) fun k hlow => ?_
  simp -dsimp -implicitDefEqProofs (disch := omega) only [↓wpre, push_cast, reduceCtorEq, ↓reduceIte, Nat.reduceEqDiff, Nat.reduceLeDiff, Nat.reduceAdd, Nat.reduceLT, Int.reduceEq, Int.reduceLT, Int.reduceLE, Int.reduceNeg, Int.reduceAdd, c128]
theorem isNaNS_c (s : T) : AFn Tryz.prog G 149 [.str s] H (.bool false) := by
  refine AFn.start mix F149 (by simp) fun k hlow => ?_
  simp -dsimp -implicitDefEqProofs (disch := omega) only [↓wpre, push_cast, reduceCtorEq, ↓reduceIte, Nat.reduceEqDiff, Nat.reduceLeDiff, Nat.reduceAdd, Nat.reduceLT, Int.reduceEq, Int.reduceLT, Int.reduceLE, Int.reduceNeg, Int.reduceAdd, c149]
theorem cmpI_c (a b : Int) : AFn Tryz.prog G 88 [.int a, .int b] H (.int (cmpI a b)) := by
  refine AFn.start mix F88 (by simp) fun k hlow => ?_
  simp -dsimp -implicitDefEqProofs (disch := omega) only [↓wpre, push_cast, reduceCtorEq, ↓reduceIte, Nat.reduceEqDiff, Nat.reduceLeDiff, Nat.reduceAdd, Nat.reduceLT, Int.reduceEq, Int.reduceLT, Int.reduceLE, Int.reduceNeg, Int.reduceAdd, c88]
  repeat' (first | ((first | with_reducible refine cnd_ndec (fun hc => ?_) (fun hc => ?_) | with_reducible refine cnd_dec (fun hc => ?_) (fun hc => ?_) | with_reducible refine cnd_nb (fun hc => ?_) (fun hc => ?_) | with_reducible refine cnd_intro (fun hc => ?_) (fun hc => ?_)) <;> (first | (exfalso; omega) | (try simp -dsimp -implicitDefEqProofs (disch := omega) only [↓wpre, push_cast, reduceCtorEq, ↓reduceIte, Nat.reduceEqDiff, Nat.reduceLeDiff, Nat.reduceAdd, Nat.reduceLT, Int.reduceEq, Int.reduceLT, Int.reduceLE, Int.reduceNeg, Int.reduceAdd, hc, true_and]))) | (with_reducible refine anyN_intro fun n' hn' => ?_; try simp -dsimp -implicitDefEqProofs (disch := omega) only [↓wpre, push_cast, reduceCtorEq, ↓reduceIte, Nat.reduceEqDiff, Nat.reduceLeDiff, Nat.reduceAdd, Nat.reduceLT, Int.reduceEq, Int.reduceLT, Int.reduceLE, Int.reduceNeg, Int.reduceAdd, true_and]) | ((first | with_reducible refine (isNaNI_c _ _ _).x fun n' hn' => ?_ | with_reducible refine xfn_intro (isNaNI_c _ _ _) ?_); try simp -dsimp -implicitDefEqProofs (disch := omega) only [↓wpre, push_cast, reduceCtorEq, ↓reduceIte, Nat.reduceEqDiff, Nat.reduceLeDiff, Nat.reduceAdd, Nat.reduceLT, Int.reduceEq, Int.reduceLT, Int.reduceLE, Int.reduceNeg, Int.reduceAdd, true_and]))
  all_goals grind [cmpI]
theorem cmpS_c (a b : T) : AFn Tryz.prog G 97 [.str a, .str b] H (.int (cmpS a b)) := by
  refine AFn.start mix F97 (by simp) fun k hlow => ?_
  simp -dsimp -implicitDefEqProofs (disch := omega) only [↓wpre, push_cast, reduceCtorEq, ↓reduceIte, Nat.reduceEqDiff, Nat.reduceLeDiff, Nat.reduceAdd, Nat.reduceLT, Int.reduceEq, Int.reduceLT, Int.reduceLE, Int.reduceNeg, Int.reduceAdd, c97]
  repeat' (first | ((first | with_reducible refine cnd_ndec (fun hc => ?_) (fun hc => ?_) | with_reducible refine cnd_dec (fun hc => ?_) (fun hc => ?_) | with_reducible refine cnd_nb (fun hc => ?_) (fun hc => ?_) | with_reducible refine cnd_intro (fun hc => ?_) (fun hc => ?_)) <;> (first | (exfalso; omega) | (try simp -dsimp -implicitDefEqProofs (disch := omega) only [↓wpre, push_cast, reduceCtorEq, ↓reduceIte, Nat.reduceEqDiff, Nat.reduceLeDiff, Nat.reduceAdd, Nat.reduceLT, Int.reduceEq, Int.reduceLT, Int.reduceLE, Int.reduceNeg, Int.reduceAdd, hc, true_and]))) | (with_reducible refine anyN_intro fun n' hn' => ?_; try simp -dsimp -implicitDefEqProofs (disch := omega) only [↓wpre, push_cast, reduceCtorEq, ↓reduceIte, Nat.reduceEqDiff, Nat.reduceLeDiff, Nat.reduceAdd, Nat.reduceLT, Int.reduceEq, Int.reduceLT, Int.reduceLE, Int.reduceNeg, Int.reduceAdd, true_and]) | ((first | with_reducible refine (isNaNS_c _ _ _).x fun n' hn' => ?_ | with_reducible refine xfn_intro (isNaNS_c _ _ _) ?_); try simp -dsimp -implicitDefEqProofs (disch := omega) only [↓wpre, push_cast, reduceCtorEq, ↓reduceIte, Nat.reduceEqDiff, Nat.reduceLeDiff, Nat.reduceAdd, Nat.reduceLT, Int.reduceEq, Int.reduceLT, Int.reduceLE, Int.reduceNeg, Int.reduceAdd, true_and]))
  all_goals simp_all [cmpS]
theorem even_ints (l : List Int) : Even 1 (l.map fun x => [AV.int x]) := by
  intro r hr
  obtain ⟨s, _, rfl⟩ := List.mem_map.1 hr
  exact ⟨rfl, rfl⟩
theorem even_ints' (l : List Int) : Even 1 (l.map fun x => [AV.int x]) = True := eq_true (even_ints l)
theorem cmpOr_c (l : List Int) (hl : l.length ≤ 1000) : AFn Tryz.prog G 95 [.ls true (l.map fun x => [AV.int x])] H (.int (cmpOr l)) := by
  refine AFn.start mix F95 (by simp) fun k hlow => ?_
  simp -dsimp -implicitDefEqProofs (disch := omega) only [↓wpre, push_cast, reduceCtorEq, ↓reduceIte, Nat.reduceEqDiff, Nat.reduceLeDiff, Nat.reduceAdd, Nat.reduceLT, Int.reduceEq, Int.reduceLT, Int.reduceLE, Int.reduceNeg, Int.reduceAdd, c95]
  refine xw_loopJ (σ := List Int × List Int) (fun t => [(3, .int 0), (6, .ls true (l.map fun x => [AV.int x])), (7, .int l.length), (8, .int t.1.length)]) (fun t H' n' => l = t.1 ++ t.2 ∧ cmpOr t.2 = cmpOr l ∧ Qt H H' n') (fun t => t.2.length) ([], l) ⟨rfl, rfl, .refl hlow⟩ (by simp -dsimp -implicitDefEqProofs (disch := omega) only [↓wpre, push_cast, reduceCtorEq, ↓reduceIte, Nat.reduceEqDiff, Nat.reduceLeDiff, Nat.reduceAdd, Nat.reduceLT, Int.reduceEq, Int.reduceLT, Int.reduceLE, Int.reduceNeg, Int.reduceAdd]) ?_
  rintro ⟨a, b⟩ fr H' n ⟨rfl, hf, hq⟩ hh
  simp only [has_nil, has_cons, and_true, List.length_append] at hh hl hf
  cases b with
  | nil =>
    simp -dsimp -implicitDefEqProofs (disch := omega) only [↓wpre, push_cast, reduceCtorEq, ↓reduceIte, Nat.reduceEqDiff, Nat.reduceLeDiff, Nat.reduceAdd, Nat.reduceLT, Int.reduceEq, Int.reduceLT, Int.reduceLE, Int.reduceNeg, Int.reduceAdd, hh]
    simp only [List.append_nil, cmpOr] at hf
    rw [← hf]
    exact ⟨rfl, hq.1⟩
  | cons x b =>
    have hlt : (a.length : Int) < a.length + (b.length + 1) := by omega
    simp only [List.length_cons] at hl
    simp -dsimp -implicitDefEqProofs (disch := omega) only [↓wpre, push_cast, reduceCtorEq, ↓reduceIte, Nat.reduceEqDiff, Nat.reduceLeDiff, Nat.reduceAdd, Nat.reduceLT, Int.reduceEq, Int.reduceLT, Int.reduceLE, Int.reduceNeg, Int.reduceAdd, hh, hlt, even_ints', aidx_split]
    (first | with_reducible refine cnd_ndec (fun hc => ?_) (fun hc => ?_) | with_reducible refine cnd_dec (fun hc => ?_) (fun hc => ?_) | with_reducible refine cnd_nb (fun hc => ?_) (fun hc => ?_) | with_reducible refine cnd_intro (fun hc => ?_) (fun hc => ?_)) <;> (first | (exfalso; omega) | (try simp -dsimp -implicitDefEqProofs (disch := omega) only [↓wpre, push_cast, reduceCtorEq, ↓reduceIte, Nat.reduceEqDiff, Nat.reduceLeDiff, Nat.reduceAdd, Nat.reduceLT, Int.reduceEq, Int.reduceLT, Int.reduceLE, Int.reduceNeg, Int.reduceAdd, hc, hh]))
    · refine ⟨?_, hq.1⟩
      rw [← hf, cmpOr, if_pos hc]
    · refine againJ (a ++ [x], b) (Nat.lt_succ_self _) ⟨by simp, ?_, ?_⟩ ?_
      · rw [← hf, cmpOr, if_neg (by simpa using hc)]
      · exact Qt.mono (n := n) (by repeat (first | exact hq | refine Qt.hu ?_ (by omega))) (by omega)
      · simp -dsimp -implicitDefEqProofs (disch := omega) only [↓wpre, push_cast, reduceCtorEq, ↓reduceIte, Nat.reduceEqDiff, Nat.reduceLeDiff, Nat.reduceAdd, Nat.reduceLT, Int.reduceEq, Int.reduceLT, Int.reduceLE, Int.reduceNeg, Int.reduceAdd, hh]
        all_goals (try simp only [AV.lit.injEq, Value.int.injEq, Value.bool.injEq, true_and, and_true]); all_goals (try (repeat' apply And.intro)); all_goals (first | rfl | omega | simp_all | skip)
theorem termCmpG_c (r r' : T) (c c' : Int) (f f' d d' v v' : AV) : AFn Tryz.prog G 106 [.agg [.str r, .int c, f, d, v], .agg [.str r', .int c', f', d', v']] H (.int (cmpOr [cmpS r r', cmpI c c'])) := by
  refine AFn.start mix F106 (by simp) fun k hlow => ?_
  simp -dsimp -implicitDefEqProofs (disch := omega) only [↓wpre, push_cast, reduceCtorEq, ↓reduceIte, Nat.reduceEqDiff, Nat.reduceLeDiff, Nat.reduceAdd, Nat.reduceLT, Int.reduceEq, Int.reduceLT, Int.reduceLE, Int.reduceNeg, Int.reduceAdd, c106]
  repeat' (first | ((first | with_reducible refine cnd_ndec (fun hc => ?_) (fun hc => ?_) | with_reducible refine cnd_dec (fun hc => ?_) (fun hc => ?_) | with_reducible refine cnd_nb (fun hc => ?_) (fun hc => ?_) | with_reducible refine cnd_intro (fun hc => ?_) (fun hc => ?_)) <;> (first | (exfalso; omega) | (try simp -dsimp -implicitDefEqProofs (disch := omega) only [↓wpre, push_cast, reduceCtorEq, ↓reduceIte, Nat.reduceEqDiff, Nat.reduceLeDiff, Nat.reduceAdd, Nat.reduceLT, Int.reduceEq, Int.reduceLT, Int.reduceLE, Int.reduceNeg, Int.reduceAdd, hc, true_and]))) | (with_reducible refine anyN_intro fun n' hn' => ?_; try simp -dsimp -implicitDefEqProofs (disch := omega) only [↓wpre, push_cast, reduceCtorEq, ↓reduceIte, Nat.reduceEqDiff, Nat.reduceLeDiff, Nat.reduceAdd, Nat.reduceLT, Int.reduceEq, Int.reduceLT, Int.reduceLE, Int.reduceNeg, Int.reduceAdd, true_and]) | ((first | with_reducible refine (cmpI_c _ _ _ _).x fun n' hn' => ?_ | with_reducible refine xfn_intro (cmpI_c _ _ _ _) ?_); try simp -dsimp -implicitDefEqProofs (disch := omega) only [↓wpre, push_cast, reduceCtorEq, ↓reduceIte, Nat.reduceEqDiff, Nat.reduceLeDiff, Nat.reduceAdd, Nat.reduceLT, Int.reduceEq, Int.reduceLT, Int.reduceLE, Int.reduceNeg, Int.reduceAdd, true_and]) | ((first | with_reducible refine (cmpS_c _ _ _ _).x fun n' hn' => ?_ | with_reducible refine xfn_intro (cmpS_c _ _ _ _) ?_); try simp -dsimp -implicitDefEqProofs (disch := omega) only [↓wpre, push_cast, reduceCtorEq, ↓reduceIte, Nat.reduceEqDiff, Nat.reduceLeDiff, Nat.reduceAdd, Nat.reduceLT, Int.reduceEq, Int.reduceLT, Int.reduceLE, Int.reduceNeg, Int.reduceAdd, true_and]) | ((first | with_reducible refine (cmpOr_c _ _ [cmpS r r', cmpI c c'] (by simp)).x fun n' hn' => ?_ | with_reducible refine xfn_intro (cmpOr_c _ _ [cmpS r r', cmpI c c'] (by simp)) ?_); try simp -dsimp -implicitDefEqProofs (disch := omega) only [↓wpre, push_cast, reduceCtorEq, ↓reduceIte, Nat.reduceEqDiff, Nat.reduceLeDiff, Nat.reduceAdd, Nat.reduceLT, Int.reduceEq, Int.reduceLT, Int.reduceLE, Int.reduceNeg, Int.reduceAdd, true_and]))
theorem termCmp_c (a b : Term) : AFn Tryz.prog G 106 [.agg a.c, .agg b.c] H (.int (termCmp a b)) := termCmpG_c _ _ _ _ _ _ _ _ _ _ _ _
/-- The search's result lies within. -/
theorem bsGo_le (c : Nat → Int) : ∀ (k lo hi : Nat), lo ≤ hi → bsGo c k lo hi ≤ hi
  | 0, lo, hi, h => h
  | k + 1, lo, hi, h => by
    simp only [bsGo]
    split
    · split
      · exact bsGo_le c k _ _ (by omega)
      · exact Nat.le_trans (bsGo_le c k _ _ (by omega)) (by omega)
    · exact h
theorem bsAt_le {α : Type} (f : α → Int) (l : List α) : bsAt f l ≤ l.length := bsGo_le _ _ _ _ (Nat.zero_le _)
theorem even_purposes (l : List Purpose) : Even 2 (l.map Purpose.c) := by
  intro r hr
  obtain ⟨s, _, rfl⟩ := List.mem_map.1 hr
  exact ⟨rfl, rfl⟩
theorem even_purposes' (l : List Purpose) : Even 2 (l.map Purpose.c) = True := eq_true (even_purposes l)
theorem even_terms (l : List Term) : Even 5 (l.map Term.c) := by
  intro r hr
  obtain ⟨s, _, rfl⟩ := List.mem_map.1 hr
  exact ⟨rfl, rfl⟩
theorem even_terms' (l : List Term) : Even 5 (l.map Term.c) = True := eq_true (even_terms l)
theorem even_stms (l : List Stm) : Even 8 (l.map Stm.c) := by
  intro r hr
  obtain ⟨s, _, rfl⟩ := List.mem_map.1 hr
  exact ⟨rfl, rfl⟩
theorem even_stms' (l : List Stm) : Even 8 (l.map Stm.c) = True := eq_true (even_stms l)
theorem purposeOf1_c (p : Purpose) (name : T) : AFn Tryz.prog G 113 [.agg p.c, .str name] H (.int (cmpS p.name name)) := by
  refine AFn.start mix F113 (by simp) fun k hlow => ?_
  simp -dsimp -implicitDefEqProofs (disch := omega) only [↓wpre, push_cast, reduceCtorEq, ↓reduceIte, Nat.reduceEqDiff, Nat.reduceLeDiff, Nat.reduceAdd, Nat.reduceLT, Int.reduceEq, Int.reduceLT, Int.reduceLE, Int.reduceNeg, Int.reduceAdd, c113]
  (first | with_reducible refine (cmpS_c _ _ _ _).x fun n' hn' => ?_ | with_reducible refine xfn_intro (cmpS_c _ _ _ _) ?_); try simp -dsimp -implicitDefEqProofs (disch := omega) only [↓wpre, push_cast, reduceCtorEq, ↓reduceIte, Nat.reduceEqDiff, Nat.reduceLeDiff, Nat.reduceAdd, Nat.reduceLT, Int.reduceEq, Int.reduceLT, Int.reduceLE, Int.reduceNeg, Int.reduceAdd, true_and]
theorem bsPurpose_c (nz : Bool) (l : List Purpose) (name : T) (hl : l.length ≤ 1000000) : AFn Tryz.prog G 112 [.ls nz (l.map Purpose.c), .str name, .fn (.func 113) []] H (.tup [.int (bsAt (fun p => cmpS p.name name) l), .bool (bsHas (fun p => cmpS p.name name) l)]) := by
  have hle := bsAt_le (fun p => cmpS p.name name) l
  refine AFn.start mix F112 (by simp) fun k hlow => ?_
  simp -dsimp -implicitDefEqProofs (disch := omega) only [↓wpre, push_cast, reduceCtorEq, ↓reduceIte, Nat.reduceEqDiff, Nat.reduceLeDiff, Nat.reduceAdd, Nat.reduceLT, Int.reduceEq, Int.reduceLT, Int.reduceLE, Int.reduceNeg, Int.reduceAdd, c112]
  refine xw_loopJ (σ := Nat × Nat × Nat) (fun t => [(0, .ls nz (l.map Purpose.c)), (1, .str name), (2, .fn (.func 113) []), (8, .int l.length), (9, .int t.2.1), (10, .int t.2.2)]) (fun t H' n' => t.2.1 ≤ t.2.2 ∧ t.2.2 ≤ l.length ∧ t.2.2 - t.2.1 ≤ t.1 ∧ bsGo (at0 (fun p => cmpS p.name name) l) t.1 t.2.1 t.2.2 = bsAt (fun p => cmpS p.name name) l ∧ Qt H H' n') (fun t => t.2.2 - t.2.1) (l.length, 0, l.length) ⟨Nat.zero_le _, Nat.le_refl _, by simp, rfl, .refl hlow⟩ (by simp -dsimp -implicitDefEqProofs (disch := omega) only [↓wpre, push_cast, reduceCtorEq, ↓reduceIte, Nat.reduceEqDiff, Nat.reduceLeDiff, Nat.reduceAdd, Nat.reduceLT, Int.reduceEq, Int.reduceLT, Int.reduceLE, Int.reduceNeg, Int.reduceAdd]) ?_
  rintro ⟨m, lo, hi⟩ fr H' n ⟨h1, h2, h3, hf, hq⟩ hh
  simp only [has_nil, has_cons, and_true] at hh h1 h2 h3 hf
  by_cases hlt : (lo : Int) < hi
  · obtain ⟨m, rfl⟩ : ∃ k, m = k + 1 := ⟨m - 1, by omega⟩
    have hmid : (lo + hi) / 2 < l.length := by omega
    have hx := List.getElem?_eq_getElem hmid
    have hat : at0 (fun p => cmpS p.name name) l ((lo + hi) / 2) = cmpS (l[(lo + hi) / 2]).name name := by simp only [at0, hx]
    have e1 : ((lo : Int) + hi) / 2 = (((lo + hi) / 2 : Nat) : Int) := by omega
    rw [bsGo, if_pos (by omega), hat] at hf
    simp -dsimp -implicitDefEqProofs (disch := omega) only [↓wpre, push_cast, reduceCtorEq, ↓reduceIte, Nat.reduceEqDiff, Nat.reduceLeDiff, Nat.reduceAdd, Nat.reduceLT, Int.reduceEq, Int.reduceLT, Int.reduceLE, Int.reduceNeg, Int.reduceAdd, hh, hlt, even_purposes', aidx_at _ hx]
    (first | with_reducible refine (purposeOf1_c _ _ _ _).x fun n' hn' => ?_ | with_reducible refine xfn_intro (purposeOf1_c _ _ _ _) ?_); try simp -dsimp -implicitDefEqProofs (disch := omega) only [↓wpre, push_cast, reduceCtorEq, ↓reduceIte, Nat.reduceEqDiff, Nat.reduceLeDiff, Nat.reduceAdd, Nat.reduceLT, Int.reduceEq, Int.reduceLT, Int.reduceLE, Int.reduceNeg, Int.reduceAdd, true_and]
    (first | with_reducible refine cnd_ndec (fun hc => ?_) (fun hc => ?_) | with_reducible refine cnd_dec (fun hc => ?_) (fun hc => ?_) | with_reducible refine cnd_nb (fun hc => ?_) (fun hc => ?_) | with_reducible refine cnd_intro (fun hc => ?_) (fun hc => ?_)) <;> (first | (exfalso; omega) | (try simp -dsimp -implicitDefEqProofs (disch := omega) only [↓wpre, push_cast, reduceCtorEq, ↓reduceIte, Nat.reduceEqDiff, Nat.reduceLeDiff, Nat.reduceAdd, Nat.reduceLT, Int.reduceEq, Int.reduceLT, Int.reduceLE, Int.reduceNeg, Int.reduceAdd, hc, hh]))
    · rw [if_pos hc] at hf
      refine againJ (m, (lo + hi) / 2 + 1, hi) (by dsimp only; omega) ⟨by dsimp only; omega, h2, by dsimp only; omega, hf, ?_⟩ ?_
      · exact Qt.mono (n := n) (by repeat (first | exact hq | refine Qt.hu ?_ (by omega))) (by omega)
      · simp -dsimp -implicitDefEqProofs (disch := omega) only [↓wpre, push_cast, reduceCtorEq, ↓reduceIte, Nat.reduceEqDiff, Nat.reduceLeDiff, Nat.reduceAdd, Nat.reduceLT, Int.reduceEq, Int.reduceLT, Int.reduceLE, Int.reduceNeg, Int.reduceAdd, hh]
    · rw [if_neg hc] at hf
      refine againJ (m, lo, (lo + hi) / 2) (by dsimp only; omega) ⟨by dsimp only; omega, by dsimp only; omega, by dsimp only; omega, hf, ?_⟩ ?_
      · exact Qt.mono (n := n) (by repeat (first | exact hq | refine Qt.hu ?_ (by omega))) (by omega)
      · simp -dsimp -implicitDefEqProofs (disch := omega) only [↓wpre, push_cast, reduceCtorEq, ↓reduceIte, Nat.reduceEqDiff, Nat.reduceLeDiff, Nat.reduceAdd, Nat.reduceLT, Int.reduceEq, Int.reduceLT, Int.reduceLE, Int.reduceNeg, Int.reduceAdd, hh]
  · have hres : lo = bsAt (fun p => cmpS p.name name) l := by
      rw [← hf]; cases m <;> simp only [bsGo]; rw [if_neg (by omega)]
    rw [← hres] at hle ⊢
    rw [bsHas, ← hres]
    by_cases hn : lo < l.length
    · have hx := List.getElem?_eq_getElem hn
      have hat : at0 (fun p => cmpS p.name name) l lo = cmpS (l[lo]).name name := by simp only [at0, hx]
      have hlt2 : (lo : Int) < l.length := by omega
      simp -dsimp -implicitDefEqProofs (disch := omega) only [↓wpre, push_cast, reduceCtorEq, ↓reduceIte, Nat.reduceEqDiff, Nat.reduceLeDiff, Nat.reduceAdd, Nat.reduceLT, Int.reduceEq, Int.reduceLT, Int.reduceLE, Int.reduceNeg, Int.reduceAdd, hh, hlt, hlt2, even_purposes', aidx_at _ hx]
      (first | with_reducible refine (purposeOf1_c _ _ _ _).x fun n' hn' => ?_ | with_reducible refine xfn_intro (purposeOf1_c _ _ _ _) ?_); try simp -dsimp -implicitDefEqProofs (disch := omega) only [↓wpre, push_cast, reduceCtorEq, ↓reduceIte, Nat.reduceEqDiff, Nat.reduceLeDiff, Nat.reduceAdd, Nat.reduceLT, Int.reduceEq, Int.reduceLT, Int.reduceLE, Int.reduceNeg, Int.reduceAdd, hat]
      refine ⟨?_, hq.1⟩
      simp [hat, hn]
    · have hlt2 : ¬ (lo : Int) < l.length := by omega
      simp -dsimp -implicitDefEqProofs (disch := omega) only [↓wpre, push_cast, reduceCtorEq, ↓reduceIte, Nat.reduceEqDiff, Nat.reduceLeDiff, Nat.reduceAdd, Nat.reduceLT, Int.reduceEq, Int.reduceLT, Int.reduceLE, Int.reduceNeg, Int.reduceAdd, hh, hlt, hlt2]
      refine ⟨?_, hq.1⟩
      simp [hn]
theorem bsTerm_c (nz : Bool) (l : List Term) (q : Term) (hl : l.length ≤ 1000000) : AFn Tryz.prog G 105 [.ls nz (l.map Term.c), .agg q.c, .fn (.func 106) []] H (.tup [.int (bsAt (fun p => termCmp p q) l), .bool (bsHas (fun p => termCmp p q) l)]) := by
  have hle := bsAt_le (fun p => termCmp p q) l
  refine AFn.start mix F105 (by simp) fun k hlow => ?_
  simp -dsimp -implicitDefEqProofs (disch := omega) only [↓wpre, push_cast, reduceCtorEq, ↓reduceIte, Nat.reduceEqDiff, Nat.reduceLeDiff, Nat.reduceAdd, Nat.reduceLT, Int.reduceEq, Int.reduceLT, Int.reduceLE, Int.reduceNeg, Int.reduceAdd, c105]
  refine xw_loopJ (σ := Nat × Nat × Nat) (fun t => [(0, .ls nz (l.map Term.c)), (4, .pp q.c), (2, .fn (.func 106) []), (8, .int l.length), (9, .int t.2.1), (10, .int t.2.2)]) (fun t H' n' => t.2.1 ≤ t.2.2 ∧ t.2.2 ≤ l.length ∧ t.2.2 - t.2.1 ≤ t.1 ∧ bsGo (at0 (fun p => termCmp p q) l) t.1 t.2.1 t.2.2 = bsAt (fun p => termCmp p q) l ∧ Qt H H' n') (fun t => t.2.2 - t.2.1) (l.length, 0, l.length) ⟨Nat.zero_le _, Nat.le_refl _, by simp, rfl, .refl hlow⟩ (by simp -dsimp -implicitDefEqProofs (disch := omega) only [↓wpre, push_cast, reduceCtorEq, ↓reduceIte, Nat.reduceEqDiff, Nat.reduceLeDiff, Nat.reduceAdd, Nat.reduceLT, Int.reduceEq, Int.reduceLT, Int.reduceLE, Int.reduceNeg, Int.reduceAdd]) ?_
  rintro ⟨m, lo, hi⟩ fr H' n ⟨h1, h2, h3, hf, hq⟩ hh
  simp only [has_nil, has_cons, and_true] at hh h1 h2 h3 hf
  by_cases hlt : (lo : Int) < hi
  · obtain ⟨m, rfl⟩ : ∃ k, m = k + 1 := ⟨m - 1, by omega⟩
    have hmid : (lo + hi) / 2 < l.length := by omega
    have hx := List.getElem?_eq_getElem hmid
    have hat : at0 (fun p => termCmp p q) l ((lo + hi) / 2) = termCmp (l[(lo + hi) / 2]) q := by simp only [at0, hx]
    have e1 : ((lo : Int) + hi) / 2 = (((lo + hi) / 2 : Nat) : Int) := by omega
    rw [bsGo, if_pos (by omega), hat] at hf
    simp -dsimp -implicitDefEqProofs (disch := omega) only [↓wpre, push_cast, reduceCtorEq, ↓reduceIte, Nat.reduceEqDiff, Nat.reduceLeDiff, Nat.reduceAdd, Nat.reduceLT, Int.reduceEq, Int.reduceLT, Int.reduceLE, Int.reduceNeg, Int.reduceAdd, hh, hlt, even_terms', aidx_at _ hx]
    (first | with_reducible refine (termCmp_c _ _ _ _).x fun n' hn' => ?_ | with_reducible refine xfn_intro (termCmp_c _ _ _ _) ?_); try simp -dsimp -implicitDefEqProofs (disch := omega) only [↓wpre, push_cast, reduceCtorEq, ↓reduceIte, Nat.reduceEqDiff, Nat.reduceLeDiff, Nat.reduceAdd, Nat.reduceLT, Int.reduceEq, Int.reduceLT, Int.reduceLE, Int.reduceNeg, Int.reduceAdd, true_and]
    refine anyN_intro fun n' hn' => ?_
    simp -dsimp -implicitDefEqProofs (disch := omega) only [↓wpre, push_cast, reduceCtorEq, ↓reduceIte, Nat.reduceEqDiff, Nat.reduceLeDiff, Nat.reduceAdd, Nat.reduceLT, Int.reduceEq, Int.reduceLT, Int.reduceLE, Int.reduceNeg, Int.reduceAdd]
    (first | with_reducible refine cnd_ndec (fun hc => ?_) (fun hc => ?_) | with_reducible refine cnd_dec (fun hc => ?_) (fun hc => ?_) | with_reducible refine cnd_nb (fun hc => ?_) (fun hc => ?_) | with_reducible refine cnd_intro (fun hc => ?_) (fun hc => ?_)) <;> (first | (exfalso; omega) | (try simp -dsimp -implicitDefEqProofs (disch := omega) only [↓wpre, push_cast, reduceCtorEq, ↓reduceIte, Nat.reduceEqDiff, Nat.reduceLeDiff, Nat.reduceAdd, Nat.reduceLT, Int.reduceEq, Int.reduceLT, Int.reduceLE, Int.reduceNeg, Int.reduceAdd, hc, hh]))
    · rw [if_pos hc] at hf
      refine againJ (m, (lo + hi) / 2 + 1, hi) (by dsimp only; omega) ⟨by dsimp only; omega, h2, by dsimp only; omega, hf, ?_⟩ ?_
      · exact Qt.mono (n := n) (by repeat (first | exact hq | refine Qt.hu ?_ (by omega))) (by omega)
      · simp -dsimp -implicitDefEqProofs (disch := omega) only [↓wpre, push_cast, reduceCtorEq, ↓reduceIte, Nat.reduceEqDiff, Nat.reduceLeDiff, Nat.reduceAdd, Nat.reduceLT, Int.reduceEq, Int.reduceLT, Int.reduceLE, Int.reduceNeg, Int.reduceAdd, hh]
    · rw [if_neg hc] at hf
      refine againJ (m, lo, (lo + hi) / 2) (by dsimp only; omega) ⟨by dsimp only; omega, by dsimp only; omega, by dsimp only; omega, hf, ?_⟩ ?_
      · exact Qt.mono (n := n) (by repeat (first | exact hq | refine Qt.hu ?_ (by omega))) (by omega)
      · simp -dsimp -implicitDefEqProofs (disch := omega) only [↓wpre, push_cast, reduceCtorEq, ↓reduceIte, Nat.reduceEqDiff, Nat.reduceLeDiff, Nat.reduceAdd, Nat.reduceLT, Int.reduceEq, Int.reduceLT, Int.reduceLE, Int.reduceNeg, Int.reduceAdd, hh]
  · have hres : lo = bsAt (fun p => termCmp p q) l := by
      rw [← hf]; cases m <;> simp only [bsGo]; rw [if_neg (by omega)]
    rw [← hres] at hle ⊢
    rw [bsHas, ← hres]
    by_cases hn : lo < l.length
    · have hx := List.getElem?_eq_getElem hn
      have hat : at0 (fun p => termCmp p q) l lo = termCmp (l[lo]) q := by simp only [at0, hx]
      have hlt2 : (lo : Int) < l.length := by omega
      simp -dsimp -implicitDefEqProofs (disch := omega) only [↓wpre, push_cast, reduceCtorEq, ↓reduceIte, Nat.reduceEqDiff, Nat.reduceLeDiff, Nat.reduceAdd, Nat.reduceLT, Int.reduceEq, Int.reduceLT, Int.reduceLE, Int.reduceNeg, Int.reduceAdd, hh, hlt, hlt2, even_terms', aidx_at _ hx]
      (first | with_reducible refine (termCmp_c _ _ _ _).x fun n' hn' => ?_ | with_reducible refine xfn_intro (termCmp_c _ _ _ _) ?_); try simp -dsimp -implicitDefEqProofs (disch := omega) only [↓wpre, push_cast, reduceCtorEq, ↓reduceIte, Nat.reduceEqDiff, Nat.reduceLeDiff, Nat.reduceAdd, Nat.reduceLT, Int.reduceEq, Int.reduceLT, Int.reduceLE, Int.reduceNeg, Int.reduceAdd, hat]
      refine anyN_intro fun n'' hn'' => ?_
      simp -dsimp -implicitDefEqProofs (disch := omega) only [↓wpre, push_cast, reduceCtorEq, ↓reduceIte, Nat.reduceEqDiff, Nat.reduceLeDiff, Nat.reduceAdd, Nat.reduceLT, Int.reduceEq, Int.reduceLT, Int.reduceLE, Int.reduceNeg, Int.reduceAdd]
      refine ⟨?_, hq.1⟩
      simp [hat, hn]
    · have hlt2 : ¬ (lo : Int) < l.length := by omega
      simp -dsimp -implicitDefEqProofs (disch := omega) only [↓wpre, push_cast, reduceCtorEq, ↓reduceIte, Nat.reduceEqDiff, Nat.reduceLeDiff, Nat.reduceAdd, Nat.reduceLT, Int.reduceEq, Int.reduceLT, Int.reduceLE, Int.reduceNeg, Int.reduceAdd, hh, hlt, hlt2]
      refine anyN_intro fun n'' hn'' => ?_
      simp -dsimp -implicitDefEqProofs (disch := omega) only [↓wpre, push_cast, reduceCtorEq, ↓reduceIte, Nat.reduceEqDiff, Nat.reduceLeDiff, Nat.reduceAdd, Nat.reduceLT, Int.reduceEq, Int.reduceLT, Int.reduceLE, Int.reduceNeg, Int.reduceAdd]
      refine ⟨?_, hq.1⟩
      simp [hn]
theorem bsAt_get {α : Type} {f : α → Int} {l : List α} (h : bsHas f l = true) : bsAt f l < l.length := by
  simp only [bsHas, Bool.and_eq_true, decide_eq_true_eq] at h; exact h.1
theorem purposeOf_c (nz : Bool) (l : List Purpose) (name : T) (hl : l.length ≤ 1000000) : AFn Tryz.prog G 78 [.ls nz (l.map Purpose.c), .str name] H (.tup [.agg ((purposeOf l name).getD noPurpose).c, .bool (purposeOf l name).isSome]) := by
  refine AFn.start mix F78 (by simp) fun k hlow => ?_
  simp -dsimp -implicitDefEqProofs (disch := omega) only [↓wpre, push_cast, reduceCtorEq, ↓reduceIte, Nat.reduceEqDiff, Nat.reduceLeDiff, Nat.reduceAdd, Nat.reduceLT, Int.reduceEq, Int.reduceLT, Int.reduceLE, Int.reduceNeg, Int.reduceAdd, c78]
  (first | with_reducible refine (bsPurpose_c _ _ _ _ _ hl).x fun n' hn' => ?_ | with_reducible refine xfn_intro (bsPurpose_c _ _ _ _ _ hl) ?_); try simp -dsimp -implicitDefEqProofs (disch := omega) only [↓wpre, push_cast, reduceCtorEq, ↓reduceIte, Nat.reduceEqDiff, Nat.reduceLeDiff, Nat.reduceAdd, Nat.reduceLT, Int.reduceEq, Int.reduceLT, Int.reduceLE, Int.reduceNeg, Int.reduceAdd, true_and]
  (first | with_reducible refine cnd_ndec (fun hc => ?_) (fun hc => ?_) | with_reducible refine cnd_dec (fun hc => ?_) (fun hc => ?_) | with_reducible refine cnd_nb (fun hc => ?_) (fun hc => ?_) | with_reducible refine cnd_intro (fun hc => ?_) (fun hc => ?_)) <;> (first | (exfalso; omega) | (try simp -dsimp -implicitDefEqProofs (disch := omega) only [↓wpre, push_cast, reduceCtorEq, ↓reduceIte, Nat.reduceEqDiff, Nat.reduceLeDiff, Nat.reduceAdd, Nat.reduceLT, Int.reduceEq, Int.reduceLT, Int.reduceLE, Int.reduceNeg, Int.reduceAdd, hc, true_and]))
  · rw [purposeOf, if_neg (by simp [hc])]
    refine ⟨rfl, ?_⟩
    exact (Qt.mono (n := k) (by repeat (first | exact .refl hlow | refine Qt.hu ?_ (by omega))) (Nat.le_refl _)).1
  · have hx := List.getElem?_eq_getElem (bsAt_get hc)
    rw [purposeOf, if_pos hc, hx]
    simp -dsimp -implicitDefEqProofs (disch := omega) only [↓wpre, push_cast, reduceCtorEq, ↓reduceIte, Nat.reduceEqDiff, Nat.reduceLeDiff, Nat.reduceAdd, Nat.reduceLT, Int.reduceEq, Int.reduceLT, Int.reduceLE, Int.reduceNeg, Int.reduceAdd, even_purposes', aidx_at _ hx]
    refine ⟨rfl, ?_⟩
    exact (Qt.mono (n := k) (by repeat (first | exact .refl hlow | refine Qt.hu ?_ (by omega))) (Nat.le_refl _)).1
theorem termOf_c (nz : Bool) (l : List Purpose) (purpose region : T) (channel : Int) (hl : l.length ≤ 1000000) (hp : ∀ p ∈ l, p.terms.length ≤ 1000000) : AFn Tryz.prog G 73 [.ls nz (l.map Purpose.c), .str purpose, .str region, .int channel] H (.tup [.agg ((termOf l purpose region channel).getD noTerm).c, .bool (termOf l purpose region channel).isSome]) := by
  have hpl : ((purposeOf l purpose).getD noPurpose).terms.length ≤ 1000000 := by
    rw [purposeOf]
    split
    · rename_i h
      have hx := List.getElem?_eq_getElem (bsAt_get h)
      rw [hx]
      exact hp _ (List.getElem_mem _)
    · exact Nat.zero_le _
  refine AFn.start mix F73 (by simp) fun k hlow => ?_
  simp -dsimp -implicitDefEqProofs (disch := omega) only [↓wpre, push_cast, reduceCtorEq, ↓reduceIte, Nat.reduceEqDiff, Nat.reduceLeDiff, Nat.reduceAdd, Nat.reduceLT, Int.reduceEq, Int.reduceLT, Int.reduceLE, Int.reduceNeg, Int.reduceAdd, c73]
  (first | with_reducible refine (purposeOf_c _ _ _ _ _ hl).x fun n' hn' => ?_ | with_reducible refine xfn_intro (purposeOf_c _ _ _ _ _ hl) ?_); try simp -dsimp -implicitDefEqProofs (disch := omega) only [↓wpre, push_cast, reduceCtorEq, ↓reduceIte, Nat.reduceEqDiff, Nat.reduceLeDiff, Nat.reduceAdd, Nat.reduceLT, Int.reduceEq, Int.reduceLT, Int.reduceLE, Int.reduceNeg, Int.reduceAdd, true_and]
  obtain ⟨p, hpd⟩ : ∃ p, p = (purposeOf l purpose).getD noPurpose := ⟨_, rfl⟩
  have hT : termOf l purpose region channel = if bsHas (fun t => termCmp t ⟨region, channel, false, 0, 0⟩) p.terms = true then p.terms[bsAt (fun t => termCmp t ⟨region, channel, false, 0, 0⟩) p.terms]? else none := by subst hpd; rfl
  rw [← hpd] at hpl ⊢
  rw [hT]
  (first | with_reducible refine (bsTerm_c _ _ _ _ ⟨region, channel, false, 0, 0⟩ hpl).x fun n' hn' => ?_ | with_reducible refine xfn_intro (bsTerm_c _ _ _ _ ⟨region, channel, false, 0, 0⟩ hpl) ?_); try simp -dsimp -implicitDefEqProofs (disch := omega) only [↓wpre, push_cast, reduceCtorEq, ↓reduceIte, Nat.reduceEqDiff, Nat.reduceLeDiff, Nat.reduceAdd, Nat.reduceLT, Int.reduceEq, Int.reduceLT, Int.reduceLE, Int.reduceNeg, Int.reduceAdd, true_and]
  (first | with_reducible refine cnd_ndec (fun hc => ?_) (fun hc => ?_) | with_reducible refine cnd_dec (fun hc => ?_) (fun hc => ?_) | with_reducible refine cnd_nb (fun hc => ?_) (fun hc => ?_) | with_reducible refine cnd_intro (fun hc => ?_) (fun hc => ?_)) <;> (first | (exfalso; omega) | (try simp -dsimp -implicitDefEqProofs (disch := omega) only [↓wpre, push_cast, reduceCtorEq, ↓reduceIte, Nat.reduceEqDiff, Nat.reduceLeDiff, Nat.reduceAdd, Nat.reduceLT, Int.reduceEq, Int.reduceLT, Int.reduceLE, Int.reduceNeg, Int.reduceAdd, hc, true_and]))
  · refine ⟨rfl, ?_⟩
    exact (Qt.mono (n := k) (by repeat (first | exact .refl hlow | refine Qt.hu ?_ (by omega))) (Nat.le_refl _)).1
  · have hx := List.getElem?_eq_getElem (bsAt_get hc)
    rw [hx]
    simp -dsimp -implicitDefEqProofs (disch := omega) only [↓wpre, push_cast, reduceCtorEq, ↓reduceIte, Nat.reduceEqDiff, Nat.reduceLeDiff, Nat.reduceAdd, Nat.reduceLT, Int.reduceEq, Int.reduceLT, Int.reduceLE, Int.reduceNeg, Int.reduceAdd, even_terms', aidx_at _ hx]
    refine ⟨by rw [if_pos hc]; rfl, ?_⟩
    exact (Qt.mono (n := k) (by repeat (first | exact .refl hlow | refine Qt.hu ?_ (by omega))) (Nat.le_refl _)).1
end Go.Proofs.YthcedgclhoggcaaGreatDoor

