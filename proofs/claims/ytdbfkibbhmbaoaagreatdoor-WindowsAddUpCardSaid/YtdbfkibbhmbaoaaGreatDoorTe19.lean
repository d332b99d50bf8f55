/- Contracts of functions of the program: each computes what its model says; the conditions stand at each. -/
import Derived.Test.YtdbfkibbhmbaoaaGreatDoorTe18
set_option linter.unusedSimpArgs false
set_option linter.unusedVariables false
set_option maxRecDepth 20000
set_option pp.deepTerms false
set_option pp.deepTerms.threshold 3
namespace Go.Proofs.YtdbfkibbhmbaoaaGreatDoor
open Go Go.Ab Go.Pm Go.Cm Go.El Go.Em Go.Rm
variable (G : Nat → AV) (H : Nat → Option AObj)
def SmallF (l : List Fld) : Prop := ∀ f ∈ l, f.name.size ≤ 1000 ∧ f.val.text.size ≤ 1000
set_option maxHeartbeats 3200000 in
theorem rfields_c (hU : GU G) (nz : Bool) (l : List Fld) (hk : SmallF l) (hl0 : l.length ≤ 1000) : AFn Tryz.prog G 158 [.ls nz (l.map Fld.c)] H (.int (rFields l)) := by
  have hns := hU.ok.ns
  refine AFn.start mix F158 (by simp) fun k hlow => ?_
  by_cases hl : (30 : Int) < l.length
  · simp -dsimp -implicitDefEqProofs (disch := omega) only [↓wpre, push_cast, reduceCtorEq, ↓reduceIte, Nat.reduceEqDiff, Nat.reduceLeDiff, Nat.reduceAdd, Nat.reduceLT, Int.reduceEq, Int.reduceLT, Int.reduceLE, Int.reduceNeg, Int.reduceAdd, c158, hl]
    rw [rFields, if_pos (by omega)]
  simp -dsimp -implicitDefEqProofs (disch := omega) only [↓wpre, push_cast, reduceCtorEq, ↓reduceIte, Nat.reduceEqDiff, Nat.reduceLeDiff, Nat.reduceAdd, Nat.reduceLT, Int.reduceEq, Int.reduceLT, Int.reduceLE, Int.reduceNeg, Int.reduceAdd, c158, hl]
  have hgo : rFields l = rFieldsGo ⟨#[]⟩ l := by rw [rFields, if_neg (by omega)]
  rw [hgo]
  generalize hrr : rFieldsGo ⟨#[]⟩ l = res
  refine xw_loopJ (σ := List Fld × List Fld × T) (fun t => [(3, .str t.2.2), (10, .ls nz (l.map Fld.c)), (11, .int l.length), (12, .int t.1.length)]) (fun t H' n' => l = t.1 ++ t.2.1 ∧ rFieldsGo t.2.2 t.2.1 = res ∧ Qt H H' n') (fun t => t.2.1.length) ([], l, ⟨#[]⟩) ⟨rfl, hrr, .refl hlow⟩ (by simp -dsimp -implicitDefEqProofs (disch := omega) only [↓wpre, push_cast, reduceCtorEq, ↓reduceIte, Nat.reduceEqDiff, Nat.reduceLeDiff, Nat.reduceAdd, Nat.reduceLT, Int.reduceEq, Int.reduceLT, Int.reduceLE, Int.reduceNeg, Int.reduceAdd]) ?_
  clear hgo hrr
  rintro ⟨a, b, last⟩ fr H' n ⟨hab, hf, hq⟩ hh
  simp only [has_nil, has_cons, and_true] at hh hab hf
  have hll : l.length = a.length + b.length := by rw [hab]; simp
  cases b with
  | nil =>
    have hnl : ¬ (a.length : Int) < l.length := by rw [hll]; simp
    rw [rFieldsGo] at hf
    rw [← hf]
    simp -dsimp -implicitDefEqProofs (disch := omega) only [↓wpre, push_cast, reduceCtorEq, ↓reduceIte, Nat.reduceEqDiff, Nat.reduceLeDiff, Nat.reduceAdd, Nat.reduceLT, Int.reduceEq, Int.reduceLT, Int.reduceLE, Int.reduceNeg, Int.reduceAdd, hh, hnl]
    first | exact hq.1 | exact ⟨rfl, hq.1⟩
  | cons x b =>
    have hlt : (a.length : Int) < l.length := by rw [hll]; simp only [List.length_cons]; omega
    have hx : l[a.length]? = some x := by rw [hab]; simp
    have hsx := hk x (by rw [hab]; simp)
    have hs1 : x.name.size ≤ 1000000 := by omega
    have hs2 : x.val.text.size ≤ 1000000 := by omega
    rw [rFieldsGo] at hf
    have hret : ∀ e : Int, rFieldErr last x = e → e ≠ 0 → AV.int e = AV.int res := fun e h1 h2 => by rw [← hf, if_pos (by rw [h1]; exact h2), h1]
    have hend : rFieldErr last x = 0 → rFieldsGo x.name b = res := fun e => by rw [← hf, if_neg (by simp [e])]
    clear hf
    simp -dsimp -implicitDefEqProofs (disch := omega) only [↓wpre, push_cast, reduceCtorEq, ↓reduceIte, Nat.reduceEqDiff, Nat.reduceLeDiff, Nat.reduceAdd, Nat.reduceLT, Int.reduceEq, Int.reduceLT, Int.reduceLE, Int.reduceNeg, Int.reduceAdd, hh, hlt, even_flds, aidx_at _ hx]
    repeat' (first | ((first | with_reducible refine cnd_ndec (fun hc => ?_) (fun hc => ?_) | with_reducible refine cnd_dec (fun hc => ?_) (fun hc => ?_) | with_reducible refine cnd_nb (fun hc => ?_) (fun hc => ?_) | with_reducible refine cnd_intro (fun hc => ?_) (fun hc => ?_)) <;> (first | (exfalso; omega) | (try simp -dsimp -implicitDefEqProofs (disch := omega) only [↓wpre, push_cast, reduceCtorEq, ↓reduceIte, Nat.reduceEqDiff, Nat.reduceLeDiff, Nat.reduceAdd, Nat.reduceLT, Int.reduceEq, Int.reduceLT, Int.reduceLE, Int.reduceNeg, Int.reduceAdd, hc, hh]))) | (with_reducible refine anyN_intro fun n' hn' => ?_; try simp -dsimp -implicitDefEqProofs (disch := omega) only [↓wpre, push_cast, reduceCtorEq, ↓reduceIte, Nat.reduceEqDiff, Nat.reduceLeDiff, Nat.reduceAdd, Nat.reduceLT, Int.reduceEq, Int.reduceLT, Int.reduceLE, Int.reduceNeg, Int.reduceAdd, hh]) | ((first | with_reducible refine (rkey_c _ _ hns _ hs1).x fun n' hn' => ?_ | with_reducible refine xfn_intro (rkey_c _ _ hns _ hs1) ?_); try simp -dsimp -implicitDefEqProofs (disch := omega) only [↓wpre, push_cast, reduceCtorEq, ↓reduceIte, Nat.reduceEqDiff, Nat.reduceLeDiff, Nat.reduceAdd, Nat.reduceLT, Int.reduceEq, Int.reduceLT, Int.reduceLE, Int.reduceNeg, Int.reduceAdd, hh]) | ((first | with_reducible refine (rvalue_c _ _ hU x.val hs2).x fun n' hn' => ?_ | with_reducible refine xfn_intro (rvalue_c _ _ hU x.val hs2) ?_); try simp -dsimp -implicitDefEqProofs (disch := omega) only [↓wpre, push_cast, reduceCtorEq, ↓reduceIte, Nat.reduceEqDiff, Nat.reduceLeDiff, Nat.reduceAdd, Nat.reduceLT, Int.reduceEq, Int.reduceLT, Int.reduceLE, Int.reduceNeg, Int.reduceAdd, hh]))
    all_goals first
      | (refine againJ (a ++ [x], b, x.name) (Nat.lt_succ_self _) ⟨by rw [hab]; simp, hend ?_, by exact Qt.mono (n := n) (by repeat (first | exact hq | refine Qt.hu ?_ (by omega))) (by omega)⟩ (by simp -dsimp -implicitDefEqProofs (disch := omega) only [↓wpre, push_cast, reduceCtorEq, ↓reduceIte, Nat.reduceEqDiff, Nat.reduceLeDiff, Nat.reduceAdd, Nat.reduceLT, Int.reduceEq, Int.reduceLT, Int.reduceLE, Int.reduceNeg, Int.reduceAdd, hh]; all_goals (try simp only [AV.lit.injEq, Value.int.injEq, Value.bool.injEq, true_and, and_true]); all_goals (try (repeat' apply And.intro)); all_goals (first | rfl | omega | simp_all | skip)); (grind [rFieldErr]))
      | (refine ⟨hret _ ?_ ?_, by exact (Qt.mono (n := n) (by repeat (first | exact hq | refine Qt.hu ?_ (by omega))) (Nat.le_refl _)).1⟩ <;> (grind [rFieldErr]))
/-! An event. -/
theorem ef1_c (hG : GOk G) (e : Evt) (hs : SmallE e) : AFn Tryz.prog G 155 [.pp e.c] H (.int (rId e.who.kind e.who.text)) := by
  have := hs.2.2.1
  refine AFn.start mix F155 (by simp) fun k hlow => ?_
  simp -dsimp -implicitDefEqProofs (disch := omega) only [↓wpre, push_cast, reduceCtorEq, ↓reduceIte, Nat.reduceEqDiff, Nat.reduceLeDiff, Nat.reduceAdd, Nat.reduceLT, Int.reduceEq, Int.reduceLT, Int.reduceLE, Int.reduceNeg, Int.reduceAdd, c155]
  (first | with_reducible refine (idFault_c _ _ hG _ _ (show e.who.text.size ≤ 1000000 by omega)).x fun n' hn' => ?_ | with_reducible refine xfn_intro (idFault_c _ _ hG _ _ (show e.who.text.size ≤ 1000000 by omega)) ?_); try simp -dsimp -implicitDefEqProofs (disch := omega) only [↓wpre, push_cast, reduceCtorEq, ↓reduceIte, Nat.reduceEqDiff, Nat.reduceLeDiff, Nat.reduceAdd, Nat.reduceLT, Int.reduceEq, Int.reduceLT, Int.reduceLE, Int.reduceNeg, Int.reduceAdd, true_and]
theorem ef2_c (hU : GU G) (e : Evt) (hs : SmallE e) : AFn Tryz.prog G 157 [.pp e.c] H (.int (rFields e.fs)) := by
  have hf : SmallF e.fs := hs.2.2.2.2
  have hl : e.fs.length ≤ 1000 := by have := hs.2.2.2.1; omega
  refine AFn.start mix F157 (by simp) fun k hlow => ?_
  simp -dsimp -implicitDefEqProofs (disch := omega) only [↓wpre, push_cast, reduceCtorEq, ↓reduceIte, Nat.reduceEqDiff, Nat.reduceLeDiff, Nat.reduceAdd, Nat.reduceLT, Int.reduceEq, Int.reduceLT, Int.reduceLE, Int.reduceNeg, Int.reduceAdd, c157]
  (first | with_reducible refine (rfields_c _ _ hU e.nz e.fs hf hl).x fun n' hn' => ?_ | with_reducible refine xfn_intro (rfields_c _ _ hU e.nz e.fs hf hl) ?_); try simp -dsimp -implicitDefEqProofs (disch := omega) only [↓wpre, push_cast, reduceCtorEq, ↓reduceIte, Nat.reduceEqDiff, Nat.reduceLeDiff, Nat.reduceAdd, Nat.reduceLT, Int.reduceEq, Int.reduceLT, Int.reduceLE, Int.reduceNeg, Int.reduceAdd, true_and]
theorem first_c (f1 f2 : FuncId) (c1 c2 : List AV) (x y : Int) (h1 : ∀ H, AFn Tryz.prog G f1 c1 H (.int x)) (h2 : ∀ H, AFn Tryz.prog G f2 c2 H (.int y)) : AFn Tryz.prog G 154 [.ls true [[.fn (.func f1) c1], [.fn (.func f2) c2]]] H (.int (if x ≠ 0 then x else y)) := by
  refine AFn.start mix F154 (by simp) fun k hlow => ?_
  simp -dsimp -implicitDefEqProofs (disch := omega) only [↓wpre, push_cast, reduceCtorEq, ↓reduceIte, Nat.reduceEqDiff, Nat.reduceLeDiff, Nat.reduceAdd, Nat.reduceLT, Int.reduceEq, Int.reduceLT, Int.reduceLE, Int.reduceNeg, Int.reduceAdd, c154]
  refine xw_loopJ (σ := Nat) (fun i => [(6, .ls true [[.fn (.func f1) c1], [.fn (.func f2) c2]]), (7, .int 2), (8, .int i)]) (fun i H' n' => i ≤ 2 ∧ (1 ≤ i → x = 0) ∧ (2 ≤ i → y = 0) ∧ Qt H H' n') (fun i => 2 - i) 0 ⟨by omega, by omega, by omega, .refl hlow⟩ (by simp -dsimp -implicitDefEqProofs (disch := omega) only [↓wpre, push_cast, reduceCtorEq, ↓reduceIte, Nat.reduceEqDiff, Nat.reduceLeDiff, Nat.reduceAdd, Nat.reduceLT, Int.reduceEq, Int.reduceLT, Int.reduceLE, Int.reduceNeg, Int.reduceAdd]) ?_
  rintro i fr H' n ⟨hi, hx, hy, hq⟩ hh
  simp only [has_nil, has_cons, and_true] at hh hi hx hy
  have he : Even 1 [[AV.fn (.func f1) c1], [AV.fn (.func f2) c2]] = True := eq_true fun r hr => by
    simp only [List.mem_cons, List.not_mem_nil, or_false] at hr
    rcases hr with rfl | rfl <;> exact ⟨rfl, rfl⟩
  have a0 : ∀ H' : Nat → Option AObj, aidx H' 1 (.ls true [[.fn (.func f1) c1], [.fn (.func f2) c2]]) (.int 0) = some (.pp [.fn (.func f1) c1]) := fun H' => aidx_at (c := fun p : FuncId × List AV => [AV.fn (.func p.1) p.2]) (l := [(f1, c1), (f2, c2)]) (j := 0) rfl rfl
  have a1 : ∀ H' : Nat → Option AObj, aidx H' 1 (.ls true [[.fn (.func f1) c1], [.fn (.func f2) c2]]) (.int 1) = some (.pp [.fn (.func f2) c2]) := fun H' => aidx_at (c := fun p : FuncId × List AV => [AV.fn (.func p.1) p.2]) (l := [(f1, c1), (f2, c2)]) (j := 1) rfl rfl
  have hcs : i = 0 ∨ i = 1 ∨ i = 2 := by omega
  rcases hcs with rfl | rfl | rfl
  · simp -dsimp -implicitDefEqProofs (disch := omega) only [↓wpre, push_cast, reduceCtorEq, ↓reduceIte, Nat.reduceEqDiff, Nat.reduceLeDiff, Nat.reduceAdd, Nat.reduceLT, Int.reduceEq, Int.reduceLT, Int.reduceLE, Int.reduceNeg, Int.reduceAdd, hh, he, a0]
    refine (h1 _).x fun n2 hn2 => ?_
    simp -dsimp -implicitDefEqProofs (disch := omega) only [↓wpre, push_cast, reduceCtorEq, ↓reduceIte, Nat.reduceEqDiff, Nat.reduceLeDiff, Nat.reduceAdd, Nat.reduceLT, Int.reduceEq, Int.reduceLT, Int.reduceLE, Int.reduceNeg, Int.reduceAdd, hh]
    (first | with_reducible refine cnd_ndec (fun hc => ?_) (fun hc => ?_) | with_reducible refine cnd_dec (fun hc => ?_) (fun hc => ?_) | with_reducible refine cnd_nb (fun hc => ?_) (fun hc => ?_) | with_reducible refine cnd_intro (fun hc => ?_) (fun hc => ?_)) <;> (first | (exfalso; omega) | (try simp -dsimp -implicitDefEqProofs (disch := omega) only [↓wpre, push_cast, reduceCtorEq, ↓reduceIte, Nat.reduceEqDiff, Nat.reduceLeDiff, Nat.reduceAdd, Nat.reduceLT, Int.reduceEq, Int.reduceLT, Int.reduceLE, Int.reduceNeg, Int.reduceAdd, hc, hh]))
    · first | exact ⟨by rw [if_pos hc], hq.1⟩ | exact hq.1
    · refine againJ 1 (by omega) ⟨by omega, fun _ => by simpa using hc, by omega, by exact Qt.mono (n := n) (by repeat (first | exact hq | refine Qt.hu ?_ (by omega))) (by omega)⟩ (by simp -dsimp -implicitDefEqProofs (disch := omega) only [↓wpre, push_cast, reduceCtorEq, ↓reduceIte, Nat.reduceEqDiff, Nat.reduceLeDiff, Nat.reduceAdd, Nat.reduceLT, Int.reduceEq, Int.reduceLT, Int.reduceLE, Int.reduceNeg, Int.reduceAdd, hh])
  · have hx0 := hx (by omega)
    simp -dsimp -implicitDefEqProofs (disch := omega) only [↓wpre, push_cast, reduceCtorEq, ↓reduceIte, Nat.reduceEqDiff, Nat.reduceLeDiff, Nat.reduceAdd, Nat.reduceLT, Int.reduceEq, Int.reduceLT, Int.reduceLE, Int.reduceNeg, Int.reduceAdd, hh, he, a1]
    refine (h2 _).x fun n2 hn2 => ?_
    simp -dsimp -implicitDefEqProofs (disch := omega) only [↓wpre, push_cast, reduceCtorEq, ↓reduceIte, Nat.reduceEqDiff, Nat.reduceLeDiff, Nat.reduceAdd, Nat.reduceLT, Int.reduceEq, Int.reduceLT, Int.reduceLE, Int.reduceNeg, Int.reduceAdd, hh]
    (first | with_reducible refine cnd_ndec (fun hc => ?_) (fun hc => ?_) | with_reducible refine cnd_dec (fun hc => ?_) (fun hc => ?_) | with_reducible refine cnd_nb (fun hc => ?_) (fun hc => ?_) | with_reducible refine cnd_intro (fun hc => ?_) (fun hc => ?_)) <;> (first | (exfalso; omega) | (try simp -dsimp -implicitDefEqProofs (disch := omega) only [↓wpre, push_cast, reduceCtorEq, ↓reduceIte, Nat.reduceEqDiff, Nat.reduceLeDiff, Nat.reduceAdd, Nat.reduceLT, Int.reduceEq, Int.reduceLT, Int.reduceLE, Int.reduceNeg, Int.reduceAdd, hc, hh]))
    · first | exact hq.1 | exact ⟨by rw [if_neg (by simp [hx0])], hq.1⟩
    · refine againJ 2 (by omega) ⟨by omega, fun _ => hx0, fun _ => by simpa using hc, by exact Qt.mono (n := n) (by repeat (first | exact hq | refine Qt.hu ?_ (by omega))) (by omega)⟩ (by simp -dsimp -implicitDefEqProofs (disch := omega) only [↓wpre, push_cast, reduceCtorEq, ↓reduceIte, Nat.reduceEqDiff, Nat.reduceLeDiff, Nat.reduceAdd, Nat.reduceLT, Int.reduceEq, Int.reduceLT, Int.reduceLE, Int.reduceNeg, Int.reduceAdd, hh])
  · have hx0 := hx (by omega)
    have hy0 := hy (by omega)
    simp -dsimp -implicitDefEqProofs (disch := omega) only [↓wpre, push_cast, reduceCtorEq, ↓reduceIte, Nat.reduceEqDiff, Nat.reduceLeDiff, Nat.reduceAdd, Nat.reduceLT, Int.reduceEq, Int.reduceLT, Int.reduceLE, Int.reduceNeg, Int.reduceAdd, hh]
    first | exact hq.1 | exact ⟨by simp [hx0, hy0], hq.1⟩
set_option maxHeartbeats 3200000 in
theorem eventFault_c (hU : GU G) (e : Evt) (hs : SmallE e) : AFn Tryz.prog G 96 [.agg e.c] H (.int (rEvent e)) := by
  have hns := hU.ok.ns
  have s1 : e.id.size ≤ 1000000 := by have := hs.1; omega
  have s2 : e.name.size ≤ 1000000 := by have := hs.2.1; omega
  refine AFn.start mix F96 (by simp) fun k hlow => ?_
  simp -dsimp -implicitDefEqProofs (disch := omega) only [↓wpre, push_cast, reduceCtorEq, ↓reduceIte, Nat.reduceEqDiff, Nat.reduceLeDiff, Nat.reduceAdd, Nat.reduceLT, Int.reduceEq, Int.reduceLT, Int.reduceLE, Int.reduceNeg, Int.reduceAdd, c96]
  repeat' (first | ((first | with_reducible refine cnd_ndec (fun hc => ?_) (fun hc => ?_) | with_reducible refine cnd_dec (fun hc => ?_) (fun hc => ?_) | with_reducible refine cnd_nb (fun hc => ?_) (fun hc => ?_) | with_reducible refine cnd_intro (fun hc => ?_) (fun hc => ?_)) <;> (first | (exfalso; omega) | (try simp -dsimp -implicitDefEqProofs (disch := omega) only [↓wpre, push_cast, reduceCtorEq, ↓reduceIte, Nat.reduceEqDiff, Nat.reduceLeDiff, Nat.reduceAdd, Nat.reduceLT, Int.reduceEq, Int.reduceLT, Int.reduceLE, Int.reduceNeg, Int.reduceAdd, hc, true_and]))) | (with_reducible refine anyN_intro fun n' hn' => ?_; try simp -dsimp -implicitDefEqProofs (disch := omega) only [↓wpre, push_cast, reduceCtorEq, ↓reduceIte, Nat.reduceEqDiff, Nat.reduceLeDiff, Nat.reduceAdd, Nat.reduceLT, Int.reduceEq, Int.reduceLT, Int.reduceLE, Int.reduceNeg, Int.reduceAdd, true_and]) | ((first | with_reducible refine (rkey_c _ _ hns _ s1).x fun n' hn' => ?_ | with_reducible refine xfn_intro (rkey_c _ _ hns _ s1) ?_); try simp -dsimp -implicitDefEqProofs (disch := omega) only [↓wpre, push_cast, reduceCtorEq, ↓reduceIte, Nat.reduceEqDiff, Nat.reduceLeDiff, Nat.reduceAdd, Nat.reduceLT, Int.reduceEq, Int.reduceLT, Int.reduceLE, Int.reduceNeg, Int.reduceAdd, true_and]) | ((first | with_reducible refine (rkey_c _ _ hns _ s2).x fun n' hn' => ?_ | with_reducible refine xfn_intro (rkey_c _ _ hns _ s2) ?_); try simp -dsimp -implicitDefEqProofs (disch := omega) only [↓wpre, push_cast, reduceCtorEq, ↓reduceIte, Nat.reduceEqDiff, Nat.reduceLeDiff, Nat.reduceAdd, Nat.reduceLT, Int.reduceEq, Int.reduceLT, Int.reduceLE, Int.reduceNeg, Int.reduceAdd, true_and]) | ((first | with_reducible refine (in_c _ _ _ _ _).x fun n' hn' => ?_ | with_reducible refine xfn_intro (in_c _ _ _ _ _) ?_); try simp -dsimp -implicitDefEqProofs (disch := omega) only [↓wpre, push_cast, reduceCtorEq, ↓reduceIte, Nat.reduceEqDiff, Nat.reduceLeDiff, Nat.reduceAdd, Nat.reduceLT, Int.reduceEq, Int.reduceLT, Int.reduceLE, Int.reduceNeg, Int.reduceAdd, Pm.within]) | ((first | with_reducible refine (first_c _ _ 155 157 _ _ _ _ (fun H => ef1_c G H hU.ok e hs) (fun H => ef2_c G H hU e hs)).x fun n' hn' => ?_ | with_reducible refine xfn_intro (first_c _ _ 155 157 _ _ _ _ (fun H => ef1_c G H hU.ok e hs) (fun H => ef2_c G H hU e hs)) ?_); try simp -dsimp -implicitDefEqProofs (disch := omega) only [↓wpre, push_cast, reduceCtorEq, ↓reduceIte, Nat.reduceEqDiff, Nat.reduceLeDiff, Nat.reduceAdd, Nat.reduceLT, Int.reduceEq, Int.reduceLT, Int.reduceLE, Int.reduceNeg, Int.reduceAdd, true_and]))
  all_goals (rw [rEvent]; grind [Pm.within])
set_option maxHeartbeats 3200000 in
theorem eventsFault1_c (hU : GU G) (e : Evt) (hs : SmallE e) : AFn Tryz.prog G 44 [.ls true [e.c]] H (.int (rEvent e)) := by
  refine AFn.start mix F44 (by simp) fun k hlow => ?_
  simp -dsimp -implicitDefEqProofs (disch := omega) only [↓wpre, push_cast, reduceCtorEq, ↓reduceIte, Nat.reduceEqDiff, Nat.reduceLeDiff, Nat.reduceAdd, Nat.reduceLT, Int.reduceEq, Int.reduceLT, Int.reduceLE, Int.reduceNeg, Int.reduceAdd, c44]
  refine xw_loopJ (σ := Nat) (fun i => [(3, .om k), (0, .ls true [e.c]), (11, .ls true [e.c]), (12, .int 1), (13, .int i)]) (fun i H' n' => i ≤ 1 ∧ (1 ≤ i → rEvent e = 0) ∧ (∃ E rows, H' k = some ⟨E, 2, rows⟩ ∧ (i = 0 → rows = [])) ∧ Qt H H' k ∧ k < n') (fun i => 1 - i) 0 ⟨by omega, by omega, ⟨_, _, hu_same, fun _ => rfl⟩, (Qt.refl hlow).hu (Nat.le_refl _), by omega⟩ (by simp -dsimp -implicitDefEqProofs (disch := omega) only [↓wpre, push_cast, reduceCtorEq, ↓reduceIte, Nat.reduceEqDiff, Nat.reduceLeDiff, Nat.reduceAdd, Nat.reduceLT, Int.reduceEq, Int.reduceLT, Int.reduceLE, Int.reduceNeg, Int.reduceAdd]) ?_
  rintro i fr H' n ⟨hi, hx, ⟨E, rows, ho, hr⟩, hq, hn⟩ hh
  simp only [has_nil, has_cons, and_true] at hh hi hx
  have he : Even 6 [e.c] = True := even_evts [e]
  have a0 : ∀ H' : Nat → Option AObj, aidx H' 6 (.ls true [e.c]) (.int 0) = some (.pp e.c) := fun H' => aidx_at (c := Evt.c) (l := [e]) (j := 0) rfl rfl
  have hcs : i = 0 ∨ i = 1 := by omega
  rcases hcs with rfl | rfl
  · have hr := hr rfl
    subst hr
    simp -dsimp -implicitDefEqProofs (disch := omega) only [↓wpre, push_cast, reduceCtorEq, ↓reduceIte, Nat.reduceEqDiff, Nat.reduceLeDiff, Nat.reduceAdd, Nat.reduceLT, Int.reduceEq, Int.reduceLT, Int.reduceLE, Int.reduceNeg, Int.reduceAdd, hh, he, a0]
    (first | with_reducible refine (eventFault_c _ _ hU e hs).x fun n' hn' => ?_ | with_reducible refine xfn_intro (eventFault_c _ _ hU e hs) ?_); try simp -dsimp -implicitDefEqProofs (disch := omega) only [↓wpre, push_cast, reduceCtorEq, ↓reduceIte, Nat.reduceEqDiff, Nat.reduceLeDiff, Nat.reduceAdd, Nat.reduceLT, Int.reduceEq, Int.reduceLT, Int.reduceLE, Int.reduceNeg, Int.reduceAdd, hh]
    (first | with_reducible refine cnd_ndec (fun hc => ?_) (fun hc => ?_) | with_reducible refine cnd_dec (fun hc => ?_) (fun hc => ?_) | with_reducible refine cnd_nb (fun hc => ?_) (fun hc => ?_) | with_reducible refine cnd_intro (fun hc => ?_) (fun hc => ?_)) <;> (first | (exfalso; omega) | (try simp -dsimp -implicitDefEqProofs (disch := omega) only [↓wpre, push_cast, reduceCtorEq, ↓reduceIte, Nat.reduceEqDiff, Nat.reduceLeDiff, Nat.reduceAdd, Nat.reduceLT, Int.reduceEq, Int.reduceLT, Int.reduceLE, Int.reduceNeg, Int.reduceAdd, hc, hh]))
    · exact (by exact (Qt.mono (n := k) (by repeat (first | exact hq | refine Qt.hu ?_ (by omega))) (Nat.le_refl _)).1)
    · refine anyN_intro fun n2 hn2 => ?_
      have hkn : k ≠ n := by omega
      simp -dsimp -implicitDefEqProofs (disch := omega) only [↓wpre, push_cast, reduceCtorEq, ↓reduceIte, Nat.reduceEqDiff, Nat.reduceLeDiff, Nat.reduceAdd, Nat.reduceLT, Int.reduceEq, Int.reduceLT, Int.reduceLE, Int.reduceNeg, Int.reduceAdd, hh, ho]
      refine againJ 1 (by omega) ⟨by omega, fun _ => hc, ⟨_, _, hu_same, fun h => by omega⟩, by exact Qt.mono (n := k) (by repeat (first | exact hq | refine Qt.hu ?_ (by omega))) (by omega), by omega⟩ (by simp -dsimp -implicitDefEqProofs (disch := omega) only [↓wpre, push_cast, reduceCtorEq, ↓reduceIte, Nat.reduceEqDiff, Nat.reduceLeDiff, Nat.reduceAdd, Nat.reduceLT, Int.reduceEq, Int.reduceLT, Int.reduceLE, Int.reduceNeg, Int.reduceAdd, hh])
  · have hx := hx (by omega)
    simp -dsimp -implicitDefEqProofs (disch := omega) only [↓wpre, push_cast, reduceCtorEq, ↓reduceIte, Nat.reduceEqDiff, Nat.reduceLeDiff, Nat.reduceAdd, Nat.reduceLT, Int.reduceEq, Int.reduceLT, Int.reduceLE, Int.reduceNeg, Int.reduceAdd, hh]
    exact ⟨by rw [hx], hq.1⟩
/-- What the filter lets go. -/
theorem gone_c (hU : GU G) (e : Evt) (hs : SmallE e) : AFn Tryz.prog G 43 [.agg e.c] H (.bool (!keep e)) := by
  refine AFn.start mix F43 (by simp) fun k hlow => ?_
  simp -dsimp -implicitDefEqProofs (disch := omega) only [↓wpre, push_cast, reduceCtorEq, ↓reduceIte, Nat.reduceEqDiff, Nat.reduceLeDiff, Nat.reduceAdd, Nat.reduceLT, Int.reduceEq, Int.reduceLT, Int.reduceLE, Int.reduceNeg, Int.reduceAdd, c43]
  repeat' (first | ((first | with_reducible refine cnd_ndec (fun hc => ?_) (fun hc => ?_) | with_reducible refine cnd_dec (fun hc => ?_) (fun hc => ?_) | with_reducible refine cnd_nb (fun hc => ?_) (fun hc => ?_) | with_reducible refine cnd_intro (fun hc => ?_) (fun hc => ?_)) <;> (first | (exfalso; omega) | (try simp -dsimp -implicitDefEqProofs (disch := omega) only [↓wpre, push_cast, reduceCtorEq, ↓reduceIte, Nat.reduceEqDiff, Nat.reduceLeDiff, Nat.reduceAdd, Nat.reduceLT, Int.reduceEq, Int.reduceLT, Int.reduceLE, Int.reduceNeg, Int.reduceAdd, hc, true_and]))) | (with_reducible refine anyN_intro fun n' hn' => ?_; try simp -dsimp -implicitDefEqProofs (disch := omega) only [↓wpre, push_cast, reduceCtorEq, ↓reduceIte, Nat.reduceEqDiff, Nat.reduceLeDiff, Nat.reduceAdd, Nat.reduceLT, Int.reduceEq, Int.reduceLT, Int.reduceLE, Int.reduceNeg, Int.reduceAdd, true_and]) | ((first | with_reducible refine (eventsFault1_c _ _ hU e hs).x fun n' hn' => ?_ | with_reducible refine xfn_intro (eventsFault1_c _ _ hU e hs) ?_); try simp -dsimp -implicitDefEqProofs (disch := omega) only [↓wpre, push_cast, reduceCtorEq, ↓reduceIte, Nat.reduceEqDiff, Nat.reduceLeDiff, Nat.reduceAdd, Nat.reduceLT, Int.reduceEq, Int.reduceLT, Int.reduceLE, Int.reduceNeg, Int.reduceAdd, true_and]))
  all_goals (simp only [AV.lit.injEq, Value.bool.injEq, keep]; grind)
end Go.Proofs.YtdbfkibbhmbaoaaGreatDoor

