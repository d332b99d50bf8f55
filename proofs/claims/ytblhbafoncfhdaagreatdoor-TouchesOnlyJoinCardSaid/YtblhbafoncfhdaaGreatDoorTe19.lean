/- Contracts of functions of the program: each computes what its model says; the conditions stand at each. -/
import Derived.Test.YtblhbafoncfhdaaGreatDoorTe18
set_option linter.unusedSimpArgs false
set_option linter.unusedVariables false
set_option maxRecDepth 20000
set_option pp.deepTerms false
set_option pp.deepTerms.threshold 3
namespace Go.Proofs.YtblhbafoncfhdaaGreatDoor
open Go Go.Ab Go.Pm Go.Cm Go.El Go.Rm
variable (G : Nat → AV) (H : Nat → Option AObj)
def SmallF (l : List Fld) : Prop := ∀ f ∈ l, f.name.size ≤ 1000 ∧ f.val.text.size ≤ 1000
set_option maxHeartbeats 3200000 in
theorem rfields_c (hU : GU G) (nz : Bool) (l : List Fld) (hk : SmallF l) (hl0 : l.length ≤ 1000) : AFn Tryz.prog G 222 [.ls nz (l.map Fld.c)] H (.int (rFields l)) := by
  have hns := hU.ok.ns
  refine AFn.start mix F222 (by simp) fun k hlow => ?_
  by_cases hl : (30 : Int) < l.length
  · simp -dsimp -implicitDefEqProofs (disch := omega) only [↓wpre, push_cast, seval, c222, hl]
    rw [rFields, if_pos (by omega)]
  simp -dsimp -implicitDefEqProofs (disch := omega) only [↓wpre, push_cast, seval, c222, hl]
  have hgo : rFields l = rFieldsGo ⟨#[]⟩ l := by rw [rFields, if_neg (by omega)]
  rw [hgo]
  generalize hrr : rFieldsGo ⟨#[]⟩ l = res
  refine xw_loopJ (σ := List Fld × List Fld × T) (fun t => [(3, .str t.2.2), (10, .ls nz (l.map Fld.c)), (11, .int l.length), (12, .int t.1.length)]) (fun t H' n' => l = t.1 ++ t.2.1 ∧ rFieldsGo t.2.2 t.2.1 = res ∧ Qt H H' n') (fun t => t.2.1.length) ([], l, ⟨#[]⟩) ⟨rfl, hrr, .refl hlow⟩ (by simp -dsimp -implicitDefEqProofs (disch := omega) only [↓wpre, push_cast, seval]) ?_
  clear hgo hrr
  rintro ⟨a, b, last⟩ fr H' n ⟨hab, hf, hq⟩ hh
  simp only [has_nil, has_cons, and_true] at hh hab hf
  have hll : l.length = a.length + b.length := by rw [hab]; simp
  cases b with
  | nil =>
    have hnl : ¬ (a.length : Int) < l.length := by rw [hll]; simp
    rw [rFieldsGo] at hf
    rw [← hf]
    simp -dsimp -implicitDefEqProofs (disch := omega) only [↓wpre, push_cast, seval, hh, hnl]
    first | exact hq.1 | exact ⟨rfl, hq.1⟩
  | cons x b =>
    have hlt : (a.length : Int) < l.length := by rw [hll]; simp only [List.length_cons]; omega
    have hx : l[a.length]? = some x := by rw [hab]; simp
    have hsx := hk x (by rw [hab]; simp)
    have hs1 : x.name.size ≤ 1000000 := by omega
    have hs2 : x.val.text.size ≤ 1000000 := by omega
    rw [rFieldsGo] at hf
    have hret : ∀ e : Int, rFieldErr last x = e → e ≠ 0 → AV.int e = AV.int res := fun e h1 h2 => by rw [← hf, if_pos (by rw [h1]; exact h2), h1]
    have hend : rFieldErr last x = 0 → rFieldsGo x.name b = res := fun e => by rw [← hf, if_neg (by simp [e])]
    clear hf
    simp -dsimp -implicitDefEqProofs (disch := omega) only [↓wpre, push_cast, seval, hh, hlt, even_flds, aidx_at _ hx]
    repeat' (first | ((first | with_reducible refine cnd_ndec (fun hc => ?_) (fun hc => ?_) | with_reducible refine cnd_dec (fun hc => ?_) (fun hc => ?_) | with_reducible refine cnd_nb (fun hc => ?_) (fun hc => ?_) | with_reducible refine cnd_intro (fun hc => ?_) (fun hc => ?_)) <;> (first | (exfalso; omega) | (try simp -dsimp -implicitDefEqProofs (disch := omega) only [↓wpre, push_cast, seval, hc, hh]))) | (with_reducible refine anyN_intro fun n' hn' => ?_; try simp -dsimp -implicitDefEqProofs (disch := omega) only [↓wpre, push_cast, seval, hh]) | ((first | with_reducible refine (rkey_c _ _ hns _ hs1).x fun n' hn' => ?_ | with_reducible refine xfn_intro (rkey_c _ _ hns _ hs1) ?_); try simp -dsimp -implicitDefEqProofs (disch := omega) only [↓wpre, push_cast, seval, hh]) | ((first | with_reducible refine (rvalue_c _ _ hU x.val hs2).x fun n' hn' => ?_ | with_reducible refine xfn_intro (rvalue_c _ _ hU x.val hs2) ?_); try simp -dsimp -implicitDefEqProofs (disch := omega) only [↓wpre, push_cast, seval, hh]))
    all_goals first
      | (refine againJ (a ++ [x], b, x.name) (Nat.lt_succ_self _) ⟨by rw [hab]; simp, hend ?_, by exact Qt.mono (n := n) (by repeat (first | exact hq | refine Qt.hu ?_ (by omega))) (by omega)⟩ (by simp -dsimp -implicitDefEqProofs (disch := omega) only [↓wpre, push_cast, seval, hh]; all_goals (try simp only [AV.lit.injEq, Value.int.injEq, Value.bool.injEq, true_and, and_true]); all_goals (try (repeat' apply And.intro)); all_goals (first | rfl | omega | simp_all | skip)); (grind [rFieldErr]))
      | (refine ⟨hret _ ?_ ?_, by exact (Qt.mono (n := n) (by repeat (first | exact hq | refine Qt.hu ?_ (by omega))) (Nat.le_refl _)).1⟩ <;> (grind [rFieldErr]))
/-! An event. -/
theorem first_c (f1 f2 : FuncId) (c1 c2 : List AV) (x y : Int) (h1 : ∀ H, AFn Tryz.prog G f1 c1 H (.int x)) (h2 : ∀ H, AFn Tryz.prog G f2 c2 H (.int y)) : AFn Tryz.prog G 219 [.ls true [[.fn (.func f1) c1], [.fn (.func f2) c2]]] H (.int (if x ≠ 0 then x else y)) := by
  refine AFn.start mix F219 (by simp) fun k hlow => ?_
  simp -dsimp -implicitDefEqProofs (disch := omega) only [↓wpre, push_cast, seval, c219]
  refine xw_loopJ (σ := Nat) (fun i => [(6, .ls true [[.fn (.func f1) c1], [.fn (.func f2) c2]]), (7, .int 2), (8, .int i)]) (fun i H' n' => i ≤ 2 ∧ (1 ≤ i → x = 0) ∧ (2 ≤ i → y = 0) ∧ Qt H H' n') (fun i => 2 - i) 0 ⟨by omega, by omega, by omega, .refl hlow⟩ (by simp -dsimp -implicitDefEqProofs (disch := omega) only [↓wpre, push_cast, seval]) ?_
  rintro i fr H' n ⟨hi, hx, hy, hq⟩ hh
  simp only [has_nil, has_cons, and_true] at hh hi hx hy
  have he : Even 1 [[AV.fn (.func f1) c1], [AV.fn (.func f2) c2]] = True := eq_true fun r hr => by
    simp only [List.mem_cons, List.not_mem_nil, or_false] at hr
    rcases hr with rfl | rfl <;> exact ⟨rfl, rfl⟩
  have a0 : ∀ H' : Nat → Option AObj, aidx H' 1 (.ls true [[.fn (.func f1) c1], [.fn (.func f2) c2]]) (.int 0) = some (.pp [.fn (.func f1) c1]) := fun H' => aidx_at (c := fun p : FuncId × List AV => [AV.fn (.func p.1) p.2]) (l := [(f1, c1), (f2, c2)]) (j := 0) rfl rfl
  have a1 : ∀ H' : Nat → Option AObj, aidx H' 1 (.ls true [[.fn (.func f1) c1], [.fn (.func f2) c2]]) (.int 1) = some (.pp [.fn (.func f2) c2]) := fun H' => aidx_at (c := fun p : FuncId × List AV => [AV.fn (.func p.1) p.2]) (l := [(f1, c1), (f2, c2)]) (j := 1) rfl rfl
  have hcs : i = 0 ∨ i = 1 ∨ i = 2 := by omega
  rcases hcs with rfl | rfl | rfl
  · simp -dsimp -implicitDefEqProofs (disch := omega) only [↓wpre, push_cast, seval, hh, he, a0]
    refine (h1 _).x fun n2 hn2 => ?_
    simp -dsimp -implicitDefEqProofs (disch := omega) only [↓wpre, push_cast, seval, hh]
    (first | with_reducible refine cnd_ndec (fun hc => ?_) (fun hc => ?_) | with_reducible refine cnd_dec (fun hc => ?_) (fun hc => ?_) | with_reducible refine cnd_nb (fun hc => ?_) (fun hc => ?_) | with_reducible refine cnd_intro (fun hc => ?_) (fun hc => ?_)) <;> (first | (exfalso; omega) | (try simp -dsimp -implicitDefEqProofs (disch := omega) only [↓wpre, push_cast, seval, hc, hh]))
    · first | exact ⟨by rw [if_pos hc], hq.1⟩ | exact hq.1
    · refine againJ 1 (by omega) ⟨by omega, fun _ => by simpa using hc, by omega, by exact Qt.mono (n := n) (by repeat (first | exact hq | refine Qt.hu ?_ (by omega))) (by omega)⟩ (by simp -dsimp -implicitDefEqProofs (disch := omega) only [↓wpre, push_cast, seval, hh])
  · have hx0 := hx (by omega)
    simp -dsimp -implicitDefEqProofs (disch := omega) only [↓wpre, push_cast, seval, hh, he, a1]
    refine (h2 _).x fun n2 hn2 => ?_
    simp -dsimp -implicitDefEqProofs (disch := omega) only [↓wpre, push_cast, seval, hh]
    (first | with_reducible refine cnd_ndec (fun hc => ?_) (fun hc => ?_) | with_reducible refine cnd_dec (fun hc => ?_) (fun hc => ?_) | with_reducible refine cnd_nb (fun hc => ?_) (fun hc => ?_) | with_reducible refine cnd_intro (fun hc => ?_) (fun hc => ?_)) <;> (first | (exfalso; omega) | (try simp -dsimp -implicitDefEqProofs (disch := omega) only [↓wpre, push_cast, seval, hc, hh]))
    · first | exact hq.1 | exact ⟨by rw [if_neg (by simp [hx0])], hq.1⟩
    · refine againJ 2 (by omega) ⟨by omega, fun _ => hx0, fun _ => by simpa using hc, by exact Qt.mono (n := n) (by repeat (first | exact hq | refine Qt.hu ?_ (by omega))) (by omega)⟩ (by simp -dsimp -implicitDefEqProofs (disch := omega) only [↓wpre, push_cast, seval, hh])
  · have hx0 := hx (by omega)
    have hy0 := hy (by omega)
    simp -dsimp -implicitDefEqProofs (disch := omega) only [↓wpre, push_cast, seval, hh]
    first | exact hq.1 | exact ⟨by simp [hx0, hy0], hq.1⟩
end Go.Proofs.YtblhbafoncfhdaaGreatDoor

