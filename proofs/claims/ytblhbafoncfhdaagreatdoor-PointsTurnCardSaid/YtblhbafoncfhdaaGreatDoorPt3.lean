/- Contracts of functions of the program: each computes what its model says; the conditions stand at each. -/
import Derived.Test.YtblhbafoncfhdaaGreatDoorPt2
set_option linter.unusedSimpArgs false
set_option linter.unusedVariables false
set_option maxRecDepth 20000
set_option pp.deepTerms false
set_option pp.deepTerms.threshold 3
namespace Go.Proofs.YtblhbafoncfhdaaGreatDoor
open Go Go.Ab Go.Pm Go.Cm Go.El Go.Rm Go.Pp Go.Uf
variable (G : Nat → AV) (H : Nat → Option AObj)







def distV (s t : T) : AV := if 200 < (s.size : Int) ∨ 200 < (t.size : Int) then .tup [.int 0, .int 2] else .tup [.int (dist (pts s) (pts t)), .int 0]
theorem distV_symm (s t : T) : distV s t = distV t s := by
  unfold distV
  rw [dist_symm (pts s)]
  by_cases h1 : 200 < (s.size : Int) <;> by_cases h2 : 200 < (t.size : Int) <;> simp [h1, h2]
theorem dist200_c (hU : GU G) (s t : T) (hs : s.size ≤ 1000000) (ht : t.size ≤ 1000000) : AFn Tryz.prog G 18 [.str s, .str t] H (distV s t) := by
  have l1 := pts_len s.size s
  have l2 := pts_len t.size t
  have l1 : (pts s).length ≤ s.size := l1
  have l2 : (pts t).length ≤ t.size := l2
  refine AFn.start mix F18 (by simp) fun k hlow => ?_
  by_cases h1 : 200 < (s.size : Int)
  · have e : distV s t = .tup [.int 0, .int 2] := if_pos (.inl h1)
    rw [e]
    simp -dsimp -implicitDefEqProofs (disch := omega) only [↓wpre, push_cast, reduceCtorEq, ↓reduceIte, Nat.reduceEqDiff, Nat.reduceLeDiff, Nat.reduceAdd, Nat.reduceLT, Int.reduceEq, Int.reduceLT, Int.reduceLE, Int.reduceNeg, Int.reduceAdd, c18, h1]
  by_cases h2 : 200 < (t.size : Int)
  · have e : distV s t = .tup [.int 0, .int 2] := if_pos (.inr h2)
    rw [e]
    simp -dsimp -implicitDefEqProofs (disch := omega) only [↓wpre, push_cast, reduceCtorEq, ↓reduceIte, Nat.reduceEqDiff, Nat.reduceLeDiff, Nat.reduceAdd, Nat.reduceLT, Int.reduceEq, Int.reduceLT, Int.reduceLE, Int.reduceNeg, Int.reduceAdd, c18, h1, h2]
  have e : distV s t = .tup [.int (dist (pts s) (pts t)), .int 0] := if_neg (by omega)
  rw [e]
  simp -dsimp -implicitDefEqProofs (disch := omega) only [↓wpre, push_cast, reduceCtorEq, ↓reduceIte, Nat.reduceEqDiff, Nat.reduceLeDiff, Nat.reduceAdd, Nat.reduceLT, Int.reduceEq, Int.reduceLT, Int.reduceLE, Int.reduceNeg, Int.reduceAdd, c18, h1, h2]
  (first | with_reducible refine (runes_c _ _ hU s hs).x fun n' hn' => ?_ | with_reducible refine xfn_intro (runes_c _ _ hU s hs) ?_); try simp -dsimp -implicitDefEqProofs (disch := omega) only [↓wpre, push_cast, reduceCtorEq, ↓reduceIte, Nat.reduceEqDiff, Nat.reduceLeDiff, Nat.reduceAdd, Nat.reduceLT, Int.reduceEq, Int.reduceLT, Int.reduceLE, Int.reduceNeg, Int.reduceAdd, true_and]
  (first | with_reducible refine (runes_c _ _ hU t ht).x fun n' hn' => ?_ | with_reducible refine xfn_intro (runes_c _ _ hU t ht) ?_); try simp -dsimp -implicitDefEqProofs (disch := omega) only [↓wpre, push_cast, reduceCtorEq, ↓reduceIte, Nat.reduceEqDiff, Nat.reduceLeDiff, Nat.reduceAdd, Nat.reduceLT, Int.reduceEq, Int.reduceLT, Int.reduceLE, Int.reduceNeg, Int.reduceAdd, true_and]
  (first | with_reducible refine (distance_c _ _ _ _ (pts s) (pts t) (by omega) (by omega)).x fun n' hn' => ?_ | with_reducible refine xfn_intro (distance_c _ _ _ _ (pts s) (pts t) (by omega) (by omega)) ?_); try simp -dsimp -implicitDefEqProofs (disch := omega) only [↓wpre, push_cast, reduceCtorEq, ↓reduceIte, Nat.reduceEqDiff, Nat.reduceLeDiff, Nat.reduceAdd, Nat.reduceLT, Int.reduceEq, Int.reduceLT, Int.reduceLE, Int.reduceNeg, Int.reduceAdd, true_and]
theorem equalR_c (nz nz' : Bool) (l m : List Int) (hl : l.length ≤ 100000) (hm : m.length ≤ 100000) : AFn Tryz.prog G 211 [.ls nz (l.map rn), .ls nz' (m.map rn)] H (.bool (decide (l = m))) := by
  refine AFn.start mix F211 (by simp) fun k hlow => ?_
  by_cases hlen : (l.length : Int) = m.length
  · simp -dsimp -implicitDefEqProofs (disch := omega) only [↓wpre, push_cast, reduceCtorEq, ↓reduceIte, Nat.reduceEqDiff, Nat.reduceLeDiff, Nat.reduceAdd, Nat.reduceLT, Int.reduceEq, Int.reduceLT, Int.reduceLE, Int.reduceNeg, Int.reduceAdd, c211, hlen]
    generalize hb : decide (l = m) = bb
    refine xw_loopJ (σ := List Int × List Int × List Int × List Int) (fun t => [(0, .ls nz (l.map rn)), (1, .ls nz' (m.map rn)), (12, .int m.length), (13, .int t.1.length)]) (fun t H' n' => l = t.1 ++ t.2.1 ∧ m = t.2.2.1 ++ t.2.2.2 ∧ t.1.length = t.2.2.1.length ∧ decide (t.2.1 = t.2.2.2) = bb ∧ Qt H H' k ∧ k ≤ n') (fun t => t.2.1.length) ([], l, [], m) ⟨rfl, rfl, rfl, hb, .refl hlow, Nat.le_refl _⟩ (by simp -dsimp -implicitDefEqProofs (disch := omega) only [↓wpre, push_cast, reduceCtorEq, ↓reduceIte, Nat.reduceEqDiff, Nat.reduceLeDiff, Nat.reduceAdd, Nat.reduceLT, Int.reduceEq, Int.reduceLT, Int.reduceLE, Int.reduceNeg, Int.reduceAdd]) ?_
    rintro ⟨d, r, d', r'⟩ fr H' n1 ⟨hab, hab', hdl, hf, hq, hn⟩ hh
    simp only [has_nil, has_cons, and_true] at hh hab hab' hdl hf
    have hll : l.length = d.length + r.length := by rw [hab]; simp
    have hll' : m.length = d'.length + r'.length := by rw [hab']; simp
    cases r with
    | nil =>
      have hlt : ¬ (d.length : Int) < m.length := by simp at hll; omega
      have hr' : r' = [] := by
        cases r' with
        | nil => rfl
        | cons y ys => simp at hll hll'; omega
      subst hr'
      simp -dsimp -implicitDefEqProofs (disch := omega) only [↓wpre, push_cast, reduceCtorEq, ↓reduceIte, Nat.reduceEqDiff, Nat.reduceLeDiff, Nat.reduceAdd, Nat.reduceLT, Int.reduceEq, Int.reduceLT, Int.reduceLE, Int.reduceNeg, Int.reduceAdd, hh, hlt]
      exact ⟨by simpa using hf, hq.1⟩
    | cons x r =>
      obtain ⟨y, r', rfl⟩ : ∃ y ys, r' = y :: ys := by
        cases r' with
        | nil => simp at hll hll'; omega
        | cons y ys => exact ⟨y, ys, rfl⟩
      have hlt : (d.length : Int) < m.length := by simp at hll; omega
      have hx : l[d.length]? = some x := by rw [hab]; simp
      have hy : m[d.length]? = some y := by rw [hab', hdl]; simp
      simp -dsimp -implicitDefEqProofs (disch := omega) only [↓wpre, push_cast, reduceCtorEq, ↓reduceIte, Nat.reduceEqDiff, Nat.reduceLeDiff, Nat.reduceAdd, Nat.reduceLT, Int.reduceEq, Int.reduceLT, Int.reduceLE, Int.reduceNeg, Int.reduceAdd, hh, hlt, even_rns, aidx_at rfl hx, aidx_at rfl hy]
      refine anyN_intro fun n2 hn2 => ?_
      simp -dsimp -implicitDefEqProofs (disch := omega) only [↓wpre, push_cast, reduceCtorEq, ↓reduceIte, Nat.reduceEqDiff, Nat.reduceLeDiff, Nat.reduceAdd, Nat.reduceLT, Int.reduceEq, Int.reduceLT, Int.reduceLE, Int.reduceNeg, Int.reduceAdd, hh]
      (first | with_reducible refine cnd_ndec (fun hc => ?_) (fun hc => ?_) | with_reducible refine cnd_dec (fun hc => ?_) (fun hc => ?_) | with_reducible refine cnd_nb (fun hc => ?_) (fun hc => ?_) | with_reducible refine cnd_intro (fun hc => ?_) (fun hc => ?_)) <;> (first | (exfalso; omega) | (try simp -dsimp -implicitDefEqProofs (disch := omega) only [↓wpre, push_cast, reduceCtorEq, ↓reduceIte, Nat.reduceEqDiff, Nat.reduceLeDiff, Nat.reduceAdd, Nat.reduceLT, Int.reduceEq, Int.reduceLT, Int.reduceLE, Int.reduceNeg, Int.reduceAdd, hc, hh]))
      · have hne : decide (x :: r = y :: r') = false := by simp [hc]
        rw [hne] at hf
        exact ⟨by rw [← hf], hq.1⟩
      · refine againJ (d ++ [x], r, d' ++ [y], r') (Nat.lt_succ_self _) ⟨by rw [hab]; simp, by rw [hab']; simp, by simp [hdl], by rw [← hf]; simp [hc], by exact Qt.mono (n := k) (by repeat (first | exact hq | refine Qt.hu ?_ (by omega))) (by omega), by omega⟩ (by simp -dsimp -implicitDefEqProofs (disch := omega) only [↓wpre, push_cast, reduceCtorEq, ↓reduceIte, Nat.reduceEqDiff, Nat.reduceLeDiff, Nat.reduceAdd, Nat.reduceLT, Int.reduceEq, Int.reduceLT, Int.reduceLE, Int.reduceNeg, Int.reduceAdd, hh]; all_goals (try simp only [AV.lit.injEq, Value.int.injEq, Value.bool.injEq, true_and, and_true]); all_goals (try (repeat' apply And.intro)); all_goals (first | rfl | omega | simp_all | skip))
  · have hne : decide (l = m) = false := by
      simp only [decide_eq_false_iff_not]
      rintro rfl
      exact hlen rfl
    rw [hne]
    simp -dsimp -implicitDefEqProofs (disch := omega) only [↓wpre, push_cast, reduceCtorEq, ↓reduceIte, Nat.reduceEqDiff, Nat.reduceLeDiff, Nat.reduceAdd, Nat.reduceLT, Int.reduceEq, Int.reduceLT, Int.reduceLE, Int.reduceNeg, Int.reduceAdd, c211, hlen]
theorem val_dec (x y : Val) : (decide (x.kind = y.kind) && (decide (x.text = y.text) && decide (x.num = y.num))) = decide (x = y) := by
  obtain ⟨a, b, c⟩ := x
  obtain ⟨a', b', c'⟩ := y
  simp
theorem far_of {m : Mea} (h : meaErr m = 0) (h1 : ¬ m.how = 1) : 1 ≤ m.far ∧ m.far ≤ 20 := by
  unfold meaErr at h
  simp only [within] at h
  grind
set_option maxHeartbeats 3200000 in
theorem alike_c (hU : GU G) (m : Mea) (hm : meaErr m = 0) (a b : Val) (ha : a.text.size ≤ 10000) (hb : b.text.size ≤ 10000) : AFn Tryz.prog G 144 [.agg m.c, .agg a.c, .agg b.c] H (.bool (alike m a b)) := by
  have l1 : (pts a.text).length ≤ a.text.size := pts_len _ _
  have l2 : (pts b.text).length ≤ b.text.size := pts_len _ _
  refine AFn.start mix F144 (by simp) fun k hlow => ?_
  by_cases h1 : m.how = 1
  · have e : alike m a b = decide (a = b) := if_pos h1
    have hd := val_dec a b
    rw [e]
    simp -dsimp -implicitDefEqProofs (disch := omega) only [↓wpre, push_cast, reduceCtorEq, ↓reduceIte, Nat.reduceEqDiff, Nat.reduceLeDiff, Nat.reduceAdd, Nat.reduceLT, Int.reduceEq, Int.reduceLT, Int.reduceLE, Int.reduceNeg, Int.reduceAdd, c144, h1]
    rw [← hd]
    try rfl
    try trace_state
  have hfar := far_of hm h1
  by_cases hk : a.kind = 1
  rotate_left
  · have e : alike m a b = false := by rw [alike, if_neg h1, if_pos (.inl hk)]
    rw [e]
    simp -dsimp -implicitDefEqProofs (disch := omega) only [↓wpre, push_cast, reduceCtorEq, ↓reduceIte, Nat.reduceEqDiff, Nat.reduceLeDiff, Nat.reduceAdd, Nat.reduceLT, Int.reduceEq, Int.reduceLT, Int.reduceLE, Int.reduceNeg, Int.reduceAdd, c144, h1, hk]
  by_cases hk2 : b.kind = 1
  rotate_left
  · have e : alike m a b = false := by rw [alike, if_neg h1, if_pos (.inr hk2)]
    rw [e]
    simp -dsimp -implicitDefEqProofs (disch := omega) only [↓wpre, push_cast, reduceCtorEq, ↓reduceIte, Nat.reduceEqDiff, Nat.reduceLeDiff, Nat.reduceAdd, Nat.reduceLT, Int.reduceEq, Int.reduceLT, Int.reduceLE, Int.reduceNeg, Int.reduceAdd, c144, h1, hk, hk2]
  have e : alike m a b = if m.how = 2 then decide (dist (pts a.text) (pts b.text) ≤ m.far) else decide (m.far ≤ ((pts a.text).length : Int)) && (decide (m.far ≤ ((pts b.text).length : Int)) && decide ((pts a.text).take m.far.toNat = (pts b.text).take m.far.toNat)) := by
    rw [alike, if_neg h1, if_neg (by simp [hk, hk2])]
  rw [e]
  simp -dsimp -implicitDefEqProofs (disch := omega) only [↓wpre, push_cast, reduceCtorEq, ↓reduceIte, Nat.reduceEqDiff, Nat.reduceLeDiff, Nat.reduceAdd, Nat.reduceLT, Int.reduceEq, Int.reduceLT, Int.reduceLE, Int.reduceNeg, Int.reduceAdd, c144, h1, hk, hk2]
  (first | with_reducible refine (runes_c _ _ hU a.text (by omega)).x fun n' hn' => ?_ | with_reducible refine xfn_intro (runes_c _ _ hU a.text (by omega)) ?_); try simp -dsimp -implicitDefEqProofs (disch := omega) only [↓wpre, push_cast, reduceCtorEq, ↓reduceIte, Nat.reduceEqDiff, Nat.reduceLeDiff, Nat.reduceAdd, Nat.reduceLT, Int.reduceEq, Int.reduceLT, Int.reduceLE, Int.reduceNeg, Int.reduceAdd, true_and]
  (first | with_reducible refine (runes_c _ _ hU b.text (by omega)).x fun n' hn' => ?_ | with_reducible refine xfn_intro (runes_c _ _ hU b.text (by omega)) ?_); try simp -dsimp -implicitDefEqProofs (disch := omega) only [↓wpre, push_cast, reduceCtorEq, ↓reduceIte, Nat.reduceEqDiff, Nat.reduceLeDiff, Nat.reduceAdd, Nat.reduceLT, Int.reduceEq, Int.reduceLT, Int.reduceLE, Int.reduceNeg, Int.reduceAdd, true_and]
  refine anyN_intro fun n2 hn2 => ?_
  simp -dsimp -implicitDefEqProofs (disch := omega) only [↓wpre, push_cast, reduceCtorEq, ↓reduceIte, Nat.reduceEqDiff, Nat.reduceLeDiff, Nat.reduceAdd, Nat.reduceLT, Int.reduceEq, Int.reduceLT, Int.reduceLE, Int.reduceNeg, Int.reduceAdd]
  by_cases h2 : m.how = 2
  · simp -dsimp -implicitDefEqProofs (disch := omega) only [↓wpre, push_cast, reduceCtorEq, ↓reduceIte, Nat.reduceEqDiff, Nat.reduceLeDiff, Nat.reduceAdd, Nat.reduceLT, Int.reduceEq, Int.reduceLT, Int.reduceLE, Int.reduceNeg, Int.reduceAdd, h2]
    (first | with_reducible refine (distance_c _ _ _ _ (pts a.text) (pts b.text) (by omega) (by omega)).x fun n' hn' => ?_ | with_reducible refine xfn_intro (distance_c _ _ _ _ (pts a.text) (pts b.text) (by omega) (by omega)) ?_); try simp -dsimp -implicitDefEqProofs (disch := omega) only [↓wpre, push_cast, reduceCtorEq, ↓reduceIte, Nat.reduceEqDiff, Nat.reduceLeDiff, Nat.reduceAdd, Nat.reduceLT, Int.reduceEq, Int.reduceLT, Int.reduceLE, Int.reduceNeg, Int.reduceAdd, true_and]
    refine anyN_intro fun n3 hn3 => ?_
    simp -dsimp -implicitDefEqProofs (disch := omega) only [↓wpre, push_cast, reduceCtorEq, ↓reduceIte, Nat.reduceEqDiff, Nat.reduceLeDiff, Nat.reduceAdd, Nat.reduceLT, Int.reduceEq, Int.reduceLT, Int.reduceLE, Int.reduceNeg, Int.reduceAdd]
    rw [if_pos h2]
  · rw [if_neg h2]
    simp -dsimp -implicitDefEqProofs (disch := omega) only [↓wpre, push_cast, reduceCtorEq, ↓reduceIte, Nat.reduceEqDiff, Nat.reduceLeDiff, Nat.reduceAdd, Nat.reduceLT, Int.reduceEq, Int.reduceLT, Int.reduceLE, Int.reduceNeg, Int.reduceAdd, h2]
    have hf0 : (0 : Int) ≤ m.far := by omega
    by_cases hA : m.far ≤ ((pts a.text).length : Int)
    · by_cases hB : m.far ≤ ((pts b.text).length : Int)
      · have ha1 : ((pts a.text).map rn).take m.far.toNat = ((pts a.text).take m.far.toNat).map rn := List.map_take.symm
        have hb1 : ((pts b.text).map rn).take m.far.toNat = ((pts b.text).take m.far.toNat).map rn := List.map_take.symm
        have hA2 : m.far.toNat ≤ (pts a.text).length := by omega
        have hB2 : m.far.toNat ≤ (pts b.text).length := by omega
        simp -dsimp -implicitDefEqProofs (disch := omega) only [↓wpre, push_cast, reduceCtorEq, ↓reduceIte, Nat.reduceEqDiff, Nat.reduceLeDiff, Nat.reduceAdd, Nat.reduceLT, Int.reduceEq, Int.reduceLT, Int.reduceLE, Int.reduceNeg, Int.reduceAdd, hA, hB, even_rns, ha1, hb1, hf0, hA2, hB2, decide_true]
        refine xfn_intro (equalR_c G _ _ _ _ _ (by simp; omega) (by simp; omega)) ?_
        simp -dsimp -implicitDefEqProofs (disch := omega) only [↓wpre, push_cast, reduceCtorEq, ↓reduceIte, Nat.reduceEqDiff, Nat.reduceLeDiff, Nat.reduceAdd, Nat.reduceLT, Int.reduceEq, Int.reduceLT, Int.reduceLE, Int.reduceNeg, Int.reduceAdd]
        refine anyN_intro fun n3 hn3 => ?_
        simp -dsimp -implicitDefEqProofs (disch := omega) only [↓wpre, push_cast, reduceCtorEq, ↓reduceIte, Nat.reduceEqDiff, Nat.reduceLeDiff, Nat.reduceAdd, Nat.reduceLT, Int.reduceEq, Int.reduceLT, Int.reduceLE, Int.reduceNeg, Int.reduceAdd, hA, hB, decide_true, Bool.true_and]
      · simp -dsimp -implicitDefEqProofs (disch := omega) only [↓wpre, push_cast, reduceCtorEq, ↓reduceIte, Nat.reduceEqDiff, Nat.reduceLeDiff, Nat.reduceAdd, Nat.reduceLT, Int.reduceEq, Int.reduceLT, Int.reduceLE, Int.reduceNeg, Int.reduceAdd, hA, hB, decide_true, decide_false]
        refine anyN_intro fun n3 hn3 => ?_
        simp -dsimp -implicitDefEqProofs (disch := omega) only [↓wpre, push_cast, reduceCtorEq, ↓reduceIte, Nat.reduceEqDiff, Nat.reduceLeDiff, Nat.reduceAdd, Nat.reduceLT, Int.reduceEq, Int.reduceLT, Int.reduceLE, Int.reduceNeg, Int.reduceAdd, hA, hB, decide_true, decide_false, Bool.true_and, Bool.false_and]
    · simp -dsimp -implicitDefEqProofs (disch := omega) only [↓wpre, push_cast, reduceCtorEq, ↓reduceIte, Nat.reduceEqDiff, Nat.reduceLeDiff, Nat.reduceAdd, Nat.reduceLT, Int.reduceEq, Int.reduceLT, Int.reduceLE, Int.reduceNeg, Int.reduceAdd, hA, decide_true, decide_false]
      refine anyN_intro fun n3 hn3 => ?_
      simp -dsimp -implicitDefEqProofs (disch := omega) only [↓wpre, push_cast, reduceCtorEq, ↓reduceIte, Nat.reduceEqDiff, Nat.reduceLeDiff, Nat.reduceAdd, Nat.reduceLT, Int.reduceEq, Int.reduceLT, Int.reduceLE, Int.reduceNeg, Int.reduceAdd, hA, decide_false, Bool.false_and]
end Go.Proofs.YtblhbafoncfhdaaGreatDoor

