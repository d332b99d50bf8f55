/- Contracts of functions of the program: each computes what its model says; the conditions stand at each. -/
import Derived.Test.YtblhbafoncfhdaaGreatDoorPt3
set_option linter.unusedSimpArgs false
set_option linter.unusedVariables false
set_option maxRecDepth 20000
set_option pp.deepTerms false
set_option pp.deepTerms.threshold 3
namespace Go.Proofs.YtblhbafoncfhdaaGreatDoor
open Go Go.Ab Go.Pm Go.Cm Go.El Go.Rm Go.Pp Go.Uf
variable (G : Nat → AV) (H : Nat → Option AObj)








theorem sum_bound (a b : List Fld) : ∀ l : List Mea, (∀ m ∈ l, meaErr m = 0) → -1000 * (l.length : Int) ≤ score l a b ∧ score l a b ≤ 1000 * (l.length : Int)
  | [], _ => by simp [score]
  | m :: l, h => by
    have h1 := sum_bound a b l fun x hx => h x (by simp [hx])
    have h2 := gain_bound (h m (by simp)) a b
    unfold score at h1 ⊢
    simp only [List.map_cons, List.sum_cons, List.length_cons]
    omega
theorem score_snoc (l : List Mea) (m : Mea) (a b : List Fld) : score (l ++ [m]) a b = score l a b + gain m a b := by simp [score]
theorem fnd_mem {l : List Fld} {name : T} {v : Val} (h : fnd l name = some v) : ∃ f ∈ l, f.val = v := by
  unfold fnd at h
  split at h
  · obtain ⟨f, h1, h2⟩ := Option.map_eq_some_iff.1 h
    exact ⟨f, List.mem_of_getElem? h1, h2⟩
  · cases h
set_option maxHeartbeats 3200000 in
theorem score_c (hU : GU G) (nz nza nzb : Bool) (l : List Mea) (a b : List Fld) (hl : l.length ≤ 20) (hm : ∀ m ∈ l, meaErr m = 0) (ha : SmallF a) (hb : SmallF b) (ha0 : a.length ≤ 1000) (hb0 : b.length ≤ 1000) : AFn Tryz.prog G 75 [.ls nz (l.map Mea.c), .ls nza (a.map Fld.c), .ls nzb (b.map Fld.c)] H (.int (score l a b)) := by
  refine AFn.start mix F75 (by simp) fun k hlow => ?_
  simp -dsimp -implicitDefEqProofs (disch := omega) only [↓wpre, push_cast, reduceCtorEq, ↓reduceIte, Nat.reduceEqDiff, Nat.reduceLeDiff, Nat.reduceAdd, Nat.reduceLT, Int.reduceEq, Int.reduceLT, Int.reduceLE, Int.reduceNeg, Int.reduceAdd, c75]
  refine xw_loopJ (σ := List Mea × List Mea) (fun t => [(1, .ls nza (a.map Fld.c)), (2, .ls nzb (b.map Fld.c)), (7, .int (score t.1 a b)), (14, .ls nz (l.map Mea.c)), (15, .int l.length), (16, .int t.1.length)]) (fun t H' n' => l = t.1 ++ t.2 ∧ Qt H H' k ∧ k ≤ n') (fun t => t.2.length) ([], l) ⟨rfl, .refl hlow, Nat.le_refl _⟩ (by simp -dsimp -implicitDefEqProofs (disch := omega) only [↓wpre, push_cast, reduceCtorEq, ↓reduceIte, Nat.reduceEqDiff, Nat.reduceLeDiff, Nat.reduceAdd, Nat.reduceLT, Int.reduceEq, Int.reduceLT, Int.reduceLE, Int.reduceNeg, Int.reduceAdd]; try rfl) ?_
  rintro ⟨d, r⟩ fr H' n1 ⟨hab, hq, hn⟩ hh
  simp only [has_nil, has_cons, and_true] at hh hab
  have hll : l.length = d.length + r.length := by rw [hab]; simp
  cases r with
  | nil =>
    have hlt : ¬ (d.length : Int) < l.length := by rw [hll]; simp
    have hdl : d = l := by rw [hab]; simp
    simp -dsimp -implicitDefEqProofs (disch := omega) only [↓wpre, push_cast, reduceCtorEq, ↓reduceIte, Nat.reduceEqDiff, Nat.reduceLeDiff, Nat.reduceAdd, Nat.reduceLT, Int.reduceEq, Int.reduceLT, Int.reduceLE, Int.reduceNeg, Int.reduceAdd, hh, hlt]
    rw [hdl]
    first | exact hq.1 | exact ⟨rfl, hq.1⟩
  | cons x r =>
    have hlt : (d.length : Int) < l.length := by rw [hll]; simp only [List.length_cons]; omega
    have hx : l[d.length]? = some x := by rw [hab]; simp
    have hxm := hm x (by rw [hab]; simp)
    have hsb := sum_bound a b d fun m h => hm m (by rw [hab]; simp [h])
    have hsn := score_snoc d x a b
    have hgb := gain_bound hxm a b
    have hpb : -1000 ≤ x.pts ∧ x.pts ≤ 1000 := by
      have := hxm
      unfold meaErr at this
      simp only [within] at this
      grind
    have hdl : d.length ≤ 20 := by omega
    simp -dsimp -implicitDefEqProofs (disch := omega) only [↓wpre, push_cast, reduceCtorEq, ↓reduceIte, Nat.reduceEqDiff, Nat.reduceLeDiff, Nat.reduceAdd, Nat.reduceLT, Int.reduceEq, Int.reduceLT, Int.reduceLE, Int.reduceNeg, Int.reduceAdd, hh, hlt, even_meas, aidx_at rfl hx]
    refine AFn.x (findF_c G _ nza a x.name (by omega)) fun n2 hn2 => ?_
    cases hfa : fnd a x.name with
    | none =>
      have hva : findV a x.name = .tup [.agg [.int 0, .str ⟨#[]⟩, .int 0], .bool false] := by unfold findV; rw [hfa]
      rw [hva]
      simp -dsimp -implicitDefEqProofs (disch := omega) only [↓wpre, push_cast, reduceCtorEq, ↓reduceIte, Nat.reduceEqDiff, Nat.reduceLeDiff, Nat.reduceAdd, Nat.reduceLT, Int.reduceEq, Int.reduceLT, Int.reduceLE, Int.reduceNeg, Int.reduceAdd, hh]
      refine AFn.x (findF_c G _ nzb b x.name (by omega)) fun n3 hn3 => ?_
      have hg : gain x a b = 0 := by unfold gain; rw [hfa]
      obtain ⟨v1, b1, hvb⟩ : ∃ (v1 : Val) (b1 : Bool), findV b x.name = .tup [.agg v1.c, .bool b1] := by
        unfold findV
        cases fnd b x.name with
        | none => exact ⟨⟨0, ⟨#[]⟩, 0⟩, false, rfl⟩
        | some v => exact ⟨v, true, rfl⟩
      rw [hvb]
      have hs0 : score (d ++ [x]) a b = score d a b := by rw [hsn, hg, Int.add_zero]
      simp -dsimp -implicitDefEqProofs (disch := omega) only [↓wpre, push_cast, reduceCtorEq, ↓reduceIte, Nat.reduceEqDiff, Nat.reduceLeDiff, Nat.reduceAdd, Nat.reduceLT, Int.reduceEq, Int.reduceLT, Int.reduceLE, Int.reduceNeg, Int.reduceAdd, hh]
      refine againJ (d ++ [x], r) (Nat.lt_succ_self _) ⟨by rw [hab]; simp, by exact Qt.mono (n := k) (by repeat (first | exact hq | refine Qt.hu ?_ (by omega))) (by omega), by omega⟩ (by simp -dsimp -implicitDefEqProofs (disch := omega) only [↓wpre, push_cast, reduceCtorEq, ↓reduceIte, Nat.reduceEqDiff, Nat.reduceLeDiff, Nat.reduceAdd, Nat.reduceLT, Int.reduceEq, Int.reduceLT, Int.reduceLE, Int.reduceNeg, Int.reduceAdd, hh, hs0]; all_goals (try simp only [AV.lit.injEq, Value.int.injEq, Value.bool.injEq, true_and, and_true]); all_goals (try (repeat' apply And.intro)); all_goals (first | rfl | omega | simp_all | skip))
    | some v =>
      have hva : findV a x.name = .tup [.agg v.c, .bool true] := by unfold findV; rw [hfa]
      rw [hva]
      simp -dsimp -implicitDefEqProofs (disch := omega) only [↓wpre, push_cast, reduceCtorEq, ↓reduceIte, Nat.reduceEqDiff, Nat.reduceLeDiff, Nat.reduceAdd, Nat.reduceLT, Int.reduceEq, Int.reduceLT, Int.reduceLE, Int.reduceNeg, Int.reduceAdd, hh]
      refine AFn.x (findF_c G _ nzb b x.name (by omega)) fun n3 hn3 => ?_
      cases hfb : fnd b x.name with
      | none =>
        have hvb : findV b x.name = .tup [.agg [.int 0, .str ⟨#[]⟩, .int 0], .bool false] := by unfold findV; rw [hfb]
        rw [hvb]
        have hg : gain x a b = 0 := by unfold gain; rw [hfa, hfb]
        have hs0 : score (d ++ [x]) a b = score d a b := by rw [hsn, hg, Int.add_zero]
        simp -dsimp -implicitDefEqProofs (disch := omega) only [↓wpre, push_cast, reduceCtorEq, ↓reduceIte, Nat.reduceEqDiff, Nat.reduceLeDiff, Nat.reduceAdd, Nat.reduceLT, Int.reduceEq, Int.reduceLT, Int.reduceLE, Int.reduceNeg, Int.reduceAdd, hh]
        refine againJ (d ++ [x], r) (Nat.lt_succ_self _) ⟨by rw [hab]; simp, by exact Qt.mono (n := k) (by repeat (first | exact hq | refine Qt.hu ?_ (by omega))) (by omega), by omega⟩ (by simp -dsimp -implicitDefEqProofs (disch := omega) only [↓wpre, push_cast, reduceCtorEq, ↓reduceIte, Nat.reduceEqDiff, Nat.reduceLeDiff, Nat.reduceAdd, Nat.reduceLT, Int.reduceEq, Int.reduceLT, Int.reduceLE, Int.reduceNeg, Int.reduceAdd, hh, hs0]; all_goals (try simp only [AV.lit.injEq, Value.int.injEq, Value.bool.injEq, true_and, and_true]); all_goals (try (repeat' apply And.intro)); all_goals (first | rfl | omega | simp_all | skip))
      | some w =>
        have hvb : findV b x.name = .tup [.agg w.c, .bool true] := by unfold findV; rw [hfb]
        rw [hvb]
        have hg : gain x a b = if alike x v w then x.pts else 0 := by unfold gain; rw [hfa, hfb]
        obtain ⟨f1, hf1, rfl⟩ := fnd_mem hfa
        obtain ⟨f2, hf2, rfl⟩ := fnd_mem hfb
        have hs1 := ha f1 hf1
        have hs2 := hb f2 hf2
        simp -dsimp -implicitDefEqProofs (disch := omega) only [↓wpre, push_cast, reduceCtorEq, ↓reduceIte, Nat.reduceEqDiff, Nat.reduceLeDiff, Nat.reduceAdd, Nat.reduceLT, Int.reduceEq, Int.reduceLT, Int.reduceLE, Int.reduceNeg, Int.reduceAdd, hh]
        refine AFn.x (alike_c G _ hU x hxm f1.val f2.val (by omega) (by omega)) fun n4 hn4 => ?_
        simp -dsimp -implicitDefEqProofs (disch := omega) only [↓wpre, push_cast, reduceCtorEq, ↓reduceIte, Nat.reduceEqDiff, Nat.reduceLeDiff, Nat.reduceAdd, Nat.reduceLT, Int.reduceEq, Int.reduceLT, Int.reduceLE, Int.reduceNeg, Int.reduceAdd, hh]
        (first | with_reducible refine cnd_ndec (fun hc => ?_) (fun hc => ?_) | with_reducible refine cnd_dec (fun hc => ?_) (fun hc => ?_) | with_reducible refine cnd_nb (fun hc => ?_) (fun hc => ?_) | with_reducible refine cnd_intro (fun hc => ?_) (fun hc => ?_)) <;> (first | (exfalso; omega) | (try simp -dsimp -implicitDefEqProofs (disch := omega) only [↓wpre, push_cast, reduceCtorEq, ↓reduceIte, Nat.reduceEqDiff, Nat.reduceLeDiff, Nat.reduceAdd, Nat.reduceLT, Int.reduceEq, Int.reduceLT, Int.reduceLE, Int.reduceNeg, Int.reduceAdd, hc, hh]))
        · have hs0 : score (d ++ [x]) a b = score d a b + x.pts := by rw [hsn, hg, if_pos hc]
          refine againJ (d ++ [x], r) (Nat.lt_succ_self _) ⟨by rw [hab]; simp, by exact Qt.mono (n := k) (by repeat (first | exact hq | refine Qt.hu ?_ (by omega))) (by omega), by omega⟩ (by simp -dsimp -implicitDefEqProofs (disch := omega) only [↓wpre, push_cast, reduceCtorEq, ↓reduceIte, Nat.reduceEqDiff, Nat.reduceLeDiff, Nat.reduceAdd, Nat.reduceLT, Int.reduceEq, Int.reduceLT, Int.reduceLE, Int.reduceNeg, Int.reduceAdd, hh, hs0]; all_goals (try simp only [AV.lit.injEq, Value.int.injEq, Value.bool.injEq, true_and, and_true]); all_goals (try (repeat' apply And.intro)); all_goals (first | rfl | omega | simp_all | skip))
        · have hs0 : score (d ++ [x]) a b = score d a b := by rw [hsn, hg, if_neg (by simp [hc]), Int.add_zero]
          refine againJ (d ++ [x], r) (Nat.lt_succ_self _) ⟨by rw [hab]; simp, by exact Qt.mono (n := k) (by repeat (first | exact hq | refine Qt.hu ?_ (by omega))) (by omega), by omega⟩ (by simp -dsimp -implicitDefEqProofs (disch := omega) only [↓wpre, push_cast, reduceCtorEq, ↓reduceIte, Nat.reduceEqDiff, Nat.reduceLeDiff, Nat.reduceAdd, Nat.reduceLT, Int.reduceEq, Int.reduceLT, Int.reduceLE, Int.reduceNeg, Int.reduceAdd, hh, hs0]; all_goals (try simp only [AV.lit.injEq, Value.int.injEq, Value.bool.injEq, true_and, and_true]); all_goals (try (repeat' apply And.intro)); all_goals (first | rfl | omega | simp_all | skip))
set_option maxHeartbeats 3200000 in
theorem pointsAll_c (hU : GU G) (nz nza nzb : Bool) (l : List Mea) (a b : List Fld) (hm : checkMeas l = 0) (hca : checkFields a = 0) (hcb : checkFields b = 0) (hln : ∀ m ∈ l, m.name.size ≤ 1000000) (hl0 : l.length ≤ 1000) (ha : SmallF a) (hb : SmallF b) (ha0 : a.length ≤ 1000) (hb0 : b.length ≤ 1000) : AFn Tryz.prog G 16 [.ls nz (l.map Mea.c), .ls nza (a.map Fld.c), .ls nzb (b.map Fld.c)] H (.tup [.int (score l a b), .int 0]) := by
  have hl20 : l.length ≤ 20 := by
    unfold checkMeas at hm
    split at hm
    · cases hm
    · split at hm
      · cases hm
      · omega
  have hmg : checkMeasGo l = 0 := by
    unfold checkMeas at hm
    split at hm
    · cases hm
    · split at hm
      · cases hm
      · exact hm
  have hme := checkMeasGo_each hmg
  refine AFn.start mix F16 (by simp) fun k hlow => ?_
  simp -dsimp -implicitDefEqProofs (disch := omega) only [↓wpre, push_cast, reduceCtorEq, ↓reduceIte, Nat.reduceEqDiff, Nat.reduceLeDiff, Nat.reduceAdd, Nat.reduceLT, Int.reduceEq, Int.reduceLT, Int.reduceLE, Int.reduceNeg, Int.reduceAdd, c16]
  refine AFn.x (checkMeas_c G _ nz l hln hl0) fun n1 hn1 => ?_
  rw [hm]
  simp -dsimp -implicitDefEqProofs (disch := omega) only [↓wpre, push_cast, reduceCtorEq, ↓reduceIte, Nat.reduceEqDiff, Nat.reduceLeDiff, Nat.reduceAdd, Nat.reduceLT, Int.reduceEq, Int.reduceLT, Int.reduceLE, Int.reduceNeg, Int.reduceAdd]
  have hrows : ∀ i, i < 2 → ∃ (z : Bool) (f : List Fld), ([[AV.ls nza (a.map Fld.c)], [AV.ls nzb (b.map Fld.c)]] : List (List AV))[i]? = some [.ls z (f.map Fld.c)] ∧ checkFields f = 0 ∧ SmallF f ∧ f.length ≤ 1000 := by
    intro i hi
    have : i = 0 ∨ i = 1 := by omega
    rcases this with rfl | rfl
    · exact ⟨nza, a, rfl, hca, ha, ha0⟩
    · exact ⟨nzb, b, rfl, hcb, hb, hb0⟩
  generalize hR : ([[AV.ls nza (a.map Fld.c)], [AV.ls nzb (b.map Fld.c)]] : List (List AV)) = R at hrows ⊢
  have hRl : R.length = 2 := by rw [← hR]; rfl
  have hRe : Even 1 R = True := eq_true (by rw [← hR]; intro r hr; simp at hr; rcases hr with rfl | rfl <;> exact ⟨rfl, rfl⟩)
  refine xw_loopJ (σ := Nat) (fun i => [(0, .ls nz (l.map Mea.c)), (1, .ls nza (a.map Fld.c)), (2, .ls nzb (b.map Fld.c)), (19, .ls true R), (20, .int 2), (21, .int i)]) (fun i H' n' => i ≤ 2 ∧ Qt H H' k ∧ k ≤ n') (fun i => 2 - i) 0 ⟨by omega, (.refl hlow), by omega⟩ (by simp -dsimp -implicitDefEqProofs (disch := omega) only [↓wpre, push_cast, reduceCtorEq, ↓reduceIte, Nat.reduceEqDiff, Nat.reduceLeDiff, Nat.reduceAdd, Nat.reduceLT, Int.reduceEq, Int.reduceLT, Int.reduceLE, Int.reduceNeg, Int.reduceAdd, hR, hRl]; try rfl) ?_
  rintro i fr H' n2 ⟨hi, hq, hn⟩ hh
  simp only [has_nil, has_cons, and_true] at hh hi
  by_cases hlt : (i : Int) < 2
  · obtain ⟨z, f, hz, hc1, hc2, hc3⟩ := hrows i (by omega)
    have hxi : ∀ H2, aidx H2 1 (.ls true R) (.int i) = some (.pp [.ls z (f.map Fld.c)]) := fun H2 => by
      have h9 := aidx_at (H := H2) (sz := 1) (nz := true) (c := id) (l := R) (k := .i64) (i := (i : Int)) (j := i) rfl hz
      rw [List.map_id] at h9
      exact h9
    simp -dsimp -implicitDefEqProofs (disch := omega) only [↓wpre, push_cast, reduceCtorEq, ↓reduceIte, Nat.reduceEqDiff, Nat.reduceLeDiff, Nat.reduceAdd, Nat.reduceLT, Int.reduceEq, Int.reduceLT, Int.reduceLE, Int.reduceNeg, Int.reduceAdd, hh, hlt, hRe, hxi]
    refine AFn.x (checkFields_c G _ hU z f hc2 hc3) fun n3 hn3 => ?_
    rw [hc1]
    simp -dsimp -implicitDefEqProofs (disch := omega) only [↓wpre, push_cast, reduceCtorEq, ↓reduceIte, Nat.reduceEqDiff, Nat.reduceLeDiff, Nat.reduceAdd, Nat.reduceLT, Int.reduceEq, Int.reduceLT, Int.reduceLE, Int.reduceNeg, Int.reduceAdd, hh]
    refine againJ (i + 1) (by omega) ⟨by omega, by exact Qt.mono (n := k) (by repeat (first | exact hq | refine Qt.hu ?_ (by omega))) (by omega), by omega⟩ (by simp -dsimp -implicitDefEqProofs (disch := omega) only [↓wpre, push_cast, reduceCtorEq, ↓reduceIte, Nat.reduceEqDiff, Nat.reduceLeDiff, Nat.reduceAdd, Nat.reduceLT, Int.reduceEq, Int.reduceLT, Int.reduceLE, Int.reduceNeg, Int.reduceAdd, hh]; all_goals (try simp only [AV.lit.injEq, Value.int.injEq, Value.bool.injEq, true_and, and_true]); all_goals (try (repeat' apply And.intro)); all_goals (first | rfl | omega | simp_all | skip))
  · simp -dsimp -implicitDefEqProofs (disch := omega) only [↓wpre, push_cast, reduceCtorEq, ↓reduceIte, Nat.reduceEqDiff, Nat.reduceLeDiff, Nat.reduceAdd, Nat.reduceLT, Int.reduceEq, Int.reduceLT, Int.reduceLE, Int.reduceNeg, Int.reduceAdd, hh, hlt]
    refine AFn.x (score_c G _ hU nz nza nzb l a b hl20 hme ha hb ha0 hb0) fun n3 hn3 => ?_
    simp -dsimp -implicitDefEqProofs (disch := omega) only [↓wpre, push_cast, reduceCtorEq, ↓reduceIte, Nat.reduceEqDiff, Nat.reduceLeDiff, Nat.reduceAdd, Nat.reduceLT, Int.reduceEq, Int.reduceLT, Int.reduceLE, Int.reduceNeg, Int.reduceAdd, hh]
    exact (Qt.mono (n := k) (by repeat (first | exact hq | refine Qt.hu ?_ (by omega))) (Nat.le_refl _)).1
end Go.Proofs.YtblhbafoncfhdaaGreatDoor

