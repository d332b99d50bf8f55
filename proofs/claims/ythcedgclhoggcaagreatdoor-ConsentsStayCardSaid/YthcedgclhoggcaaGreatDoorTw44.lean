/- Contracts of functions of the program: each computes what its model says; the conditions stand at each. -/
import Derived.Test.YthcedgclhoggcaaGreatDoorCl7
set_option linter.unusedSimpArgs false
set_option linter.unusedVariables false
set_option maxRecDepth 20000
set_option pp.deepTerms false
set_option pp.deepTerms.threshold 3
namespace Go.Proofs.YthcedgclhoggcaaGreatDoor
open Go Go.Ab Go.Pm Go.Cm
variable (G : Nat → AV) (H : Nat → Option AObj)
/-! Merge; slices.Equal of statements. -/
theorem sortNil2_c : AFn Tryz.prog G 58 [.ls false [], .fn (.func 59) []] H (.tup []) := by
  intro n w g vs h1 h2 h3 h4 h5
  obtain ⟨v0, vs', e1, ⟨ad, cap, rfl, _, _, hz, hn, _⟩, v1, vs'', rfl, ⟨cv, rfl, hcv⟩, e2⟩ := h5
  have e2 : vs'' = [] := e2
  subst e2
  have ha : ad = none := by
    cases ad with
    | none => rfl
    | some x => simp at hz
  subst ha
  have e1 : vs = #[.slice none 0 cap, .func (.func 59) #[] cv] := Array.toList_inj.1 (by simpa using e1)
  subst e1
  refine .inl ⟨enters_of_b (by kernel_rfl), (Go.Proofs.AnyF.slices_SortFunc_none Tryz.sortF none cap _ w).mono fun e w' ⟨k1, k2⟩ => ?_⟩
  subst k2
  exact ⟨_, _, g, k1, ⟨rfl, h2⟩, ⟨#[], rfl, rfl⟩, h1, Step.refl _ _⟩
theorem compactNil2_c : AFn Tryz.prog G 60 [.ls false [], .fn (.func 61) []] H (.ls false []) := by
  refine AFn.start mix F60 (by simp) fun k hlow => ?_
  simp -dsimp -implicitDefEqProofs (disch := omega) only [↓wpre, push_cast, reduceCtorEq, ↓reduceIte, Nat.reduceEqDiff, Nat.reduceLeDiff, Nat.reduceAdd, Nat.reduceLT, Int.reduceEq, Int.reduceLT, Int.reduceLE, Int.reduceNeg, Int.reduceAdd, c60]
theorem merge_run {m : Int} {cs : List AV} (hG : G 2 = .pp (.lit (.int .i64 m) :: cs)) (nzp nza nzb : Bool) (p : List Purpose) (a b : List Stm) (hP : SmallP p) (hpl : p.length ≤ 1000000) (hka : SmallS a) (hkb : SmallS b) (hl : a.length + b.length ≤ 3000) (h1 : Cm.check p a = 0) (h2 : Cm.check p b = 0) (n : Nat) :
    ACalls Tryz.prog G 30 [.ls nzp (p.map Purpose.c), .ls nza (a.map Stm.c), .ls nzb (b.map Stm.c)] H n fun r H' n' => (a ++ b = [] ∧ r = .tup [.ls false [], .int 0] ∧ H' = H) ∨ (a ++ b ≠ [] ∧ ∃ o jr, r = .tup [.os o 0 (mergeL (a ++ b)).length, .int 0] ∧ H' o = some ⟨43, 8, (mergeL (a ++ b)).map Stm.c ++ jr⟩ ∧ Sub H H' ∧ H o = none) := by
  refine ACalls.start mix F30 (by simp) fun hlow => ?_
  have hq := Qt.refl hlow
  obtain ⟨L, hL⟩ : ∃ L : List (Bool × List Stm), L = [(nza, a), (nzb, b)] := ⟨_, rfl⟩
  have hLy : ∀ y ∈ L, SmallS y.2 ∧ Cm.check p y.2 = 0 := by
    rw [hL]
    intro y hy
    simp only [List.mem_cons, List.not_mem_nil, or_false] at hy
    rcases hy with rfl | rfl
    · exact ⟨hka, h1⟩
    · exact ⟨hkb, h2⟩
  have hL2 : L.length = 2 := by rw [hL]; rfl
  simp -dsimp -implicitDefEqProofs (disch := omega) only [↓wpre, push_cast, reduceCtorEq, ↓reduceIte, Nat.reduceEqDiff, Nat.reduceLeDiff, Nat.reduceAdd, Nat.reduceLT, Int.reduceEq, Int.reduceLT, Int.reduceLE, Int.reduceNeg, Int.reduceAdd, c30]
  refine xw_loopJ (σ := List (Bool × List Stm) × List (Bool × List Stm)) (fun t => [(0, .ls nzp (p.map Purpose.c)), (1, .ls nza (a.map Stm.c)), (2, .ls nzb (b.map Stm.c)), (15, .ls true (LsC L)), (16, .int 2), (17, .int t.1.length)]) (fun t H' n' => L = t.1 ++ t.2 ∧ H = H' ∧ n ≤ n') (fun t => t.2.length) ([], L) ⟨rfl, rfl, Nat.le_refl _⟩ (by simp -dsimp -implicitDefEqProofs (disch := omega) only [↓wpre, push_cast, reduceCtorEq, ↓reduceIte, Nat.reduceEqDiff, Nat.reduceLeDiff, Nat.reduceAdd, Nat.reduceLT, Int.reduceEq, Int.reduceLT, Int.reduceLE, Int.reduceNeg, Int.reduceAdd, true_and]; simp [hL]) ?_
  rintro ⟨d, e⟩ fr H' n1 ⟨hab, rfl, hn1⟩ hh
  simp only [has_nil, has_cons, and_true] at hh hab
  have hlab : d.length + e.length = 2 := by rw [← hL2, hab]; simp
  cases e with
  | cons y e =>
    have hlt : (d.length : Int) < 2 := by simp only [List.length_cons] at hlab; omega
    have hget : L[d.length]? = some y := by rw [hab]; simp
    obtain ⟨hy1, hy2⟩ := hLy y (by rw [hab]; simp)
    simp -dsimp -implicitDefEqProofs (disch := omega) only [↓wpre, push_cast, reduceCtorEq, ↓reduceIte, Nat.reduceEqDiff, Nat.reduceLeDiff, Nat.reduceAdd, Nat.reduceLT, Int.reduceEq, Int.reduceLT, Int.reduceLE, Int.reduceNeg, Int.reduceAdd, hh, hlt, even_LsC, aidx_at _ hget]
    refine AFn.x (check_c G _ hG nzp y.1 p y.2 hP hpl hy1) fun n2 hn2 => ?_
    simp -dsimp -implicitDefEqProofs (disch := omega) only [↓wpre, push_cast, reduceCtorEq, ↓reduceIte, Nat.reduceEqDiff, Nat.reduceLeDiff, Nat.reduceAdd, Nat.reduceLT, Int.reduceEq, Int.reduceLT, Int.reduceLE, Int.reduceNeg, Int.reduceAdd, hh, hy2]
    refine againJ (d ++ [y], e) (Nat.lt_succ_self _) ⟨by rw [hab]; simp, rfl, by omega⟩ (by simp -dsimp -implicitDefEqProofs (disch := omega) only [↓wpre, push_cast, reduceCtorEq, ↓reduceIte, Nat.reduceEqDiff, Nat.reduceLeDiff, Nat.reduceAdd, Nat.reduceLT, Int.reduceEq, Int.reduceLT, Int.reduceLE, Int.reduceNeg, Int.reduceAdd, hh]; try simp)
  | nil =>
    have hnl : ¬ (d.length : Int) < 2 := by simp only [List.length_nil] at hlab; omega
    simp -dsimp -implicitDefEqProofs (disch := omega) only [↓wpre, push_cast, reduceCtorEq, ↓reduceIte, Nat.reduceEqDiff, Nat.reduceLeDiff, Nat.reduceAdd, Nat.reduceLT, Int.reduceEq, Int.reduceLT, Int.reduceLE, Int.reduceNeg, Int.reduceAdd, hh, hnl]
    have hc : catL [(nza, a), (nzb, b)] = a ++ b := by simp [catL]
    refine (concat_run G _ [(nza, a), (nzb, b)] (by simp) (by rw [hc, List.length_append]; omega) _).le.x fun r H2 n2 ⟨hr, hn2⟩ => ?_
    rw [hc] at hr
    rcases hr with ⟨h0, rfl, rfl⟩ | ⟨h0, o, ho1, ho2, rfl, ho, hsub, hHo⟩
    · simp -dsimp -implicitDefEqProofs (disch := omega) only [↓wpre, push_cast, reduceCtorEq, ↓reduceIte, Nat.reduceEqDiff, Nat.reduceLeDiff, Nat.reduceAdd, Nat.reduceLT, Int.reduceEq, Int.reduceLT, Int.reduceLE, Int.reduceNeg, Int.reduceAdd, hh]
      refine AFn.x (sortNil2_c G _) fun n3 hn3 => ?_
      simp -dsimp -implicitDefEqProofs (disch := omega) only [↓wpre, push_cast, reduceCtorEq, ↓reduceIte, Nat.reduceEqDiff, Nat.reduceLeDiff, Nat.reduceAdd, Nat.reduceLT, Int.reduceEq, Int.reduceLT, Int.reduceLE, Int.reduceNeg, Int.reduceAdd, hh]
      refine AFn.x (compactNil2_c G _) fun n4 hn4 => ?_
      simp -dsimp -implicitDefEqProofs (disch := omega) only [↓wpre, push_cast, reduceCtorEq, ↓reduceIte, Nat.reduceEqDiff, Nat.reduceLeDiff, Nat.reduceAdd, Nat.reduceLT, Int.reduceEq, Int.reduceLT, Int.reduceLE, Int.reduceNeg, Int.reduceAdd, hh]
      refine xw_loopJ (σ := Unit) (fun t => [(11, .ls false []), (40, .int 0), (41, .int 0)]) (fun t H' n' => H2 = H') (fun t => 0) () rfl (by simp -dsimp -implicitDefEqProofs (disch := omega) only [↓wpre, push_cast, reduceCtorEq, ↓reduceIte, Nat.reduceEqDiff, Nat.reduceLeDiff, Nat.reduceAdd, Nat.reduceLT, Int.reduceEq, Int.reduceLT, Int.reduceLE, Int.reduceNeg, Int.reduceAdd, hh]; try rfl) ?_
      rintro ⟨⟩ fr H' n5 rfl hh
      simp only [has_nil, has_cons, and_true] at hh
      simp -dsimp -implicitDefEqProofs (disch := omega) only [↓wpre, push_cast, reduceCtorEq, ↓reduceIte, Nat.reduceEqDiff, Nat.reduceLeDiff, Nat.reduceAdd, Nat.reduceLT, Int.reduceEq, Int.reduceLT, Int.reduceLE, Int.reduceNeg, Int.reduceAdd, hh]
      exact fin_intro (Sub.refl _) (.inl ⟨h0, rfl, rfl⟩)
    · simp -dsimp -implicitDefEqProofs (disch := omega) only [↓wpre, push_cast, reduceCtorEq, ↓reduceIte, Nat.reduceEqDiff, Nat.reduceLeDiff, Nat.reduceAdd, Nat.reduceLT, Int.reduceEq, Int.reduceLT, Int.reduceLE, Int.reduceNeg, Int.reduceAdd, hh]
      rw [show a.length + b.length = (a ++ b).length from by simp]
      refine (sortFunc_c G H2 (a ++ b) [] o (by rw [List.append_nil]; exact ho) (by rw [List.length_append]; omega) _).le.x fun r H3 n3 ⟨⟨hr, l', hs, hl', e3⟩, hn3⟩ => ?_
      subst hr e3
      rw [List.append_nil]
      simp -dsimp -implicitDefEqProofs (disch := omega) only [↓wpre, push_cast, reduceCtorEq, ↓reduceIte, Nat.reduceEqDiff, Nat.reduceLeDiff, Nat.reduceAdd, Nat.reduceLT, Int.reduceEq, Int.reduceLT, Int.reduceLE, Int.reduceNeg, Int.reduceAdd, hh]
      rw [show a.length + b.length = l'.length from by rw [hl', List.length_append]]
      refine (compactFunc_c G (hu H2 o (some ⟨43, 8, l'.map Stm.c⟩)) o l' (by rw [hl', List.length_append]; omega) hu_same _).le.x fun r H4 n4 ⟨⟨hr, jr, e4⟩, hn4⟩ => ?_
      subst hr e4
      have hm := mergeL_eq hs (KSub.of_sub fun s h => h) (KSub.of_sub fun s h => h)
      have hcl : (cpt l').length ≤ 3000 := by
        have := cpt_len l'
        rw [hl', List.length_append] at this
        omega
      have hnf : ¬ (3000 : Int) < ((cpt l').length : Int) := by omega
      generalize cpt l' = K at hm hcl hnf
      simp -dsimp -implicitDefEqProofs (disch := omega) only [↓wpre, push_cast, reduceCtorEq, ↓reduceIte, Nat.reduceEqDiff, Nat.reduceLeDiff, Nat.reduceAdd, Nat.reduceLT, Int.reduceEq, Int.reduceLT, Int.reduceLE, Int.reduceNeg, Int.reduceAdd, hh, hnf]
      refine xw_loopJ (σ := List Stm × List Stm) (fun t => [(11, .os o 0 K.length), (40, .int K.length), (41, .int t.1.length)]) (fun t H' n' => K = t.1 ++ t.2 ∧ H' o = some ⟨43, 8, (renum 0 t.1).map Stm.c ++ (t.2.map Stm.c ++ jr)⟩ ∧ Sub H H') (fun t => t.2.length) ([], K) ⟨rfl, by rw [hu_same]; rfl, fun i x hi => ?_⟩ (by simp -dsimp -implicitDefEqProofs (disch := omega) only [↓wpre, push_cast, reduceCtorEq, ↓reduceIte, Nat.reduceEqDiff, Nat.reduceLeDiff, Nat.reduceAdd, Nat.reduceLT, Int.reduceEq, Int.reduceLT, Int.reduceLE, Int.reduceNeg, Int.reduceAdd, hh]; try rfl) ?_
      · have hio : i ≠ o := fun e => by rw [e, hHo] at hi; cases hi
        rw [hu_ne hio, hu_ne hio]
        exact hsub i x hi
      rintro ⟨u, v⟩ fr H' n5 ⟨huv, hoo, hsb⟩ hh
      simp only [has_nil, has_cons, and_true] at hh huv
      dsimp only at hoo
      have hKl : K.length = u.length + v.length := by rw [huv]; simp
      cases v with
      | nil =>
        have hnl : ¬ (u.length : Int) < K.length := by rw [hKl]; simp
        rw [List.append_nil] at huv
        subst huv
        simp -dsimp -implicitDefEqProofs (disch := omega) only [↓wpre, push_cast, reduceCtorEq, ↓reduceIte, Nat.reduceEqDiff, Nat.reduceLeDiff, Nat.reduceAdd, Nat.reduceLT, Int.reduceEq, Int.reduceLT, Int.reduceLE, Int.reduceNeg, Int.reduceAdd, hh, hnl]
        refine fin_intro (Sub.refl _) (.inr ⟨h0, o, jr, ?_, ?_, hsb, hHo⟩)
        · rw [← hm, renum_len]
        · rw [hoo, ← hm]; rfl
      | cons y v =>
        have hlt : (u.length : Int) < K.length := by rw [hKl]; simp only [List.length_cons]; omega
        have hge : ((renum 0 u).map Stm.c ++ ((y :: v).map Stm.c ++ jr))[u.length]? = some y.c := by
          rw [List.getElem?_append_right (by simp [renum_len])]
          simp [renum_len]
        have hse : ∀ z : Stm, ((renum 0 u).map Stm.c ++ ((y :: v).map Stm.c ++ jr)).set u.length z.c = (renum 0 u).map Stm.c ++ (z :: v).map Stm.c ++ jr := fun z => by
          rw [List.set_append_right _ _ (by simp [renum_len])]
          simp [renum_len]
        have hse' := hse { y with no := (u.length : Int) + 1 }
        try dsimp only at hse'
        simp -dsimp -implicitDefEqProofs (disch := omega) only [↓wpre, push_cast, reduceCtorEq, ↓reduceIte, Nat.reduceEqDiff, Nat.reduceLeDiff, Nat.reduceAdd, Nat.reduceLT, Int.reduceEq, Int.reduceLT, Int.reduceLE, Int.reduceNeg, Int.reduceAdd, hh, hlt, hoo, hge, hse', Int.toNat_natCast]
        refine againJ (u ++ [y], v) (Nat.lt_succ_self _) ⟨by rw [huv]; simp, ?_, ?_⟩ (by simp -dsimp -implicitDefEqProofs (disch := omega) only [↓wpre, push_cast, reduceCtorEq, ↓reduceIte, Nat.reduceEqDiff, Nat.reduceLeDiff, Nat.reduceAdd, Nat.reduceLT, Int.reduceEq, Int.reduceLT, Int.reduceLE, Int.reduceNeg, Int.reduceAdd, hh]; try simp)
        · rw [hu_same, renum_app]
          simp [renum]
        · intro i x hi
          have hio : i ≠ o := fun e => by rw [e, hHo] at hi; cases hi
          rw [hu_ne hio]
          exact hsb i x hi

theorem mergeL_nil : mergeL [] = [] := by simp [mergeL, msortS, cpt, renum]
theorem merge_c {m : Int} {cs : List AV} (hG : G 2 = .pp (.lit (.int .i64 m) :: cs)) (nzp nza nzb : Bool) (p : List Purpose) (a b : List Stm) (hP : SmallP p) (hpl : p.length ≤ 1000000) (hka : SmallS a) (hkb : SmallS b) (hl : a.length + b.length ≤ 3000) (h1 : Cm.check p a = 0) (h2 : Cm.check p b = 0) :
    AFn Tryz.prog G 30 [.ls nzp (p.map Purpose.c), .ls nza (a.map Stm.c), .ls nzb (b.map Stm.c)] H (.tup [.ls (!(a ++ b).isEmpty) ((mergeL (a ++ b)).map Stm.c), .int 0]) := by
  intro n
  refine ACalls.frz (merge_run G H hG nzp nza nzb p a b hP hpl hka hkb hl h1 h2 n) ?_
  rintro r H1 n1 (⟨h0, rfl, rfl⟩ | ⟨h0, i, jr, rfl, h1, h2, h3⟩)
  · refine ⟨fun _ => none, H1, 0, fun _ _ h => (by cases h), Sub.refl _, fun _ _ h => (by cases h), ?_, rfl⟩
    rw [h0, mergeL_nil]; rfl
  · generalize mergeL (a ++ b) = ms at h1 ⊢
    refine ⟨only i ⟨43, 8, ms.map Stm.c ++ jr⟩, H, 3, only_sub h1, h2, fun j o hj => ?_, ?_, rfl⟩
    · unfold only at hj
      split at hj
      · rename_i e; subst e; exact h3
      · cases hj
    · have e : (ms.map Stm.c ++ jr).take ms.length = ms.map Stm.c := by
        rw [List.take_append_of_le_length (by simp), List.take_of_length_le (by simp)]
      have hp : ∀ r ∈ ms.map Stm.c, plain r = true := fun r hr => by
        obtain ⟨s, _, rfl⟩ := List.mem_map.1 hr
        rfl
      have he : (!(a ++ b).isEmpty) = true := by cases hx : a ++ b with | nil => exact absurd hx h0 | cons => rfl
      rw [he]
      simp only [frz, List.map_cons, List.map_nil, only, if_true, Nat.zero_add, List.length_append, List.length_map, Nat.le_add_right, List.drop_zero, e, rows_plain hp]
theorem stm_dec (x y : Stm) : (decide (x.no = y.no) && (decide (x.at' = y.at') && (decide (x.id.kind = y.id.kind) && (decide (x.id.text = y.id.text) && (decide (x.purpose = y.purpose) && (decide (x.region = y.region) && (decide (x.channel = y.channel) && decide (x.what = y.what)))))))) = decide (x = y) := by
  obtain ⟨a, b, ⟨c, d⟩, e, f, g, h⟩ := x
  obtain ⟨a', b', ⟨c', d'⟩, e', f', g', h'⟩ := y
  rw [Bool.eq_iff_iff]
  simp only [Bool.and_eq_true, decide_eq_true_eq, Stm.mk.injEq, Idn.mk.injEq]
  constructor
  · rintro ⟨h1, h2, h3, h4, h5⟩; exact ⟨h1, h2, ⟨h3, h4⟩, h5⟩
  · rintro ⟨h1, h2, ⟨h3, h4⟩, h5⟩; exact ⟨h1, h2, h3, h4, h5⟩
theorem equalS_c (nza nzb : Bool) (a b : List Stm) (ha : a.length ≤ 1000000) (hb : b.length ≤ 1000000) : AFn Tryz.prog G 31 [.ls nza (a.map Stm.c), .ls nzb (b.map Stm.c)] H (.bool (decide (a = b))) := by
  refine AFn.start mix F31 (by simp) fun k hlow => ?_
  by_cases hl : (a.length : Int) = b.length
  · simp -dsimp -implicitDefEqProofs (disch := omega) only [↓wpre, push_cast, reduceCtorEq, ↓reduceIte, Nat.reduceEqDiff, Nat.reduceLeDiff, Nat.reduceAdd, Nat.reduceLT, Int.reduceEq, Int.reduceLT, Int.reduceLE, Int.reduceNeg, Int.reduceAdd, c31, hl]
    refine xw_loopJ (σ := List Stm × List Stm × List Stm) (fun t => [(0, .ls nza (a.map Stm.c)), (1, .ls nzb (b.map Stm.c)), (12, .int a.length), (13, .int t.1.length)]) (fun t H' n' => a = t.1 ++ t.2.1 ∧ b = t.1 ++ t.2.2 ∧ t.2.1.length = t.2.2.length ∧ H = H' ∧ k ≤ n') (fun t => t.2.1.length) ([], a, b) ⟨rfl, rfl, by dsimp only; omega, rfl, Nat.le_refl _⟩ (by simp -dsimp -implicitDefEqProofs (disch := omega) only [↓wpre, push_cast, reduceCtorEq, ↓reduceIte, Nat.reduceEqDiff, Nat.reduceLeDiff, Nat.reduceAdd, Nat.reduceLT, Int.reduceEq, Int.reduceLT, Int.reduceLE, Int.reduceNeg, Int.reduceAdd, hl]; try rfl) ?_
    rintro ⟨d, u, v⟩ fr H' n1 ⟨hu, hv, huv, rfl, hn1⟩ hh
    simp only [has_nil, has_cons, and_true] at hh hu hv huv
    cases u with
    | nil =>
      cases v with
      | cons y v => simp at huv
      | nil =>
        rw [List.append_nil] at hu hv
        subst hu hv
        simp -dsimp -implicitDefEqProofs (disch := omega) only [↓wpre, push_cast, reduceCtorEq, ↓reduceIte, Nat.reduceEqDiff, Nat.reduceLeDiff, Nat.reduceAdd, Nat.reduceLT, Int.reduceEq, Int.reduceLT, Int.reduceLE, Int.reduceNeg, Int.reduceAdd, hh]
    | cons x u =>
      cases v with
      | nil => simp at huv
      | cons y v =>
        have hlt : (d.length : Int) < a.length := by rw [hu]; simp; omega
        have g1 : a[d.length]? = some x := by rw [hu]; simp
        have g2 : b[d.length]? = some y := by rw [hv]; simp
        simp -dsimp -implicitDefEqProofs (disch := omega) only [↓wpre, push_cast, reduceCtorEq, ↓reduceIte, Nat.reduceEqDiff, Nat.reduceLeDiff, Nat.reduceAdd, Nat.reduceLT, Int.reduceEq, Int.reduceLT, Int.reduceLE, Int.reduceNeg, Int.reduceAdd, hh, hlt, even_stms', aidx_at _ g1, aidx_at _ g2]
        refine anyN_intro fun n2 hn2 => ?_
        simp -dsimp -implicitDefEqProofs (disch := omega) only [↓wpre, push_cast, reduceCtorEq, ↓reduceIte, Nat.reduceEqDiff, Nat.reduceLeDiff, Nat.reduceAdd, Nat.reduceLT, Int.reduceEq, Int.reduceLT, Int.reduceLE, Int.reduceNeg, Int.reduceAdd, hh]
        rw [stm_dec x y]
        by_cases hxy : x = y
        · simp only [hxy, decide_true, Bool.not_true]
          simp -dsimp -implicitDefEqProofs (disch := omega) only [↓wpre, push_cast, reduceCtorEq, ↓reduceIte, Nat.reduceEqDiff, Nat.reduceLeDiff, Nat.reduceAdd, Nat.reduceLT, Int.reduceEq, Int.reduceLT, Int.reduceLE, Int.reduceNeg, Int.reduceAdd, hh]
          refine againJ (d ++ [x], u, v) (Nat.lt_succ_self _) ⟨by rw [hu]; simp, by rw [hv, hxy]; simp, by simpa using huv, rfl, by omega⟩ (by simp -dsimp -implicitDefEqProofs (disch := omega) only [↓wpre, push_cast, reduceCtorEq, ↓reduceIte, Nat.reduceEqDiff, Nat.reduceLeDiff, Nat.reduceAdd, Nat.reduceLT, Int.reduceEq, Int.reduceLT, Int.reduceLE, Int.reduceNeg, Int.reduceAdd, hh]; try simp)
        · have hne : ¬ a = b := fun e => hxy (by
            rw [e, g2] at g1
            exact (Option.some.inj g1).symm)
          simp only [hxy, decide_false, Bool.not_false]
          simp -dsimp -implicitDefEqProofs (disch := omega) only [↓wpre, push_cast, reduceCtorEq, ↓reduceIte, Nat.reduceEqDiff, Nat.reduceLeDiff, Nat.reduceAdd, Nat.reduceLT, Int.reduceEq, Int.reduceLT, Int.reduceLE, Int.reduceNeg, Int.reduceAdd, hh, hne]
          try simp [hne]
  · simp -dsimp -implicitDefEqProofs (disch := omega) only [↓wpre, push_cast, reduceCtorEq, ↓reduceIte, Nat.reduceEqDiff, Nat.reduceLeDiff, Nat.reduceAdd, Nat.reduceLT, Int.reduceEq, Int.reduceLT, Int.reduceLE, Int.reduceNeg, Int.reduceAdd, c31, hl]
    have : ¬ a = b := fun e => hl (by rw [e])
    simp [this]
end Go.Proofs.YthcedgclhoggcaaGreatDoor

