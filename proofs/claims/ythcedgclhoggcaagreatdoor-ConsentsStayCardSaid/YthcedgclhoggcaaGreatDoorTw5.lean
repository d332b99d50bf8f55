/- Contracts of functions of the program: each computes what its model says; the conditions stand at each. -/
import Derived.Test.YthcedgclhoggcaaGreatDoorTw4
set_option linter.unusedSimpArgs false
set_option linter.unusedVariables false
set_option maxRecDepth 20000
set_option pp.deepTerms false
set_option pp.deepTerms.threshold 3
namespace Go.Proofs.YthcedgclhoggcaaGreatDoor
open Go Go.Ab Go.Pm Go.Cm
variable (G : Nat → AV) (H : Nat → Option AObj)
theorem objected_c (nz : Bool) (l : List Stm) (hl : l.length ≤ 1000000) : AFn Tryz.prog G 75 [.ls nz (l.map Stm.c)] H (.tup [.int (objected l).1, .bool (objected l).2.2]) := by
  refine AFn.start mix F75 (by simp) fun k hlow => ?_
  simp -dsimp -implicitDefEqProofs (disch := omega) only [↓wpre, push_cast, reduceCtorEq, ↓reduceIte, Nat.reduceEqDiff, Nat.reduceLeDiff, Nat.reduceAdd, Nat.reduceLT, Int.reduceEq, Int.reduceLT, Int.reduceLE, Int.reduceNeg, Int.reduceAdd, c75]
  refine xw_loopJ (σ := List Stm × List Stm × Int × Int × Bool) (fun s => [(9, .ls nz (l.map Stm.c)), (10, .int l.length), (11, .int s.1.length), (4, .int s.2.2.1), (5, .int s.2.2.2.1), (6, .bool s.2.2.2.2)]) (fun s H' n' => l = s.1 ++ s.2.1 ∧ s.2.1.foldl objStep s.2.2 = objected l ∧ Qt H H' n') (fun s => s.2.1.length) ([], l, 0, -1, false) ⟨rfl, rfl, .refl hlow⟩ (by simp -dsimp -implicitDefEqProofs (disch := omega) only [↓wpre, push_cast, reduceCtorEq, ↓reduceIte, Nat.reduceEqDiff, Nat.reduceLeDiff, Nat.reduceAdd, Nat.reduceLT, Int.reduceEq, Int.reduceLT, Int.reduceLE, Int.reduceNeg, Int.reduceAdd]) ?_
  rintro ⟨a, b, acc⟩ fr H' n ⟨rfl, hf, hq⟩ hh
  simp only [has_nil, has_cons, and_true, List.length_append] at hl hh
  cases b with
  | nil =>
    simp -dsimp -implicitDefEqProofs (disch := omega) only [↓wpre, push_cast, reduceCtorEq, ↓reduceIte, Nat.reduceEqDiff, Nat.reduceLeDiff, Nat.reduceAdd, Nat.reduceLT, Int.reduceEq, Int.reduceLT, Int.reduceLE, Int.reduceNeg, Int.reduceAdd, hh]
    simp only [List.append_nil, List.foldl_nil] at hf
    rw [← hf]
    exact ⟨rfl, hq.1⟩
  | cons x b =>
    simp only [List.length_cons] at hl
    have hlt : (a.length : Int) < a.length + (b.length + 1) := by omega
    have hend : ∀ H'' n'', Qt H H'' n'' → a ++ x :: b = (a ++ [x]) ++ b ∧ b.foldl objStep (objStep acc x) = objected (a ++ x :: b) ∧ Qt H H'' n'' := fun _ _ h => ⟨by simp, hf, h⟩
    clear hf
    simp -dsimp -implicitDefEqProofs (disch := omega) only [↓wpre, push_cast, reduceCtorEq, ↓reduceIte, Nat.reduceEqDiff, Nat.reduceLeDiff, Nat.reduceAdd, Nat.reduceLT, Int.reduceEq, Int.reduceLT, Int.reduceLE, Int.reduceNeg, Int.reduceAdd, hh, hlt, even_stms', aidx_split]
    repeat' (first | ((first | with_reducible refine cnd_ndec (fun hc => ?_) (fun hc => ?_) | with_reducible refine cnd_dec (fun hc => ?_) (fun hc => ?_) | with_reducible refine cnd_nb (fun hc => ?_) (fun hc => ?_) | with_reducible refine cnd_intro (fun hc => ?_) (fun hc => ?_)) <;> (first | (exfalso; omega) | (try simp -dsimp -implicitDefEqProofs (disch := omega) only [↓wpre, push_cast, reduceCtorEq, ↓reduceIte, Nat.reduceEqDiff, Nat.reduceLeDiff, Nat.reduceAdd, Nat.reduceLT, Int.reduceEq, Int.reduceLT, Int.reduceLE, Int.reduceNeg, Int.reduceAdd, hc, hh]))) | (with_reducible refine anyN_intro fun n' hn' => ?_; try simp -dsimp -implicitDefEqProofs (disch := omega) only [↓wpre, push_cast, reduceCtorEq, ↓reduceIte, Nat.reduceEqDiff, Nat.reduceLeDiff, Nat.reduceAdd, Nat.reduceLT, Int.reduceEq, Int.reduceLT, Int.reduceLE, Int.reduceNeg, Int.reduceAdd, hh]) | ((first | with_reducible refine (ofChannel_c _ _ _).x fun n' hn' => ?_ | with_reducible refine xfn_intro (ofChannel_c _ _ _) ?_); try simp -dsimp -implicitDefEqProofs (disch := omega) only [↓wpre, push_cast, reduceCtorEq, ↓reduceIte, Nat.reduceEqDiff, Nat.reduceLeDiff, Nat.reduceAdd, Nat.reduceLT, Int.reduceEq, Int.reduceLT, Int.reduceLE, Int.reduceNeg, Int.reduceAdd, hh]))
    all_goals refine againJ (a ++ [x], b, objStep acc x) (Nat.lt_succ_self _) (hend _ _ (by exact Qt.mono (n := n) (by repeat (first | exact hq | refine Qt.hu ?_ (by omega))) (by omega))) (by simp -dsimp -implicitDefEqProofs (disch := omega) only [↓wpre, push_cast, reduceCtorEq, ↓reduceIte, Nat.reduceEqDiff, Nat.reduceLeDiff, Nat.reduceAdd, Nat.reduceLT, Int.reduceEq, Int.reduceLT, Int.reduceLE, Int.reduceNeg, Int.reduceAdd, hh]; grind [objStep, ofCh])
theorem at_mid {α : Type} (c : α → List AV) (a b : List α) (x : α) : (List.map c (a ++ x :: b))[a.length]? = some (c x) := by simp
theorem at_mid1 {α : Type} (c : α → List AV) (a b : List α) (x y : α) : (List.map c (a ++ x :: y :: b))[a.length + 1]? = some (c y) := by simp
theorem set_mid {α : Type} (c : α → List AV) (a b : List α) (x y : α) : (List.map c (a ++ x :: b)).set a.length (c y) = List.map c (a ++ y :: b) := by simp
theorem set_mid1 {α : Type} (c : α → List AV) (a b : List α) (x y z : α) : (List.map c (a ++ x :: y :: b)).set (a.length + 1) (c z) = List.map c (a ++ x :: z :: b) := by simp
theorem hu_self {o : Nat} {v : AObj} (h : H o = some v) : hu H o (some v) = H := by
  funext i
  by_cases hi : i = o
  · subst hi; rw [hu_same, h]
  · rw [hu_ne hi]
theorem hu_hu {o : Nat} {v w : Option AObj} : hu (hu H o v) o w = hu H o w := by
  funext i
  by_cases hi : i = o
  · subst hi; rw [hu_same, hu_same]
  · rw [hu_ne hi, hu_ne hi, hu_ne hi]
theorem insRev_length {α : Type} (f : α → α → Int) (x : α) : ∀ l : List α, (insRev f x l).length = l.length + 1
  | [] => rfl
  | p :: r => by
    simp only [insRev]
    split
    · simp [insRev_length f x r]
    · simp
theorem insort_c (o : Nat) (l : List Stm) (hl : l.length ≤ 1000000) (f : FuncId) (cmp : Stm → Stm → Int) (hp : ∀ H x y, AFn Tryz.prog G f [.agg (Stm.c x), .agg (Stm.c y)] H (.int (cmp x y))) (n : Nat) (ho : H o = some ⟨43, 8, l.map Stm.c⟩) :
    ACalls Tryz.prog G 141 [.os o 0 l.length, .int 0, .int l.length, .fn (.func f) []] H n fun r H' n' => H' = hu H o (some ⟨43, 8, (isort cmp l).map Stm.c⟩) := by
  refine ACalls.start mix F141 (by simp) fun hlow => ?_
  cases l with
  | nil =>
    simp -dsimp -implicitDefEqProofs (disch := omega) only [↓wpre, push_cast, reduceCtorEq, ↓reduceIte, Nat.reduceEqDiff, Nat.reduceLeDiff, Nat.reduceAdd, Nat.reduceLT, Int.reduceEq, Int.reduceLT, Int.reduceLE, Int.reduceNeg, Int.reduceAdd, c141]
    refine xw_loopJ (σ := Unit) (fun _ => [(2, .int 0), (8, .int 1)]) (fun _ H' n' => H' = H) (fun _ => 0) () rfl (by simp -dsimp -implicitDefEqProofs (disch := omega) only [↓wpre, push_cast, reduceCtorEq, ↓reduceIte, Nat.reduceEqDiff, Nat.reduceLeDiff, Nat.reduceAdd, Nat.reduceLT, Int.reduceEq, Int.reduceLT, Int.reduceLE, Int.reduceNeg, Int.reduceAdd]) ?_
    rintro ⟨⟩ fr H' n' rfl hh
    simp only [has_nil, has_cons, and_true] at hh
    simp -dsimp -implicitDefEqProofs (disch := omega) only [↓wpre, push_cast, reduceCtorEq, ↓reduceIte, Nat.reduceEqDiff, Nat.reduceLeDiff, Nat.reduceAdd, Nat.reduceLT, Int.reduceEq, Int.reduceLT, Int.reduceLE, Int.reduceNeg, Int.reduceAdd, hh]
    exact fin_intro (Sub.refl _) (hu_self _ ho).symm
  | cons x0 R0 =>
    simp -dsimp -implicitDefEqProofs (disch := omega) only [↓wpre, push_cast, reduceCtorEq, ↓reduceIte, Nat.reduceEqDiff, Nat.reduceLeDiff, Nat.reduceAdd, Nat.reduceLT, Int.reduceEq, Int.reduceLT, Int.reduceLE, Int.reduceNeg, Int.reduceAdd, c141]
    refine xw_loopJ (σ := List Stm × List Stm) (fun t => [(0, .os o 0 (R0.length + 1)), (1, .int 0), (2, .int (R0.length + 1)), (3, .fn (.func f) []), (8, .int t.1.length)]) (fun t H' n' => 1 ≤ t.1.length ∧ t.1.length + t.2.length = R0.length + 1 ∧ H' = hu H o (some ⟨43, 8, (t.1.reverse ++ t.2).map Stm.c⟩) ∧ t.2.foldl (fun r x => insRev cmp x r) t.1 = (x0 :: R0).foldl (fun r x => insRev cmp x r) []) (fun t => t.2.length) ([x0], R0) ⟨by simp, by simp; omega, (hu_self _ ho).symm, rfl⟩ (by simp -dsimp -implicitDefEqProofs (disch := omega) only [↓wpre, push_cast, reduceCtorEq, ↓reduceIte, Nat.reduceEqDiff, Nat.reduceLeDiff, Nat.reduceAdd, Nat.reduceLT, Int.reduceEq, Int.reduceLT, Int.reduceLE, Int.reduceNeg, Int.reduceAdd]) ?_
    rintro ⟨r, R⟩ fr H' n' ⟨h1, h2, rfl, hf⟩ hh
    simp only [has_nil, has_cons, and_true, List.length_cons] at hh h1 h2 hl
    cases R with
    | nil =>
      have hlt : ¬ (r.length : Int) < R0.length + 1 := by simp at h2; omega
      simp -dsimp -implicitDefEqProofs (disch := omega) only [↓wpre, push_cast, reduceCtorEq, ↓reduceIte, Nat.reduceEqDiff, Nat.reduceLeDiff, Nat.reduceAdd, Nat.reduceLT, Int.reduceEq, Int.reduceLT, Int.reduceLE, Int.reduceNeg, Int.reduceAdd, hh, hlt]
      refine fin_intro (Sub.refl _) ?_
      rw [isort, ← hf]
      simp
    | cons x R =>
      simp only [List.length_cons] at h2
      have hlt : (r.length : Int) < R0.length + 1 := by omega
      simp -dsimp -implicitDefEqProofs (disch := omega) only [↓wpre, push_cast, reduceCtorEq, ↓reduceIte, Nat.reduceEqDiff, Nat.reduceLeDiff, Nat.reduceAdd, Nat.reduceLT, Int.reduceEq, Int.reduceLT, Int.reduceLE, Int.reduceNeg, Int.reduceAdd, hh, hlt]
      refine xw_loopJ (σ := List Stm × List Stm) (fun t => [(0, .os o 0 (R0.length + 1)), (1, .int 0), (2, .int (R0.length + 1)), (3, .fn (.func f) []), (8, .int r.length), (9, .int t.1.length)]) (fun t H' n' => t.1.length + t.2.length = r.length ∧ H' = hu H o (some ⟨43, 8, (t.1.reverse ++ x :: (t.2 ++ R)).map Stm.c⟩) ∧ (insRev cmp x t.1).reverse ++ t.2 = (insRev cmp x r).reverse) (fun t => t.1.length) (r, []) ⟨by simp, by simp, by simp⟩ (by simp -dsimp -implicitDefEqProofs (disch := omega) only [↓wpre, push_cast, reduceCtorEq, ↓reduceIte, Nat.reduceEqDiff, Nat.reduceLeDiff, Nat.reduceAdd, Nat.reduceLT, Int.reduceEq, Int.reduceLT, Int.reduceLE, Int.reduceNeg, Int.reduceAdd, hh]) ?_
      rintro ⟨A, B⟩ fr' H' n'' ⟨g1, rfl, g2⟩ hh'
      simp only [has_nil, has_cons, and_true] at hh' g1 g2
      have hout : ∀ A' : List Stm, (∀ p A, A' = p :: A → ¬ cmp x p < 0) → (insRev cmp x A').reverse ++ B = (insRev cmp x r).reverse → A'.reverse ++ x :: (B ++ R) = (insRev cmp x r).reverse ++ R := fun A' h e => by
        rw [← e]
        cases A' with
        | nil => simp [insRev]
        | cons p A => simp [insRev, h p A rfl]
      have hL := insRev_length cmp x r
      cases A with
      | nil =>
        simp -dsimp -implicitDefEqProofs (disch := omega) only [↓wpre, push_cast, reduceCtorEq, ↓reduceIte, Nat.reduceEqDiff, Nat.reduceLeDiff, Nat.reduceAdd, Nat.reduceLT, Int.reduceEq, Int.reduceLT, Int.reduceLE, Int.reduceNeg, Int.reduceAdd, hh', List.length_nil]
        refine anyN_intro fun n1 hn1 => ?_
        simp -dsimp -implicitDefEqProofs (disch := omega) only [↓wpre, push_cast, reduceCtorEq, ↓reduceIte, Nat.reduceEqDiff, Nat.reduceLeDiff, Nat.reduceAdd, Nat.reduceLT, Int.reduceEq, Int.reduceLT, Int.reduceLE, Int.reduceNeg, Int.reduceAdd, hh']
        refine againJ (insRev cmp x r, R) (Nat.lt_succ_self _) ⟨by dsimp only; omega, by dsimp only; omega, ?_, hf⟩ (by simp -dsimp -implicitDefEqProofs (disch := omega) only [↓wpre, push_cast, reduceCtorEq, ↓reduceIte, Nat.reduceEqDiff, Nat.reduceLeDiff, Nat.reduceAdd, Nat.reduceLT, Int.reduceEq, Int.reduceLT, Int.reduceLE, Int.reduceNeg, Int.reduceAdd, hh', hL])
        rw [← hout [] (by simp) g2]
      | cons p A =>
        simp only [List.length_cons] at g1 hh'
        have hpos : (0 : Int) < A.length + 1 := by omega
        have hrow : (p :: A).reverse ++ x :: (B ++ R) = A.reverse ++ p :: x :: (B ++ R) := by simp
        have hm := at_mid Stm.c A.reverse (x :: (B ++ R)) p
        have hm1 := at_mid1 Stm.c A.reverse (B ++ R) p x
        have hs1 := set_mid1 Stm.c A.reverse (B ++ R) p x p
        have hm2 := at_mid Stm.c A.reverse (p :: (B ++ R)) p
        have hs2 := set_mid Stm.c A.reverse (p :: (B ++ R)) p x
        rw [List.length_reverse] at hm hm1 hs1 hm2 hs2
        have e1 : ((A.length : Int) + 1).toNat = A.length + 1 := by omega
        have e2 : ((A.length : Int) + 1 - 1).toNat = A.length := by omega
        rw [hrow]
        have hAR : A.length < R0.length := by omega
        simp -dsimp -implicitDefEqProofs (disch := omega) only [↓wpre, push_cast, reduceCtorEq, ↓reduceIte, Nat.reduceEqDiff, Nat.reduceLeDiff, Nat.reduceAdd, Nat.reduceLT, Int.reduceEq, Int.reduceLT, Int.reduceLE, Int.reduceNeg, Int.reduceAdd, hh', hpos, hm, hm1, e1, e2]
        with_reducible refine xfn_intro (hp _ x p) ?_
        simp -dsimp -implicitDefEqProofs (disch := omega) only [↓wpre, push_cast, reduceCtorEq, ↓reduceIte, Nat.reduceEqDiff, Nat.reduceLeDiff, Nat.reduceAdd, Nat.reduceLT, Int.reduceEq, Int.reduceLT, Int.reduceLE, Int.reduceNeg, Int.reduceAdd]
        refine anyN_intro fun n1 hn1 => ?_
        simp -dsimp -implicitDefEqProofs (disch := omega) only [↓wpre, push_cast, reduceCtorEq, ↓reduceIte, Nat.reduceEqDiff, Nat.reduceLeDiff, Nat.reduceAdd, Nat.reduceLT, Int.reduceEq, Int.reduceLT, Int.reduceLE, Int.reduceNeg, Int.reduceAdd]
        (first | with_reducible refine cnd_ndec (fun hc => ?_) (fun hc => ?_) | with_reducible refine cnd_dec (fun hc => ?_) (fun hc => ?_) | with_reducible refine cnd_nb (fun hc => ?_) (fun hc => ?_) | with_reducible refine cnd_intro (fun hc => ?_) (fun hc => ?_)) <;> (first | (exfalso; omega) | (try simp -dsimp -implicitDefEqProofs (disch := omega) only [↓wpre, push_cast, reduceCtorEq, ↓reduceIte, Nat.reduceEqDiff, Nat.reduceLeDiff, Nat.reduceAdd, Nat.reduceLT, Int.reduceEq, Int.reduceLT, Int.reduceLE, Int.reduceNeg, Int.reduceAdd, hc, hh', hm, hm1, hs1, hm2, hs2, e1, e2, hu_hu]))
        · refine anyN_intro fun n2 hn2 => ?_
          simp -dsimp -implicitDefEqProofs (disch := omega) only [↓wpre, push_cast, reduceCtorEq, ↓reduceIte, Nat.reduceEqDiff, Nat.reduceLeDiff, Nat.reduceAdd, Nat.reduceLT, Int.reduceEq, Int.reduceLT, Int.reduceLE, Int.reduceNeg, Int.reduceAdd, hh']
          rw [insRev, if_pos hc] at g2
          refine againJ (A, p :: B) (Nat.lt_succ_self _) ⟨by simp only [List.length_cons]; omega, by rw [hu_hu]; rfl, ?_⟩ (by simp -dsimp -implicitDefEqProofs (disch := omega) only [↓wpre, push_cast, reduceCtorEq, ↓reduceIte, Nat.reduceEqDiff, Nat.reduceLeDiff, Nat.reduceAdd, Nat.reduceLT, Int.reduceEq, Int.reduceLT, Int.reduceLE, Int.reduceNeg, Int.reduceAdd, hh']; all_goals (try simp only [AV.lit.injEq, Value.int.injEq, Value.bool.injEq, true_and, and_true]); all_goals (try (repeat' apply And.intro)); all_goals (first | rfl | omega | simp_all | skip))
          rw [← g2]; simp
        · refine againJ (insRev cmp x r, R) (Nat.lt_succ_self _) ⟨by dsimp only; omega, by dsimp only; omega, ?_, hf⟩ (by simp -dsimp -implicitDefEqProofs (disch := omega) only [↓wpre, push_cast, reduceCtorEq, ↓reduceIte, Nat.reduceEqDiff, Nat.reduceLeDiff, Nat.reduceAdd, Nat.reduceLT, Int.reduceEq, Int.reduceLT, Int.reduceLE, Int.reduceNeg, Int.reduceAdd, hh', hL])
          have := hout (p :: A) (fun p' A' e => by cases e; exact hc) g2
          rw [← this, ← hrow]
theorem stable_c (o : Nat) (l : List Stm) (hl : l.length ≤ 19) (f : FuncId) (cmp : Stm → Stm → Int) (hp : ∀ H x y, AFn Tryz.prog G f [.agg (Stm.c x), .agg (Stm.c y)] H (.int (cmp x y))) (n : Nat) (ho : H o = some ⟨43, 8, l.map Stm.c⟩) :
    ACalls Tryz.prog G 156 [.os o 0 l.length, .int l.length, .fn (.func f) []] H n fun r H' n' => H' = hu H o (some ⟨43, 8, (isort cmp l).map Stm.c⟩) := by
  refine ACalls.start mix F156 (by simp) fun hlow => ?_
  have h1 : ¬ (20 : Int) ≤ l.length := by omega
  have h2 : ¬ (20 : Int) < l.length := by omega
  simp -dsimp -implicitDefEqProofs (disch := omega) only [↓wpre, push_cast, reduceCtorEq, ↓reduceIte, Nat.reduceEqDiff, Nat.reduceLeDiff, Nat.reduceAdd, Nat.reduceLT, Int.reduceEq, Int.reduceLT, Int.reduceLE, Int.reduceNeg, Int.reduceAdd, c156]
  refine xw_loopJ (σ := Unit) (fun _ => [(0, .os o 0 l.length), (1, .int l.length), (2, .fn (.func f) []), (6, .int 20), (7, .int 0), (8, .int 20)]) (fun _ H' n' => H' = H) (fun _ => 0) () rfl (by simp -dsimp -implicitDefEqProofs (disch := omega) only [↓wpre, push_cast, reduceCtorEq, ↓reduceIte, Nat.reduceEqDiff, Nat.reduceLeDiff, Nat.reduceAdd, Nat.reduceLT, Int.reduceEq, Int.reduceLT, Int.reduceLE, Int.reduceNeg, Int.reduceAdd]) ?_
  rintro ⟨⟩ fr H' n' rfl hh
  simp only [has_nil, has_cons, and_true] at hh
  simp -dsimp -implicitDefEqProofs (disch := omega) only [↓wpre, push_cast, reduceCtorEq, ↓reduceIte, Nat.reduceEqDiff, Nat.reduceLeDiff, Nat.reduceAdd, Nat.reduceLT, Int.reduceEq, Int.reduceLT, Int.reduceLE, Int.reduceNeg, Int.reduceAdd, hh, h1]
  refine (insort_c G H' o l (by omega) f cmp hp _ ho).x fun r H2 n2 h => ?_
  subst h
  simp -dsimp -implicitDefEqProofs (disch := omega) only [↓wpre, push_cast, reduceCtorEq, ↓reduceIte, Nat.reduceEqDiff, Nat.reduceLeDiff, Nat.reduceAdd, Nat.reduceLT, Int.reduceEq, Int.reduceLT, Int.reduceLE, Int.reduceNeg, Int.reduceAdd, hh]
  refine xw_loopJ (σ := Unit) (fun _ => [(1, .int l.length), (6, .int 20)]) (fun _ H3 n' => H3 = hu H' o (some ⟨43, 8, (isort cmp l).map Stm.c⟩)) (fun _ => 0) () rfl (by simp -dsimp -implicitDefEqProofs (disch := omega) only [↓wpre, push_cast, reduceCtorEq, ↓reduceIte, Nat.reduceEqDiff, Nat.reduceLeDiff, Nat.reduceAdd, Nat.reduceLT, Int.reduceEq, Int.reduceLT, Int.reduceLE, Int.reduceNeg, Int.reduceAdd, hh]) ?_
  rintro ⟨⟩ fr2 H3 n3 rfl hh2
  simp only [has_nil, has_cons, and_true] at hh2
  simp -dsimp -implicitDefEqProofs (disch := omega) only [↓wpre, push_cast, reduceCtorEq, ↓reduceIte, Nat.reduceEqDiff, Nat.reduceLeDiff, Nat.reduceAdd, Nat.reduceLT, Int.reduceEq, Int.reduceLT, Int.reduceLE, Int.reduceNeg, Int.reduceAdd, hh2, h2]
  exact fin_intro (Sub.refl _) rfl
theorem sortStable_c (o : Nat) (l : List Stm) (hl : l.length ≤ 19) (f : FuncId) (cmp : Stm → Stm → Int) (hp : ∀ H x y, AFn Tryz.prog G f [.agg (Stm.c x), .agg (Stm.c y)] H (.int (cmp x y))) (n : Nat) (ho : H o = some ⟨43, 8, l.map Stm.c⟩) :
    ACalls Tryz.prog G 107 [.os o 0 l.length, .fn (.func f) []] H n fun r H' n' => H' = hu H o (some ⟨43, 8, (isort cmp l).map Stm.c⟩) := by
  refine ACalls.start mix F107 (by simp) fun hlow => ?_
  simp -dsimp -implicitDefEqProofs (disch := omega) only [↓wpre, push_cast, reduceCtorEq, ↓reduceIte, Nat.reduceEqDiff, Nat.reduceLeDiff, Nat.reduceAdd, Nat.reduceLT, Int.reduceEq, Int.reduceLT, Int.reduceLE, Int.reduceNeg, Int.reduceAdd, c107]
  refine (stable_c G H o l hl f cmp hp _ ho).x fun r H2 n2 h => ?_
  subst h
  simp -dsimp -implicitDefEqProofs (disch := omega) only [↓wpre, push_cast, reduceCtorEq, ↓reduceIte, Nat.reduceEqDiff, Nat.reduceLeDiff, Nat.reduceAdd, Nat.reduceLT, Int.reduceEq, Int.reduceLT, Int.reduceLE, Int.reduceNeg, Int.reduceAdd]
  exact fin_intro (Sub.refl _) rfl
end Go.Proofs.YthcedgclhoggcaaGreatDoor

