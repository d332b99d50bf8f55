/- Contracts of functions of the program: each computes what its model says; the conditions stand at each. -/
import Derived.Test.YthcedgclhoggcaaGreatDoorTw15
set_option linter.unusedSimpArgs false
set_option linter.unusedVariables false
set_option maxRecDepth 20000
set_option pp.deepTerms false
set_option pp.deepTerms.threshold 3
namespace Go.Proofs.YthcedgclhoggcaaGreatDoor
open Go Go.Ab Go.Pm Go.Cm
variable (G : Nat → AV) (H : Nat → Option AObj)
abbrev IC (x : Int) : List AV := [.int x]
def ltI (a b : Int) : Int := if a < b then -1 else 0
theorem ltI_iff {a b : Int} : ltI a b < 0 ↔ a < b := by unfold ltI; split <;> simp_all
theorem less_c (a b : Int) : AFn Tryz.prog G 135 [.int a, .int b] H (.bool (decide (a < b))) := by
  refine AFn.start mix F135 (by simp) fun k hlow => ?_
  simp -dsimp -implicitDefEqProofs (disch := omega) only [↓wpre, push_cast, reduceCtorEq, ↓reduceIte, Nat.reduceEqDiff, Nat.reduceLeDiff, Nat.reduceAdd, Nat.reduceLT, Int.reduceEq, Int.reduceLT, Int.reduceLE, Int.reduceNeg, Int.reduceAdd, c135]
  repeat' (first | ((first | with_reducible refine cnd_ndec (fun hc => ?_) (fun hc => ?_) | with_reducible refine cnd_dec (fun hc => ?_) (fun hc => ?_) | with_reducible refine cnd_nb (fun hc => ?_) (fun hc => ?_) | with_reducible refine cnd_intro (fun hc => ?_) (fun hc => ?_)) <;> (first | (exfalso; omega) | (try simp -dsimp -implicitDefEqProofs (disch := omega) only [↓wpre, push_cast, reduceCtorEq, ↓reduceIte, Nat.reduceEqDiff, Nat.reduceLeDiff, Nat.reduceAdd, Nat.reduceLT, Int.reduceEq, Int.reduceLT, Int.reduceLE, Int.reduceNeg, Int.reduceAdd, hc, true_and]))) | (with_reducible refine anyN_intro fun n' hn' => ?_; try simp -dsimp -implicitDefEqProofs (disch := omega) only [↓wpre, push_cast, reduceCtorEq, ↓reduceIte, Nat.reduceEqDiff, Nat.reduceLeDiff, Nat.reduceAdd, Nat.reduceLT, Int.reduceEq, Int.reduceLT, Int.reduceLE, Int.reduceNeg, Int.reduceAdd, true_and]) | ((first | with_reducible refine (isNaNI_c _ _ _).x fun n' hn' => ?_ | with_reducible refine xfn_intro (isNaNI_c _ _ _) ?_); try simp -dsimp -implicitDefEqProofs (disch := omega) only [↓wpre, push_cast, reduceCtorEq, ↓reduceIte, Nat.reduceEqDiff, Nat.reduceLeDiff, Nat.reduceAdd, Nat.reduceLT, Int.reduceEq, Int.reduceLT, Int.reduceLE, Int.reduceNeg, Int.reduceAdd, true_and]))
theorem insortI_c (o : Nat) (l : List Int) (hl : l.length ≤ 1000000) (n : Nat) (ho : H o = some ⟨3, 1, l.map IC⟩) :
    ACalls Tryz.prog G 129 [.os o 0 l.length, .int 0, .int l.length] H n fun r H' n' => H' = hu H o (some ⟨3, 1, (isort ltI l).map IC⟩) := by
  refine ACalls.start mix F129 (by simp) fun hlow => ?_
  cases l with
  | nil =>
    simp -dsimp -implicitDefEqProofs (disch := omega) only [↓wpre, push_cast, reduceCtorEq, ↓reduceIte, Nat.reduceEqDiff, Nat.reduceLeDiff, Nat.reduceAdd, Nat.reduceLT, Int.reduceEq, Int.reduceLT, Int.reduceLE, Int.reduceNeg, Int.reduceAdd, c129]
    refine xw_loopJ (σ := Unit) (fun _ => [(2, .int 0), (6, .int 1)]) (fun _ H' n' => H' = H) (fun _ => 0) () rfl (by simp -dsimp -implicitDefEqProofs (disch := omega) only [↓wpre, push_cast, reduceCtorEq, ↓reduceIte, Nat.reduceEqDiff, Nat.reduceLeDiff, Nat.reduceAdd, Nat.reduceLT, Int.reduceEq, Int.reduceLT, Int.reduceLE, Int.reduceNeg, Int.reduceAdd]) ?_
    rintro ⟨⟩ fr H' n' rfl hh
    simp only [has_nil, has_cons, and_true] at hh
    simp -dsimp -implicitDefEqProofs (disch := omega) only [↓wpre, push_cast, reduceCtorEq, ↓reduceIte, Nat.reduceEqDiff, Nat.reduceLeDiff, Nat.reduceAdd, Nat.reduceLT, Int.reduceEq, Int.reduceLT, Int.reduceLE, Int.reduceNeg, Int.reduceAdd, hh]
    exact fin_intro (Sub.refl _) (hu_self _ ho).symm
  | cons x0 R0 =>
    simp -dsimp -implicitDefEqProofs (disch := omega) only [↓wpre, push_cast, reduceCtorEq, ↓reduceIte, Nat.reduceEqDiff, Nat.reduceLeDiff, Nat.reduceAdd, Nat.reduceLT, Int.reduceEq, Int.reduceLT, Int.reduceLE, Int.reduceNeg, Int.reduceAdd, c129]
    refine xw_loopJ (σ := List Int × List Int) (fun t => [(0, .os o 0 (R0.length + 1)), (1, .int 0), (2, .int (R0.length + 1)), (6, .int t.1.length)]) (fun t H' n' => 1 ≤ t.1.length ∧ t.1.length + t.2.length = R0.length + 1 ∧ H' = hu H o (some ⟨3, 1, (t.1.reverse ++ t.2).map IC⟩) ∧ t.2.foldl (fun r x => insRev ltI x r) t.1 = (x0 :: R0).foldl (fun r x => insRev ltI x r) []) (fun t => t.2.length) ([x0], R0) ⟨by simp, by simp; omega, (hu_self _ ho).symm, rfl⟩ (by simp -dsimp -implicitDefEqProofs (disch := omega) only [↓wpre, push_cast, reduceCtorEq, ↓reduceIte, Nat.reduceEqDiff, Nat.reduceLeDiff, Nat.reduceAdd, Nat.reduceLT, Int.reduceEq, Int.reduceLT, Int.reduceLE, Int.reduceNeg, Int.reduceAdd]) ?_
    rintro ⟨r, R⟩ fr H' n' ⟨h1, h2, rfl, hf⟩ hh
    simp only [has_nil, has_cons, and_true, List.length_cons] at hh h1 h2 hl
    cases R with
    | nil =>
      have hlt : ¬ (r.length : Int) < R0.length + 1 := by simp at h2; omega
      simp -dsimp -implicitDefEqProofs (disch := omega) only [↓wpre, push_cast, reduceCtorEq, ↓reduceIte, Nat.reduceEqDiff, Nat.reduceLeDiff, Nat.reduceAdd, Nat.reduceLT, Int.reduceEq, Int.reduceLT, Int.reduceLE, Int.reduceNeg, Int.reduceAdd, hh, hlt]
      refine fin_intro (Sub.refl _) ?_
      rw [isort, ← hf]
      simp
    | cons x R =>
      simp only [List.length_cons] at h2
      have hlt : (r.length : Int) < R0.length + 1 := by omega
      simp -dsimp -implicitDefEqProofs (disch := omega) only [↓wpre, push_cast, reduceCtorEq, ↓reduceIte, Nat.reduceEqDiff, Nat.reduceLeDiff, Nat.reduceAdd, Nat.reduceLT, Int.reduceEq, Int.reduceLT, Int.reduceLE, Int.reduceNeg, Int.reduceAdd, hh, hlt]
      refine xw_loopJ (σ := List Int × List Int) (fun t => [(0, .os o 0 (R0.length + 1)), (1, .int 0), (2, .int (R0.length + 1)), (6, .int r.length), (7, .int t.1.length)]) (fun t H' n' => t.1.length + t.2.length = r.length ∧ H' = hu H o (some ⟨3, 1, (t.1.reverse ++ x :: (t.2 ++ R)).map IC⟩) ∧ (insRev ltI x t.1).reverse ++ t.2 = (insRev ltI x r).reverse) (fun t => t.1.length) (r, []) ⟨by simp, by simp, by simp⟩ (by simp -dsimp -implicitDefEqProofs (disch := omega) only [↓wpre, push_cast, reduceCtorEq, ↓reduceIte, Nat.reduceEqDiff, Nat.reduceLeDiff, Nat.reduceAdd, Nat.reduceLT, Int.reduceEq, Int.reduceLT, Int.reduceLE, Int.reduceNeg, Int.reduceAdd, hh]) ?_
      rintro ⟨A, B⟩ fr' H' n'' ⟨g1, rfl, g2⟩ hh'
      simp only [has_nil, has_cons, and_true] at hh' g1 g2
      have hout : ∀ A' : List Int, (∀ p A, A' = p :: A → ¬ ltI x p < 0) → (insRev ltI x A').reverse ++ B = (insRev ltI x r).reverse → A'.reverse ++ x :: (B ++ R) = (insRev ltI x r).reverse ++ R := fun A' h e => by
        rw [← e]
        cases A' with
        | nil => simp [insRev]
        | cons p A => simp [insRev, h p A rfl]
      have hL := insRev_length ltI x r
      cases A with
      | nil =>
        simp -dsimp -implicitDefEqProofs (disch := omega) only [↓wpre, push_cast, reduceCtorEq, ↓reduceIte, Nat.reduceEqDiff, Nat.reduceLeDiff, Nat.reduceAdd, Nat.reduceLT, Int.reduceEq, Int.reduceLT, Int.reduceLE, Int.reduceNeg, Int.reduceAdd, hh', List.length_nil]
        refine anyN_intro fun n1 hn1 => ?_
        simp -dsimp -implicitDefEqProofs (disch := omega) only [↓wpre, push_cast, reduceCtorEq, ↓reduceIte, Nat.reduceEqDiff, Nat.reduceLeDiff, Nat.reduceAdd, Nat.reduceLT, Int.reduceEq, Int.reduceLT, Int.reduceLE, Int.reduceNeg, Int.reduceAdd, hh']
        refine againJ (insRev ltI x r, R) (Nat.lt_succ_self _) ⟨by dsimp only; omega, by dsimp only; omega, ?_, hf⟩ (by simp -dsimp -implicitDefEqProofs (disch := omega) only [↓wpre, push_cast, reduceCtorEq, ↓reduceIte, Nat.reduceEqDiff, Nat.reduceLeDiff, Nat.reduceAdd, Nat.reduceLT, Int.reduceEq, Int.reduceLT, Int.reduceLE, Int.reduceNeg, Int.reduceAdd, hh', hL])
        rw [← hout [] (by simp) g2]
      | cons p A =>
        simp only [List.length_cons] at g1 hh'
        have hpos : (0 : Int) < A.length + 1 := by omega
        have hrow : (p :: A).reverse ++ x :: (B ++ R) = A.reverse ++ p :: x :: (B ++ R) := by simp
        have hm := at_mid IC A.reverse (x :: (B ++ R)) p
        have hm1 := at_mid1 IC A.reverse (B ++ R) p x
        have hs1 := set_mid1 IC A.reverse (B ++ R) p x p
        have hm2 := at_mid IC A.reverse (p :: (B ++ R)) p
        have hs2 := set_mid IC A.reverse (p :: (B ++ R)) p x
        rw [List.length_reverse] at hm hm1 hs1 hm2 hs2
        have e1 : ((A.length : Int) + 1).toNat = A.length + 1 := by omega
        have e2 : ((A.length : Int) + 1 - 1).toNat = A.length := by omega
        rw [hrow]
        have hAR : A.length < R0.length := by omega
        simp -dsimp -implicitDefEqProofs (disch := omega) only [↓wpre, push_cast, reduceCtorEq, ↓reduceIte, Nat.reduceEqDiff, Nat.reduceLeDiff, Nat.reduceAdd, Nat.reduceLT, Int.reduceEq, Int.reduceLT, Int.reduceLE, Int.reduceNeg, Int.reduceAdd, hh', hpos, hm, hm1, e1, e2]
        with_reducible refine xfn_intro (less_c _ _ x p) ?_
        simp -dsimp -implicitDefEqProofs (disch := omega) only [↓wpre, push_cast, reduceCtorEq, ↓reduceIte, Nat.reduceEqDiff, Nat.reduceLeDiff, Nat.reduceAdd, Nat.reduceLT, Int.reduceEq, Int.reduceLT, Int.reduceLE, Int.reduceNeg, Int.reduceAdd]
        refine anyN_intro fun n1 hn1 => ?_
        simp -dsimp -implicitDefEqProofs (disch := omega) only [↓wpre, push_cast, reduceCtorEq, ↓reduceIte, Nat.reduceEqDiff, Nat.reduceLeDiff, Nat.reduceAdd, Nat.reduceLT, Int.reduceEq, Int.reduceLT, Int.reduceLE, Int.reduceNeg, Int.reduceAdd]
        (first | with_reducible refine cnd_ndec (fun hc => ?_) (fun hc => ?_) | with_reducible refine cnd_dec (fun hc => ?_) (fun hc => ?_) | with_reducible refine cnd_nb (fun hc => ?_) (fun hc => ?_) | with_reducible refine cnd_intro (fun hc => ?_) (fun hc => ?_)) <;> (first | (exfalso; omega) | (try simp -dsimp -implicitDefEqProofs (disch := omega) only [↓wpre, push_cast, reduceCtorEq, ↓reduceIte, Nat.reduceEqDiff, Nat.reduceLeDiff, Nat.reduceAdd, Nat.reduceLT, Int.reduceEq, Int.reduceLT, Int.reduceLE, Int.reduceNeg, Int.reduceAdd, hc, hh', hm, hm1, hs1, hm2, hs2, e1, e2, hu_hu]))
        · refine anyN_intro fun n2 hn2 => ?_
          simp -dsimp -implicitDefEqProofs (disch := omega) only [↓wpre, push_cast, reduceCtorEq, ↓reduceIte, Nat.reduceEqDiff, Nat.reduceLeDiff, Nat.reduceAdd, Nat.reduceLT, Int.reduceEq, Int.reduceLT, Int.reduceLE, Int.reduceNeg, Int.reduceAdd, hh']
          rw [insRev, if_pos (ltI_iff.2 hc)] at g2
          refine againJ (A, p :: B) (Nat.lt_succ_self _) ⟨by simp only [List.length_cons]; omega, by rw [hu_hu]; rfl, ?_⟩ (by simp -dsimp -implicitDefEqProofs (disch := omega) only [↓wpre, push_cast, reduceCtorEq, ↓reduceIte, Nat.reduceEqDiff, Nat.reduceLeDiff, Nat.reduceAdd, Nat.reduceLT, Int.reduceEq, Int.reduceLT, Int.reduceLE, Int.reduceNeg, Int.reduceAdd, hh']; all_goals (try simp only [AV.lit.injEq, Value.int.injEq, Value.bool.injEq, true_and, and_true]); all_goals (try (repeat' apply And.intro)); all_goals (first | rfl | omega | simp_all | skip))
          rw [← g2]; simp
        · refine againJ (insRev ltI x r, R) (Nat.lt_succ_self _) ⟨by dsimp only; omega, by dsimp only; omega, ?_, hf⟩ (by simp -dsimp -implicitDefEqProofs (disch := omega) only [↓wpre, push_cast, reduceCtorEq, ↓reduceIte, Nat.reduceEqDiff, Nat.reduceLeDiff, Nat.reduceAdd, Nat.reduceLT, Int.reduceEq, Int.reduceLT, Int.reduceLE, Int.reduceNeg, Int.reduceAdd, hh', hL])
          have := hout (p :: A) (fun p' A' e => by cases e; exact fun h => hc (ltI_iff.1 h)) g2
          rw [← this, ← hrow]
theorem bitsLen64_e (n : Nat) (h : n < 256) : ∃ k : Int, ∀ (G : Nat → AV) (H : Nat → Option AObj), AFn Tryz.prog G 139 [.lit (.int .u64 n)] H (.int k) := by
  refine ⟨?k, ?h⟩
  case h =>
    intro G H
    refine AFn.start mix F139 (by simp) fun k hlow => ?_
    have h1 : ¬ (4294967296 : Int) ≤ n := by omega
    have h2 : ¬ (65536 : Int) ≤ n := by omega
    have h3 : ¬ (256 : Int) ≤ n := by omega
    simp -dsimp -implicitDefEqProofs (disch := first | omega | (simp only [ByteArray.size_append, ByteArray.size_extract, size_lit, List.length_cons, List.length_nil]; omega)) only [↓wpre, push_cast, reduceCtorEq, ↓reduceIte, Nat.reduceEqDiff, Nat.reduceLeDiff, Nat.reduceAdd, Nat.reduceLT, Int.reduceEq, Int.reduceLT, Int.reduceLE, Int.reduceNeg, Int.reduceAdd, c139, h1, h2, h3]
    exact rfl
theorem bitsLen_e (n : Nat) (h : n < 256) : ∃ k : Int, ∀ (G : Nat → AV) (H : Nat → Option AObj), AFn Tryz.prog G 90 [.lit (.int .u64 n)] H (.int k) := by
  obtain ⟨k, hk⟩ := bitsLen64_e n h
  refine ⟨k, fun G H => ?_⟩
  refine AFn.start mix F90 (by simp) fun j hlow => ?_
  simp -dsimp -implicitDefEqProofs (disch := omega) only [↓wpre, push_cast, reduceCtorEq, ↓reduceIte, Nat.reduceEqDiff, Nat.reduceLeDiff, Nat.reduceAdd, Nat.reduceLT, Int.reduceEq, Int.reduceLT, Int.reduceLE, Int.reduceNeg, Int.reduceAdd, c90]
  refine (hk _ _).x fun n' hn' => ?_
  simp -dsimp -implicitDefEqProofs (disch := omega) only [↓wpre, push_cast, reduceCtorEq, ↓reduceIte, Nat.reduceEqDiff, Nat.reduceLeDiff, Nat.reduceAdd, Nat.reduceLT, Int.reduceEq, Int.reduceLT, Int.reduceLE, Int.reduceNeg, Int.reduceAdd, true_and]
theorem pdq_c (o : Nat) (l : List Int) (hl : l.length ≤ 12) (k : Int) (n : Nat) (ho : H o = some ⟨3, 1, l.map IC⟩) : ACalls Tryz.prog G 89 [.os o 0 l.length, .int 0, .int l.length, .int k] H n fun r H' n' => H' = hu H o (some ⟨3, 1, (isort ltI l).map IC⟩) := by
  refine ACalls.start mix F89 (by simp) fun hlow => ?_
  have h1 : (l.length : Int) ≤ 12 := by omega
  have h2 : (l.length : Int) - 0 ≤ 12 := by omega
  simp -dsimp -implicitDefEqProofs (disch := omega) only [↓wpre, push_cast, reduceCtorEq, ↓reduceIte, Nat.reduceEqDiff, Nat.reduceLeDiff, Nat.reduceAdd, Nat.reduceLT, Int.reduceEq, Int.reduceLT, Int.reduceLE, Int.reduceNeg, Int.reduceAdd, c89]
  refine xw_loopJ (σ := Unit) (fun _ => [(0, .os o 0 l.length), (1, .int 0), (2, .int l.length), (3, .int k)]) (fun _ H' n' => H' = H) (fun _ => 0) () rfl (by simp -dsimp -implicitDefEqProofs (disch := omega) only [↓wpre, push_cast, reduceCtorEq, ↓reduceIte, Nat.reduceEqDiff, Nat.reduceLeDiff, Nat.reduceAdd, Nat.reduceLT, Int.reduceEq, Int.reduceLT, Int.reduceLE, Int.reduceNeg, Int.reduceAdd]) ?_
  rintro ⟨⟩ fr H' n' rfl hh
  simp only [has_nil, has_cons, and_true] at hh
  simp -dsimp -implicitDefEqProofs (disch := omega) only [↓wpre, push_cast, reduceCtorEq, ↓reduceIte, Nat.reduceEqDiff, Nat.reduceLeDiff, Nat.reduceAdd, Nat.reduceLT, Int.reduceEq, Int.reduceLT, Int.reduceLE, Int.reduceNeg, Int.reduceAdd, hh, h1, h2]
  refine (insortI_c G H' o l (by omega) _ ho).x fun r H2 n2 h => ?_
  subst h
  simp -dsimp -implicitDefEqProofs (disch := omega) only [↓wpre, push_cast, reduceCtorEq, ↓reduceIte, Nat.reduceEqDiff, Nat.reduceLeDiff, Nat.reduceAdd, Nat.reduceLT, Int.reduceEq, Int.reduceLT, Int.reduceLE, Int.reduceNeg, Int.reduceAdd, hh]
  exact fin_intro (Sub.refl _) rfl
theorem sortI_c (o : Nat) (l : List Int) (hl : l.length ≤ 12) (n : Nat) (ho : H o = some ⟨3, 1, l.map IC⟩) : ACalls Tryz.prog G 51 [.os o 0 l.length] H n fun r H' n' => H' = hu H o (some ⟨3, 1, (isort ltI l).map IC⟩) := by
  obtain ⟨k, hk⟩ := bitsLen_e l.length (by omega)
  refine ACalls.start mix F51 (by simp) fun hlow => ?_
  simp -dsimp -implicitDefEqProofs (disch := omega) only [↓wpre, push_cast, reduceCtorEq, ↓reduceIte, Nat.reduceEqDiff, Nat.reduceLeDiff, Nat.reduceAdd, Nat.reduceLT, Int.reduceEq, Int.reduceLT, Int.reduceLE, Int.reduceNeg, Int.reduceAdd, c51]
  refine (hk _ _).x fun n' hn' => ?_
  simp -dsimp -implicitDefEqProofs (disch := omega) only [↓wpre, push_cast, reduceCtorEq, ↓reduceIte, Nat.reduceEqDiff, Nat.reduceLeDiff, Nat.reduceAdd, Nat.reduceLT, Int.reduceEq, Int.reduceLT, Int.reduceLE, Int.reduceNeg, Int.reduceAdd, true_and]
  refine (pdq_c G H o l hl k _ ho).x fun r H2 n2 h => ?_
  subst h
  simp -dsimp -implicitDefEqProofs (disch := omega) only [↓wpre, push_cast, reduceCtorEq, ↓reduceIte, Nat.reduceEqDiff, Nat.reduceLeDiff, Nat.reduceAdd, Nat.reduceLT, Int.reduceEq, Int.reduceLT, Int.reduceLE, Int.reduceNeg, Int.reduceAdd, true_and]
  exact fin_intro (Sub.refl _) rfl
def lsI (l : List Int) : AV := .ls (!l.isEmpty) (l.map IC)
end Go.Proofs.YthcedgclhoggcaaGreatDoor

