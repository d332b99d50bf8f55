/- Contracts of functions of the program: each computes what its model says; the conditions stand at each. -/
import Derived.Test.YthcedgclhoggcaaGreatDoorTw40
set_option linter.unusedSimpArgs false
set_option linter.unusedVariables false
set_option maxRecDepth 20000
set_option pp.deepTerms false
set_option pp.deepTerms.threshold 3
namespace Go.Proofs.YthcedgclhoggcaaGreatDoor
open Go Go.Ab Go.Pm Go.Cm
variable (G : Nat → AV) (H : Nat → Option AObj)
theorem grow_c (m : Int) (h : 0 ≤ m ∧ m ≤ 1000000) (n : Nat) : ACalls Tryz.prog G 57 [.ls false [], .int m] H n fun r H' n' => (m = 0 ∧ r = .ls false [] ∧ H = H') ∨ (0 < m ∧ n < n' ∧ r = .os n 0 0 ∧ H' = hu H n (some ⟨43, 8, List.replicate m.toNat noStm.c⟩)) := by
  refine ACalls.start mix F57 (by simp) fun hlow => ?_
  have hneg : ¬ m < 0 := by omega
  by_cases h0 : m = 0
  · subst h0
    simp -dsimp -implicitDefEqProofs (disch := omega) only [↓wpre, push_cast, reduceCtorEq, ↓reduceIte, Nat.reduceEqDiff, Nat.reduceLeDiff, Nat.reduceAdd, Nat.reduceLT, Int.reduceEq, Int.reduceLT, Int.reduceLE, Int.reduceNeg, Int.reduceAdd, Nat.reduceMul, Nat.reduceMod, Nat.reduceSub, Int.reduceSub, c57]
    exact fin_intro (Sub.refl _) (.inl ⟨rfl, rfl, rfl⟩)
  · have hpos : 0 < m := by omega
    have he0 : Even 8 [] = True := eq_true fun r hr => by simp at hr
    simp -dsimp -implicitDefEqProofs (disch := omega) only [↓wpre, push_cast, reduceCtorEq, ↓reduceIte, Nat.reduceEqDiff, Nat.reduceLeDiff, Nat.reduceAdd, Nat.reduceLT, Int.reduceEq, Int.reduceLT, Int.reduceLE, Int.reduceNeg, Int.reduceAdd, Nat.reduceMul, Nat.reduceMod, Nat.reduceSub, Int.reduceSub, c57, hneg, hpos, he0, Int.sub_zero, Int.sub_self, List.take_nil]
    rw [xappz_nil (by omega) (by omega) (by omega)]
    have hcut : ∀ rows, CutOk (hu H n (some ⟨43, 8, rows⟩)) 8 (.os n 0 m.toNat) = True := fun _ => eq_true ⟨_, hu_same, rfl⟩
    simp -dsimp -implicitDefEqProofs (disch := omega) only [↓wpre, push_cast, reduceCtorEq, ↓reduceIte, Nat.reduceEqDiff, Nat.reduceLeDiff, Nat.reduceAdd, Nat.reduceLT, Int.reduceEq, Int.reduceLT, Int.reduceLE, Int.reduceNeg, Int.reduceAdd, Nat.reduceMul, Nat.reduceMod, Nat.reduceSub, Int.reduceSub, hcut]
    refine fin_intro (Sub.refl _) (.inr ⟨hpos, Nat.lt_succ_self _, rfl, rfl⟩)
/-- Several lists, one behind the other. -/
abbrev LsC (L : List (Bool × List Stm)) : List (List AV) := L.map fun p => [AV.ls p.1 (p.2.map Stm.c)]
abbrev catL (L : List (Bool × List Stm)) : List Stm := L.flatMap (·.2)
theorem even_LsC (L : List (Bool × List Stm)) : Even 1 (LsC L) = True := eq_true fun r hr => by
  obtain ⟨s, _, rfl⟩ := List.mem_map.1 hr
  exact ⟨rfl, rfl⟩
theorem concat_run (L : List (Bool × List Stm)) (hL : L.length ≤ 1000) (hT : (catL L).length ≤ 1000000) (n : Nat) : ACalls Tryz.prog G 29 [.ls true (LsC L)] H n fun r H' n' => (catL L = [] ∧ r = .ls false [] ∧ H' = H) ∨ (catL L ≠ [] ∧ ∃ o, n ≤ o ∧ o < n' ∧ r = .os o 0 (catL L).length ∧ H' o = some ⟨43, 8, (catL L).map Stm.c⟩ ∧ Sub H H' ∧ H o = none) := by
  refine ACalls.start mix F29 (by simp) fun hlow => ?_
  have hq := Qt.refl hlow
  simp -dsimp -implicitDefEqProofs (disch := omega) only [↓wpre, push_cast, reduceCtorEq, ↓reduceIte, Nat.reduceEqDiff, Nat.reduceLeDiff, Nat.reduceAdd, Nat.reduceLT, Int.reduceEq, Int.reduceLT, Int.reduceLE, Int.reduceNeg, Int.reduceAdd, Nat.reduceMul, Nat.reduceMod, Nat.reduceSub, Int.reduceSub, c29]
  refine xw_loopJ (σ := List (Bool × List Stm) × List (Bool × List Stm)) (fun t => [(0, .ls true (LsC L)), (2, .ls false []), (3, .int (catL t.1).length), (9, .ls true (LsC L)), (10, .int L.length), (11, .int t.1.length)]) (fun t H' n' => L = t.1 ++ t.2 ∧ H = H' ∧ n ≤ n') (fun t => t.2.length) ([], L) ⟨rfl, rfl, Nat.le_refl _⟩ (by simp -dsimp -implicitDefEqProofs (disch := omega) only [↓wpre, push_cast, reduceCtorEq, ↓reduceIte, Nat.reduceEqDiff, Nat.reduceLeDiff, Nat.reduceAdd, Nat.reduceLT, Int.reduceEq, Int.reduceLT, Int.reduceLE, Int.reduceNeg, Int.reduceAdd, Nat.reduceMul, Nat.reduceMod, Nat.reduceSub, Int.reduceSub, true_and]; try rfl) ?_
  rintro ⟨a, b⟩ fr H' n1 ⟨hab, rfl, hn1⟩ hh
  simp only [has_nil, has_cons, and_true] at hh hab
  have hlab : L.length = a.length + b.length := by rw [hab]; simp
  have hcab : (catL L).length = (catL a).length + (catL b).length := by rw [hab]; simp [catL]
  cases b with
  | cons y b =>
    have hlt : (a.length : Int) < L.length := by rw [hlab]; simp only [List.length_cons]; omega
    have hget : L[a.length]? = some y := by rw [hab]; simp
    have hcy : (catL (a ++ [y])).length = (catL a).length + y.2.length := by simp [catL]
    have hcb : (catL (y :: b)).length = y.2.length + (catL b).length := by simp [catL]
    simp -dsimp -implicitDefEqProofs (disch := omega) only [↓wpre, push_cast, reduceCtorEq, ↓reduceIte, Nat.reduceEqDiff, Nat.reduceLeDiff, Nat.reduceAdd, Nat.reduceLT, Int.reduceEq, Int.reduceLT, Int.reduceLE, Int.reduceNeg, Int.reduceAdd, Nat.reduceMul, Nat.reduceMod, Nat.reduceSub, Int.reduceSub, hh, hlt, even_LsC, aidx_at _ hget]
    have hns : ¬ ((catL a).length : Int) + y.2.length < 0 := by omega
    simp -dsimp -implicitDefEqProofs (disch := omega) only [↓wpre, push_cast, reduceCtorEq, ↓reduceIte, Nat.reduceEqDiff, Nat.reduceLeDiff, Nat.reduceAdd, Nat.reduceLT, Int.reduceEq, Int.reduceLT, Int.reduceLE, Int.reduceNeg, Int.reduceAdd, Nat.reduceMul, Nat.reduceMod, Nat.reduceSub, Int.reduceSub, hh, hns]
    refine againJ (a ++ [y], b) (Nat.lt_succ_self _) ⟨by rw [hab]; simp, rfl, hn1⟩ (by simp -dsimp -implicitDefEqProofs (disch := omega) only [↓wpre, push_cast, reduceCtorEq, ↓reduceIte, Nat.reduceEqDiff, Nat.reduceLeDiff, Nat.reduceAdd, Nat.reduceLT, Int.reduceEq, Int.reduceLT, Int.reduceLE, Int.reduceNeg, Int.reduceAdd, Nat.reduceMul, Nat.reduceMod, Nat.reduceSub, Int.reduceSub, hh]; simp [hcy])
  | nil =>
    rw [List.append_nil] at hab
    subst hab
    simp -dsimp -implicitDefEqProofs (disch := omega) only [↓wpre, push_cast, reduceCtorEq, ↓reduceIte, Nat.reduceEqDiff, Nat.reduceLeDiff, Nat.reduceAdd, Nat.reduceLT, Int.reduceEq, Int.reduceLT, Int.reduceLE, Int.reduceNeg, Int.reduceAdd, Nat.reduceMul, Nat.reduceMod, Nat.reduceSub, Int.reduceSub, hh]
    refine (grow_c G _ ((catL L).length : Int) ⟨by omega, by omega⟩ _).le.x fun r H2 n2 ⟨hr, hn2⟩ => ?_
    rcases hr with ⟨h0, rfl, rfl⟩ | ⟨h0, hn3, rfl, rfl⟩
    · have hnil : catL L = [] := List.length_eq_zero_iff.1 (by omega)
      simp -dsimp -implicitDefEqProofs (disch := omega) only [↓wpre, push_cast, reduceCtorEq, ↓reduceIte, Nat.reduceEqDiff, Nat.reduceLeDiff, Nat.reduceAdd, Nat.reduceLT, Int.reduceEq, Int.reduceLT, Int.reduceLE, Int.reduceNeg, Int.reduceAdd, Nat.reduceMul, Nat.reduceMod, Nat.reduceSub, Int.reduceSub, hh]
      refine xw_loopJ (σ := List (Bool × List Stm) × List (Bool × List Stm)) (fun t => [(6, .ls false []), (25, .ls true (LsC L)), (26, .int L.length), (27, .int t.1.length)]) (fun t H' n' => L = t.1 ++ t.2 ∧ H = H' ∧ n ≤ n') (fun t => t.2.length) ([], L) ⟨rfl, rfl, by omega⟩ (by simp -dsimp -implicitDefEqProofs (disch := omega) only [↓wpre, push_cast, reduceCtorEq, ↓reduceIte, Nat.reduceEqDiff, Nat.reduceLeDiff, Nat.reduceAdd, Nat.reduceLT, Int.reduceEq, Int.reduceLT, Int.reduceLE, Int.reduceNeg, Int.reduceAdd, Nat.reduceMul, Nat.reduceMod, Nat.reduceSub, Int.reduceSub, hh]; try rfl) ?_
      rintro ⟨a, b⟩ fr H' n3 ⟨hab, rfl, hn3⟩ hh
      simp only [has_nil, has_cons, and_true] at hh hab
      have hlab : L.length = a.length + b.length := by rw [hab]; simp
      cases b with
      | nil =>
        rw [List.append_nil] at hab
        subst hab
        simp -dsimp -implicitDefEqProofs (disch := omega) only [↓wpre, push_cast, reduceCtorEq, ↓reduceIte, Nat.reduceEqDiff, Nat.reduceLeDiff, Nat.reduceAdd, Nat.reduceLT, Int.reduceEq, Int.reduceLT, Int.reduceLE, Int.reduceNeg, Int.reduceAdd, Nat.reduceMul, Nat.reduceMod, Nat.reduceSub, Int.reduceSub, hh]
        exact fin_intro (Sub.refl _) (.inl ⟨hnil, rfl, rfl⟩)
      | cons y b =>
        have hlt : (a.length : Int) < L.length := by rw [hlab]; simp only [List.length_cons]; omega
        have hget : L[a.length]? = some y := by rw [hab]; simp
        have hy : y.2 = [] := by
          have : y ∈ L := by rw [hab]; simp
          have := List.flatMap_eq_nil_iff.1 hnil y this
          exact this
        simp -dsimp -implicitDefEqProofs (disch := omega) only [↓wpre, push_cast, reduceCtorEq, ↓reduceIte, Nat.reduceEqDiff, Nat.reduceLeDiff, Nat.reduceAdd, Nat.reduceLT, Int.reduceEq, Int.reduceLT, Int.reduceLE, Int.reduceNeg, Int.reduceAdd, Nat.reduceMul, Nat.reduceMod, Nat.reduceSub, Int.reduceSub, hh, hlt, even_LsC, aidx_at _ hget]
        simp only [hy, List.map_nil]
        simp -dsimp -implicitDefEqProofs (disch := omega) only [↓wpre, push_cast, reduceCtorEq, ↓reduceIte, Nat.reduceEqDiff, Nat.reduceLeDiff, Nat.reduceAdd, Nat.reduceLT, Int.reduceEq, Int.reduceLT, Int.reduceLE, Int.reduceNeg, Int.reduceAdd, Nat.reduceMul, Nat.reduceMod, Nat.reduceSub, Int.reduceSub, hh]
        refine againJ (a ++ [y], b) (Nat.lt_succ_self _) ⟨by rw [hab]; simp, rfl, hn3⟩ (by simp -dsimp -implicitDefEqProofs (disch := omega) only [↓wpre, push_cast, reduceCtorEq, ↓reduceIte, Nat.reduceEqDiff, Nat.reduceLeDiff, Nat.reduceAdd, Nat.reduceLT, Int.reduceEq, Int.reduceLT, Int.reduceLE, Int.reduceNeg, Int.reduceAdd, Nat.reduceMul, Nat.reduceMod, Nat.reduceSub, Int.reduceSub, hh]; try simp)
    · have hne : catL L ≠ [] := fun e => by rw [e] at h0; simp at h0
      simp -dsimp -implicitDefEqProofs (disch := omega) only [↓wpre, push_cast, reduceCtorEq, ↓reduceIte, Nat.reduceEqDiff, Nat.reduceLeDiff, Nat.reduceAdd, Nat.reduceLT, Int.reduceEq, Int.reduceLT, Int.reduceLE, Int.reduceNeg, Int.reduceAdd, Nat.reduceMul, Nat.reduceMod, Nat.reduceSub, Int.reduceSub, hh]
      refine xw_loopJ (σ := List (Bool × List Stm) × List (Bool × List Stm) × Nat) (fun t => [(6, .os t.2.2 0 (catL t.1).length), (25, .ls true (LsC L)), (26, .int L.length), (27, .int t.1.length)]) (fun t H' n' => L = t.1 ++ t.2.1 ∧ (∃ rows, H' t.2.2 = some ⟨43, 8, rows⟩ ∧ (catL t.1).length ≤ rows.length ∧ rows.take (catL t.1).length = (catL t.1).map Stm.c ∧ (catL t.1 ≠ [] → rows = (catL t.1).map Stm.c)) ∧ Qt H H' n ∧ n ≤ t.2.2 ∧ t.2.2 < n') (fun t => t.2.1.length) ([], L, n1) ⟨rfl, ⟨_, hu_same, by simp [catL], by simp [catL], fun h => absurd rfl h⟩, by exact Qt.mono (n := n) (by repeat (first | exact hq | refine Qt.hu ?_ (by omega))) (by omega), hn1, by dsimp only; omega⟩ (by simp -dsimp -implicitDefEqProofs (disch := omega) only [↓wpre, push_cast, reduceCtorEq, ↓reduceIte, Nat.reduceEqDiff, Nat.reduceLeDiff, Nat.reduceAdd, Nat.reduceLT, Int.reduceEq, Int.reduceLT, Int.reduceLE, Int.reduceNeg, Int.reduceAdd, Nat.reduceMul, Nat.reduceMod, Nat.reduceSub, Int.reduceSub, hh]; try rfl) ?_
      rintro ⟨a, b, oid⟩ fr H' n3 ⟨hab, ⟨rows, hro, hrl, hrt, hrx⟩, hq, hlo, hhi⟩ hh
      simp only [has_nil, has_cons, and_true] at hh hab
      dsimp only at hro hrl hrt hrx hlo hhi
      have hlab : L.length = a.length + b.length := by rw [hab]; simp
      have hcab : (catL L).length = (catL a).length + (catL b).length := by rw [hab]; simp [catL]
      cases b with
      | nil =>
        rw [List.append_nil] at hab
        subst hab
        simp -dsimp -implicitDefEqProofs (disch := omega) only [↓wpre, push_cast, reduceCtorEq, ↓reduceIte, Nat.reduceEqDiff, Nat.reduceLeDiff, Nat.reduceAdd, Nat.reduceLT, Int.reduceEq, Int.reduceLT, Int.reduceLE, Int.reduceNeg, Int.reduceAdd, Nat.reduceMul, Nat.reduceMod, Nat.reduceSub, Int.reduceSub, hh]
        exact fin_intro (Sub.refl _) (.inr ⟨hne, oid, hlo, hhi, rfl, by rw [hro, hrx hne], hq.1, by
          cases hx : H oid with
          | none => rfl
          | some q => exact absurd (hq.2 oid q hx) (by omega)⟩)
      | cons y b =>
        have hlt : (a.length : Int) < L.length := by rw [hlab]; simp only [List.length_cons]; omega
        have hget : L[a.length]? = some y := by rw [hab]; simp
        have hcy : catL (a ++ [y]) = catL a ++ y.2 := by simp [catL]
        have hcb : (catL (y :: b)).length = y.2.length + (catL b).length := by simp [catL]
        simp -dsimp -implicitDefEqProofs (disch := omega) only [↓wpre, push_cast, reduceCtorEq, ↓reduceIte, Nat.reduceEqDiff, Nat.reduceLeDiff, Nat.reduceAdd, Nat.reduceLT, Int.reduceEq, Int.reduceLT, Int.reduceLE, Int.reduceNeg, Int.reduceAdd, Nat.reduceMul, Nat.reduceMod, Nat.reduceSub, Int.reduceSub, hh, hlt, even_LsC, aidx_at _ hget]
        by_cases hz : (catL a).length + y.2.length = 0
        · have hy : y.2 = [] := List.length_eq_zero_iff.1 (by omega)
          have ha0 : (catL a).length = 0 := by omega
          rw [ha0, xapp_zero (by rw [hy]; rfl)]
          simp -dsimp -implicitDefEqProofs (disch := omega) only [↓wpre, push_cast, reduceCtorEq, ↓reduceIte, Nat.reduceEqDiff, Nat.reduceLeDiff, Nat.reduceAdd, Nat.reduceLT, Int.reduceEq, Int.reduceLT, Int.reduceLE, Int.reduceNeg, Int.reduceAdd, Nat.reduceMul, Nat.reduceMod, Nat.reduceSub, Int.reduceSub, hh]
          refine againJ (a ++ [y], b, oid) (Nat.lt_succ_self _) ⟨by rw [hab]; simp, ⟨rows, hro, ?_, ?_, fun h => absurd (by dsimp only at h ⊢; rw [hcy]; exact List.length_eq_zero_iff.1 (by rw [List.length_append]; omega)) h⟩, hq, hlo, hhi⟩ (by simp -dsimp -implicitDefEqProofs (disch := omega) only [↓wpre, push_cast, reduceCtorEq, ↓reduceIte, Nat.reduceEqDiff, Nat.reduceLeDiff, Nat.reduceAdd, Nat.reduceLT, Int.reduceEq, Int.reduceLT, Int.reduceLE, Int.reduceNeg, Int.reduceAdd, Nat.reduceMul, Nat.reduceMod, Nat.reduceSub, Int.reduceSub, hh]; simp [hcy, hy, ha0])
          · dsimp only; rw [hcy, hy, List.append_nil]; exact hrl
          · dsimp only; rw [hcy, hy, List.append_nil]; exact hrt
        · rw [xapp_src hro hrl rfl (even_stms y.2) (by simp only [List.length_map]; omega) (by simp only [List.length_map]; omega), hrt]
          simp -dsimp -implicitDefEqProofs (disch := omega) only [↓wpre, push_cast, reduceCtorEq, ↓reduceIte, Nat.reduceEqDiff, Nat.reduceLeDiff, Nat.reduceAdd, Nat.reduceLT, Int.reduceEq, Int.reduceLT, Int.reduceLE, Int.reduceNeg, Int.reduceAdd, Nat.reduceMul, Nat.reduceMod, Nat.reduceSub, Int.reduceSub, hh]
          refine againJ (a ++ [y], b, n3) (Nat.lt_succ_self _) ⟨by rw [hab]; simp, ⟨_, hu_same, ?_, ?_, fun _ => by dsimp only; rw [hcy, List.map_append]⟩, by exact Qt.mono (n := n) (by repeat (first | exact hq | refine Qt.hu ?_ (by omega))) (by omega), by dsimp only; omega, by dsimp only; omega⟩ (by simp -dsimp -implicitDefEqProofs (disch := omega) only [↓wpre, push_cast, reduceCtorEq, ↓reduceIte, Nat.reduceEqDiff, Nat.reduceLeDiff, Nat.reduceAdd, Nat.reduceLT, Int.reduceEq, Int.reduceLT, Int.reduceLE, Int.reduceNeg, Int.reduceAdd, Nat.reduceMul, Nat.reduceMod, Nat.reduceSub, Int.reduceSub, hh]; simp [hcy])
          · dsimp only; rw [hcy]; simp
          · dsimp only; rw [hcy, List.take_of_length_le (by simp)]; simp
end Go.Proofs.YthcedgclhoggcaaGreatDoor

