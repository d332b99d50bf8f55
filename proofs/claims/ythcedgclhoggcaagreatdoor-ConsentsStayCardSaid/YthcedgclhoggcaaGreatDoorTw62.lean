/- Contracts of functions of the program: each computes what its model says; the conditions stand at each. -/
import Derived.Test.YthcedgclhoggcaaGreatDoorTw46
import Derived.Test.YthcedgclhoggcaaGreatDoorTw61
set_option linter.unusedSimpArgs false
set_option linter.unusedVariables false
set_option maxRecDepth 20000
set_option pp.deepTerms false
set_option pp.deepTerms.threshold 3
namespace Go.Proofs.YthcedgclhoggcaaGreatDoor
open Go Go.Ab Go.Pm Go.Cm
variable (G : Nat → AV) (H : Nat → Option AObj)
/-! Lists one behind the other, of which some are owned. -/
/-- A list as a slice, be it owned or not. -/
def Src (H : Nat → Option AObj) (y : AV × List Stm) : Prop := alen y.1 = some (.int y.2.length) ∧ srcRows H y.1 = some (y.2.map Stm.c) ∧ y.1.one = true
theorem Src.sub {H H' : Nat → Option AObj} {y : AV × List Stm} (h : Src H y) (hs : Sub H H') : Src H' y := ⟨h.1, srcRows_sub hs h.2.1, h.2.2⟩
abbrev LsG (L : List (AV × List Stm)) : List (List AV) := L.map fun p => [p.1]
abbrev catG (L : List (AV × List Stm)) : List Stm := L.flatMap (·.2)
theorem even_LsG (L : List (AV × List Stm)) (h : ∀ y ∈ L, y.1.one = true) : Even 1 (LsG L) = True := eq_true fun r hr => by
  obtain ⟨s, hs, rfl⟩ := List.mem_map.1 hr
  exact ⟨rfl, by simp [h s hs]⟩
theorem concatG_run (L : List (AV × List Stm)) (hS : ∀ y ∈ L, Src H y) (hne : catG L ≠ []) (hL : L.length ≤ 1000) (hT : (catG L).length ≤ 1000000) (n : Nat) : ACalls Tryz.prog G 29 [.ls true (LsG L)] H n fun r H' n' => ∃ o, n ≤ o ∧ o < n' ∧ r = .os o 0 (catG L).length ∧ H' o = some ⟨43, 8, (catG L).map Stm.c⟩ ∧ Sub H H' ∧ H o = none := by
  refine ACalls.start mix F29 (by simp) fun hlow => ?_
  have hq := Qt.refl hlow
  have hev : Even 1 (LsG L) = True := even_LsG L fun y hy => (hS y hy).2.2
  simp -dsimp -implicitDefEqProofs (disch := omega) only [↓wpre, push_cast, reduceCtorEq, ↓reduceIte, Nat.reduceEqDiff, Nat.reduceLeDiff, Nat.reduceAdd, Nat.reduceLT, Int.reduceEq, Int.reduceLT, Int.reduceLE, Int.reduceNeg, Int.reduceAdd, c29]
  refine xw_loopJ (σ := List (AV × List Stm) × List (AV × List Stm)) (fun t => [(0, .ls true (LsG L)), (2, .ls false []), (3, .int (catG t.1).length), (9, .ls true (LsG L)), (10, .int L.length), (11, .int t.1.length)]) (fun t H' n' => L = t.1 ++ t.2 ∧ H = H' ∧ n ≤ n') (fun t => t.2.length) ([], L) ⟨rfl, rfl, Nat.le_refl _⟩ (by simp -dsimp -implicitDefEqProofs (disch := omega) only [↓wpre, push_cast, reduceCtorEq, ↓reduceIte, Nat.reduceEqDiff, Nat.reduceLeDiff, Nat.reduceAdd, Nat.reduceLT, Int.reduceEq, Int.reduceLT, Int.reduceLE, Int.reduceNeg, Int.reduceAdd, true_and]; try rfl) ?_
  rintro ⟨a, b⟩ fr H' n1 ⟨hab, rfl, hn1⟩ hh
  simp only [has_nil, has_cons, and_true] at hh hab
  have hlab : L.length = a.length + b.length := by rw [hab]; simp
  have hcab : (catG L).length = (catG a).length + (catG b).length := by rw [hab]; simp [catG]
  cases b with
  | cons y b =>
    have hlt : (a.length : Int) < L.length := by rw [hlab]; simp only [List.length_cons]; omega
    have hget : L[a.length]? = some y := by rw [hab]; simp
    have hcy : (catG (a ++ [y])).length = (catG a).length + y.2.length := by simp [catG]
    have hcb : (catG (y :: b)).length = y.2.length + (catG b).length := by simp [catG]
    have hym : y ∈ L := by rw [hab]; simp
    obtain ⟨hy1, hy2, hy3⟩ := hS y hym
    simp -dsimp -implicitDefEqProofs (disch := omega) only [↓wpre, push_cast, reduceCtorEq, ↓reduceIte, Nat.reduceEqDiff, Nat.reduceLeDiff, Nat.reduceAdd, Nat.reduceLT, Int.reduceEq, Int.reduceLT, Int.reduceLE, Int.reduceNeg, Int.reduceAdd, hh, hlt, hev, aidx_at _ hget, hy1]
    have hns : ¬ ((catG a).length : Int) + y.2.length < 0 := by omega
    simp -dsimp -implicitDefEqProofs (disch := omega) only [↓wpre, push_cast, reduceCtorEq, ↓reduceIte, Nat.reduceEqDiff, Nat.reduceLeDiff, Nat.reduceAdd, Nat.reduceLT, Int.reduceEq, Int.reduceLT, Int.reduceLE, Int.reduceNeg, Int.reduceAdd, hh, hns]
    refine againJ (a ++ [y], b) (Nat.lt_succ_self _) ⟨by rw [hab]; simp, rfl, hn1⟩ (by simp -dsimp -implicitDefEqProofs (disch := omega) only [↓wpre, push_cast, reduceCtorEq, ↓reduceIte, Nat.reduceEqDiff, Nat.reduceLeDiff, Nat.reduceAdd, Nat.reduceLT, Int.reduceEq, Int.reduceLT, Int.reduceLE, Int.reduceNeg, Int.reduceAdd, hh]; simp [hcy])
  | nil =>
    rw [List.append_nil] at hab
    subst hab
    simp -dsimp -implicitDefEqProofs (disch := omega) only [↓wpre, push_cast, reduceCtorEq, ↓reduceIte, Nat.reduceEqDiff, Nat.reduceLeDiff, Nat.reduceAdd, Nat.reduceLT, Int.reduceEq, Int.reduceLT, Int.reduceLE, Int.reduceNeg, Int.reduceAdd, hh]
    refine (grow_c G _ ((catG L).length : Int) ⟨by omega, by omega⟩ _).le.x fun r H2 n2 ⟨hr, hn2⟩ => ?_
    rcases hr with ⟨h0, rfl, rfl⟩ | ⟨h0, hn3, rfl, rfl⟩
    · exact absurd (List.length_eq_zero_iff.1 (by omega)) hne
    · skip
      simp -dsimp -implicitDefEqProofs (disch := omega) only [↓wpre, push_cast, reduceCtorEq, ↓reduceIte, Nat.reduceEqDiff, Nat.reduceLeDiff, Nat.reduceAdd, Nat.reduceLT, Int.reduceEq, Int.reduceLT, Int.reduceLE, Int.reduceNeg, Int.reduceAdd, hh]
      refine xw_loopJ (σ := List (AV × List Stm) × List (AV × List Stm) × Nat) (fun t => [(6, .os t.2.2 0 (catG t.1).length), (25, .ls true (LsG L)), (26, .int L.length), (27, .int t.1.length)]) (fun t H' n' => L = t.1 ++ t.2.1 ∧ (∃ rows, H' t.2.2 = some ⟨43, 8, rows⟩ ∧ (catG t.1).length ≤ rows.length ∧ rows.take (catG t.1).length = (catG t.1).map Stm.c ∧ (catG t.1 ≠ [] → rows = (catG t.1).map Stm.c)) ∧ Qt H H' n ∧ n ≤ t.2.2 ∧ t.2.2 < n') (fun t => t.2.1.length) ([], L, n1) ⟨rfl, ⟨_, hu_same, by simp [catG], by simp [catG], fun h => absurd rfl h⟩, by exact Qt.mono (n := n) (by repeat (first | exact hq | refine Qt.hu ?_ (by omega))) (by omega), hn1, by dsimp only; omega⟩ (by simp -dsimp -implicitDefEqProofs (disch := omega) only [↓wpre, push_cast, reduceCtorEq, ↓reduceIte, Nat.reduceEqDiff, Nat.reduceLeDiff, Nat.reduceAdd, Nat.reduceLT, Int.reduceEq, Int.reduceLT, Int.reduceLE, Int.reduceNeg, Int.reduceAdd, hh]; try rfl) ?_
      rintro ⟨a, b, oid⟩ fr H' n3 ⟨hab, ⟨rows, hro, hrl, hrt, hrx⟩, hq, hlo, hhi⟩ hh
      simp only [has_nil, has_cons, and_true] at hh hab
      dsimp only at hro hrl hrt hrx hlo hhi
      have hlab : L.length = a.length + b.length := by rw [hab]; simp
      have hcab : (catG L).length = (catG a).length + (catG b).length := by rw [hab]; simp [catG]
      cases b with
      | nil =>
        rw [List.append_nil] at hab
        subst hab
        simp -dsimp -implicitDefEqProofs (disch := omega) only [↓wpre, push_cast, reduceCtorEq, ↓reduceIte, Nat.reduceEqDiff, Nat.reduceLeDiff, Nat.reduceAdd, Nat.reduceLT, Int.reduceEq, Int.reduceLT, Int.reduceLE, Int.reduceNeg, Int.reduceAdd, hh]
        exact fin_intro (Sub.refl _) ⟨oid, hlo, hhi, rfl, by rw [hro, hrx hne], hq.1, by
          cases hx : H oid with
          | none => rfl
          | some q => exact absurd (hq.2 oid q hx) (by omega)⟩
      | cons y b =>
        have hlt : (a.length : Int) < L.length := by rw [hlab]; simp only [List.length_cons]; omega
        have hget : L[a.length]? = some y := by rw [hab]; simp
        have hcy : catG (a ++ [y]) = catG a ++ y.2 := by simp [catG]
        have hcb : (catG (y :: b)).length = y.2.length + (catG b).length := by simp [catG]
        have hym : y ∈ L := by rw [hab]; simp
        obtain ⟨hy1, hy2, hy3⟩ := (hS y hym).sub hq.1
        simp -dsimp -implicitDefEqProofs (disch := omega) only [↓wpre, push_cast, reduceCtorEq, ↓reduceIte, Nat.reduceEqDiff, Nat.reduceLeDiff, Nat.reduceAdd, Nat.reduceLT, Int.reduceEq, Int.reduceLT, Int.reduceLE, Int.reduceNeg, Int.reduceAdd, hh, hlt, hev, aidx_at _ hget]
        by_cases hz : (catG a).length + y.2.length = 0
        · have hy : y.2 = [] := List.length_eq_zero_iff.1 (by omega)
          have ha0 : (catG a).length = 0 := by omega
          rw [ha0, xapp_zero (by rw [hy2, hy]; rfl)]
          simp -dsimp -implicitDefEqProofs (disch := omega) only [↓wpre, push_cast, reduceCtorEq, ↓reduceIte, Nat.reduceEqDiff, Nat.reduceLeDiff, Nat.reduceAdd, Nat.reduceLT, Int.reduceEq, Int.reduceLT, Int.reduceLE, Int.reduceNeg, Int.reduceAdd, hh]
          refine againJ (a ++ [y], b, oid) (Nat.lt_succ_self _) ⟨by rw [hab]; simp, ⟨rows, hro, ?_, ?_, fun h => absurd (by dsimp only at h ⊢; rw [hcy]; exact List.length_eq_zero_iff.1 (by rw [List.length_append]; omega)) h⟩, hq, hlo, hhi⟩ (by simp -dsimp -implicitDefEqProofs (disch := omega) only [↓wpre, push_cast, reduceCtorEq, ↓reduceIte, Nat.reduceEqDiff, Nat.reduceLeDiff, Nat.reduceAdd, Nat.reduceLT, Int.reduceEq, Int.reduceLT, Int.reduceLE, Int.reduceNeg, Int.reduceAdd, hh]; simp [hcy, hy, ha0])
          · dsimp only; rw [hcy, hy, List.append_nil]; exact hrl
          · dsimp only; rw [hcy, hy, List.append_nil]; exact hrt
        · rw [xapp_src hro hrl hy2 (even_stms y.2) (by simp only [List.length_map]; omega) (by simp only [List.length_map]; omega), hrt]
          simp -dsimp -implicitDefEqProofs (disch := omega) only [↓wpre, push_cast, reduceCtorEq, ↓reduceIte, Nat.reduceEqDiff, Nat.reduceLeDiff, Nat.reduceAdd, Nat.reduceLT, Int.reduceEq, Int.reduceLT, Int.reduceLE, Int.reduceNeg, Int.reduceAdd, hh]
          refine againJ (a ++ [y], b, n3) (Nat.lt_succ_self _) ⟨by rw [hab]; simp, ⟨_, hu_same, ?_, ?_, fun _ => by dsimp only; rw [hcy, List.map_append]⟩, by exact Qt.mono (n := n) (by repeat (first | exact hq | refine Qt.hu ?_ (by omega))) (by omega), by dsimp only; omega, by dsimp only; omega⟩ (by simp -dsimp -implicitDefEqProofs (disch := omega) only [↓wpre, push_cast, reduceCtorEq, ↓reduceIte, Nat.reduceEqDiff, Nat.reduceLeDiff, Nat.reduceAdd, Nat.reduceLT, Int.reduceEq, Int.reduceLT, Int.reduceLE, Int.reduceNeg, Int.reduceAdd, hh]; simp [hcy])
          · dsimp only; rw [hcy]; simp
          · dsimp only; rw [hcy, List.take_of_length_le (by simp)]; simp
theorem concatG_c (L : List (AV × List Stm)) (hS : ∀ y ∈ L, Src H y) (hne : catG L ≠ []) (hL : L.length ≤ 1000) (hT : (catG L).length ≤ 1000000) : AFn Tryz.prog G 29 [.ls true (LsG L)] H (lsOf ((catG L).map Stm.c)) := by
  intro n
  refine ACalls.frz (concatG_run G H L hS hne hL hT n) ?_
  rintro r H1 n1 ⟨i, hi1, hi2, rfl, h1, h2, hlow⟩
  have h0 := hne
  · generalize catG L = ms at h0 h1 ⊢
    refine ⟨only i ⟨43, 8, ms.map Stm.c⟩, H, 3, only_sub h1, h2, fun j o hj => ?_, ?_, rfl⟩
    · unfold only at hj
      split at hj
      · rename_i e; subst e; exact hlow
      · cases hj
    · have hp : ∀ r ∈ ms.map Stm.c, plain r = true := fun r hr => by
        obtain ⟨s, _, rfl⟩ := List.mem_map.1 hr
        rfl
      rw [frz_os_plain hp (by simp)]
      cases ms with
      | nil => exact absurd rfl h0
      | cons => rfl
end Go.Proofs.YthcedgclhoggcaaGreatDoor

