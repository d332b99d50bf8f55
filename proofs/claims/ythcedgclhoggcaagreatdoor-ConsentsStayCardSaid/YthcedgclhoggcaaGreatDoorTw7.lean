/- Contracts of functions of the program: each computes what its model says; the conditions stand at each. -/
import Derived.Test.YthcedgclhoggcaaGreatDoorTw6
set_option linter.unusedSimpArgs false
set_option linter.unusedVariables false
set_option maxRecDepth 20000
set_option pp.deepTerms false
set_option pp.deepTerms.threshold 3
namespace Go.Proofs.YthcedgclhoggcaaGreatDoor
open Go Go.Ab Go.Pm Go.Cm
variable (G : Nat → AV) (H : Nat → Option AObj)
theorem upTo1_c (s : Stm) (at' : Int) : AFn Tryz.prog G 87 [.agg s.c, .int at'] H (.int (cmpI s.at' at')) := by
  refine AFn.start mix F87 (by simp) fun k hlow => ?_
  simp -dsimp -implicitDefEqProofs (disch := omega) only [↓wpre, push_cast, reduceCtorEq, ↓reduceIte, Nat.reduceEqDiff, Nat.reduceLeDiff, Nat.reduceAdd, Nat.reduceLT, Int.reduceEq, Int.reduceLT, Int.reduceLE, Int.reduceNeg, Int.reduceAdd, c87]
  (first | with_reducible refine (cmpI_c _ _ _ _).x fun n' hn' => ?_ | with_reducible refine xfn_intro (cmpI_c _ _ _ _) ?_); try simp -dsimp -implicitDefEqProofs (disch := omega) only [↓wpre, push_cast, reduceCtorEq, ↓reduceIte, Nat.reduceEqDiff, Nat.reduceLeDiff, Nat.reduceAdd, Nat.reduceLT, Int.reduceEq, Int.reduceLT, Int.reduceLE, Int.reduceNeg, Int.reduceAdd, true_and]
theorem bsSaid_c (nz : Bool) (l : List Stm) (at' : Int) (hl : l.length ≤ 1000000) : AFn Tryz.prog G 86 [.ls nz (l.map Stm.c), .int at', .fn (.func 87) []] H (.tup [.int (bsAt (fun s => cmpI s.at' at') l), .bool (bsHas (fun s => cmpI s.at' at') l)]) := by
  have hle := bsAt_le (fun s => cmpI s.at' at') l
  refine AFn.start mix F86 (by simp) fun k hlow => ?_
  simp -dsimp -implicitDefEqProofs (disch := omega) only [↓wpre, push_cast, reduceCtorEq, ↓reduceIte, Nat.reduceEqDiff, Nat.reduceLeDiff, Nat.reduceAdd, Nat.reduceLT, Int.reduceEq, Int.reduceLT, Int.reduceLE, Int.reduceNeg, Int.reduceAdd, c86]
  refine xw_loopJ (σ := Nat × Nat × Nat) (fun t => [(0, .ls nz (l.map Stm.c)), (1, .int at'), (2, .fn (.func 87) []), (8, .int l.length), (9, .int t.2.1), (10, .int t.2.2)]) (fun t H' n' => t.2.1 ≤ t.2.2 ∧ t.2.2 ≤ l.length ∧ t.2.2 - t.2.1 ≤ t.1 ∧ bsGo (at0 (fun s => cmpI s.at' at') l) t.1 t.2.1 t.2.2 = bsAt (fun s => cmpI s.at' at') l ∧ Qt H H' n') (fun t => t.2.2 - t.2.1) (l.length, 0, l.length) ⟨Nat.zero_le _, Nat.le_refl _, by simp, rfl, .refl hlow⟩ (by simp -dsimp -implicitDefEqProofs (disch := omega) only [↓wpre, push_cast, reduceCtorEq, ↓reduceIte, Nat.reduceEqDiff, Nat.reduceLeDiff, Nat.reduceAdd, Nat.reduceLT, Int.reduceEq, Int.reduceLT, Int.reduceLE, Int.reduceNeg, Int.reduceAdd]) ?_
  rintro ⟨m, lo, hi⟩ fr H' n ⟨h1, h2, h3, hf, hq⟩ hh
  simp only [has_nil, has_cons, and_true] at hh h1 h2 h3 hf
  by_cases hlt : (lo : Int) < hi
  · obtain ⟨m, rfl⟩ : ∃ k, m = k + 1 := ⟨m - 1, by omega⟩
    have hmid : (lo + hi) / 2 < l.length := by omega
    have hx := List.getElem?_eq_getElem hmid
    have hat : at0 (fun s => cmpI s.at' at') l ((lo + hi) / 2) = cmpI (l[(lo + hi) / 2]).at' at' := by simp only [at0, hx]
    have e1 : ((lo : Int) + hi) / 2 = (((lo + hi) / 2 : Nat) : Int) := by omega
    rw [bsGo, if_pos (by omega), hat] at hf
    simp -dsimp -implicitDefEqProofs (disch := omega) only [↓wpre, push_cast, reduceCtorEq, ↓reduceIte, Nat.reduceEqDiff, Nat.reduceLeDiff, Nat.reduceAdd, Nat.reduceLT, Int.reduceEq, Int.reduceLT, Int.reduceLE, Int.reduceNeg, Int.reduceAdd, hh, hlt, even_stms', aidx_at _ hx]
    (first | with_reducible refine (upTo1_c _ _ _ _).x fun n' hn' => ?_ | with_reducible refine xfn_intro (upTo1_c _ _ _ _) ?_); try simp -dsimp -implicitDefEqProofs (disch := omega) only [↓wpre, push_cast, reduceCtorEq, ↓reduceIte, Nat.reduceEqDiff, Nat.reduceLeDiff, Nat.reduceAdd, Nat.reduceLT, Int.reduceEq, Int.reduceLT, Int.reduceLE, Int.reduceNeg, Int.reduceAdd, true_and]
    (first | with_reducible refine cnd_ndec (fun hc => ?_) (fun hc => ?_) | with_reducible refine cnd_dec (fun hc => ?_) (fun hc => ?_) | with_reducible refine cnd_nb (fun hc => ?_) (fun hc => ?_) | with_reducible refine cnd_intro (fun hc => ?_) (fun hc => ?_)) <;> (first | (exfalso; omega) | (try simp -dsimp -implicitDefEqProofs (disch := omega) only [↓wpre, push_cast, reduceCtorEq, ↓reduceIte, Nat.reduceEqDiff, Nat.reduceLeDiff, Nat.reduceAdd, Nat.reduceLT, Int.reduceEq, Int.reduceLT, Int.reduceLE, Int.reduceNeg, Int.reduceAdd, hc, hh]))
    · rw [if_pos hc] at hf
      refine againJ (m, (lo + hi) / 2 + 1, hi) (by dsimp only; omega) ⟨by dsimp only; omega, h2, by dsimp only; omega, hf, ?_⟩ ?_
      · exact Qt.mono (n := n) (by repeat (first | exact hq | refine Qt.hu ?_ (by omega))) (by omega)
      · simp -dsimp -implicitDefEqProofs (disch := omega) only [↓wpre, push_cast, reduceCtorEq, ↓reduceIte, Nat.reduceEqDiff, Nat.reduceLeDiff, Nat.reduceAdd, Nat.reduceLT, Int.reduceEq, Int.reduceLT, Int.reduceLE, Int.reduceNeg, Int.reduceAdd, hh]
    · rw [if_neg hc] at hf
      refine againJ (m, lo, (lo + hi) / 2) (by dsimp only; omega) ⟨by dsimp only; omega, by dsimp only; omega, by dsimp only; omega, hf, ?_⟩ ?_
      · exact Qt.mono (n := n) (by repeat (first | exact hq | refine Qt.hu ?_ (by omega))) (by omega)
      · simp -dsimp -implicitDefEqProofs (disch := omega) only [↓wpre, push_cast, reduceCtorEq, ↓reduceIte, Nat.reduceEqDiff, Nat.reduceLeDiff, Nat.reduceAdd, Nat.reduceLT, Int.reduceEq, Int.reduceLT, Int.reduceLE, Int.reduceNeg, Int.reduceAdd, hh]
  · have hres : lo = bsAt (fun s => cmpI s.at' at') l := by
      rw [← hf]; cases m <;> simp only [bsGo]; rw [if_neg (by omega)]
    rw [← hres] at hle ⊢
    rw [bsHas, ← hres]
    by_cases hn : lo < l.length
    · have hx := List.getElem?_eq_getElem hn
      have hat : at0 (fun s => cmpI s.at' at') l lo = cmpI (l[lo]).at' at' := by simp only [at0, hx]
      have hlt2 : (lo : Int) < l.length := by omega
      simp -dsimp -implicitDefEqProofs (disch := omega) only [↓wpre, push_cast, reduceCtorEq, ↓reduceIte, Nat.reduceEqDiff, Nat.reduceLeDiff, Nat.reduceAdd, Nat.reduceLT, Int.reduceEq, Int.reduceLT, Int.reduceLE, Int.reduceNeg, Int.reduceAdd, hh, hlt, hlt2, even_stms', aidx_at _ hx]
      (first | with_reducible refine (upTo1_c _ _ _ _).x fun n' hn' => ?_ | with_reducible refine xfn_intro (upTo1_c _ _ _ _) ?_); try simp -dsimp -implicitDefEqProofs (disch := omega) only [↓wpre, push_cast, reduceCtorEq, ↓reduceIte, Nat.reduceEqDiff, Nat.reduceLeDiff, Nat.reduceAdd, Nat.reduceLT, Int.reduceEq, Int.reduceLT, Int.reduceLE, Int.reduceNeg, Int.reduceAdd, hat]
      refine ⟨?_, hq.1⟩
      simp [hat, hn]
    · have hlt2 : ¬ (lo : Int) < l.length := by omega
      simp -dsimp -implicitDefEqProofs (disch := omega) only [↓wpre, push_cast, reduceCtorEq, ↓reduceIte, Nat.reduceEqDiff, Nat.reduceLeDiff, Nat.reduceAdd, Nat.reduceLT, Int.reduceEq, Int.reduceLT, Int.reduceLE, Int.reduceNeg, Int.reduceAdd, hh, hlt, hlt2]
      refine ⟨?_, hq.1⟩
      simp [hn]
theorem upTo_c (nz : Bool) (l : List Stm) (at' : Int) (hl : l.length ≤ 1000000) (ha : -4611686018427387904 ≤ at' ∧ at' ≤ 4611686018427387904) : AFn Tryz.prog G 49 [.ls nz (l.map Stm.c), .int at'] H (.ls nz ((upTo l at').map Stm.c)) := by
  have hle := bsAt_le (fun s => cmpI s.at' (at' + 1)) l
  refine AFn.start mix F49 (by simp) fun k hlow => ?_
  simp -dsimp -implicitDefEqProofs (disch := omega) only [↓wpre, push_cast, reduceCtorEq, ↓reduceIte, Nat.reduceEqDiff, Nat.reduceLeDiff, Nat.reduceAdd, Nat.reduceLT, Int.reduceEq, Int.reduceLT, Int.reduceLE, Int.reduceNeg, Int.reduceAdd, c49]
  (first | with_reducible refine (bsSaid_c _ _ _ _ _ hl).x fun n' hn' => ?_ | with_reducible refine xfn_intro (bsSaid_c _ _ _ _ _ hl) ?_); try simp -dsimp -implicitDefEqProofs (disch := omega) only [↓wpre, push_cast, reduceCtorEq, ↓reduceIte, Nat.reduceEqDiff, Nat.reduceLeDiff, Nat.reduceAdd, Nat.reduceLT, Int.reduceEq, Int.reduceLT, Int.reduceLE, Int.reduceNeg, Int.reduceAdd, even_stms']
  simp [upTo, List.map_take]
def idxGo (x : Int) : Int → List Int → Int
  | _, [] => -1
  | i, y :: r => if x = y then i else idxGo x (i + 1) r
theorem index_c (nz : Bool) (l : List Int) (x : Int) (hl : l.length ≤ 1000000) : AFn Tryz.prog G 52 [.ls nz (l.map fun x => [AV.int x]), .int x] H (.int (idxGo x 0 l)) := by
  refine AFn.start mix F52 (by simp) fun k hlow => ?_
  simp -dsimp -implicitDefEqProofs (disch := omega) only [↓wpre, push_cast, reduceCtorEq, ↓reduceIte, Nat.reduceEqDiff, Nat.reduceLeDiff, Nat.reduceAdd, Nat.reduceLT, Int.reduceEq, Int.reduceLT, Int.reduceLE, Int.reduceNeg, Int.reduceAdd, c52]
  refine xw_loopJ (σ := List Int × List Int) (fun t => [(0, .ls nz (l.map fun x => [AV.int x])), (1, .int x), (6, .ls nz (l.map fun x => [AV.int x])), (7, .int l.length), (8, .int t.1.length)]) (fun t H' n' => l = t.1 ++ t.2 ∧ idxGo x t.1.length t.2 = idxGo x 0 l ∧ Qt H H' n') (fun t => t.2.length) ([], l) ⟨rfl, rfl, .refl hlow⟩ (by simp -dsimp -implicitDefEqProofs (disch := omega) only [↓wpre, push_cast, reduceCtorEq, ↓reduceIte, Nat.reduceEqDiff, Nat.reduceLeDiff, Nat.reduceAdd, Nat.reduceLT, Int.reduceEq, Int.reduceLT, Int.reduceLE, Int.reduceNeg, Int.reduceAdd]) ?_
  rintro ⟨a, b⟩ fr H' n ⟨rfl, hf, hq⟩ hh
  simp only [has_nil, has_cons, and_true, List.length_append] at hh hl hf
  cases b with
  | nil =>
    simp -dsimp -implicitDefEqProofs (disch := omega) only [↓wpre, push_cast, reduceCtorEq, ↓reduceIte, Nat.reduceEqDiff, Nat.reduceLeDiff, Nat.reduceAdd, Nat.reduceLT, Int.reduceEq, Int.reduceLT, Int.reduceLE, Int.reduceNeg, Int.reduceAdd, hh]
    simp only [List.append_nil] at hf
    exact ⟨by rw [← hf]; rfl, hq.1⟩
  | cons y b =>
    simp only [List.length_cons] at hl
    have hlt : (a.length : Int) < a.length + (b.length + 1) := by omega
    rw [idxGo] at hf
    simp -dsimp -implicitDefEqProofs (disch := omega) only [↓wpre, push_cast, reduceCtorEq, ↓reduceIte, Nat.reduceEqDiff, Nat.reduceLeDiff, Nat.reduceAdd, Nat.reduceLT, Int.reduceEq, Int.reduceLT, Int.reduceLE, Int.reduceNeg, Int.reduceAdd, hh, hlt, even_ints', aidx_split]
    (first | with_reducible refine cnd_ndec (fun hc => ?_) (fun hc => ?_) | with_reducible refine cnd_dec (fun hc => ?_) (fun hc => ?_) | with_reducible refine cnd_nb (fun hc => ?_) (fun hc => ?_) | with_reducible refine cnd_intro (fun hc => ?_) (fun hc => ?_)) <;> (first | (exfalso; omega) | (try simp -dsimp -implicitDefEqProofs (disch := omega) only [↓wpre, push_cast, reduceCtorEq, ↓reduceIte, Nat.reduceEqDiff, Nat.reduceLeDiff, Nat.reduceAdd, Nat.reduceLT, Int.reduceEq, Int.reduceLT, Int.reduceLE, Int.reduceNeg, Int.reduceAdd, hc, hh]))
    · rw [if_pos hc] at hf
      subst hc
      exact ⟨by rw [← hf], by exact (Qt.mono (n := n) (by repeat (first | exact hq | refine Qt.hu ?_ (by omega))) (Nat.le_refl _)).1⟩
    · refine againJ (a ++ [y], b) (Nat.lt_succ_self _) ⟨by simp, ?_, by exact Qt.mono (n := n) (by repeat (first | exact hq | refine Qt.hu ?_ (by omega))) (by omega)⟩ (by simp -dsimp -implicitDefEqProofs (disch := omega) only [↓wpre, push_cast, reduceCtorEq, ↓reduceIte, Nat.reduceEqDiff, Nat.reduceLeDiff, Nat.reduceAdd, Nat.reduceLT, Int.reduceEq, Int.reduceLT, Int.reduceLE, Int.reduceNeg, Int.reduceAdd, hh])
      rw [← hf, if_neg hc]
      simp
theorem index4_c (a b c d x : Int) : AFn Tryz.prog G 52 [.ls true [[.int a], [.int b], [.int c], [.int d]], .int x] H (.int (idxGo x 0 [a, b, c, d])) := index_c G H true [a, b, c, d] x (by simp)
theorem rank_c (w : Int) : AFn Tryz.prog G 111 [.int w] H (.int (rank w)) := by
  refine AFn.start mix F111 (by simp) fun k hlow => ?_
  simp -dsimp -implicitDefEqProofs (disch := omega) only [↓wpre, push_cast, reduceCtorEq, ↓reduceIte, Nat.reduceEqDiff, Nat.reduceLeDiff, Nat.reduceAdd, Nat.reduceLT, Int.reduceEq, Int.reduceLT, Int.reduceLE, Int.reduceNeg, Int.reduceAdd, c111]
  (first | with_reducible refine (index4_c _ _ _ _ _ _ _).x fun n' hn' => ?_ | with_reducible refine xfn_intro (index4_c _ _ _ _ _ _ _) ?_); try simp -dsimp -implicitDefEqProofs (disch := omega) only [↓wpre, push_cast, reduceCtorEq, ↓reduceIte, Nat.reduceEqDiff, Nat.reduceLeDiff, Nat.reduceAdd, Nat.reduceLT, Int.reduceEq, Int.reduceLT, Int.reduceLE, Int.reduceNeg, Int.reduceAdd, true_and]
  simp only [idxGo, rank]
  rfl
theorem confirmation_c (nz : Bool) (l : List Stm) (purpose : T) (lo hi : Int) (hl : l.length ≤ 1000000) : AFn Tryz.prog G 50 [.ls nz (l.map Stm.c), .str purpose, .int lo, .int hi] H (.tup [.agg ((confirmation l purpose lo hi).getD noStm).c, .bool (confirmation l purpose lo hi).isSome]) := by
  refine AFn.start mix F50 (by simp) fun k hlow => ?_
  simp -dsimp -implicitDefEqProofs (disch := omega) only [↓wpre, push_cast, reduceCtorEq, ↓reduceIte, Nat.reduceEqDiff, Nat.reduceLeDiff, Nat.reduceAdd, Nat.reduceLT, Int.reduceEq, Int.reduceLT, Int.reduceLE, Int.reduceNeg, Int.reduceAdd, c50]
  refine xw_loopJ (σ := List Stm × List Stm) (fun t => [(1, .str purpose), (2, .int lo), (3, .int hi), (8, .op k 0 0), (12, .ls nz (l.map Stm.c)), (13, .int l.length), (14, .int t.1.length)]) (fun t H' n' => l = t.1 ++ t.2 ∧ confirmation t.2 purpose lo hi = confirmation l purpose lo hi ∧ Qt H H' k ∧ k < n' ∧ H' k = some ⟨43, 8, [noStm.c]⟩) (fun t => t.2.length) ([], l) ⟨rfl, rfl, (Qt.refl hlow).hu (Nat.le_refl _), Nat.lt_succ_self _, hu_same⟩ (by simp -dsimp -implicitDefEqProofs (disch := omega) only [↓wpre, push_cast, reduceCtorEq, ↓reduceIte, Nat.reduceEqDiff, Nat.reduceLeDiff, Nat.reduceAdd, Nat.reduceLT, Int.reduceEq, Int.reduceLT, Int.reduceLE, Int.reduceNeg, Int.reduceAdd]) ?_
  rintro ⟨a, b⟩ fr H' n ⟨rfl, hf, hq, hk, hkk⟩ hh
  simp only [has_nil, has_cons, and_true, List.length_append] at hh hl hf
  cases b with
  | nil =>
    simp -dsimp -implicitDefEqProofs (disch := omega) only [↓wpre, push_cast, reduceCtorEq, ↓reduceIte, Nat.reduceEqDiff, Nat.reduceLeDiff, Nat.reduceAdd, Nat.reduceLT, Int.reduceEq, Int.reduceLT, Int.reduceLE, Int.reduceNeg, Int.reduceAdd, hh, hkk]
    simp only [List.append_nil] at hf
    exact ⟨by rw [← hf]; rfl, by exact (Qt.mono (n := k) (by repeat (first | exact hq | refine Qt.hu ?_ (by omega))) (Nat.le_refl _)).1⟩
  | cons s b =>
    simp only [List.length_cons] at hl
    have hlt : (a.length : Int) < a.length + (b.length + 1) := by omega
    have hcf : confirmation (s :: b) purpose lo hi = if (decide (s.what = 2) && decide (s.purpose = purpose) && Pm.within s.at' lo hi) = true then some s else confirmation b purpose lo hi := by
      simp only [confirmation, List.find?_cons]
      split <;> simp_all
    simp -dsimp -implicitDefEqProofs (disch := omega) only [↓wpre, push_cast, reduceCtorEq, ↓reduceIte, Nat.reduceEqDiff, Nat.reduceLeDiff, Nat.reduceAdd, Nat.reduceLT, Int.reduceEq, Int.reduceLT, Int.reduceLE, Int.reduceNeg, Int.reduceAdd, hh, hlt, even_stms', aidx_split, hkk]
    repeat' (first | ((first | with_reducible refine cnd_ndec (fun hc => ?_) (fun hc => ?_) | with_reducible refine cnd_dec (fun hc => ?_) (fun hc => ?_) | with_reducible refine cnd_nb (fun hc => ?_) (fun hc => ?_) | with_reducible refine cnd_intro (fun hc => ?_) (fun hc => ?_)) <;> (first | (exfalso; omega) | (try simp -dsimp -implicitDefEqProofs (disch := omega) only [↓wpre, push_cast, reduceCtorEq, ↓reduceIte, Nat.reduceEqDiff, Nat.reduceLeDiff, Nat.reduceAdd, Nat.reduceLT, Int.reduceEq, Int.reduceLT, Int.reduceLE, Int.reduceNeg, Int.reduceAdd, hc, hh, hkk]))) | (with_reducible refine anyN_intro fun n' hn' => ?_; try simp -dsimp -implicitDefEqProofs (disch := omega) only [↓wpre, push_cast, reduceCtorEq, ↓reduceIte, Nat.reduceEqDiff, Nat.reduceLeDiff, Nat.reduceAdd, Nat.reduceLT, Int.reduceEq, Int.reduceLT, Int.reduceLE, Int.reduceNeg, Int.reduceAdd, hh, hkk]) | ((first | with_reducible refine (within_c _ _ _ _ _).x fun n' hn' => ?_ | with_reducible refine xfn_intro (within_c _ _ _ _ _) ?_); try simp -dsimp -implicitDefEqProofs (disch := omega) only [↓wpre, push_cast, reduceCtorEq, ↓reduceIte, Nat.reduceEqDiff, Nat.reduceLeDiff, Nat.reduceAdd, Nat.reduceLT, Int.reduceEq, Int.reduceLT, Int.reduceLE, Int.reduceNeg, Int.reduceAdd, hh, hkk, Pm.within]))
    all_goals first
      | (refine againJ (a ++ [s], b) (Nat.lt_succ_self _) ⟨by simp, ?_, by exact Qt.mono (n := k) (by repeat (first | exact hq | refine Qt.hu ?_ (by omega))) (by omega), by omega, ?_⟩ (by simp -dsimp -implicitDefEqProofs (disch := omega) only [↓wpre, push_cast, reduceCtorEq, ↓reduceIte, Nat.reduceEqDiff, Nat.reduceLeDiff, Nat.reduceAdd, Nat.reduceLT, Int.reduceEq, Int.reduceLT, Int.reduceLE, Int.reduceNeg, Int.reduceAdd, hh])
         · rw [← hf, hcf, if_neg (by simp_all [Pm.within])]
         · simp -dsimp -implicitDefEqProofs (disch := omega) only [↓wpre, push_cast, reduceCtorEq, ↓reduceIte, Nat.reduceEqDiff, Nat.reduceLeDiff, Nat.reduceAdd, Nat.reduceLT, Int.reduceEq, Int.reduceLT, Int.reduceLE, Int.reduceNeg, Int.reduceAdd, hkk])
      | exact ⟨by rw [← hf, hcf, if_pos (by simp_all [Pm.within])]; simp_all [Stm.c], by exact (Qt.mono (n := k) (by repeat (first | exact hq | refine Qt.hu ?_ (by omega))) (Nat.le_refl _)).1⟩
theorem stateOf_c (nz : Bool) (l : List Stm) (t : Term) (g : Stm) (at' : Int) (hl : l.length ≤ 1000000) (ht : 0 ≤ t.days ∧ t.days ≤ 100000 ∧ 0 ≤ t.wait ∧ t.wait ≤ 1000000) (hg : 0 ≤ g.at' ∧ g.at' ≤ 10000000) : AFn Tryz.prog G 110 [.ls nz (l.map Stm.c), .agg t.c, .agg g.c, .int at'] H (.int (stateOf l t g at')) := by
  refine AFn.start mix F110 (by simp) fun k hlow => ?_
  simp -dsimp -implicitDefEqProofs (disch := omega) only [↓wpre, push_cast, reduceCtorEq, ↓reduceIte, Nat.reduceEqDiff, Nat.reduceLeDiff, Nat.reduceAdd, Nat.reduceLT, Int.reduceEq, Int.reduceLT, Int.reduceLE, Int.reduceNeg, Int.reduceAdd, c110]
  repeat' (first | ((first | with_reducible refine cnd_ndec (fun hc => ?_) (fun hc => ?_) | with_reducible refine cnd_dec (fun hc => ?_) (fun hc => ?_) | with_reducible refine cnd_nb (fun hc => ?_) (fun hc => ?_) | with_reducible refine cnd_intro (fun hc => ?_) (fun hc => ?_)) <;> (first | (exfalso; omega) | (try simp -dsimp -implicitDefEqProofs (disch := omega) only [↓wpre, push_cast, reduceCtorEq, ↓reduceIte, Nat.reduceEqDiff, Nat.reduceLeDiff, Nat.reduceAdd, Nat.reduceLT, Int.reduceEq, Int.reduceLT, Int.reduceLE, Int.reduceNeg, Int.reduceAdd, hc, true_and]))) | (with_reducible refine anyN_intro fun n' hn' => ?_; try simp -dsimp -implicitDefEqProofs (disch := omega) only [↓wpre, push_cast, reduceCtorEq, ↓reduceIte, Nat.reduceEqDiff, Nat.reduceLeDiff, Nat.reduceAdd, Nat.reduceLT, Int.reduceEq, Int.reduceLT, Int.reduceLE, Int.reduceNeg, Int.reduceAdd, true_and]) | ((first | with_reducible refine (confirmation_c _ _ nz l _ _ _ hl).x fun n' hn' => ?_ | with_reducible refine xfn_intro (confirmation_c _ _ nz l _ _ _ hl) ?_); try simp -dsimp -implicitDefEqProofs (disch := omega) only [↓wpre, push_cast, reduceCtorEq, ↓reduceIte, Nat.reduceEqDiff, Nat.reduceLeDiff, Nat.reduceAdd, Nat.reduceLT, Int.reduceEq, Int.reduceLT, Int.reduceLE, Int.reduceNeg, Int.reduceAdd, true_and]))
  all_goals have hq := Qt.refl hlow
  all_goals first
    | (refine ⟨?_, by exact (Qt.mono (n := k) (by repeat (first | exact hq | refine Qt.hu ?_ (by omega))) (Nat.le_refl _)).1⟩; grind [stateOf])
    | grind [stateOf]
end Go.Proofs.YthcedgclhoggcaaGreatDoor

