/- Contracts of functions of the program: each computes what its model says; the conditions stand at each. -/
import Derived.Test.YtdbfkibbhmbaoaaGreatDoorE3
set_option linter.unusedSimpArgs false
set_option linter.unusedVariables false
set_option maxRecDepth 20000
set_option pp.deepTerms false
set_option pp.deepTerms.threshold 3
namespace Go.Proofs.YtdbfkibbhmbaoaaGreatDoor
open Go Go.Ab Go.Pm Go.Cm Go.El Go.Em Go.Rm
variable (G : Nat → AV) (H : Nat → Option AObj)
/-! Check of a list that is right. -/
theorem order_c (a b : Evt) : AFn Tryz.prog G 99 [.agg a.c, .agg b.c] H (.int (cmpOr [cmpI a.at' b.at', cmpS a.id b.id])) := by
  refine AFn.start mix F99 (by simp) fun k hlow => ?_
  simp -dsimp -implicitDefEqProofs (disch := omega) only [↓wpre, push_cast, reduceCtorEq, ↓reduceIte, Nat.reduceEqDiff, Nat.reduceLeDiff, Nat.reduceAdd, Nat.reduceLT, Int.reduceEq, Int.reduceLT, Int.reduceLE, Int.reduceNeg, Int.reduceAdd, c99]
  repeat' (first | ((first | with_reducible refine cnd_ndec (fun hc => ?_) (fun hc => ?_) | with_reducible refine cnd_dec (fun hc => ?_) (fun hc => ?_) | with_reducible refine cnd_nb (fun hc => ?_) (fun hc => ?_) | with_reducible refine cnd_intro (fun hc => ?_) (fun hc => ?_)) <;> (first | (exfalso; omega) | (try simp -dsimp -implicitDefEqProofs (disch := omega) only [↓wpre, push_cast, reduceCtorEq, ↓reduceIte, Nat.reduceEqDiff, Nat.reduceLeDiff, Nat.reduceAdd, Nat.reduceLT, Int.reduceEq, Int.reduceLT, Int.reduceLE, Int.reduceNeg, Int.reduceAdd, hc, true_and]))) | (with_reducible refine anyN_intro fun n' hn' => ?_; try simp -dsimp -implicitDefEqProofs (disch := omega) only [↓wpre, push_cast, reduceCtorEq, ↓reduceIte, Nat.reduceEqDiff, Nat.reduceLeDiff, Nat.reduceAdd, Nat.reduceLT, Int.reduceEq, Int.reduceLT, Int.reduceLE, Int.reduceNeg, Int.reduceAdd, true_and]) | ((first | with_reducible refine (cmpI_c _ _ _ _).x fun n' hn' => ?_ | with_reducible refine xfn_intro (cmpI_c _ _ _ _) ?_); try simp -dsimp -implicitDefEqProofs (disch := omega) only [↓wpre, push_cast, reduceCtorEq, ↓reduceIte, Nat.reduceEqDiff, Nat.reduceLeDiff, Nat.reduceAdd, Nat.reduceLT, Int.reduceEq, Int.reduceLT, Int.reduceLE, Int.reduceNeg, Int.reduceAdd, true_and]) | ((first | with_reducible refine (cmpS_c _ _ _ _).x fun n' hn' => ?_ | with_reducible refine xfn_intro (cmpS_c _ _ _ _) ?_); try simp -dsimp -implicitDefEqProofs (disch := omega) only [↓wpre, push_cast, reduceCtorEq, ↓reduceIte, Nat.reduceEqDiff, Nat.reduceLeDiff, Nat.reduceAdd, Nat.reduceLT, Int.reduceEq, Int.reduceLT, Int.reduceLE, Int.reduceNeg, Int.reduceAdd, true_and]) | ((first | with_reducible refine (cmpOr_c _ _ [cmpI a.at' b.at', cmpS a.id b.id] (by simp)).x fun n' hn' => ?_ | with_reducible refine xfn_intro (cmpOr_c _ _ [cmpI a.at' b.at', cmpS a.id b.id] (by simp)) ?_); try simp -dsimp -implicitDefEqProofs (disch := omega) only [↓wpre, push_cast, reduceCtorEq, ↓reduceIte, Nat.reduceEqDiff, Nat.reduceLeDiff, Nat.reduceAdd, Nat.reduceLT, Int.reduceEq, Int.reduceLT, Int.reduceLE, Int.reduceNeg, Int.reduceAdd, true_and]))
theorem order_lt {a b : Evt} (h : Bf a b) : cmpOr [cmpI a.at' b.at', cmpS a.id b.id] = -1 := by
  rcases h with h | ⟨h, k⟩
  · have : cmpI a.at' b.at' = -1 := by simp [cmpI, h]
    simp [cmpOr, this]
  · have : cmpI a.at' b.at' = 0 := by simp [cmpI, h]
    have h3 := Co.cmpS_lt k
    simp only [cmpOr, this, h3]
    decide
set_option maxHeartbeats 3200000 in
theorem check_c (hU : GU G) (nz : Bool) (l : List Evt) (hg : Em.Good l) : AFn Tryz.prog G 45 [.ls nz (l.map Evt.c)] H (.int 0) := by
  have hfew := hg.few
  have hl5 : ¬ (5000 : Int) < l.length := by omega
  refine AFn.start mix F45 (by simp) fun k hlow => ?_
  simp -dsimp -implicitDefEqProofs (disch := omega) only [↓wpre, push_cast, reduceCtorEq, ↓reduceIte, Nat.reduceEqDiff, Nat.reduceLeDiff, Nat.reduceAdd, Nat.reduceLT, Int.reduceEq, Int.reduceLT, Int.reduceLE, Int.reduceNeg, Int.reduceAdd, c45, hl5]
  refine xw_loopJ (σ := List Evt × List Evt) (fun t => [(3, .om k), (0, .ls nz (l.map Evt.c)), (11, .ls nz (l.map Evt.c)), (12, .int l.length), (13, .int t.1.length)]) (fun t H' n' => l = t.1 ++ t.2 ∧ (∃ E rows, H' k = some ⟨E, 2, rows⟩ ∧ ∀ x : T, x ∉ t.1.map Evt.id → mget rows (.str x) = none) ∧ Qt H H' k ∧ k < n') (fun t => t.2.length) ([], l) ⟨rfl, ⟨_, _, hu_same, fun x _ => rfl⟩, (Qt.refl hlow).hu (Nat.le_refl _), by omega⟩ (by simp -dsimp -implicitDefEqProofs (disch := omega) only [↓wpre, push_cast, reduceCtorEq, ↓reduceIte, Nat.reduceEqDiff, Nat.reduceLeDiff, Nat.reduceAdd, Nat.reduceLT, Int.reduceEq, Int.reduceLT, Int.reduceLE, Int.reduceNeg, Int.reduceAdd]) ?_
  rintro ⟨a, b⟩ fr H' n ⟨hab, ⟨E, rows, ho, hr⟩, hq, hn⟩ hh
  simp only [has_nil, has_cons, and_true] at hh hab hr
  have hll : l.length = a.length + b.length := by rw [hab]; simp
  cases b with
  | nil =>
    have hnl : ¬ (a.length : Int) < l.length := by rw [hll]; simp
    simp -dsimp -implicitDefEqProofs (disch := omega) only [↓wpre, push_cast, reduceCtorEq, ↓reduceIte, Nat.reduceEqDiff, Nat.reduceLeDiff, Nat.reduceAdd, Nat.reduceLT, Int.reduceEq, Int.reduceLT, Int.reduceLE, Int.reduceNeg, Int.reduceAdd, hh, hnl]
    first | exact hq.1 | exact ⟨rfl, hq.1⟩
  | cons e b =>
    have hlt : (a.length : Int) < l.length := by rw [hll]; simp only [List.length_cons]; omega
    have hx : l[a.length]? = some e := by rw [hab]; simp
    have hmem : e ∈ l := by rw [hab]; simp
    have hok := hg.ok e hmem
    have hsm := hg.small e hmem
    have hid : e.id ∉ a.map Evt.id := by
      have := hg.ids
      rw [hab, List.map_append, List.map_cons] at this
      have := (List.nodup_append.1 this).2.2
      intro hin
      exact this _ hin e.id (by simp) rfl
    have hmg := hr e.id hid
    have hkn : k ≠ n := by omega
    have hnext : ∀ rows' : List (List AV), rows' = mput rows (.str e.id) (.bool true) → ∀ x : T, x ∉ (a ++ [e]).map Evt.id → mget rows' (.str x) = none := fun rows' hr' x hx => by
      rw [hr', mget_put]
      rw [List.map_append, List.mem_append] at hx
      rw [if_neg (fun e' => hx (.inr (by simp at e' ⊢; exact e')))]
      exact hr x fun h => hx (.inl h)
    simp -dsimp -implicitDefEqProofs (disch := omega) only [↓wpre, push_cast, reduceCtorEq, ↓reduceIte, Nat.reduceEqDiff, Nat.reduceLeDiff, Nat.reduceAdd, Nat.reduceLT, Int.reduceEq, Int.reduceLT, Int.reduceLE, Int.reduceNeg, Int.reduceAdd, hh, hlt, even_evts, aidx_at _ hx]
    (first | with_reducible refine (checkOne_c _ _ hU e hsm).x fun n' hn' => ?_ | with_reducible refine xfn_intro (checkOne_c _ _ hU e hsm) ?_); try simp -dsimp -implicitDefEqProofs (disch := omega) only [↓wpre, push_cast, reduceCtorEq, ↓reduceIte, Nat.reduceEqDiff, Nat.reduceLeDiff, Nat.reduceAdd, Nat.reduceLT, Int.reduceEq, Int.reduceLT, Int.reduceLE, Int.reduceNeg, Int.reduceAdd, hh, hok]
    cases hp : a.getLast? with
    | none =>
      have hz := len_of_none hp
      repeat' (first | ((first | with_reducible refine cnd_ndec (fun hc => ?_) (fun hc => ?_) | with_reducible refine cnd_dec (fun hc => ?_) (fun hc => ?_) | with_reducible refine cnd_nb (fun hc => ?_) (fun hc => ?_) | with_reducible refine cnd_intro (fun hc => ?_) (fun hc => ?_)) <;> (first | (exfalso; omega) | (try simp -dsimp -implicitDefEqProofs (disch := omega) only [↓wpre, push_cast, reduceCtorEq, ↓reduceIte, Nat.reduceEqDiff, Nat.reduceLeDiff, Nat.reduceAdd, Nat.reduceLT, Int.reduceEq, Int.reduceLT, Int.reduceLE, Int.reduceNeg, Int.reduceAdd, hc, hh, hz, ho, hmg]))) | (with_reducible refine anyN_intro fun n' hn' => ?_; try simp -dsimp -implicitDefEqProofs (disch := omega) only [↓wpre, push_cast, reduceCtorEq, ↓reduceIte, Nat.reduceEqDiff, Nat.reduceLeDiff, Nat.reduceAdd, Nat.reduceLT, Int.reduceEq, Int.reduceLT, Int.reduceLE, Int.reduceNeg, Int.reduceAdd, hh, hz, ho, hmg]) | fail)
      all_goals (refine againJ (a ++ [e], b) (Nat.lt_succ_self _) ⟨by rw [hab]; simp, ⟨_, _, hu_same, hnext _ rfl⟩, by exact Qt.mono (n := k) (by repeat (first | exact hq | refine Qt.hu ?_ (by omega))) (by omega), by omega⟩ (by simp -dsimp -implicitDefEqProofs (disch := omega) only [↓wpre, push_cast, reduceCtorEq, ↓reduceIte, Nat.reduceEqDiff, Nat.reduceLeDiff, Nat.reduceAdd, Nat.reduceLT, Int.reduceEq, Int.reduceLT, Int.reduceLE, Int.reduceNeg, Int.reduceAdd, hh]; all_goals (try simp only [AV.lit.injEq, Value.int.injEq, Value.bool.injEq, true_and, and_true]); all_goals (try (repeat' apply And.intro)); all_goals (first | rfl | omega | simp_all | skip)))
    | some p =>
      have hz := len_of_last hp
      have hpx : l[a.length - 1]? = some p := by
        rw [hab, List.getElem?_append_left (by omega), ← List.getLast?_eq_getElem?, hp]
      have e1 : ((a.length : Int) - 1) = ((a.length - 1 : Nat) : Int) := by omega
      have hbf : Bf p e := by
        have := List.pairwise_iff_getElem.1 hg.order (a.length - 1) a.length (by omega) (by rw [hll]; simp) (by omega)
        rw [(List.getElem?_eq_some_iff.1 hpx).2, (List.getElem?_eq_some_iff.1 hx).2] at this
        exact this
      have hord := order_lt hbf
      repeat' (first | ((first | with_reducible refine cnd_ndec (fun hc => ?_) (fun hc => ?_) | with_reducible refine cnd_dec (fun hc => ?_) (fun hc => ?_) | with_reducible refine cnd_nb (fun hc => ?_) (fun hc => ?_) | with_reducible refine cnd_intro (fun hc => ?_) (fun hc => ?_)) <;> (first | (exfalso; omega) | (try simp -dsimp -implicitDefEqProofs (disch := omega) only [↓wpre, push_cast, reduceCtorEq, ↓reduceIte, Nat.reduceEqDiff, Nat.reduceLeDiff, Nat.reduceAdd, Nat.reduceLT, Int.reduceEq, Int.reduceLT, Int.reduceLE, Int.reduceNeg, Int.reduceAdd, hc, hh, hz, even_evts, aidx_at e1 hpx, ho, hmg]))) | (with_reducible refine anyN_intro fun n' hn' => ?_; try simp -dsimp -implicitDefEqProofs (disch := omega) only [↓wpre, push_cast, reduceCtorEq, ↓reduceIte, Nat.reduceEqDiff, Nat.reduceLeDiff, Nat.reduceAdd, Nat.reduceLT, Int.reduceEq, Int.reduceLT, Int.reduceLE, Int.reduceNeg, Int.reduceAdd, hh, hz, even_evts, aidx_at e1 hpx, ho, hmg]) | ((first | with_reducible refine (order_c _ _ p e).x fun n' hn' => ?_ | with_reducible refine xfn_intro (order_c _ _ p e) ?_); try simp -dsimp -implicitDefEqProofs (disch := omega) only [↓wpre, push_cast, reduceCtorEq, ↓reduceIte, Nat.reduceEqDiff, Nat.reduceLeDiff, Nat.reduceAdd, Nat.reduceLT, Int.reduceEq, Int.reduceLT, Int.reduceLE, Int.reduceNeg, Int.reduceAdd, hh, hord, ho, hmg]))
      all_goals (refine againJ (a ++ [e], b) (Nat.lt_succ_self _) ⟨by rw [hab]; simp, ⟨_, _, hu_same, hnext _ rfl⟩, by exact Qt.mono (n := k) (by repeat (first | exact hq | refine Qt.hu ?_ (by omega))) (by omega), by omega⟩ (by simp -dsimp -implicitDefEqProofs (disch := omega) only [↓wpre, push_cast, reduceCtorEq, ↓reduceIte, Nat.reduceEqDiff, Nat.reduceLeDiff, Nat.reduceAdd, Nat.reduceLT, Int.reduceEq, Int.reduceLT, Int.reduceLE, Int.reduceNeg, Int.reduceAdd, hh]; all_goals (try simp only [AV.lit.injEq, Value.int.injEq, Value.bool.injEq, true_and, and_true]); all_goals (try (repeat' apply And.intro)); all_goals (first | rfl | omega | simp_all | skip)))
end Go.Proofs.YtdbfkibbhmbaoaaGreatDoor

