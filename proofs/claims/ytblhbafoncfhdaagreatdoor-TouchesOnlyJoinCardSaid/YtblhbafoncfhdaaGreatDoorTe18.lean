/- Contracts of functions of the program: each computes what its model says; the conditions stand at each. -/
import Derived.Test.YtblhbafoncfhdaaGreatDoorTe17
set_option linter.unusedSimpArgs false
set_option linter.unusedVariables false
set_option maxRecDepth 20000
set_option pp.deepTerms false
set_option pp.deepTerms.threshold 3
namespace Go.Proofs.YtblhbafoncfhdaaGreatDoor
open Go Go.Ab Go.Pm Go.Cm Go.El Go.Rm
variable (G : Nat → AV) (H : Nat → Option AObj)
abbrev lsP (l : List Int) : AV := .ls (decide (l ≠ [])) (l.map fun x => [AV.int x])
theorem plain_ints (l : List Int) : ∀ r ∈ l.map (fun x => [AV.int x]), plain r = true := fun r hr => by
  obtain ⟨s, _, rfl⟩ := List.mem_map.1 hr; rfl
theorem points_c (hU : GU G) (s : T) (hs : s.size ≤ 1000000) : AFn Tryz.prog G 293 [.str s] H (lsP (pts s)) := by
  intro n
  refine ACalls.frz (points_run G H hU s hs n) ?_
  rintro r H1 n1 ⟨h1, ⟨h2, rfl⟩ | ⟨o, rfl, h3, h4, h5⟩⟩
  · exact ⟨fun _ => none, H, 0, fun _ _ h => (by cases h), h1, fun _ _ h => (by cases h), by rw [h2]; exact ⟨rfl, rfl⟩⟩
  · refine ⟨Ab.only o ⟨3, 1, (pts s).map fun x => [AV.int x]⟩, H, 1, only_sub h3, h1, fun j x hj => ?_, ?_, rfl⟩
    · unfold Ab.only at hj
      split at hj
      · rename_i e; subst e; exact h4
      · cases hj
    · rw [frz_os_plain (plain_ints _) (by simp)]
      simp [lsP, h5]
set_option maxHeartbeats 3200000 in
theorem rvalue_c (hU : GU G) (v : Val) (hs : v.text.size ≤ 1000000) : AFn Tryz.prog G 263 [.agg v.c] H (.int (rValue v)) := by
  obtain ⟨kind, t, num⟩ := v
  have hs : t.size ≤ 1000000 := hs
  have hpl : (pts t).length ≤ 1000000 := Nat.le_trans (pts_len _ _) hs
  refine AFn.start mix F263 (by simp) fun k hlow => ?_
  have hq := Qt.refl hlow
  by_cases hk : within kind 1 4 = false
  · have hR : rValue ⟨kind, t, num⟩ = 4 := if_pos hk
    simp -dsimp -implicitDefEqProofs (disch := omega) only [↓wpre, push_cast, seval, c263]
    (first | with_reducible refine (in_c _ _ _ _ _).x fun n' hn' => ?_ | with_reducible refine xfn_intro (in_c _ _ _ _ _) ?_); try simp -dsimp -implicitDefEqProofs (disch := omega) only [↓wpre, push_cast, seval, hk]
    rw [hR]
  have hk1 : within kind 1 4 = true := by simpa using hk
  by_cases h1 : kind = 1
  · subst h1
    simp -dsimp -implicitDefEqProofs (disch := omega) only [↓wpre, push_cast, seval, c263]
    (first | with_reducible refine (in_c _ _ _ _ _).x fun n' hn' => ?_ | with_reducible refine xfn_intro (in_c _ _ _ _ _) ?_); try simp -dsimp -implicitDefEqProofs (disch := omega) only [↓wpre, push_cast, seval, hk1]
    by_cases hn : num = 0
    · by_cases hz : (200 : Int) < t.size
      · have hR : rValue ⟨1, t, num⟩ = 2 := by simp [rValue, hk1, hn, hz]
        rw [hR]
        simp -dsimp -implicitDefEqProofs (disch := omega) only [↓wpre, push_cast, seval, hn, hz]
      · have hR : rValue ⟨1, t, num⟩ = if rText t = false then 3 else 0 := by simp [rValue, hk1, hn, hz]
        rw [hR]
        simp -dsimp -implicitDefEqProofs (disch := omega) only [↓wpre, push_cast, seval, hn, hz]
        (first | with_reducible refine (points_c _ _ hU t hs).x fun n' hn' => ?_ | with_reducible refine xfn_intro (points_c _ _ hU t hs) ?_); try simp -dsimp -implicitDefEqProofs (disch := omega) only [↓wpre, push_cast, seval, true_and]
        have hT : rText t = (pts t).all fun p => !(decide (p < 32) || decide (p = 127)) := rfl
        generalize rText t = rt at *
        generalize pts t = ps at *
        refine xw_loopJ (σ := List Int × List Int) (fun u => [(25, lsP ps), (26, .int ps.length), (27, .int u.1.length)]) (fun u H' n' => ps = u.1 ++ u.2 ∧ (u.2.all fun p => !(decide (p < 32) || decide (p = 127))) = rt ∧ Qt H H' n') (fun u => u.2.length) ([], ps) ⟨rfl, hT.symm, by exact Qt.mono (n := k) (by repeat (first | exact hq | refine Qt.hu ?_ (by omega))) (by omega)⟩ (by simp -dsimp -implicitDefEqProofs (disch := omega) only [↓wpre, push_cast, seval]) ?_
        clear hT hq hR
        rintro ⟨a, b⟩ fr H' n ⟨hab, hf, hq⟩ hh
        simp only [has_nil, has_cons, and_true] at hh hab hf
        have hll : ps.length = a.length + b.length := by rw [hab]; simp
        cases b with
        | nil =>
          have hnl : ¬ (a.length : Int) < ps.length := by rw [hll]; simp
          rw [← hf]
          simp -dsimp -implicitDefEqProofs (disch := omega) only [↓wpre, push_cast, seval, hh, hnl]
          first | exact hq.1 | exact ⟨rfl, hq.1⟩
        | cons p b =>
          have hlt : (a.length : Int) < ps.length := by rw [hll]; simp only [List.length_cons]; omega
          have hx : ps[a.length]? = some p := by rw [hab]; simp
          simp -dsimp -implicitDefEqProofs (disch := omega) only [↓wpre, push_cast, seval, hh, hlt, even_ints', aidx_at _ hx]
          repeat' (first | ((first | with_reducible refine cnd_ndec (fun hc => ?_) (fun hc => ?_) | with_reducible refine cnd_dec (fun hc => ?_) (fun hc => ?_) | with_reducible refine cnd_nb (fun hc => ?_) (fun hc => ?_) | with_reducible refine cnd_intro (fun hc => ?_) (fun hc => ?_)) <;> (first | (exfalso; omega) | (try simp -dsimp -implicitDefEqProofs (disch := omega) only [↓wpre, push_cast, seval, hc, hh]))) | (with_reducible refine anyN_intro fun n' hn' => ?_; try simp -dsimp -implicitDefEqProofs (disch := omega) only [↓wpre, push_cast, seval, hh]) | fail)
          all_goals first
            | (refine againJ (a ++ [p], b) (Nat.lt_succ_self _) ⟨by rw [hab]; simp, by rw [← hf, List.all_cons]; simp_all, by exact Qt.mono (n := n) (by repeat (first | exact hq | refine Qt.hu ?_ (by omega))) (by omega)⟩ (by simp -dsimp -implicitDefEqProofs (disch := omega) only [↓wpre, push_cast, seval, hh]; all_goals (try simp only [AV.lit.injEq, Value.int.injEq, Value.bool.injEq, true_and, and_true]); all_goals (try (repeat' apply And.intro)); all_goals (first | rfl | omega | simp_all | skip)))
            | (refine ⟨?_, hq.1⟩; rw [← hf, List.all_cons]; simp_all)
            | trace_state
    · have hR : rValue ⟨1, t, num⟩ = 3 := by simp [rValue, hk1, hn]
      rw [hR]
      simp -dsimp -implicitDefEqProofs (disch := omega) only [↓wpre, push_cast, seval, hn]
  by_cases ht : t = ⟨#[]⟩
  · have hR : rValue ⟨kind, t, num⟩ = if within num (rLow kind) (rHigh kind) = false then 1 else 0 := by simp [rValue, hk1, h1, ht]
    rw [hR]
    have hk2 : kind = 2 ∨ kind = 3 ∨ kind = 4 := by simp only [within, decide_eq_true_eq] at hk1; omega
    have t2 : Int.toNat 2 = 2 := rfl
    have t3 : Int.toNat 3 = 3 := rfl
    have t4 : Int.toNat 4 = 4 := rfl
    rcases hk2 with rfl | rfl | rfl
    all_goals
      simp -dsimp -implicitDefEqProofs (disch := omega) only [↓wpre, push_cast, seval, c263]
      (first | with_reducible refine (in_c _ _ _ _ _).x fun n' hn' => ?_ | with_reducible refine xfn_intro (in_c _ _ _ _ _) ?_); try simp -dsimp -implicitDefEqProofs (disch := omega) only [↓wpre, push_cast, seval, hk1]
      simp -dsimp -implicitDefEqProofs (disch := omega) only [↓wpre, push_cast, seval, ht, t2, t3, t4, Nat.mul_one, List.getElem?_cons_succ, List.getElem?_cons_zero]
      refine anyN_intro fun n2 hn2 => ?_
      simp -dsimp -implicitDefEqProofs (disch := omega) only [↓wpre, push_cast, seval, true_and]
      repeat' (first | ((first | with_reducible refine cnd_ndec (fun hc => ?_) (fun hc => ?_) | with_reducible refine cnd_dec (fun hc => ?_) (fun hc => ?_) | with_reducible refine cnd_nb (fun hc => ?_) (fun hc => ?_) | with_reducible refine cnd_intro (fun hc => ?_) (fun hc => ?_)) <;> (first | (exfalso; omega) | (try simp -dsimp -implicitDefEqProofs (disch := omega) only [↓wpre, push_cast, seval, hc, true_and]))) | (with_reducible refine anyN_intro fun n' hn' => ?_; try simp -dsimp -implicitDefEqProofs (disch := omega) only [↓wpre, push_cast, seval, true_and]) | ((first | with_reducible refine (in_c _ _ _ _ _).x fun n' hn' => ?_ | with_reducible refine xfn_intro (in_c _ _ _ _ _) ?_); try simp -dsimp -implicitDefEqProofs (disch := omega) only [↓wpre, push_cast, seval, true_and]))
      all_goals (simp only [rLow, rHigh]; simp_all)
  · have hR : rValue ⟨kind, t, num⟩ = 3 := by simp [rValue, hk1, h1, ht]
    rw [hR]
    simp -dsimp -implicitDefEqProofs (disch := omega) only [↓wpre, push_cast, seval, c263]
    (first | with_reducible refine (in_c _ _ _ _ _).x fun n' hn' => ?_ | with_reducible refine xfn_intro (in_c _ _ _ _ _) ?_); try simp -dsimp -implicitDefEqProofs (disch := omega) only [↓wpre, push_cast, seval, hk1]
    simp -dsimp -implicitDefEqProofs (disch := omega) only [↓wpre, push_cast, seval, h1, ht]
end Go.Proofs.YtblhbafoncfhdaaGreatDoor

