/- Contracts of functions of the program: each computes what its model says; the conditions stand at each. -/
import Derived.Test.YtdbfkibbhmbaoaaGreatDoorTe27
set_option linter.unusedSimpArgs false
set_option linter.unusedVariables false
set_option maxRecDepth 20000
set_option pp.deepTerms false
set_option pp.deepTerms.threshold 3
namespace Go.Proofs.YtdbfkibbhmbaoaaGreatDoor
open Go Go.Ab Go.Pm Go.Cm Go.El Go.Em Go.Rm
variable (G : Nat → AV) (H : Nat → Option AObj)
theorem runs_last {gap : Int} {rs : List (List Evt)} (h : Runs gap rs) {a : List Evt} {p : Evt} (hf : rs.flatten = a ++ [p]) : ∃ rs0 r0, rs = rs0 ++ [r0 ++ [p]] := by
  cases h with
  | nil => simp at hf
  | one =>
    rename_i e
    have : [e] = a ++ [p] := by simpa using hf
    have := (List.append_inj' (s₁ := []) (t₁ := [e]) this rfl).2
    simp only [List.cons.injEq, and_true] at this
    subst this
    exact ⟨[], [], rfl⟩
  | new h1 h2 =>
    rename_i rs r q e
    have : (rs ++ [r ++ [q]]).flatten ++ [e] = a ++ [p] := by rw [← hf]; simp
    have := (List.append_inj' this rfl).2
    simp only [List.cons.injEq, and_true] at this
    subst this
    exact ⟨_, [], rfl⟩
  | more h1 =>
    rename_i rs r q e
    have : (rs.flatten ++ (r ++ [q])) ++ [e] = a ++ [p] := by rw [← hf]; simp
    have := (List.append_inj' this rfl).2
    simp only [List.cons.injEq, and_true] at this
    subst this
    exact ⟨rs, r ++ [q], rfl⟩
theorem len_flat {α : Type} : ∀ (rs : List (List α)), (∀ r ∈ rs, r ≠ []) → rs.length ≤ rs.flatten.length
  | [], _ => by simp
  | r :: rs, h => by
    have h1 := len_flat rs fun x hx => h x (by simp [hx])
    have h2 := List.length_pos_iff.2 (h r (by simp))
    simp only [List.length_cons, List.flatten_cons, List.length_append]
    omega
set_option maxHeartbeats 3200000 in
theorem sessions_run (hU : GU G) (nz : Bool) (l : List Evt) (hg : Em.Good l) (gap : Int) (hgap : 1 ≤ gap ∧ gap ≤ 1440) (n : Nat) : ACalls Tryz.prog G 11 [.ls nz (l.map Evt.c), .int gap] H n fun r H' n' => ∃ (rs : List (List Evt)) (x : AV), r = .tup [x, .int 0] ∧ Runs gap rs ∧ rs.flatten = l ∧ Sub H H' ∧ ((rs = [] ∧ x = .ls false []) ∨ ∃ o, x = .os o 0 rs.length ∧ H' o = some ⟨37, 4, rs.map fun r => (sesOf r).c⟩ ∧ n ≤ o ∧ rs ≠ []) := by
  have hfew := hg.few
  have hw : within gap 1 1440 = true := by simp [within]; omega
  refine ACalls.start mix F11 (by simp) fun hlow => ?_
  simp -dsimp -implicitDefEqProofs (disch := omega) only [↓wpre, push_cast, reduceCtorEq, ↓reduceIte, Nat.reduceEqDiff, Nat.reduceLeDiff, Nat.reduceAdd, Nat.reduceLT, Int.reduceEq, Int.reduceLT, Int.reduceLE, Int.reduceNeg, Int.reduceAdd, c11]
  (first | with_reducible refine (check_c _ _ hU nz l hg).x fun n' hn' => ?_ | with_reducible refine xfn_intro (check_c _ _ hU nz l hg) ?_); try simp -dsimp -implicitDefEqProofs (disch := omega) only [↓wpre, push_cast, reduceCtorEq, ↓reduceIte, Nat.reduceEqDiff, Nat.reduceLeDiff, Nat.reduceAdd, Nat.reduceLT, Int.reduceEq, Int.reduceLT, Int.reduceLE, Int.reduceNeg, Int.reduceAdd, true_and]
  (first | with_reducible refine (within_c _ _ _ _ _).x fun n' hn' => ?_ | with_reducible refine xfn_intro (within_c _ _ _ _ _) ?_); try simp -dsimp -implicitDefEqProofs (disch := omega) only [↓wpre, push_cast, reduceCtorEq, ↓reduceIte, Nat.reduceEqDiff, Nat.reduceLeDiff, Nat.reduceAdd, Nat.reduceLT, Int.reduceEq, Int.reduceLT, Int.reduceLE, Int.reduceNeg, Int.reduceAdd, hw]
  refine xw_loopJ (σ := List Evt × List Evt × List (List Evt) × Option Nat) (fun t => [(0, .ls nz (l.map Evt.c)), (1, .int gap), (7, outAV t.2.2.2 t.2.2.1.length), (19, .ls nz (l.map Evt.c)), (20, .int l.length), (21, .int t.1.length)]) (fun t H' n' => l = t.1 ++ t.2.1 ∧ Runs gap t.2.2.1 ∧ t.2.2.1.flatten = t.1 ∧ OutIs n H' t.2.2.2 37 4 (t.2.2.1.map fun r => (sesOf r).c) n' ∧ (t.2.2.2 ≠ none → t.2.2.1 ≠ []) ∧ Qt H H' n ∧ n ≤ n') (fun t => t.2.1.length) ([], l, [], none) ⟨rfl, .nil, rfl, rfl, fun h => (h rfl).elim, .refl hlow, by omega⟩ (by simp -dsimp -implicitDefEqProofs (disch := omega) only [↓wpre, push_cast, reduceCtorEq, ↓reduceIte, Nat.reduceEqDiff, Nat.reduceLeDiff, Nat.reduceAdd, Nat.reduceLT, Int.reduceEq, Int.reduceLT, Int.reduceLE, Int.reduceNeg, Int.reduceAdd, outAV]) ?_
  rintro ⟨a, b, rs, oid⟩ fr H' n1 ⟨hab, hruns, hfl, ho, hne, hq, hn⟩ hh
  simp only [has_nil, has_cons, and_true] at hh hab hruns hfl ho hne
  have hll : l.length = a.length + b.length := by rw [hab]; simp
  cases b with
  | nil =>
    have hnl : ¬ (a.length : Int) < l.length := by rw [hll]; simp
    simp -dsimp -implicitDefEqProofs (disch := omega) only [↓wpre, push_cast, reduceCtorEq, ↓reduceIte, Nat.reduceEqDiff, Nat.reduceLeDiff, Nat.reduceAdd, Nat.reduceLT, Int.reduceEq, Int.reduceLT, Int.reduceLE, Int.reduceNeg, Int.reduceAdd, hh, hnl]
    refine fin_intro (Sub.refl _) ⟨rs, _, rfl, hruns, by rw [hfl, hab]; simp, hq.1, ?_⟩
    cases oid with
    | none =>
      have : (rs.map fun r => (sesOf r).c) = [] := ho
      exact .inl ⟨by simpa using this, rfl⟩
    | some o => exact .inr ⟨o, rfl, ho.1, ho.2.1, hne (by simp)⟩
  | cons e b =>
    have hlt : (a.length : Int) < l.length := by rw [hll]; simp only [List.length_cons]; omega
    have hx : l[a.length]? = some e := by rw [hab]; simp
    have hea := hg.at (List.mem_of_getElem? hx)
    rcases List.eq_nil_or_concat a with rfl | ⟨a', p, rfl⟩
    · have hrs : rs = [] := by
        cases rs with
        | nil => rfl
        | cons r rs' =>
          have := hruns.ne r (by simp)
          simp at hfl
          exact absurd hfl.1 this
      subst hrs
      have hoid : oid = none := by
        cases oid with
        | none => rfl
        | some o => exact absurd rfl (hne (by simp))
      subst hoid
      have hlt : (0 : Int) < l.length := by simpa using hlt
      have hx : l[0]? = some e := by simpa using hx
      simp only [List.length_nil, Int.natCast_zero] at hh
      have e0 : ((0 : Nat) : Int) = 0 := rfl
      simp -dsimp -implicitDefEqProofs (disch := omega) only [↓wpre, push_cast, reduceCtorEq, ↓reduceIte, Nat.reduceEqDiff, Nat.reduceLeDiff, Nat.reduceAdd, Nat.reduceLT, Int.reduceEq, Int.reduceLT, Int.reduceLE, Int.reduceNeg, Int.reduceAdd, hh, e0, hlt, even_evts, aidx_at (j := 0) _ hx]
      repeat' (first | ((first | with_reducible refine cnd_ndec (fun hc => ?_) (fun hc => ?_) | with_reducible refine cnd_dec (fun hc => ?_) (fun hc => ?_) | with_reducible refine cnd_nb (fun hc => ?_) (fun hc => ?_) | with_reducible refine cnd_intro (fun hc => ?_) (fun hc => ?_)) <;> (first | (exfalso; omega) | (try simp -dsimp -implicitDefEqProofs (disch := omega) only [↓wpre, push_cast, reduceCtorEq, ↓reduceIte, Nat.reduceEqDiff, Nat.reduceLeDiff, Nat.reduceAdd, Nat.reduceLT, Int.reduceEq, Int.reduceLT, Int.reduceLE, Int.reduceNeg, Int.reduceAdd, hc, hh]))) | (with_reducible refine anyN_intro fun n' hn' => ?_; try simp -dsimp -implicitDefEqProofs (disch := omega) only [↓wpre, push_cast, reduceCtorEq, ↓reduceIte, Nat.reduceEqDiff, Nat.reduceLeDiff, Nat.reduceAdd, Nat.reduceLT, Int.reduceEq, Int.reduceLT, Int.reduceLE, Int.reduceNeg, Int.reduceAdd, hh]) | fail)
      refine xapp_out (n0 := n) (i := none) (rows := []) (show OutIs n _ none 37 4 [] n' from rfl) rfl (by intro r hr; simp at hr; subst hr; exact ⟨rfl, rfl⟩) (by simp) ?_
      have hn1n : n1 ≠ n' := by omega
      have ez : (0 : Int) + 1 - 1 = 0 := rfl
      simp -dsimp -implicitDefEqProofs (disch := omega) only [↓wpre, push_cast, reduceCtorEq, ↓reduceIte, Nat.reduceEqDiff, Nat.reduceLeDiff, Nat.reduceAdd, Nat.reduceLT, Int.reduceEq, Int.reduceLT, Int.reduceLE, Int.reduceNeg, Int.reduceAdd, hh, outAV, dropO, ez, Int.sub_self, Int.toNat_zero, List.getElem?_cons_zero, List.set_cons_zero]
      refine againJ ([e], b, [[e]], some n') (Nat.lt_succ_self _) ⟨by rw [hab]; simp, .one, rfl, ⟨hu_same, by omega, by omega⟩, fun _ => by simp, by exact Qt.mono (n := n) (by repeat (first | exact hq | refine Qt.hu ?_ (by omega))) (by omega), by omega⟩ (by simp -dsimp -implicitDefEqProofs (disch := omega) only [↓wpre, push_cast, reduceCtorEq, ↓reduceIte, Nat.reduceEqDiff, Nat.reduceLeDiff, Nat.reduceAdd, Nat.reduceLT, Int.reduceEq, Int.reduceLT, Int.reduceLE, Int.reduceNeg, Int.reduceAdd, hh, outAV])
    · skip
      simp only [List.concat_eq_append] at hh hab hfl hll hlt hx ⊢
      obtain ⟨rs0, r0, hrs⟩ := runs_last hruns (p := p) (a := a') (by rw [hfl]; try simp)
      subst hrs
      obtain ⟨o, rfl⟩ : ∃ o, oid = some o := by
        cases oid with
        | none =>
          have : (rs0 ++ [r0 ++ [p]]).map (fun r => (sesOf r).c) = [] := ho
          simp at this
        | some o => exact ⟨o, rfl⟩
      have hal : (0 : Int) < (a' ++ [p]).length := by simp
      have hpx : l[a'.length]? = some p := by rw [hab]; simp
      have hx : l[a'.length + 1]? = some e := by simpa using hx
      have hep := hg.at (List.mem_of_getElem? hpx)
      have e1 : (((a' ++ [p]).length : Int) - 1) = (a'.length : Int) := by simp
      have hal1 : (0 : Int) < (a'.length : Int) + 1 := by omega
      have hal2 : (a'.length : Int) + 1 ≤ 5000 := by have := hll; simp at this; omega
      have hlt : (a'.length : Int) + 1 < l.length := by simpa using hlt
      have e2 : ((a'.length : Int) + 1 - 1) = (a'.length : Int) := by omega
      have hrl : rs0.length ≤ 5000 := by
        have h1 := len_flat _ hruns.ne
        rw [hfl] at h1
        simp only [List.length_append, List.length_cons, List.length_nil] at h1
        omega
      simp -dsimp -implicitDefEqProofs (disch := omega) only [↓wpre, push_cast, reduceCtorEq, ↓reduceIte, Nat.reduceEqDiff, Nat.reduceLeDiff, Nat.reduceAdd, Nat.reduceLT, Int.reduceEq, Int.reduceLT, Int.reduceLE, Int.reduceNeg, Int.reduceAdd, hh, hlt, even_evts, aidx_at _ hx]
      repeat' (first | ((first | with_reducible refine cnd_ndec (fun hc => ?_) (fun hc => ?_) | with_reducible refine cnd_dec (fun hc => ?_) (fun hc => ?_) | with_reducible refine cnd_nb (fun hc => ?_) (fun hc => ?_) | with_reducible refine cnd_intro (fun hc => ?_) (fun hc => ?_)) <;> (first | (exfalso; omega) | (try simp -dsimp -implicitDefEqProofs (disch := omega) only [↓wpre, push_cast, reduceCtorEq, ↓reduceIte, Nat.reduceEqDiff, Nat.reduceLeDiff, Nat.reduceAdd, Nat.reduceLT, Int.reduceEq, Int.reduceLT, Int.reduceLE, Int.reduceNeg, Int.reduceAdd, hc, hh, hal, even_evts, e2, aidx_at (rfl : ((a'.length : Nat) : Int) = ((a'.length : Nat) : Int)) hpx]))) | (with_reducible refine anyN_intro fun n' hn' => ?_; try simp -dsimp -implicitDefEqProofs (disch := omega) only [↓wpre, push_cast, reduceCtorEq, ↓reduceIte, Nat.reduceEqDiff, Nat.reduceLeDiff, Nat.reduceAdd, Nat.reduceLT, Int.reduceEq, Int.reduceLT, Int.reduceLE, Int.reduceNeg, Int.reduceAdd, hh, hal, even_evts, e2, aidx_at (rfl : ((a'.length : Nat) : Int) = ((a'.length : Nat) : Int)) hpx]) | fail)
      all_goals generalize hR : List.map (fun r => (sesOf r).c) (rs0 ++ [r0 ++ [p]]) = R at ho
      all_goals obtain ⟨ho1, ho2, ho3⟩ := ho
      all_goals have hRl : R.length = rs0.length + 1 := by rw [← hR]; simp
      case' refine_1 =>
        refine xapp_out (n0 := n) (i := some o) (rows := R) ⟨by rw [hu_ne (by omega), hu_ne (by omega)]; exact ho1, ho2, by omega⟩ hRl.symm (by intro r hr; simp at hr; subst hr; exact ⟨rfl, rfl⟩) (by omega) ?_
        have hn1n : n1 ≠ n' := by omega
        have e3 : (rs0.length : Int) + 1 + 1 - 1 = (rs0.length : Int) + 1 := by omega
        have e4 : ((rs0.length : Int) + 1).toNat = rs0.length + 1 := by omega
        have hg1 : ∀ r, (R ++ [r])[rs0.length + 1]? = some r := fun r => by rw [← hRl]; simp
        have hs1 : ∀ r y, (R ++ [r]).set (rs0.length + 1) y = R ++ [y] := fun r y => by rw [← hRl]; simp
        simp -dsimp -implicitDefEqProofs (disch := omega) only [↓wpre, push_cast, reduceCtorEq, ↓reduceIte, Nat.reduceEqDiff, Nat.reduceLeDiff, Nat.reduceAdd, Nat.reduceLT, Int.reduceEq, Int.reduceLT, Int.reduceLE, Int.reduceNeg, Int.reduceAdd, hh, outAV, dropO, hRl, e3, e4, hg1, hs1]
        refine againJ (a' ++ [p] ++ [e], b, rs0 ++ [r0 ++ [p]] ++ [[e]], some n') (Nat.lt_succ_self _) ⟨by rw [hab]; simp, .new hruns hc, by rw [List.flatten_append, hfl]; simp, ⟨?_, by omega, by omega⟩, fun _ => by simp, by exact Qt.mono (n := n) (by repeat (first | exact hq | refine Qt.hu ?_ (by omega))) (by omega), by omega⟩ (by simp -dsimp -implicitDefEqProofs (disch := omega) only [↓wpre, push_cast, reduceCtorEq, ↓reduceIte, Nat.reduceEqDiff, Nat.reduceLeDiff, Nat.reduceAdd, Nat.reduceLT, Int.reduceEq, Int.reduceLT, Int.reduceLE, Int.reduceNeg, Int.reduceAdd, hh, outAV])
        · rw [hu_same, List.map_append, hR]; rfl
      case' refine_2 =>
        obtain ⟨R0, last, rfl, hR0, hlast⟩ : ∃ R0 last, R = R0 ++ [last] ∧ R0.length = rs0.length ∧ last = (sesOf (r0 ++ [p])).c := ⟨rs0.map fun r => (sesOf r).c, _, by rw [← hR]; simp, by simp, rfl⟩
        have e3 : (rs0.length : Int) + 1 - 1 = (rs0.length : Int) := by omega
        have e4 : ((rs0.length : Nat) : Int).toNat = rs0.length := by omega
        have hg1 : ∀ r, (R0 ++ [r])[rs0.length]? = some r := fun r => by rw [← hR0]; simp
        have hs1 : ∀ r y, (R0 ++ [r]).set (rs0.length) y = R0 ++ [y] := fun r y => by rw [← hR0]; simp
        subst hlast
        have hon : o ≠ n1 := by omega
        have hmany : 0 ≤ (sesOf (r0 ++ [p])).many ∧ (sesOf (r0 ++ [p])).many ≤ 5000 := by
          have h1 := congrArg List.length hfl
          simp only [List.flatten_append, List.flatten_cons, List.flatten_nil, List.append_nil, List.length_append, List.length_cons, List.length_nil] at h1
          simp only [sesOf, List.length_append, List.length_cons, List.length_nil]
          omega
        simp -dsimp -implicitDefEqProofs (disch := omega) only [↓wpre, push_cast, reduceCtorEq, ↓reduceIte, Nat.reduceEqDiff, Nat.reduceLeDiff, Nat.reduceAdd, Nat.reduceLT, Int.reduceEq, Int.reduceLT, Int.reduceLE, Int.reduceNeg, Int.reduceAdd, hh, outAV, ho1, e3, e4, hg1, hs1]
        refine againJ (a' ++ [p] ++ [e], b, rs0 ++ [r0 ++ [p] ++ [e]], some o) (Nat.lt_succ_self _) ⟨by rw [hab]; simp, .more hruns, by rw [List.flatten_append] at hfl ⊢; simp only [List.flatten_cons, List.flatten_nil, List.append_nil] at hfl ⊢; rw [← List.append_assoc, hfl], ⟨?_, by omega, by omega⟩, fun _ => by simp, ?_, by omega⟩ (by simp -dsimp -implicitDefEqProofs (disch := omega) only [↓wpre, push_cast, reduceCtorEq, ↓reduceIte, Nat.reduceEqDiff, Nat.reduceLeDiff, Nat.reduceAdd, Nat.reduceLT, Int.reduceEq, Int.reduceLT, Int.reduceLE, Int.reduceNeg, Int.reduceAdd, hh, outAV])
        · have : List.map (fun r => (sesOf r).c) rs0 = R0 := by
            rw [List.map_append] at hR
            exact (List.append_inj' hR rfl).1
          rw [hu_same, List.map_append, this, List.map_cons, List.map_nil, sesOf_more]
        · exact Qt.mono (n := n) (by repeat (first | exact hq | refine Qt.hu ?_ (by omega))) (by omega)
end Go.Proofs.YtdbfkibbhmbaoaaGreatDoor

