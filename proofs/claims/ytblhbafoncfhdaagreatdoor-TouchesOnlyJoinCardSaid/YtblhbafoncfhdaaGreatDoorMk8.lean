/- Contracts of functions of the program: each computes what its model says; the conditions stand at each. -/
import Derived.Test.YtblhbafoncfhdaaGreatDoorR1
import Derived.Test.YtblhbafoncfhdaaGreatDoorMk5
import Derived.Test.YtblhbafoncfhdaaGreatDoorMk7
set_option linter.unusedSimpArgs false
set_option linter.unusedVariables false
set_option maxRecDepth 20000
set_option pp.deepTerms false
set_option pp.deepTerms.threshold 3
namespace Go.Proofs.YtblhbafoncfhdaaGreatDoor
open Go Go.Ab Go.Pm Go.Cm Go.El Go.Rm Go.Pp Go.Uf
variable (G : Nat → AV) (H : Nat → Option AObj)












theorem srvs_frz {D : Nat → Option AObj} {k : Nat} (l : List Srv) : (l.map Srv.c).map (List.map (frz D (k + 1))) = l.map Srv.c := by
  rw [List.map_map]
  refine List.map_congr_left fun t _ => ?_
  show [frz D (k + 1) (.str t.name), frz D (k + 1) (.int t.how), frz D (k + 1) (.ls t.nz _)] = _
  rw [frz_lit, frz_lit, frz_ls_p (fun r hr => by obtain ⟨x, _, rfl⟩ := List.mem_map.1 hr; rfl)]
theorem joinRules_c (hU : GU G) (hP : G 1 = .pp poolC) (nz : Bool) (l : List Int) (a : Int) (i : Nat) (hi : H i = some (strm (LL nz l) a)) (ha : 0 ≤ a ∧ a ≤ 1099511620000) : SC G H 78 [.op i 0 0] i (LL nz l) a 300 fun r => ∃ q : Rls, r = .agg q.c ∧ RlsSm q := by
  intro n
  refine low_of G H fun hlow => ACalls.frz (joinRules_run G H hU hP nz l a i hi ha n) ?_
  have hin := hlow i _ hi
  rintro r H1 n1 ⟨a', q, wid, sid, h1, h2, hsm, rfl, hw, hs, hwne, hsne, hsub⟩
  have hD : ∀ j, n ≤ j → (fun j => if n ≤ j then H1 j else none) j = H1 j := fun j hj => if_pos hj
  refine ⟨fun j => if n ≤ j then H1 j else none, hu H i (some (strm (LL nz l) a')), 3, fun j o hj => ?_, hsub, fun j o hj => ?_, a', h1, h2, rfl, ⟨q.nzk, q.kinds, q.most, wid.isSome, q.weak, sid.isSome, q.srv⟩, ?_, ⟨hsm.weak, hsm.few, hsm.srv⟩⟩
  · dsimp only at hj
    split at hj
    · exact hj
    · cases hj
  · dsimp only at hj
    split at hj
    · rename_i hn
      rw [hu_ne (by omega)]
      cases hH : H j with
      | none => rfl
      | some x => exact absurd (hlow j x hH) (by omega)
    · cases hj
  · have e1 : frz (fun j => if n ≤ j then H1 j else none) 2 (.ls q.nzk (q.kinds.map fun x => [AV.int x])) = .ls q.nzk (q.kinds.map fun x => [AV.int x]) := frz_ls_p (plain_ints _)
    have e2 : frz (fun j => if n ≤ j then H1 j else none) 2 (outAV wid q.weak.length) = .ls wid.isSome (q.weak.map Idn.c) := by
      cases wid with
      | none =>
        have h : q.weak.map Idn.c = [] := hw
        rw [h]; rfl
      | some o =>
        have ho := hw.1
        rw [← hD o hw.2.1] at ho
        simp only [outAV, frz, ho]
        rw [if_pos (by simp), List.drop_zero, List.take_of_length_le (by simp), rows_plain (plain_idn _)]
        rfl
    have e3 : frz (fun j => if n ≤ j then H1 j else none) 2 (outAV sid q.srv.length) = .ls sid.isSome (q.srv.map Srv.c) := by
      cases sid with
      | none =>
        have h : q.srv.map Srv.c = [] := hs
        rw [h]; rfl
      | some o =>
        have ho := hs.1
        rw [← hD o hs.2.1] at ho
        simp only [outAV, frz, ho]
        rw [if_pos (by simp), List.drop_zero, List.take_of_length_le (by simp)]
        congr 1
        exact srvs_frz (k := 0) q.srv
    show AV.agg [frz _ 2 _, frz _ 2 (.int q.most), frz _ 2 _, frz _ 2 _] = _
    rw [e1, e2, e3, frz_lit]
theorem default_ok : RulesOk ⟨true, [1, 2], 3, false, [], false, []⟩ where
  some := by simp
  kin := by intro k hk; simp at hk; omega
  kasc := by simp
  most := by simp
  wfew := by simp
  weak := ⟨(by intro x hx; cases hx), List.Pairwise.nil, (by intro x hx; cases hx)⟩
  sfew := by simp
  srv := by intro x hx; cases hx
  sasc := List.Pairwise.nil
set_option maxHeartbeats 3200000 in
theorem rightRules_c (hU : GU G) (hP : G 1 = .pp poolC) (nz : Bool) (l : List Int) (a : Int) (i : Nat) (hi : H i = some (strm (LL nz l) a)) (ha : 0 ≤ a ∧ a ≤ 1099511610000) : SC G H 19 [.op i 0 0] i (LL nz l) a 2000 fun r => ∃ q : Rls, r = .agg q.c ∧ RulesOk q := by
  intro n
  refine ACalls.start mix F19 (by simp) fun hlow => ?_
  have hq := Qs.refl hi hlow
  have hin := hq.2.2
  simp -dsimp -implicitDefEqProofs (disch := omega) only [↓wpre, push_cast, seval, c19]
  refine xw_loopJ (σ := Int × Nat) (fun t => [(0, .op i 0 0), (2, .op n 0 0), (4, .int t.2)]) (fun t H' n' => t.2 ≤ 5 ∧ H' n = some ⟨44, 4, [[.ls false [], .int 0, .ls false [], .ls false []]]⟩ ∧ Qs H H' i n ∧ H' i = some (strm (LL nz l) t.1) ∧ n + 1 ≤ n' ∧ a ≤ t.1 ∧ t.1 ≤ a + 300 * (t.2 : Int)) (fun t => 5 - t.2) (a, 0) ⟨by omega, hu_same, by (repeat (first | exact hq | refine Qs.put ?_ | refine Qs.new ?_ (by omega))), by simp -dsimp -implicitDefEqProofs (disch := omega) only [↓wpre, push_cast, seval, hi], by omega, Int.le_refl _, by simp⟩ (by simp -dsimp -implicitDefEqProofs (disch := omega) only [↓wpre, push_cast, seval]; try rfl) ?_
  clear hq
  rintro ⟨a1, k⟩ fr H1 n1 ⟨hk, hres, hq, hs, hn1, ha1, ha2⟩ hh
  simp only [has_nil, has_cons, and_true] at hh hk hres hs ha1 ha2
  by_cases hlt : (k : Int) < 5
  · simp -dsimp -implicitDefEqProofs (disch := omega) only [↓wpre, push_cast, seval, hh, hlt]
    refine (joinRules_c G _ hU hP nz l a1 i hs ⟨by omega, by omega⟩).x fun r a2 n2 hn2 k1 k2 k3 => ?_
    obtain ⟨q, rfl, hsm⟩ := k3
    simp -dsimp -implicitDefEqProofs (disch := omega) only [↓wpre, push_cast, seval, hh, hs]
    refine ACalls.x (ACalls.lowp (rulesFault_c G _ hU q hsm _)) fun r1 H4 n4 ⟨⟨e, e1, he0, e2⟩, hn4, _⟩ => ?_
    subst e1 e2
    by_cases h5 : e = 0
    · have hok := he0 h5
      simp -dsimp -implicitDefEqProofs (disch := omega) only [↓wpre, push_cast, seval, hh, hs, hres, h5]
      refine fin_intro (H' := hu H i (some (strm (LL nz l) (a2)))) (Qs.sub (n := n) (by (repeat (first | exact hq | refine Qs.put ?_ | refine Qs.new ?_ (by omega)))) (by simp -dsimp -implicitDefEqProofs (disch := omega) only [↓wpre, push_cast, seval, hq.2.2])) ⟨a2, by omega, by omega, rfl, ⟨q, rfl, hok⟩⟩
    · simp -dsimp -implicitDefEqProofs (disch := omega) only [↓wpre, push_cast, seval, hh, hs, hres, h5]
      refine againJ (a2, k + 1) (by dsimp only; omega) ⟨by dsimp only; omega, by simp -dsimp -implicitDefEqProofs (disch := omega) only [↓wpre, push_cast, seval, hres], by (repeat (first | exact hq | refine Qs.put ?_ | refine Qs.new ?_ (by omega))), by simp -dsimp -implicitDefEqProofs (disch := omega) only [↓wpre, push_cast, seval, hs], by omega, by dsimp only; omega, by dsimp only; omega⟩ (by simp -dsimp -implicitDefEqProofs (disch := omega) only [↓wpre, push_cast, seval, hh]; all_goals (try simp only [AV.lit.injEq, Value.int.injEq, Value.bool.injEq, true_and, and_true]); all_goals (try (repeat' apply And.intro)); all_goals (first | rfl | omega | simp_all | skip))
  · simp -dsimp -implicitDefEqProofs (disch := omega) only [↓wpre, push_cast, seval, hh, hlt, hres]
    refine fin_intro (H' := hu H i (some (strm (LL nz l) a1))) (Qs.sub (n := n) (by (repeat (first | exact hq | refine Qs.put ?_ | refine Qs.new ?_ (by omega)))) (by simp -dsimp -implicitDefEqProofs (disch := omega) only [↓wpre, push_cast, seval, hs])) ⟨a1, by omega, by omega, rfl, ⟨true, [1, 2], 3, false, [], false, []⟩, rfl, default_ok⟩
end Go.Proofs.YtblhbafoncfhdaaGreatDoor

