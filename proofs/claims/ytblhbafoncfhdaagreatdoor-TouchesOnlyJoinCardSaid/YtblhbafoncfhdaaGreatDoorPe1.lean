/- Contracts of functions of the program: each computes what its model says; the conditions stand at each. -/
import Derived.Test.YtblhbafoncfhdaaGreatDoorP1
import Derived.Test.YtblhbafoncfhdaaGreatDoorTc3
import Derived.Test.YtblhbafoncfhdaaGreatDoorE3
set_option linter.unusedSimpArgs false
set_option linter.unusedVariables false
set_option maxRecDepth 20000
set_option pp.deepTerms false
set_option pp.deepTerms.threshold 3
namespace Go.Proofs.YtblhbafoncfhdaaGreatDoor
open Go Go.Ab Go.Pm Go.Cm Go.El Go.Rm Go.Pp
variable (G : Nat → AV) (H : Nat → Option AObj)
theorem low_of {P : Program} {f : FuncId} {args : List AV} {n : Nat} {R : AV → (Nat → Option AObj) → Nat → Prop} (h : Low H n → ACalls P G f args H n R) : ACalls P G f args H n R := by
  intro w g vs h1 h2 h3 h4 h5
  exact h (fun i o hi => by rw [← h3]; exact (h1.lt i o (by rw [h2]; exact hi)).1) w g vs h1 h2 h3 h4 h5
theorem plain_fld (l : List Fld) : ∀ r ∈ l.map Fld.c, plain r = true := fun r hr => by
  obtain ⟨s, _, rfl⟩ := List.mem_map.1 hr; rfl
theorem even_ids (l : List Idn) : Even 2 (l.map Idn.c) = True := eq_true fun r hr => by
  obtain ⟨s, _, rfl⟩ := List.mem_map.1 hr; exact ⟨rfl, rfl⟩
theorem even_srv (l : List Srv) : Even 3 (l.map Srv.c) = True := eq_true fun r hr => by
  obtain ⟨s, _, rfl⟩ := List.mem_map.1 hr; exact ⟨rfl, rfl⟩
theorem even_tch (l : List Tch) : Even 5 (l.map Tch.c) = True := eq_true fun r hr => by
  obtain ⟨s, _, rfl⟩ := List.mem_map.1 hr; exact ⟨rfl, rfl⟩
theorem cmpId_c (a b : Idn) : AFn Tryz.prog G 36 [.agg a.c, .agg b.c] H (.int (cmpId a b)) := by
  obtain ⟨ka, ta⟩ := a
  obtain ⟨kb, tb⟩ := b
  refine AFn.start mix F36 (by simp) fun k hlow => ?_
  simp -dsimp -implicitDefEqProofs (disch := omega) only [↓wpre, push_cast, seval, c36]
  (first | with_reducible refine (cmpI_c _ _ _ _).x fun n' hn' => ?_ | with_reducible refine xfn_intro (cmpI_c _ _ _ _) ?_); try simp -dsimp -implicitDefEqProofs (disch := omega) only [↓wpre, push_cast, seval, true_and]
  (first | with_reducible refine (cmpS_c _ _ _ _).x fun n' hn' => ?_ | with_reducible refine xfn_intro (cmpS_c _ _ _ _) ?_); try simp -dsimp -implicitDefEqProofs (disch := omega) only [↓wpre, push_cast, seval, true_and]
  (first | with_reducible refine (cmpOr_c _ _ [cmpI ka kb, cmpS ta tb] (by simp)).x fun n' hn' => ?_ | with_reducible refine xfn_intro (cmpOr_c _ _ [cmpI ka kb, cmpS ta tb] (by simp)) ?_); try simp -dsimp -implicitDefEqProofs (disch := omega) only [↓wpre, push_cast, seval, true_and]
  refine anyN_intro fun n2 hn2 => ?_
  simp -dsimp -implicitDefEqProofs (disch := omega) only [↓wpre, push_cast, seval]
  rfl
theorem checkIds_ok {m : Int} {cs : List AV} (hG : G 4 = .pp (.lit (.int .i64 m) :: cs)) (nz : Bool) (l : List Idn) (h : IdsOk l) (hl : l.length ≤ 100000) : AFn Tryz.prog G 189 [.ls nz (l.map Idn.c)] H (.int 0) := by
  refine AFn.start mix F189 (by simp) fun k hlow => ?_
  simp -dsimp -implicitDefEqProofs (disch := omega) only [↓wpre, push_cast, seval, c189]
  refine xw_loopJ (σ := List Idn × List Idn) (fun t => [(0, .ls nz (l.map Idn.c)), (6, .ls nz (l.map Idn.c)), (7, .int l.length), (8, .int t.1.length)]) (fun t H' n' => l = t.1 ++ t.2 ∧ Qt H H' k ∧ k ≤ n') (fun t => t.2.length) ([], l) ⟨rfl, .refl hlow, Nat.le_refl _⟩ (by simp -dsimp -implicitDefEqProofs (disch := omega) only [↓wpre, push_cast, seval]) ?_
  rintro ⟨d, r⟩ fr H' n1 ⟨hab, hq, hn⟩ hh
  simp only [has_nil, has_cons, and_true] at hh hab
  have hll : l.length = d.length + r.length := by rw [hab]; simp
  cases r with
  | nil =>
    have hlt : ¬ (d.length : Int) < l.length := by rw [hll]; simp
    simp -dsimp -implicitDefEqProofs (disch := omega) only [↓wpre, push_cast, seval, hh, hlt]
    exact (Qt.mono (n := k) (by repeat (first | exact hq | refine Qt.hu ?_ (by omega))) (Nat.le_refl _)).1
  | cons x r =>
    have hlt : (d.length : Int) < l.length := by rw [hll]; simp only [List.length_cons]; omega
    have hx : l[d.length]? = some x := by rw [hab]; simp
    have hxm : x ∈ l := by rw [hab]; simp
    have hxs := h.small x hxm
    have hxe := h.each x hxm
    simp -dsimp -implicitDefEqProofs (disch := omega) only [↓wpre, push_cast, seval, hh, hlt, even_ids, aidx_at rfl hx]
    (first | with_reducible refine (checkId_c _ _ hG x.kind x.text (by omega)).x fun n' hn' => ?_ | with_reducible refine xfn_intro (checkId_c _ _ hG x.kind x.text (by omega)) ?_); try simp -dsimp -implicitDefEqProofs (disch := omega) only [↓wpre, push_cast, seval, hh, hxe]
    rcases last_of d with rfl | ⟨d', p, rfl⟩
    · have h0 : ¬ (0 : Int) < 0 := by omega
      simp -dsimp -implicitDefEqProofs (disch := omega) only [↓wpre, push_cast, seval, hh, h0, List.length_nil, Int.natCast_zero]
      refine anyN_intro fun n3 hn3 => ?_
      simp -dsimp -implicitDefEqProofs (disch := omega) only [↓wpre, push_cast, seval, hh]
      refine againJ ([x], r) (Nat.lt_succ_self _) ⟨hab, by exact Qt.mono (n := k) (by repeat (first | exact hq | refine Qt.hu ?_ (by omega))) (by omega), by omega⟩ (by simp -dsimp -implicitDefEqProofs (disch := omega) only [↓wpre, push_cast, seval, hh]; all_goals (try simp only [AV.lit.injEq, Value.int.injEq, Value.bool.injEq, true_and, and_true]); all_goals (try (repeat' apply And.intro)); all_goals (first | rfl | omega | simp_all | skip))
    · have h0 : (0 : Int) < (d'.length : Int) + 1 := by omega
      have hdl : d'.length + 1 ≤ l.length := by have := hll; simp at this; omega
      have hp : l[d'.length]? = some p := by rw [hab]; simp
      have e1 : (d'.length : Int) + 1 - 1 = ((d'.length : Nat) : Int) := by omega
      have hc : ¬ cmpId x p ≤ 0 := by
        have h1 := h.asc
        rw [hab] at h1
        have h2 := (List.pairwise_append.1 h1).2.2 p (by simp) x (by simp)
        have := (cmpId_tc.anti p x).1 h2
        omega
      simp -dsimp -implicitDefEqProofs (disch := omega) only [↓wpre, push_cast, seval, hh, h0, even_ids, e1, aidx_at rfl hp]
      (first | with_reducible refine (cmpId_c _ _ x p).x fun n' hn' => ?_ | with_reducible refine xfn_intro (cmpId_c _ _ x p) ?_); try simp -dsimp -implicitDefEqProofs (disch := omega) only [↓wpre, push_cast, seval, hh, hc]
      refine anyN_intro fun n3 hn3 => ?_
      simp -dsimp -implicitDefEqProofs (disch := omega) only [↓wpre, push_cast, seval, hh]
      refine againJ ((d' ++ [p]) ++ [x], r) (Nat.lt_succ_self _) ⟨by rw [hab]; simp, by exact Qt.mono (n := k) (by repeat (first | exact hq | refine Qt.hu ?_ (by omega))) (by omega), by omega⟩ (by simp -dsimp -implicitDefEqProofs (disch := omega) only [↓wpre, push_cast, seval, hh]; all_goals (try simp only [AV.lit.injEq, Value.int.injEq, Value.bool.injEq, true_and, and_true]); all_goals (try (repeat' apply And.intro)); all_goals (first | rfl | omega | simp_all | skip))
set_option maxHeartbeats 1600000 in
theorem checkSources_ok (s : Srv) (h : SrvOk s) : AFn Tryz.prog G 252 [.agg s.c] H (.int 0) := by
  obtain ⟨hkey, hhow, hform, hfew, hkeys, honce, hsm⟩ := h
  obtain ⟨name, how, nz, l⟩ := s
  dsimp only at hkey hhow hform hfew hkeys honce hsm
  refine AFn.start mix F252 (by simp) fun k hlow => ?_
  have h20 : ¬ (20 : Int) < l.length := by omega
  have hf : ¬ (0 : Int) < l.length ∨ ((0 : Int) < l.length ∧ decide (how = 5) = true) := by
    by_cases e : l = []
    · left; subst e; simp
    · right; exact ⟨by have := List.length_pos_iff.2 e; omega, by simp [hform e]⟩
  rcases hf with hf | ⟨hp, hf⟩
  case' inl => simp -dsimp -implicitDefEqProofs (disch := omega) only [↓wpre, push_cast, seval, c252, h20, hf]
  case' inr => simp -dsimp -implicitDefEqProofs (disch := omega) only [↓wpre, push_cast, seval, c252, h20, hp, hf]
  all_goals
    refine xw_loopJ (σ := List T × List T) (fun t => [(1, .pp (Srv.c ⟨name, how, nz, l⟩)), (23, LS nz l), (24, .int l.length), (25, .int t.1.length)]) (fun t H' n' => l = t.1 ++ t.2 ∧ Qt H H' k ∧ k ≤ n') (fun t => t.2.length) ([], l) ⟨rfl, (by first | exact .refl hlow | (exact Qt.mono (n := k) (by repeat (first | exact hq | refine Qt.hu ?_ (by omega))) (by omega)) | (refine Qt.hu (.refl hlow) (by omega))), (by omega)⟩ (by simp -dsimp -implicitDefEqProofs (disch := omega) only [↓wpre, push_cast, seval]) ?_
    rintro ⟨d, r⟩ fr H' n1 ⟨hab, hq, hn⟩ hh
    simp only [has_nil, has_cons, and_true] at hh hab
    have hll : l.length = d.length + r.length := by rw [hab]; simp
    cases r with
    | nil =>
      have hlt : ¬ (d.length : Int) < l.length := by rw [hll]; simp
      simp -dsimp -implicitDefEqProofs (disch := omega) only [↓wpre, push_cast, seval, hh, hlt]
      exact (Qt.mono (n := k) (by repeat (first | exact hq | refine Qt.hu ?_ (by omega))) (Nat.le_refl _)).1
    | cons x r =>
      have hlt : (d.length : Int) < l.length := by rw [hll]; simp only [List.length_cons]; omega
      have hx : l[d.length]? = some x := by rw [hab]; simp
      have hxm : x ∈ l := by rw [hab]; simp
      have hxs := hsm.2 x hxm
      have hxk := hkeys x hxm
      simp -dsimp -implicitDefEqProofs (disch := omega) only [↓wpre, push_cast, seval, hh, hlt, even_strs', aidx_at rfl hx]
      (first | with_reducible refine (isKey_c _ _ x (by omega)).x fun n' hn' => ?_ | with_reducible refine xfn_intro (isKey_c _ _ x (by omega)) ?_); try simp -dsimp -implicitDefEqProofs (disch := omega) only [↓wpre, push_cast, seval, hh, hxk]
      have htk : (l.map fun x => [AV.str x]).take d.length = d.map fun x => [AV.str x] := by rw [hab]; simp
      have hdt : ((d.length : Nat) : Int).toNat = d.length := Int.toNat_natCast _
      have hdl : d.length ≤ l.length := by omega
      simp -dsimp -implicitDefEqProofs (disch := omega) only [↓wpre, push_cast, seval, hh, even_strs', htk, hdt, hdl]
      refine xw_loopJ (σ := List T × List T) (fun t => [(1, .pp (Srv.c ⟨name, how, nz, l⟩)), (4, .str x), (23, LS nz l), (24, .int l.length), (25, .int d.length), (36, LS nz d), (37, .int d.length), (38, .int t.1.length)]) (fun t H' n' => d = t.1 ++ t.2 ∧ Qt H H' k ∧ k ≤ n') (fun t => t.2.length) ([], d) ⟨rfl, by exact Qt.mono (n := k) (by repeat (first | exact hq | refine Qt.hu ?_ (by omega))) (by omega), by omega⟩ (by simp -dsimp -implicitDefEqProofs (disch := omega) only [↓wpre, push_cast, seval, hh]) ?_
      rintro ⟨d1, r1⟩ fr H2 n2 ⟨hab1, hq, hn1⟩ hh1
      simp only [has_nil, has_cons, and_true] at hh1 hab1
      have hll1 : d.length = d1.length + r1.length := by rw [hab1]; simp
      cases r1 with
      | nil =>
        have hlt1 : ¬ (d1.length : Int) < d.length := by rw [hll1]; simp
        simp -dsimp -implicitDefEqProofs (disch := omega) only [↓wpre, push_cast, seval, hh1, hlt1]
        refine againJ (d ++ [x], r) (Nat.lt_succ_self _) ⟨by rw [hab]; simp, (by first | (exact Qt.mono (n := k) (by repeat (first | exact hq | refine Qt.hu ?_ (by omega))) (by omega)) | (have hq := hq1; exact Qt.mono (n := k) (by repeat (first | exact hq | refine Qt.hu ?_ (by omega))) (by omega))), by omega⟩ (by simp -dsimp -implicitDefEqProofs (disch := omega) only [↓wpre, push_cast, seval, hh1]; all_goals (try simp only [AV.lit.injEq, Value.int.injEq, Value.bool.injEq, true_and, and_true]); all_goals (try (repeat' apply And.intro)); all_goals (first | rfl | omega | simp_all | skip))
      | cons y r1 =>
        have hlt1 : (d1.length : Int) < d.length := by rw [hll1]; simp only [List.length_cons]; omega
        have hy : d[d1.length]? = some y := by rw [hab1]; simp
        have hyx : ¬ y = x := by
          rintro rfl
          rw [hab] at honce
          have := (List.nodup_append.1 honce).2.2 y (by rw [hab1]; simp) y (by simp)
          exact this rfl
        have hyx' : ¬ x = y := fun e => hyx e.symm
        simp -dsimp -implicitDefEqProofs (disch := omega) only [↓wpre, push_cast, seval, hh1, hlt1, even_strs', aidx_at rfl hy, hyx, hyx']
        refine againJ (d1 ++ [y], r1) (Nat.lt_succ_self _) ⟨by rw [hab1]; simp, (by first | (exact Qt.mono (n := k) (by repeat (first | exact hq | refine Qt.hu ?_ (by omega))) (by omega)) | (have hq := hq1; exact Qt.mono (n := k) (by repeat (first | exact hq | refine Qt.hu ?_ (by omega))) (by omega))), by omega⟩ (by simp -dsimp -implicitDefEqProofs (disch := omega) only [↓wpre, push_cast, seval, hh1]; all_goals (try simp only [AV.lit.injEq, Value.int.injEq, Value.bool.injEq, true_and, and_true]); all_goals (try (repeat' apply And.intro)); all_goals (first | rfl | omega | simp_all | skip))
set_option maxHeartbeats 1600000 in
theorem checkSurvive_ok (nz : Bool) (l : List Srv) (h : ∀ s ∈ l, SrvOk s) (ha : l.Pairwise fun a b => strLt a.name b.name = true) (hl : l.length ≤ 30) : AFn Tryz.prog G 190 [.ls nz (l.map Srv.c)] H (.int 0) := by
  refine AFn.start mix F190 (by simp) fun k hlow => ?_
  have h30 : ¬ (30 : Int) < l.length := by omega
  simp -dsimp -implicitDefEqProofs (disch := omega) only [↓wpre, push_cast, seval, c190, h30]
  refine xw_loopJ (σ := List Srv × List Srv) (fun t => [(0, .ls nz (l.map Srv.c)), (9, .ls nz (l.map Srv.c)), (10, .int l.length), (11, .int t.1.length)]) (fun t H' n' => l = t.1 ++ t.2 ∧ Qt H H' k ∧ k ≤ n') (fun t => t.2.length) ([], l) ⟨rfl, .refl hlow, Nat.le_refl _⟩ (by simp -dsimp -implicitDefEqProofs (disch := omega) only [↓wpre, push_cast, seval]) ?_
  rintro ⟨d, r⟩ fr H' n1 ⟨hab, hq, hn⟩ hh
  simp only [has_nil, has_cons, and_true] at hh hab
  have hll : l.length = d.length + r.length := by rw [hab]; simp
  cases r with
  | nil =>
    have hlt : ¬ (d.length : Int) < l.length := by rw [hll]; simp
    simp -dsimp -implicitDefEqProofs (disch := omega) only [↓wpre, push_cast, seval, hh, hlt]
    exact (Qt.mono (n := k) (by repeat (first | exact hq | refine Qt.hu ?_ (by omega))) (Nat.le_refl _)).1
  | cons x r =>
    have hlt : (d.length : Int) < l.length := by rw [hll]; simp only [List.length_cons]; omega
    have hx : l[d.length]? = some x := by rw [hab]; simp
    have hxo := h x (by rw [hab]; simp)
    have hk := hxo.key
    have hs1 := hxo.small.1
    have hw : within x.how 1 7 = true := by have := hxo.how; simp [within]; omega
    simp -dsimp -implicitDefEqProofs (disch := omega) only [↓wpre, push_cast, seval, hh, hlt, even_srv, aidx_at rfl hx]
    (first | with_reducible refine (isKey_c _ _ x.name (by omega)).x fun n' hn' => ?_ | with_reducible refine xfn_intro (isKey_c _ _ x.name (by omega)) ?_); try simp -dsimp -implicitDefEqProofs (disch := omega) only [↓wpre, push_cast, seval, hh, hk]
    (first | with_reducible refine (within_c _ _ x.how 1 7).x fun n' hn' => ?_ | with_reducible refine xfn_intro (within_c _ _ x.how 1 7) ?_); try simp -dsimp -implicitDefEqProofs (disch := omega) only [↓wpre, push_cast, seval, hh, hw]
    (first | with_reducible refine (checkSources_ok _ _ x hxo).x fun n' hn' => ?_ | with_reducible refine xfn_intro (checkSources_ok _ _ x hxo) ?_); try simp -dsimp -implicitDefEqProofs (disch := omega) only [↓wpre, push_cast, seval, hh]
    rcases last_of d with rfl | ⟨d', p, rfl⟩
    · have h0 : ¬ (0 : Int) < 0 := by omega
      simp -dsimp -implicitDefEqProofs (disch := omega) only [↓wpre, push_cast, seval, hh, h0, List.length_nil, Int.natCast_zero]
      refine anyN_intro fun n3 hn3 => ?_
      simp -dsimp -implicitDefEqProofs (disch := omega) only [↓wpre, push_cast, seval, hh]
      refine againJ ([x], r) (Nat.lt_succ_self _) ⟨hab, by exact Qt.mono (n := k) (by repeat (first | exact hq | refine Qt.hu ?_ (by omega))) (by omega), by omega⟩ (by simp -dsimp -implicitDefEqProofs (disch := omega) only [↓wpre, push_cast, seval, hh]; all_goals (try simp only [AV.lit.injEq, Value.int.injEq, Value.bool.injEq, true_and, and_true]); all_goals (try (repeat' apply And.intro)); all_goals (first | rfl | omega | simp_all | skip))
    · have h0 : (0 : Int) < (d'.length : Int) + 1 := by omega
      have hdl : d'.length + 1 ≤ l.length := by have := hll; simp at this; omega
      have hp : l[d'.length]? = some p := by rw [hab]; simp
      have e1 : (d'.length : Int) + 1 - 1 = ((d'.length : Nat) : Int) := by omega
      have hc : (strLt x.name p.name || decide (x.name = p.name)) = false := by
        have h1 := ha
        rw [hab] at h1
        have h2 := (List.pairwise_append.1 h1).2.2 p (by simp) x (by simp)
        have h3 := Co.strLt_asymm h2
        have h4 := Co.strLt_ne h2
        rw [h3]
        simp only [Bool.false_or, decide_eq_false_iff_not]
        exact fun e => h4 e.symm
      simp -dsimp -implicitDefEqProofs (disch := omega) only [↓wpre, push_cast, seval, hh, h0, even_srv, e1, aidx_at rfl hp, hc]
      refine anyN_intro fun n3 hn3 => ?_
      simp -dsimp -implicitDefEqProofs (disch := omega) only [↓wpre, push_cast, seval, hh]
      refine againJ ((d' ++ [p]) ++ [x], r) (Nat.lt_succ_self _) ⟨by rw [hab]; simp, by exact Qt.mono (n := k) (by repeat (first | exact hq | refine Qt.hu ?_ (by omega))) (by omega), by omega⟩ (by simp -dsimp -implicitDefEqProofs (disch := omega) only [↓wpre, push_cast, seval, hh]; all_goals (try simp only [AV.lit.injEq, Value.int.injEq, Value.bool.injEq, true_and, and_true]); all_goals (try (repeat' apply And.intro)); all_goals (first | rfl | omega | simp_all | skip))
theorem kinds_few : ∀ (l : List Int) (lo : Int), (∀ k ∈ l, lo < k ∧ k ≤ 4) → l.Pairwise (· < ·) → (l.length : Int) ≤ 4 - lo ∨ l = []
  | [], lo, _, _ => .inr rfl
  | x :: l, lo, h, ha => by
    obtain ⟨h1, h2⟩ := List.pairwise_cons.1 ha
    have hx := h x (by simp)
    rcases kinds_few l x (fun k hk => ⟨h1 k hk, (h k (by simp [hk])).2⟩) h2 with h3 | rfl
    · left; simp only [List.length_cons]; omega
    · left; simp; omega
set_option maxHeartbeats 1600000 in
theorem checkRules_ok {m : Int} {cs : List AV} (hG : G 4 = .pp (.lit (.int .i64 m) :: cs)) (r : Rls) (h : RulesOk r) : AFn Tryz.prog G 116 [.agg r.c] H (.int 0) := by
  have hfew := kinds_few r.kinds 0 (fun k hk => by have := h.kin k hk; omega) h.kasc
  have hk4 : r.kinds.length ≤ 4 := by rcases hfew with e | e; omega; simp [e]
  have hk0 : ¬ (r.kinds.length : Int) = 0 := by
    have := h.some
    cases hr : r.kinds with
    | nil => exact absurd hr this
    | cons a b => simp <;> omega
  obtain ⟨hsome, hkin, hkasc, hmost, hwfew, hweak, hsfew, hsrv, hsasc⟩ := h
  obtain ⟨nzk, kinds, most, nzw, weak, nzs, srv⟩ := r
  dsimp only at *
  refine AFn.start mix F116 (by simp) fun k hlow => ?_
  simp -dsimp -implicitDefEqProofs (disch := omega) only [↓wpre, push_cast, seval, c116, hk0]
  refine xw_loopJ (σ := List Int × List Int) (fun t => [(1, .pp (Rls.c ⟨nzk, kinds, most, nzw, weak, nzs, srv⟩)), (11, LL nzk kinds), (12, .int kinds.length), (13, .int t.1.length)]) (fun t H' n' => kinds = t.1 ++ t.2 ∧ Qt H H' k ∧ k ≤ n') (fun t => t.2.length) ([], kinds) ⟨rfl, (by first | exact .refl hlow | (exact Qt.mono (n := k) (by repeat (first | exact hq | refine Qt.hu ?_ (by omega))) (by omega)) | (refine Qt.hu (.refl hlow) (by omega))), (by omega)⟩ (by simp -dsimp -implicitDefEqProofs (disch := omega) only [↓wpre, push_cast, seval]) ?_
  rintro ⟨d, r⟩ fr H' n1 ⟨hab, hq, hn⟩ hh
  simp only [has_nil, has_cons, and_true] at hh hab
  have hll : kinds.length = d.length + r.length := by rw [hab]; simp
  cases r with
  | nil =>
    have hlt : ¬ (d.length : Int) < kinds.length := by rw [hll]; simp
    have hw : within most 2 2000 = true := by simp [within]; omega
    have h200 : ¬ (200 : Int) < weak.length := by omega
    simp -dsimp -implicitDefEqProofs (disch := omega) only [↓wpre, push_cast, seval, hh, hlt]
    (first | with_reducible refine (within_c _ _ most 2 2000).x fun n' hn' => ?_ | with_reducible refine xfn_intro (within_c _ _ most 2 2000) ?_); try simp -dsimp -implicitDefEqProofs (disch := omega) only [↓wpre, push_cast, seval, hh, hw, h200]
    (first | with_reducible refine (checkIds_ok _ _ hG nzw weak hweak (by omega)).x fun n' hn' => ?_ | with_reducible refine xfn_intro (checkIds_ok _ _ hG nzw weak hweak (by omega)) ?_); try simp -dsimp -implicitDefEqProofs (disch := omega) only [↓wpre, push_cast, seval, hh]
    (first | with_reducible refine (checkSurvive_ok _ _ nzs srv hsrv hsasc hsfew).x fun n' hn' => ?_ | with_reducible refine xfn_intro (checkSurvive_ok _ _ nzs srv hsrv hsasc hsfew) ?_); try simp -dsimp -implicitDefEqProofs (disch := omega) only [↓wpre, push_cast, seval, hh]
    try exact (Qt.mono (n := k) (by repeat (first | exact hq | refine Qt.hu ?_ (by omega))) (Nat.le_refl _)).1
  | cons x r =>
    have hlt : (d.length : Int) < kinds.length := by rw [hll]; simp only [List.length_cons]; omega
    have hx : kinds[d.length]? = some x := by rw [hab]; simp
    have hw : within x 1 4 = true := by have := hkin x (by rw [hab]; simp); simp [within]; omega
    simp -dsimp -implicitDefEqProofs (disch := omega) only [↓wpre, push_cast, seval, hh, hlt, even_ints', aidx_at rfl hx]
    (first | with_reducible refine (within_c _ _ x 1 4).x fun n' hn' => ?_ | with_reducible refine xfn_intro (within_c _ _ x 1 4) ?_); try simp -dsimp -implicitDefEqProofs (disch := omega) only [↓wpre, push_cast, seval, hh, hw]
    rcases last_of d with rfl | ⟨d', p, rfl⟩
    · have h0 : ¬ (0 : Int) < 0 := by omega
      simp -dsimp -implicitDefEqProofs (disch := omega) only [↓wpre, push_cast, seval, hh, h0, List.length_nil, Int.natCast_zero]
      refine againJ ([x], r) (Nat.lt_succ_self _) ⟨hab, (by first | (exact Qt.mono (n := k) (by repeat (first | exact hq | refine Qt.hu ?_ (by omega))) (by omega)) | (have hq := hq1; exact Qt.mono (n := k) (by repeat (first | exact hq | refine Qt.hu ?_ (by omega))) (by omega))), by omega⟩ (by simp -dsimp -implicitDefEqProofs (disch := omega) only [↓wpre, push_cast, seval, hh]; all_goals (try simp only [AV.lit.injEq, Value.int.injEq, Value.bool.injEq, true_and, and_true]); all_goals (try (repeat' apply And.intro)); all_goals (first | rfl | omega | simp_all | skip))
    · have h0 : (0 : Int) < (d'.length : Int) + 1 := by omega
      have hdl : d'.length + 1 ≤ kinds.length := by have := hll; simp at this; omega
      have hp : kinds[d'.length]? = some p := by rw [hab]; simp
      have e1 : (d'.length : Int) + 1 - 1 = ((d'.length : Nat) : Int) := by omega
      have hc : ¬ x ≤ p := by
        have h1 := hkasc
        rw [hab] at h1
        have h2 := (List.pairwise_append.1 h1).2.2 p (by simp) x (by simp)
        omega
      simp -dsimp -implicitDefEqProofs (disch := omega) only [↓wpre, push_cast, seval, hh, h0, even_ints', e1, aidx_at rfl hp, hc]
      refine againJ ((d' ++ [p]) ++ [x], r) (Nat.lt_succ_self _) ⟨by rw [hab]; simp, (by first | (exact Qt.mono (n := k) (by repeat (first | exact hq | refine Qt.hu ?_ (by omega))) (by omega)) | (have hq := hq1; exact Qt.mono (n := k) (by repeat (first | exact hq | refine Qt.hu ?_ (by omega))) (by omega))), by omega⟩ (by simp -dsimp -implicitDefEqProofs (disch := omega) only [↓wpre, push_cast, seval, hh]; all_goals (try simp only [AV.lit.injEq, Value.int.injEq, Value.bool.injEq, true_and, and_true]); all_goals (try (repeat' apply And.intro)); all_goals (first | rfl | omega | simp_all | skip))
end Go.Proofs.YtblhbafoncfhdaaGreatDoor

