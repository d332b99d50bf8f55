/- Contracts of functions of the program: each computes what its model says; the conditions stand at each. -/
import Derived.Test.YtblhbafoncfhdaaGreatDoorP1
import Derived.Test.YtblhbafoncfhdaaGreatDoorA5
import Derived.Test.YtblhbafoncfhdaaGreatDoorTc3
import Derived.Test.YtblhbafoncfhdaaGreatDoorE3
set_option linter.unusedSimpArgs false
set_option linter.unusedVariables false
set_option maxRecDepth 20000
namespace Go.Proofs.YtblhbafoncfhdaaGreatDoor
open Go Go.Ab Go.Pm Go.Cm Go.El Go.Rm Go.Pp
variable (G : Nat → AV) (H : Nat → Option AObj)
theorem low_of {P : Program} {f : FuncId} {args : List AV} {n : Nat} {R : AV → (Nat → Option AObj) → Nat → Prop} (h : Low H n → ACalls P G f args H n R) : ACalls P G f args H n R := by
 intro w g vs h1 h2 h3 h4 h5
 exact h (fun i o hi => by rw [← h3]; exact (h1.lt i o (by rw [h2]; exact hi)).1) w g vs h1 h2 h3 h4 h5
theorem plain_fld (l : List Fld) : ∀ r ∈ l.map Fld.c, plain r = true := fun r hr => by
 obtain ⟨s, _, rfl⟩ := List.mem_map.1 hr; rfl
theorem even_ids (l : List Idn) : Even 2 (l.map Idn.c) = True := eq_true fun r hr => by
 obtain ⟨s, _, rfl⟩ := List.mem_map.1 hr; exact ⟨rfl, rfl⟩
theorem even_srv (l : List Srv) : Even 3 (l.map Srv.c) = True := eq_true fun r hr => by
 obtain ⟨s, _, rfl⟩ := List.mem_map.1 hr; exact ⟨rfl, rfl⟩
theorem even_tch (l : List Tch) : Even 5 (l.map Tch.c) = True := eq_true fun r hr => by
 obtain ⟨s, _, rfl⟩ := List.mem_map.1 hr; exact ⟨rfl, rfl⟩
theorem cmpId_c (a b : Idn) : AFn Tryz.prog G 36 [.agg a.c, .agg b.c] H (.int (cmpId a b)) := by
 obtain ⟨ka, ta⟩ := a
 obtain ⟨kb, tb⟩ := b
 refine AFn.start mix F36 (by simp) fun k hlow => ?_
 simp (disch := omega) only [↓wpre, push_cast, seval, c36]
 (first | with_reducible refine (cmpI_c _ _ _ _).x fun n' hn' => ?_ | with_reducible refine xfn_intro (cmpI_c _ _ _ _) ?_); try simp (disch := omega) only [↓wpre, push_cast, seval, true_and]
 (first | with_reducible refine (cmpS_c _ _ _ _).x fun n' hn' => ?_ | with_reducible refine xfn_intro (cmpS_c _ _ _ _) ?_); try simp (disch := omega) only [↓wpre, push_cast, seval, true_and]
 (first | with_reducible refine (cmpOr_c _ _ [cmpI ka kb, cmpS ta tb] (by simp)).x fun n' hn' => ?_ | with_reducible refine xfn_intro (cmpOr_c _ _ [cmpI ka kb, cmpS ta tb] (by simp)) ?_); try simp (disch := omega) only [↓wpre, push_cast, seval, true_and]
 refine anyN_intro fun n2 hn2 => ?_
 simp (disch := omega) only [↓wpre, push_cast, seval]
 rfl
theorem checkIds_ok {m : Int} {cs : List AV} (hG : G 4 = .pp (.lit (.int .i64 m) :: cs)) (nz : Bool) (l : List Idn) (h : IdsOk l) (hl : l.length ≤ 100000) : AFn Tryz.prog G 189 [.ls nz (l.map Idn.c)] H (.int 0) := by
 refine AFn.start mix F189 (by simp) fun k hlow => ?_
 simp (disch := omega) only [↓wpre, push_cast, seval, c189]
 refine xw_loopJ (σ := List Idn × List Idn) (fun t => [(0, .ls nz (l.map Idn.c)), (6, .ls nz (l.map Idn.c)), (7, .int l.length), (8, .int t.1.length)]) (fun t H' n' => l = t.1 ++ t.2 ∧ Qt H H' k ∧ k ≤ n') (fun t => t.2.length) ([], l) ⟨rfl, .refl hlow, Nat.le_refl _⟩ (by simp (disch := omega) only [↓wpre, push_cast, seval]) ?_
 rintro ⟨d, r⟩ fr H' n1 ⟨hab, hq, hn⟩ hh
 simp only [has_nil, has_cons, and_true] at hh hab
 have hll : l.length = d.length + r.length := by rw [hab]; simp
 cases r with
 | nil =>
  have hlt : ¬ (d.length : Int) < l.length := by rw [hll]; simp
  simp (disch := omega) only [↓wpre, push_cast, seval, hh, hlt]
  exact (Qt.mono (n := k) (by repeat (first | exact hq | refine Qt.hu ?_ (by omega))) (Nat.le_refl _)).1
 | cons x r =>
  have hlt : (d.length : Int) < l.length := by rw [hll]; simp only [List.length_cons]; omega
  have hx : l[d.length]? = some x := by rw [hab]; simp
  have hxm : x ∈ l := by rw [hab]; simp
  have hxs := h.small x hxm
  have hxe := h.each x hxm
  simp (disch := omega) only [↓wpre, push_cast, seval, hh, hlt, even_ids, aidx_at rfl hx]
  (first | with_reducible refine (checkId_c _ _ hG x.kind x.text (by omega)).x fun n' hn' => ?_ | with_reducible refine xfn_intro (checkId_c _ _ hG x.kind x.text (by omega)) ?_); try simp (disch := omega) only [↓wpre, push_cast, seval, hh, hxe]
  rcases last_of d with rfl | ⟨d', p, rfl⟩
  ·have h0 : ¬ (0 : Int) < 0 := by omega
   simp (disch := omega) only [↓wpre, push_cast, seval, hh, h0, List.length_nil, Int.natCast_zero]
   refine anyN_intro fun n3 hn3 => ?_
   simp (disch := omega) only [↓wpre, push_cast, seval, hh]
   refine againJ ([x], r) (Nat.lt_succ_self _) ⟨hab, by exact Qt.mono (n := k) (by repeat (first | exact hq | refine Qt.hu ?_ (by omega))) (by omega), by omega⟩ (by simp (disch := omega) only [↓wpre, push_cast, seval, hh]; all_goals (try simp only [AV.lit.injEq, Value.int.injEq, Value.bool.injEq, true_and, and_true]); all_goals (try (repeat' apply And.intro)); all_goals (first | rfl | omega | simp_all | skip))
  ·have h0 : (0 : Int) < (d'.length : Int) + 1 := by omega
   have hdl : d'.length + 1 ≤ l.length := by have := hll; simp at this; omega
   have hp : l[d'.length]? = some p := by rw [hab]; simp
   have e1 : (d'.length : Int) + 1 - 1 = ((d'.length : Nat) : Int) := by omega
   have hc : ¬ cmpId x p ≤ 0 := by
    have h1 := h.asc
    rw [hab] at h1
    have h2 := (List.pairwise_append.1 h1).2.2 p (by simp) x (by simp)
    have := (cmpId_tc.anti p x).1 h2
    omega
   simp (disch := omega) only [↓wpre, push_cast, seval, hh, h0, even_ids, e1, aidx_at rfl hp]
   (first | with_reducible refine (cmpId_c _ _ x p).x fun n' hn' => ?_ | with_reducible refine xfn_intro (cmpId_c _ _ x p) ?_); try simp (disch := omega) only [↓wpre, push_cast, seval, hh, hc]
   refine anyN_intro fun n3 hn3 => ?_
   simp (disch := omega) only [↓wpre, push_cast, seval, hh]
   refine againJ ((d' ++ [p]) ++ [x], r) (Nat.lt_succ_self _) ⟨by rw [hab]; simp, by exact Qt.mono (n := k) (by repeat (first | exact hq | refine Qt.hu ?_ (by omega))) (by omega), by omega⟩ (by simp (disch := omega) only [↓wpre, push_cast, seval, hh]; all_goals (try simp only [AV.lit.injEq, Value.int.injEq, Value.bool.injEq, true_and, and_true]); all_goals (try (repeat' apply And.intro)); all_goals (first | rfl | omega | simp_all | skip))
set_option maxHeartbeats 1600000 in
theorem checkSources_ok (s : Srv) (h : SrvOk s) : AFn Tryz.prog G 252 [.agg s.c] H (.int 0) := by
 obtain ⟨hkey, hhow, hform, hfew, hkeys, honce, hsm⟩ := h
 obtain ⟨name, how, nz, l⟩ := s
 dsimp only at hkey hhow hform hfew hkeys honce hsm
 refine AFn.start mix F252 (by simp) fun k hlow => ?_
 have h20 : ¬ (20 : Int) < l.length := by omega
 have hf : ¬ (0 : Int) < l.length ∨ ((0 : Int) < l.length ∧ decide (how = 5) = true) := by
  by_cases e : l = []
  ·left; subst e; simp
  ·right; exact ⟨by have := List.length_pos_iff.2 e; omega, by simp [hform e]⟩
 rcases hf with hf | ⟨hp, hf⟩
 case' inl => simp (disch := omega) only [↓wpre, push_cast, seval, c252, h20, hf]
 case' inr => simp (disch := omega) only [↓wpre, push_cast, seval, c252, h20, hp, hf]
 all_goals
  refine xw_loopJ (σ := List T × List T) (fun t => [(1, .pp (Srv.c ⟨name, how, nz, l⟩)), (23, LS nz l), (24, .int l.length), (25, .int t.1.length)]) (fun t H' n' => l = t.1 ++ t.2 ∧ Qt H H' k ∧ k ≤ n') (fun t => t.2.length) ([], l) ⟨rfl, (by first | exact .refl hlow | (exact Qt.mono (n := k) (by repeat (first | exact hq | refine Qt.hu ?_ (by omega))) (by omega)) | (refine Qt.hu (.refl hlow) (by omega))), (by omega)⟩ (by simp (disch := omega) only [↓wpre, push_cast, seval]) ?_
  rintro ⟨d, r⟩ fr H' n1 ⟨hab, hq, hn⟩ hh
  simp only [has_nil, has_cons, and_true] at hh hab
  have hll : l.length = d.length + r.length := by rw [hab]; simp
  cases r with
  | nil =>
   have hlt : ¬ (d.length : Int) < l.length := by rw [hll]; simp
   simp (disch := omega) only [↓wpre, push_cast, seval, hh, hlt]
   exact (Qt.mono (n := k) (by repeat (first | exact hq | refine Qt.hu ?_ (by omega))) (Nat.le_refl _)).1
  | cons x r =>
   have hlt : (d.length : Int) < l.length := by rw [hll]; simp only [List.length_cons]; omega
   have hx : l[d.length]? = some x := by rw [hab]; simp
   have hxm : x ∈ l := by rw [hab]; simp
   have hxs := hsm.2 x hxm
   have hxk := hkeys x hxm
   simp (disch := omega) only [↓wpre, push_cast, seval, hh, hlt, even_strs', aidx_at rfl hx]
   (first | with_reducible refine (isKey_c _ _ x (by omega)).x fun n' hn' => ?_ | with_reducible refine xfn_intro (isKey_c _ _ x (by omega)) ?_); try simp (disch := omega) only [↓wpre, push_cast, seval, hh, hxk]
   have htk : (l.map fun x => [AV.str x]).take d.length = d.map fun x => [AV.str x] := by rw [hab]; simp
   have hdt : ((d.length : Nat) : Int).toNat = d.length := Int.toNat_natCast _
   have hdl : d.length ≤ l.length := by omega
   simp (disch := omega) only [↓wpre, push_cast, seval, hh, even_strs', htk, hdt, hdl]
   refine xw_loopJ (σ := List T × List T) (fun t => [(1, .pp (Srv.c ⟨name, how, nz, l⟩)), (4, .str x), (23, LS nz l), (24, .int l.length), (25, .int d.length), (36, LS nz d), (37, .int d.length), (38, .int t.1.length)]) (fun t H' n' => d = t.1 ++ t.2 ∧ Qt H H' k ∧ k ≤ n') (fun t => t.2.length) ([], d) ⟨rfl, by exact Qt.mono (n := k) (by repeat (first | exact hq | refine Qt.hu ?_ (by omega))) (by omega), by omega⟩ (by simp (disch := omega) only [↓wpre, push_cast, seval, hh]) ?_
   rintro ⟨d1, r1⟩ fr H2 n2 ⟨hab1, hq, hn1⟩ hh1
   simp only [has_nil, has_cons, and_true] at hh1 hab1
   have hll1 : d.length = d1.length + r1.length := by rw [hab1]; simp
   cases r1 with
   | nil =>
    have hlt1 : ¬ (d1.length : Int) < d.length := by rw [hll1]; simp
    simp (disch := omega) only [↓wpre, push_cast, seval, hh1, hlt1]
    refine againJ (d ++ [x], r) (Nat.lt_succ_self _) ⟨by rw [hab]; simp, (by first | (exact Qt.mono (n := k) (by repeat (first | exact hq | refine Qt.hu ?_ (by omega))) (by omega)) | (have hq := hq1; exact Qt.mono (n := k) (by repeat (first | exact hq | refine Qt.hu ?_ (by omega))) (by omega))), by omega⟩ (by simp (disch := omega) only [↓wpre, push_cast, seval, hh1]; all_goals (try simp only [AV.lit.injEq, Value.int.injEq, Value.bool.injEq, true_and, and_true]); all_goals (try (repeat' apply And.intro)); all_goals (first | rfl | omega | simp_all | skip))
   | cons y r1 =>
    have hlt1 : (d1.length : Int) < d.length := by rw [hll1]; simp only [List.length_cons]; omega
    have hy : d[d1.length]? = some y := by rw [hab1]; simp
    have hyx : ¬ y = x := by
     rintro rfl
     rw [hab] at honce
     have := (List.nodup_append.1 honce).2.2 y (by rw [hab1]; simp) y (by simp)
     exact this rfl
    have hyx' : ¬ x = y := fun e => hyx e.symm
    simp (disch := omega) only [↓wpre, push_cast, seval, hh1, hlt1, even_strs', aidx_at rfl hy, hyx, hyx']
    refine againJ (d1 ++ [y], r1) (Nat.lt_succ_self _) ⟨by rw [hab1]; simp, (by first | (exact Qt.mono (n := k) (by repeat (first | exact hq | refine Qt.hu ?_ (by omega))) (by omega)) | (have hq := hq1; exact Qt.mono (n := k) (by repeat (first | exact hq | refine Qt.hu ?_ (by omega))) (by omega))), by omega⟩ (by simp (disch := omega) only [↓wpre, push_cast, seval, hh1]; all_goals (try simp only [AV.lit.injEq, Value.int.injEq, Value.bool.injEq, true_and, and_true]); all_goals (try (repeat' apply And.intro)); all_goals (first | rfl | omega | simp_all | skip))
set_option maxHeartbeats 1600000 in
theorem checkSurvive_ok (nz : Bool) (l : List Srv) (h : ∀ s ∈ l, SrvOk s) (ha : l.Pairwise fun a b => strLt a.name b.name = true) (hl : l.length ≤ 30) : AFn Tryz.prog G 190 [.ls nz (l.map Srv.c)] H (.int 0) := by
 refine AFn.start mix F190 (by simp) fun k hlow => ?_
 have h30 : ¬ (30 : Int) < l.length := by omega
 simp (disch := omega) only [↓wpre, push_cast, seval, c190, h30]
 refine xw_loopJ (σ := List Srv × List Srv) (fun t => [(0, .ls nz (l.map Srv.c)), (9, .ls nz (l.map Srv.c)), (10, .int l.length), (11, .int t.1.length)]) (fun t H' n' => l = t.1 ++ t.2 ∧ Qt H H' k ∧ k ≤ n') (fun t => t.2.length) ([], l) ⟨rfl, .refl hlow, Nat.le_refl _⟩ (by simp (disch := omega) only [↓wpre, push_cast, seval]) ?_
 rintro ⟨d, r⟩ fr H' n1 ⟨hab, hq, hn⟩ hh
 simp only [has_nil, has_cons, and_true] at hh hab
 have hll : l.length = d.length + r.length := by rw [hab]; simp
 cases r with
 | nil =>
  have hlt : ¬ (d.length : Int) < l.length := by rw [hll]; simp
  simp (disch := omega) only [↓wpre, push_cast, seval, hh, hlt]
  exact (Qt.mono (n := k) (by repeat (first | exact hq | refine Qt.hu ?_ (by omega))) (Nat.le_refl _)).1
 | cons x r =>
  have hlt : (d.length : Int) < l.length := by rw [hll]; simp only [List.length_cons]; omega
  have hx : l[d.length]? = some x := by rw [hab]; simp
  have hxo := h x (by rw [hab]; simp)
  have hk := hxo.key
  have hs1 := hxo.small.1
  have hw : within x.how 1 7 = true := by have := hxo.how; simp [within]; omega
  simp (disch := omega) only [↓wpre, push_cast, seval, hh, hlt, even_srv, aidx_at rfl hx]
  (first | with_reducible refine (isKey_c _ _ x.name (by omega)).x fun n' hn' => ?_ | with_reducible refine xfn_intro (isKey_c _ _ x.name (by omega)) ?_); try simp (disch := omega) only [↓wpre, push_cast, seval, hh, hk]
  (first | with_reducible refine (within_c _ _ x.how 1 7).x fun n' hn' => ?_ | with_reducible refine xfn_intro (within_c _ _ x.how 1 7) ?_); try simp (disch := omega) only [↓wpre, push_cast, seval, hh, hw]
  (first | with_reducible refine (checkSources_ok _ _ x hxo).x fun n' hn' => ?_ | with_reducible refine xfn_intro (checkSources_ok _ _ x hxo) ?_); try simp (disch := omega) only [↓wpre, push_cast, seval, hh]
  rcases last_of d with rfl | ⟨d', p, rfl⟩
  ·have h0 : ¬ (0 : Int) < 0 := by omega
   simp (disch := omega) only [↓wpre, push_cast, seval, hh, h0, List.length_nil, Int.natCast_zero]
   refine anyN_intro fun n3 hn3 => ?_
   simp (disch := omega) only [↓wpre, push_cast, seval, hh]
   refine againJ ([x], r) (Nat.lt_succ_self _) ⟨hab, by exact Qt.mono (n := k) (by repeat (first | exact hq | refine Qt.hu ?_ (by omega))) (by omega), by omega⟩ (by simp (disch := omega) only [↓wpre, push_cast, seval, hh]; all_goals (try simp only [AV.lit.injEq, Value.int.injEq, Value.bool.injEq, true_and, and_true]); all_goals (try (repeat' apply And.intro)); all_goals (first | rfl | omega | simp_all | skip))
  ·have h0 : (0 : Int) < (d'.length : Int) + 1 := by omega
   have hdl : d'.length + 1 ≤ l.length := by have := hll; simp at this; omega
   have hp : l[d'.length]? = some p := by rw [hab]; simp
   have e1 : (d'.length : Int) + 1 - 1 = ((d'.length : Nat) : Int) := by omega
   have hc : (strLt x.name p.name || decide (x.name = p.name)) = false := by
    have h1 := ha
    rw [hab] at h1
    have h2 := (List.pairwise_append.1 h1).2.2 p (by simp) x (by simp)
    have h3 := Co.strLt_asymm h2
    have h4 := Co.strLt_ne h2
    rw [h3]
    simp only [Bool.false_or, decide_eq_false_iff_not]
    exact fun e => h4 e.symm
   simp (disch := omega) only [↓wpre, push_cast, seval, hh, h0, even_srv, e1, aidx_at rfl hp, hc]
   refine anyN_intro fun n3 hn3 => ?_
   simp (disch := omega) only [↓wpre, push_cast, seval, hh]
   refine againJ ((d' ++ [p]) ++ [x], r) (Nat.lt_succ_self _) ⟨by rw [hab]; simp, by exact Qt.mono (n := k) (by repeat (first | exact hq | refine Qt.hu ?_ (by omega))) (by omega), by omega⟩ (by simp (disch := omega) only [↓wpre, push_cast, seval, hh]; all_goals (try simp only [AV.lit.injEq, Value.int.injEq, Value.bool.injEq, true_and, and_true]); all_goals (try (repeat' apply And.intro)); all_goals (first | rfl | omega | simp_all | skip))
theorem kinds_few : ∀ (l : List Int) (lo : Int), (∀ k ∈ l, lo < k ∧ k ≤ 4) → l.Pairwise (· < ·) → (l.length : Int) ≤ 4 - lo ∨ l = []
 | [], lo, _, _ => .inr rfl
 | x :: l, lo, h, ha => by
  obtain ⟨h1, h2⟩ := List.pairwise_cons.1 ha
  have hx := h x (by simp)
  rcases kinds_few l x (fun k hk => ⟨h1 k hk, (h k (by simp [hk])).2⟩) h2 with h3 | rfl
  ·left; simp only [List.length_cons]; omega
  ·left; simp; omega
set_option maxHeartbeats 1600000 in
theorem checkRules_ok {m : Int} {cs : List AV} (hG : G 4 = .pp (.lit (.int .i64 m) :: cs)) (r : Rls) (h : RulesOk r) : AFn Tryz.prog G 116 [.agg r.c] H (.int 0) := by
 have hfew := kinds_few r.kinds 0 (fun k hk => by have := h.kin k hk; omega) h.kasc
 have hk4 : r.kinds.length ≤ 4 := by rcases hfew with e | e; omega; simp [e]
 have hk0 : ¬ (r.kinds.length : Int) = 0 := by
  have := h.some
  cases hr : r.kinds with
  | nil => exact absurd hr this
  | cons a b => simp <;> omega
 obtain ⟨hsome, hkin, hkasc, hmost, hwfew, hweak, hsfew, hsrv, hsasc⟩ := h
 obtain ⟨nzk, kinds, most, nzw, weak, nzs, srv⟩ := r
 dsimp only at *
 refine AFn.start mix F116 (by simp) fun k hlow => ?_
 simp (disch := omega) only [↓wpre, push_cast, seval, c116, hk0]
 refine xw_loopJ (σ := List Int × List Int) (fun t => [(1, .pp (Rls.c ⟨nzk, kinds, most, nzw, weak, nzs, srv⟩)), (11, LL nzk kinds), (12, .int kinds.length), (13, .int t.1.length)]) (fun t H' n' => kinds = t.1 ++ t.2 ∧ Qt H H' k ∧ k ≤ n') (fun t => t.2.length) ([], kinds) ⟨rfl, (by first | exact .refl hlow | (exact Qt.mono (n := k) (by repeat (first | exact hq | refine Qt.hu ?_ (by omega))) (by omega)) | (refine Qt.hu (.refl hlow) (by omega))), (by omega)⟩ (by simp (disch := omega) only [↓wpre, push_cast, seval]) ?_
 rintro ⟨d, r⟩ fr H' n1 ⟨hab, hq, hn⟩ hh
 simp only [has_nil, has_cons, and_true] at hh hab
 have hll : kinds.length = d.length + r.length := by rw [hab]; simp
 cases r with
 | nil =>
  have hlt : ¬ (d.length : Int) < kinds.length := by rw [hll]; simp
  have hw : within most 2 2000 = true := by simp [within]; omega
  have h200 : ¬ (200 : Int) < weak.length := by omega
  simp (disch := omega) only [↓wpre, push_cast, seval, hh, hlt]
  (first | with_reducible refine (within_c _ _ most 2 2000).x fun n' hn' => ?_ | with_reducible refine xfn_intro (within_c _ _ most 2 2000) ?_); try simp (disch := omega) only [↓wpre, push_cast, seval, hh, hw, h200]
  (first | with_reducible refine (checkIds_ok _ _ hG nzw weak hweak (by omega)).x fun n' hn' => ?_ | with_reducible refine xfn_intro (checkIds_ok _ _ hG nzw weak hweak (by omega)) ?_); try simp (disch := omega) only [↓wpre, push_cast, seval, hh]
  (first | with_reducible refine (checkSurvive_ok _ _ nzs srv hsrv hsasc hsfew).x fun n' hn' => ?_ | with_reducible refine xfn_intro (checkSurvive_ok _ _ nzs srv hsrv hsasc hsfew) ?_); try simp (disch := omega) only [↓wpre, push_cast, seval, hh]
  try exact (Qt.mono (n := k) (by repeat (first | exact hq | refine Qt.hu ?_ (by omega))) (Nat.le_refl _)).1
 | cons x r =>
  have hlt : (d.length : Int) < kinds.length := by rw [hll]; simp only [List.length_cons]; omega
  have hx : kinds[d.length]? = some x := by rw [hab]; simp
  have hw : within x 1 4 = true := by have := hkin x (by rw [hab]; simp); simp [within]; omega
  simp (disch := omega) only [↓wpre, push_cast, seval, hh, hlt, even_ints', aidx_at rfl hx]
  (first | with_reducible refine (within_c _ _ x 1 4).x fun n' hn' => ?_ | with_reducible refine xfn_intro (within_c _ _ x 1 4) ?_); try simp (disch := omega) only [↓wpre, push_cast, seval, hh, hw]
  rcases last_of d with rfl | ⟨d', p, rfl⟩
  ·have h0 : ¬ (0 : Int) < 0 := by omega
   simp (disch := omega) only [↓wpre, push_cast, seval, hh, h0, List.length_nil, Int.natCast_zero]
   refine againJ ([x], r) (Nat.lt_succ_self _) ⟨hab, (by first | (exact Qt.mono (n := k) (by repeat (first | exact hq | refine Qt.hu ?_ (by omega))) (by omega)) | (have hq := hq1; exact Qt.mono (n := k) (by repeat (first | exact hq | refine Qt.hu ?_ (by omega))) (by omega))), by omega⟩ (by simp (disch := omega) only [↓wpre, push_cast, seval, hh]; all_goals (try simp only [AV.lit.injEq, Value.int.injEq, Value.bool.injEq, true_and, and_true]); all_goals (try (repeat' apply And.intro)); all_goals (first | rfl | omega | simp_all | skip))
  ·have h0 : (0 : Int) < (d'.length : Int) + 1 := by omega
   have hdl : d'.length + 1 ≤ kinds.length := by have := hll; simp at this; omega
   have hp : kinds[d'.length]? = some p := by rw [hab]; simp
   have e1 : (d'.length : Int) + 1 - 1 = ((d'.length : Nat) : Int) := by omega
   have hc : ¬ x ≤ p := by
    have h1 := hkasc
    rw [hab] at h1
    have h2 := (List.pairwise_append.1 h1).2.2 p (by simp) x (by simp)
    omega
   simp (disch := omega) only [↓wpre, push_cast, seval, hh, h0, even_ints', e1, aidx_at rfl hp, hc]
   refine againJ ((d' ++ [p]) ++ [x], r) (Nat.lt_succ_self _) ⟨by rw [hab]; simp, (by first | (exact Qt.mono (n := k) (by repeat (first | exact hq | refine Qt.hu ?_ (by omega))) (by omega)) | (have hq := hq1; exact Qt.mono (n := k) (by repeat (first | exact hq | refine Qt.hu ?_ (by omega))) (by omega))), by omega⟩ (by simp (disch := omega) only [↓wpre, push_cast, seval, hh]; all_goals (try simp only [AV.lit.injEq, Value.int.injEq, Value.bool.injEq, true_and, and_true]); all_goals (try (repeat' apply And.intro)); all_goals (first | rfl | omega | simp_all | skip))
set_option maxHeartbeats 1600000 in
theorem checkTouch_ok {m : Int} {cs : List AV} (hG : G 4 = .pp (.lit (.int .i64 m) :: cs)) (hU : GU G) (t : Tch) (h : TouchOk t) (b : Int) (hb : b < t.no) : AFn Tryz.prog G 118 [.agg t.c, .int b] H (.int 0) := by
 obtain ⟨hno, hat, hsrc, hsome, hfew, hids, hfs, hs1, hs2, hs3⟩ := h
 obtain ⟨no, at', src, nzi, ids, nzf, fs⟩ := t
 dsimp only at *
 have hsm : SmallF fs := by intro f hf; exact hs3 f hf
 refine AFn.start mix F118 (by simp) fun k hlow => ?_
 have hw1 : within no 1 1000000 = true := by simp [within]; omega
 have hw2 : within at' 0 4321439 = true := by simp [within]; omega
 have hb' : ¬ no ≤ b := by omega
 have h0 : ¬ (ids.length : Int) = 0 := by
  cases ids with
  | nil => exact absurd rfl hsome
  | cons a b => simp; omega
 have h10 : ¬ (10 : Int) < ids.length := by omega
 simp (disch := omega) only [↓wpre, push_cast, seval, c118]
 (first | with_reducible refine (within_c _ _ no 1 1000000).x fun n' hn' => ?_ | with_reducible refine xfn_intro (within_c _ _ no 1 1000000) ?_); try simp (disch := omega) only [↓wpre, push_cast, seval, hw1]
 (first | with_reducible refine (within_c _ _ at' 0 4321439).x fun n' hn' => ?_ | with_reducible refine xfn_intro (within_c _ _ at' 0 4321439) ?_); try simp (disch := omega) only [↓wpre, push_cast, seval, hw2, hb']
 (first | with_reducible refine (isKey_c _ _ src (by omega)).x fun n' hn' => ?_ | with_reducible refine xfn_intro (isKey_c _ _ src (by omega)) ?_); try simp (disch := omega) only [↓wpre, push_cast, seval, hsrc, h0, h10]
 (first | with_reducible refine (checkIds_ok _ _ hG nzi ids hids (by omega)).x fun n' hn' => ?_ | with_reducible refine xfn_intro (checkIds_ok _ _ hG nzi ids hids (by omega)) ?_); try simp (disch := omega) only [↓wpre, push_cast, seval, true_and]
 (first | with_reducible refine (checkFields_c _ _ hU nzf fs hsm (by omega)).x fun n' hn' => ?_ | with_reducible refine xfn_intro (checkFields_c _ _ hU nzf fs hsm (by omega)) ?_); try simp (disch := omega) only [↓wpre, push_cast, seval, hfs]
set_option maxHeartbeats 1600000 in
theorem check_ok {m : Int} {cs : List AV} (hG : G 4 = .pp (.lit (.int .i64 m) :: cs)) (hU : GU G) (nz : Bool) (l : List Tch) (h : TouchesOk l) : AFn Tryz.prog G 152 [.ls nz (l.map Tch.c)] H (.int 0) := by
 obtain ⟨hfew, heach, hrise⟩ := h
 refine AFn.start mix F152 (by simp) fun k hlow => ?_
 have h2000 : ¬ (2000 : Int) < l.length := by omega
 simp (disch := omega) only [↓wpre, push_cast, seval, c152, h2000]
 refine xw_loopJ (σ := List Tch × List Tch) (fun t => [(3, .int (match t.1.getLast? with | some p => p.no | none => 0)), (10, .ls nz (l.map Tch.c)), (11, .int l.length), (12, .int t.1.length)]) (fun t H' n' => l = t.1 ++ t.2 ∧ Qt H H' k ∧ k ≤ n') (fun t => t.2.length) ([], l) ⟨rfl, (by first | exact .refl hlow | (refine Qt.hu (.refl hlow) (by omega))), (by omega)⟩ (by simp (disch := omega) only [↓wpre, push_cast, seval]; try rfl) ?_
 rintro ⟨d, r⟩ fr H' n1 ⟨hab, hq, hn⟩ hh
 simp only [has_nil, has_cons, and_true] at hh hab
 have hll : l.length = d.length + r.length := by rw [hab]; simp
 cases r with
 | nil =>
  have hlt : ¬ (d.length : Int) < l.length := by rw [hll]; simp
  simp (disch := omega) only [↓wpre, push_cast, seval, hh, hlt]
  exact (Qt.mono (n := k) (by repeat (first | exact hq | refine Qt.hu ?_ (by omega))) (Nat.le_refl _)).1
 | cons x r =>
  have hlt : (d.length : Int) < l.length := by rw [hll]; simp only [List.length_cons]; omega
  have hx : l[d.length]? = some x := by rw [hab]; simp
  have hxo := heach x (by rw [hab]; simp)
  have hbef : (match d.getLast? with | some p => p.no | none => 0) < x.no := by
   rcases last_of d with rfl | ⟨d', p, rfl⟩
   ·have := hxo.no; simp; omega
   ·have h1 := hrise
    rw [hab] at h1
    have h2 := (List.pairwise_append.1 h1).2.2 p (by simp) x (by simp)
    simpa using h2
  simp (disch := omega) only [↓wpre, push_cast, seval, hh, hlt, even_tch, aidx_at rfl hx]
  (first | with_reducible refine (checkTouch_ok _ _ hG hU x hxo _ hbef).x fun n' hn' => ?_ | with_reducible refine xfn_intro (checkTouch_ok _ _ hG hU x hxo _ hbef) ?_); try simp (disch := omega) only [↓wpre, push_cast, seval, hh]
  refine againJ (d ++ [x], r) (Nat.lt_succ_self _) ⟨by rw [hab]; simp, by exact Qt.mono (n := k) (by repeat (first | exact hq | refine Qt.hu ?_ (by omega))) (by omega), by omega⟩ (by simp (disch := omega) only [↓wpre, push_cast, seval, hh, getLast?_snoc]; all_goals (try simp only [AV.lit.injEq, Value.int.injEq, Value.bool.injEq, true_and, and_true]); all_goals (try (repeat' apply And.intro)); all_goals (first | rfl | omega | simp_all | skip))
theorem checkBoth_ok {m : Int} {cs : List AV} (hG : G 4 = .pp (.lit (.int .i64 m) :: cs)) (hU : GU G) (r : Rls) (hr : RulesOk r) (nz : Bool) (l : List Tch) (h : TouchesOk l) : AFn Tryz.prog G 82 [.agg r.c, .ls nz (l.map Tch.c)] H (.int 0) := by
 refine AFn.start mix F82 (by simp) fun k hlow => ?_
 simp (disch := omega) only [↓wpre, push_cast, seval, c82]
 (first | with_reducible refine (checkRules_ok _ _ hG r hr).x fun n' hn' => ?_ | with_reducible refine xfn_intro (checkRules_ok _ _ hG r hr) ?_); try simp (disch := omega) only [↓wpre, push_cast, seval, true_and]
 (first | with_reducible refine (check_ok _ _ hG hU nz l h).x fun n' hn' => ?_ | with_reducible refine xfn_intro (check_ok _ _ hG hU nz l h) ?_); try simp (disch := omega) only [↓wpre, push_cast, seval, true_and]
/-! Search. -/
def idxOf {α : Type} [DecidableEq α] (x : α) : Nat → List α → Int
 | _, [] => -1
 | i, y :: r => if x = y then (i : Int) else idxOf x (i + 1) r
theorem idxOf_ge {α : Type} [DecidableEq α] (x : α) : ∀ (i : Nat) (l : List α), (0 ≤ idxOf x i l ↔ x ∈ l)
 | i, [] => by simp [idxOf]
 | i, y :: r => by
  rw [idxOf]
  split
  ·rename_i h; simp [h]
  ·rename_i h; rw [idxOf_ge x (i + 1) r]; simp [h]
theorem indexI_c (nz : Bool) (l : List Int) (x : Int) (hl : l.length ≤ 1000000) : AFn Tryz.prog G 102 [LL nz l, .int x] H (.int (idxOf x 0 l)) := by
 refine AFn.start mix F102 (by simp) fun k hlow => ?_
 simp (disch := omega) only [↓wpre, push_cast, seval, c102]
 refine xw_loopJ (σ := List Int × List Int) (fun t => [(0, LL nz l), (1, .int x), (7, .int l.length), (8, .int t.1.length)]) (fun t H' n' => l = t.1 ++ t.2 ∧ idxOf x t.1.length t.2 = idxOf x 0 l ∧ Qt H H' k ∧ k ≤ n') (fun t => t.2.length) ([], l) ⟨rfl, rfl, .refl hlow, Nat.le_refl _⟩ (by simp (disch := omega) only [↓wpre, push_cast, seval]) ?_
 rintro ⟨d, r⟩ fr H' n1 ⟨hab, hi, hq, hn⟩ hh
 simp only [has_nil, has_cons, and_true] at hh hab hi
 have hll : l.length = d.length + r.length := by rw [hab]; simp
 cases r with
 | nil =>
  have hlt : ¬ (d.length : Int) < l.length := by rw [hll]; simp
  rw [← hi]
  simp (disch := omega) only [↓wpre, push_cast, seval, hh, hlt, idxOf]
  first | (exact (Qt.mono (n := k) (by repeat (first | exact hq | refine Qt.hu ?_ (by omega))) (Nat.le_refl _)).1) | exact ⟨rfl, hq.1⟩
 | cons y r =>
  have hlt : (d.length : Int) < l.length := by rw [hll]; simp only [List.length_cons]; omega
  have hx : l[d.length]? = some y := by rw [hab]; simp
  have hi2 : idxOf x d.length (y :: r) = if x = y then (d.length : Int) else idxOf x (d.length + 1) r := rfl
  rw [hi2] at hi
  simp (disch := omega) only [↓wpre, push_cast, seval, hh, hlt, even_ints', aidx_at rfl hx]
  (first | with_reducible refine cnd_ndec (fun hc => ?_) (fun hc => ?_) | with_reducible refine cnd_dec (fun hc => ?_) (fun hc => ?_) | with_reducible refine cnd_nb (fun hc => ?_) (fun hc => ?_) | with_reducible refine cnd_intro (fun hc => ?_) (fun hc => ?_)) <;> (first | (exfalso; omega) | (try simp (disch := omega) only [↓wpre, push_cast, seval, hc, hh]))
  ·rw [if_pos hc] at hi
   first | exact ⟨by rw [hi, hc], hq.1⟩ | (rw [← hi]; exact ⟨rfl, hq.1⟩)
  ·rw [if_neg hc] at hi
   refine againJ (d ++ [y], r) (Nat.lt_succ_self _) ⟨by rw [hab]; simp, by rw [List.length_append]; exact hi, by exact Qt.mono (n := k) (by repeat (first | exact hq | refine Qt.hu ?_ (by omega))) (by omega), by omega⟩ (by simp (disch := omega) only [↓wpre, push_cast, seval, hh]; all_goals (try simp only [AV.lit.injEq, Value.int.injEq, Value.bool.injEq, true_and, and_true]); all_goals (try (repeat' apply And.intro)); all_goals (first | rfl | omega | simp_all | skip))
theorem containsI_c (nz : Bool) (l : List Int) (x : Int) (hl : l.length ≤ 1000000) : AFn Tryz.prog G 30 [LL nz l, .int x] H (.bool (decide (x ∈ l))) := by
 refine AFn.start mix F30 (by simp) fun k hlow => ?_
 simp (disch := omega) only [↓wpre, push_cast, seval, c30]
 (first | with_reducible refine (indexI_c _ _ nz l x hl).x fun n' hn' => ?_ | with_reducible refine xfn_intro (indexI_c _ _ nz l x hl) ?_); try simp (disch := omega) only [↓wpre, push_cast, seval, true_and]
 simp only [AV.lit.injEq, Value.bool.injEq]
 exact decide_eq_decide.2 (idxOf_ge x 0 l)
theorem indexId_c (nz : Bool) (l : List Idn) (x : Idn) (hl : l.length ≤ 1000000) : AFn Tryz.prog G 86 [.ls nz (l.map Idn.c), .agg x.c] H (.int (idxOf x 0 l)) := by
 refine AFn.start mix F86 (by simp) fun k hlow => ?_
 simp (disch := omega) only [↓wpre, push_cast, seval, c86]
 refine xw_loopJ (σ := List Idn × List Idn) (fun t => [(0, .ls nz (l.map Idn.c)), (3, .pp x.c), (7, .int l.length), (8, .int t.1.length)]) (fun t H' n' => l = t.1 ++ t.2 ∧ idxOf x t.1.length t.2 = idxOf x 0 l ∧ Qt H H' k ∧ k ≤ n') (fun t => t.2.length) ([], l) ⟨rfl, rfl, .refl hlow, Nat.le_refl _⟩ (by simp (disch := omega) only [↓wpre, push_cast, seval]) ?_
 rintro ⟨d, r⟩ fr H' n1 ⟨hab, hi, hq, hn⟩ hh
 simp only [has_nil, has_cons, and_true] at hh hab hi
 have hll : l.length = d.length + r.length := by rw [hab]; simp
 cases r with
 | nil =>
  have hlt : ¬ (d.length : Int) < l.length := by rw [hll]; simp
  rw [← hi]
  simp (disch := omega) only [↓wpre, push_cast, seval, hh, hlt, idxOf]
  first | (exact (Qt.mono (n := k) (by repeat (first | exact hq | refine Qt.hu ?_ (by omega))) (Nat.le_refl _)).1) | exact ⟨rfl, hq.1⟩
 | cons y r =>
  have hlt : (d.length : Int) < l.length := by rw [hll]; simp only [List.length_cons]; omega
  have hx : l[d.length]? = some y := by rw [hab]; simp
  have hi2 : idxOf x d.length (y :: r) = if x = y then (d.length : Int) else idxOf x (d.length + 1) r := rfl
  rw [hi2] at hi
  have hdec : (decide (x.kind = y.kind) && decide (x.text = y.text)) = decide (x = y) := by
   obtain ⟨a, b⟩ := x
   obtain ⟨a', b'⟩ := y
   simp
  simp (disch := omega) only [↓wpre, push_cast, seval, hh, hlt, even_ids, aidx_at rfl hx]
  refine anyN_intro fun n2 hn2 => ?_
  simp (disch := omega) only [↓wpre, push_cast, seval, hh, hdec]
  (first | with_reducible refine cnd_ndec (fun hc => ?_) (fun hc => ?_) | with_reducible refine cnd_dec (fun hc => ?_) (fun hc => ?_) | with_reducible refine cnd_nb (fun hc => ?_) (fun hc => ?_) | with_reducible refine cnd_intro (fun hc => ?_) (fun hc => ?_)) <;> (first | (exfalso; omega) | (try simp (disch := omega) only [↓wpre, push_cast, seval, hc, hh]))
  ·rw [if_pos hc] at hi
   first | exact ⟨by rw [hi, hc], by exact (Qt.mono (n := k) (by repeat (first | exact hq | refine Qt.hu ?_ (by omega))) (Nat.le_refl _)).1⟩ | (rw [← hi]; exact ⟨rfl, by exact (Qt.mono (n := k) (by repeat (first | exact hq | refine Qt.hu ?_ (by omega))) (Nat.le_refl _)).1⟩)
  ·rw [if_neg hc] at hi
   refine againJ (d ++ [y], r) (Nat.lt_succ_self _) ⟨by rw [hab]; simp, by rw [List.length_append]; exact hi, by exact Qt.mono (n := k) (by repeat (first | exact hq | refine Qt.hu ?_ (by omega))) (by omega), by omega⟩ (by simp (disch := omega) only [↓wpre, push_cast, seval, hh]; all_goals (try simp only [AV.lit.injEq, Value.int.injEq, Value.bool.injEq, true_and, and_true]); all_goals (try (repeat' apply And.intro)); all_goals (first | rfl | omega | simp_all | skip))
theorem containsId_c (nz : Bool) (l : List Idn) (x : Idn) (hl : l.length ≤ 1000000) : AFn Tryz.prog G 23 [.ls nz (l.map Idn.c), .agg x.c] H (.bool (decide (x ∈ l))) := by
 refine AFn.start mix F23 (by simp) fun k hlow => ?_
 simp (disch := omega) only [↓wpre, push_cast, seval, c23]
 (first | with_reducible refine (indexId_c _ _ nz l x hl).x fun n' hn' => ?_ | with_reducible refine xfn_intro (indexId_c _ _ nz l x hl) ?_); try simp (disch := omega) only [↓wpre, push_cast, seval, true_and]
 simp only [AV.lit.injEq, Value.bool.injEq]
 exact decide_eq_decide.2 (idxOf_ge x 0 l)
theorem bsGo_le (c : Nat → Int) : ∀ (k lo hi : Nat), lo ≤ hi → bsGo c k lo hi ≤ hi
 | 0, lo, hi, h => h
 | k + 1, lo, hi, h => by
  simp only [bsGo]
  split
  ·split
   ·exact bsGo_le c k _ _ (by omega)
   ·exact Nat.le_trans (bsGo_le c k _ _ (by omega)) (by omega)
  ·exact h
theorem bsAt_le {α : Type} (f : α → Int) (l : List α) : bsAt f l ≤ l.length := bsGo_le _ _ _ _ (Nat.zero_le _)
theorem bsId_c (nz : Bool) (l : List Idn) (q : Idn) (hl : l.length ≤ 1000000) : AFn Tryz.prog G 170 [.ls nz (l.map Idn.c), .agg q.c, .fn (.func 36) []] H (.tup [.int (bsAt (fun p => cmpId p q) l), .bool (bsHas (fun p => cmpId p q) l)]) := by
 have hle := bsAt_le (fun p => cmpId p q) l
 refine AFn.start mix F170 (by simp) fun k hlow => ?_
 simp (disch := omega) only [↓wpre, push_cast, seval, c170]
 refine xw_loopJ (σ := Nat × Nat × Nat) (fun t => [(0, .ls nz (l.map Idn.c)), (4, .pp q.c), (2, .fn (.func 36) []), (8, .int l.length), (9, .int t.2.1), (10, .int t.2.2)]) (fun t H' n' => t.2.1 ≤ t.2.2 ∧ t.2.2 ≤ l.length ∧ t.2.2 - t.2.1 ≤ t.1 ∧ bsGo (at0 (fun p => cmpId p q) l) t.1 t.2.1 t.2.2 = bsAt (fun p => cmpId p q) l ∧ Qt H H' n') (fun t => t.2.2 - t.2.1) (l.length, 0, l.length) ⟨Nat.zero_le _, Nat.le_refl _, by simp, rfl, .refl hlow⟩ (by simp (disch := omega) only [↓wpre, push_cast, seval]) ?_
 rintro ⟨m, lo, hi⟩ fr H' n ⟨h1, h2, h3, hf, hq⟩ hh
 simp only [has_nil, has_cons, and_true] at hh h1 h2 h3 hf
 by_cases hlt : (lo : Int) < hi
 ·obtain ⟨m, rfl⟩ : ∃ k, m = k + 1 := ⟨m - 1, by omega⟩
  have hmid : (lo + hi) / 2 < l.length := by omega
  have hx := List.getElem?_eq_getElem hmid
  have hat : at0 (fun p => cmpId p q) l ((lo + hi) / 2) = cmpId (l[(lo + hi) / 2]) q := by simp only [at0, hx]
  have e1 : ((lo : Int) + hi) / 2 = (((lo + hi) / 2 : Nat) : Int) := by omega
  rw [bsGo, if_pos (by omega), hat] at hf
  simp (disch := omega) only [↓wpre, push_cast, seval, hh, hlt, even_ids, aidx_at _ hx]
  (first | with_reducible refine (cmpId_c _ _ _ _).x fun n' hn' => ?_ | with_reducible refine xfn_intro (cmpId_c _ _ _ _) ?_); try simp (disch := omega) only [↓wpre, push_cast, seval, true_and]
  refine anyN_intro fun n' hn' => ?_
  simp (disch := omega) only [↓wpre, push_cast, seval]
  (first | with_reducible refine cnd_ndec (fun hc => ?_) (fun hc => ?_) | with_reducible refine cnd_dec (fun hc => ?_) (fun hc => ?_) | with_reducible refine cnd_nb (fun hc => ?_) (fun hc => ?_) | with_reducible refine cnd_intro (fun hc => ?_) (fun hc => ?_)) <;> (first | (exfalso; omega) | (try simp (disch := omega) only [↓wpre, push_cast, seval, hc, hh]))
  ·rw [if_pos hc] at hf
   refine againJ (m, (lo + hi) / 2 + 1, hi) (by dsimp only; omega) ⟨by dsimp only; omega, h2, by dsimp only; omega, hf, ?_⟩ ?_
   ·exact Qt.mono (n := n) (by repeat (first | exact hq | refine Qt.hu ?_ (by omega))) (by omega)
   ·simp (disch := omega) only [↓wpre, push_cast, seval, hh]
  ·rw [if_neg hc] at hf
   refine againJ (m, lo, (lo + hi) / 2) (by dsimp only; omega) ⟨by dsimp only; omega, by dsimp only; omega, by dsimp only; omega, hf, ?_⟩ ?_
   ·exact Qt.mono (n := n) (by repeat (first | exact hq | refine Qt.hu ?_ (by omega))) (by omega)
   ·simp (disch := omega) only [↓wpre, push_cast, seval, hh]
 ·have hres : lo = bsAt (fun p => cmpId p q) l := by
   rw [← hf]; cases m <;> simp only [bsGo]; rw [if_neg (by omega)]
  rw [← hres] at hle ⊢
  rw [bsHas, ← hres]
  by_cases hn : lo < l.length
  ·have hx := List.getElem?_eq_getElem hn
   have hat : at0 (fun p => cmpId p q) l lo = cmpId (l[lo]) q := by simp only [at0, hx]
   have hlt2 : (lo : Int) < l.length := by omega
   simp (disch := omega) only [↓wpre, push_cast, seval, hh, hlt, hlt2, even_ids, aidx_at _ hx]
   (first | with_reducible refine (cmpId_c _ _ _ _).x fun n' hn' => ?_ | with_reducible refine xfn_intro (cmpId_c _ _ _ _) ?_); try simp (disch := omega) only [↓wpre, push_cast, seval, hat]
   refine anyN_intro fun n'' hn'' => ?_
   simp (disch := omega) only [↓wpre, push_cast, seval]
   refine ⟨?_, hq.1⟩
   simp [hat, hn]
  ·have hlt2 : ¬ (lo : Int) < l.length := by omega
   simp (disch := omega) only [↓wpre, push_cast, seval, hh, hlt, hlt2]
   refine anyN_intro fun n'' hn'' => ?_
   simp (disch := omega) only [↓wpre, push_cast, seval]
   refine ⟨?_, hq.1⟩
   simp [hn]
end Go.Proofs.YtblhbafoncfhdaaGreatDoor
namespace Go.Proofs.YtblhbafoncfhdaaGreatDoor
open Go Go.Ab Go.Pm Go.Cm Go.El Go.Rm Go.Pp Go.Uf
variable (G : Nat → AV) (H : Nat → Option AObj)
abbrev grpRow (r : Rls) (nz : Bool) (l : List Tch) (m : Nat) : List AV := [.ls r.nzk (r.kinds.map fun x => [AV.int x]), .int r.most, .ls r.nzw (r.weak.map Idn.c), .ls r.nzs (r.srv.map Srv.c), .ls nz (l.map Tch.c), .om m]
theorem even_nats (l : List Nat) : Even 1 (nats l) = True := eq_true fun r hr => by
 obtain ⟨s, _, rfl⟩ := List.mem_map.1 hr; exact ⟨rfl, rfl⟩
theorem nats_get {p : List Nat} {i : Nat} (h : i < p.length) : (nats p)[i]? = some [AV.int (par p i : Nat)] := by
 rw [nats, List.getElem?_map, row_par h]; rfl
theorem nats_set (p : List Nat) (i v : Nat) : (nats p).set i [AV.int (v : Nat)] = nats (p.set i v) := by rw [nats, nats, List.map_set]
theorem rp_par_par {p q : List Nat} (h : Like p q) (k : Nat) : rp p (par q (par q k)) = rp p k := by
 rw [← h.same, ← h.same, rp_par h.down, rp_par h.down]
set_option maxHeartbeats 1600000 in
theorem find_c (b ro : Nat) (p : List Nat) (hd : Down p) (len : Nat) (hlen : len = p.length) (hp : p.length ≤ 100000) (hb : H b = some ⟨22, 1, [[.os ro 0 len]]⟩) (hr : H ro = some ⟨3, 1, nats p⟩) (i : Nat) (hi : i < p.length) (n : Nat) : ACalls Tryz.prog G 171 [.int i, .op b 0 0] H n fun v H' n' => ∃ q, Like p q ∧ v = .int (rp p i) ∧ H' = hu H ro (some ⟨3, 1, nats q⟩) ∧ n ≤ n' := by
 have hne : b ≠ ro := by
  rintro rfl
  rw [hb] at hr
  simp at hr
 refine ACalls.start mix F171 (by simp) fun hlow => ?_
 simp (disch := omega) only [↓wpre, push_cast, seval, c171]
 refine xw_loopJ (σ := List Nat × Nat) (fun t => [(0, .int t.2), (1, .op b 0 0)]) (fun t H' n' => Like p t.1 ∧ rp p t.2 = rp p i ∧ t.2 < p.length ∧ H' = hu H ro (some ⟨3, 1, nats t.1⟩) ∧ n ≤ n') (fun t => t.2) (p, i) ⟨.refl hd, rfl, hi, (hu_self H hr).symm, Nat.le_refl _⟩ (by simp (disch := omega) only [↓wpre, push_cast, seval]) ?_
 rintro ⟨q, k⟩ fr H' n1 ⟨hl, hrk, hk, rfl, hnn⟩ hh
 simp only [has_nil, has_cons, and_true] at hh hl hrk hk
 have hkq : k < q.length := by rw [hl.len]; exact hk
 have g1 := nats_get hkq
 have hkl : (k : Int) < len := by omega
 have hk0 : (0 : Int) ≤ k := by omega
 have hkn : k < len := by omega
 simp (disch := omega) only [↓wpre, push_cast, seval, hh, hb, hne, hkl, hk0, hkn, g1, Int.toNat_natCast]
 (first | with_reducible refine cnd_ndec (fun hc => ?_) (fun hc => ?_) | with_reducible refine cnd_dec (fun hc => ?_) (fun hc => ?_) | with_reducible refine cnd_nb (fun hc => ?_) (fun hc => ?_) | with_reducible refine cnd_intro (fun hc => ?_) (fun hc => ?_)) <;> (first | (exfalso; omega) | (try simp (disch := omega) only [↓wpre, push_cast, seval, hc, hh]))
 ·have hc' : par q k ≠ k := fun e => hc (by rw [e])
  have hle := hl.down k
  have hle2 := hl.down (par q k)
  have hlt2 := rp_par_lt hl.down hc'
  have hpq : par q k < q.length := by omega
  have g2 := nats_get hpq
  have hpl : ((par q k : Nat) : Int) < len := by omega
  have hp0 : (0 : Int) ≤ (par q k : Nat) := by omega
  have hpn : par q k < len := by omega
  have hs := nats_set q k (par q (par q k))
  have hkq2 : k < (q.set k (par q (par q k))).length := by simpa using hkq
  have g3 : (nats (q.set k (par q (par q k))))[k]? = some [AV.int (par q (par q k) : Nat)] := by rw [nats_get hkq2, par_set q k _ k hkq, if_pos rfl]
  simp (disch := omega) only [↓wpre, push_cast, seval, hh, hb, hne, hkl, hk0, hkn, g1, g2, hpl, hp0, hpn, hs, Int.toNat_natCast]
  refine anyN_intro fun n2 hn2 => ?_
  simp (disch := omega) only [↓wpre, push_cast, seval, hh, hb, hne, hkl, hk0, hkn, g3, hs, Int.toNat_natCast, hu_hu]
  have hL := Like.half hl.down hkq
  refine againJ (q.set k (par q (par q k)), par q (par q k)) (by dsimp only; omega) ⟨hl.trans hL, ?_, by dsimp only; omega, rfl, by omega⟩ (by simp (disch := omega) only [↓wpre, push_cast, seval, hh])
  dsimp only
  rw [← hrk, rp_par_par hl]
 ·have hc' : par q k = k := by omega
  refine fin_intro (Sub.refl _) ⟨q, hl, ?_, rfl, hnn⟩
  rw [← hrk, ← hl.same, rp_of_root hc']
theorem mwith_get {k z v : AV} {rows : List (List AV)} (h : Pairs rows) : (mwith rows k z)[midx rows k]? = some [k, (mget rows k).getD z] := (mwith_set (v := v) h).1
set_option maxHeartbeats 3200000 in
theorem newGroup_w (r : Rls) (nz : Bool) (l : List Tch) (h : TouchesOk l) (n : Nat) : ACalls Tryz.prog G 84 [.agg r.c, .ls nz (l.map Tch.c)] H n fun v H' n' => ∃ g m K ob, v = .op g 0 0 ∧ H' g = some ⟨152, 6, [grpRow r nz l m]⟩ ∧ Hv H' m (occ l) K ob n' ∧ Sub H H' ∧ g < n' ∧ n ≤ g ∧ n ≤ m ∧ ∀ y ∈ K, n ≤ ob y := by
 have hfew := h.few
 refine ACalls.start mix F84 (by simp) fun hlow => ?_
 simp (disch := omega) only [↓wpre, push_cast, seval, c84]
 refine xw_loopJ (σ := List Tch × List Tch × List Idn × (Idn → Nat)) (fun t => [(5, .op (n + 1) 0 0), (15, .ls nz (l.map Tch.c)), (16, .int l.length), (17, .int t.1.length)]) (fun t H' n' => l = t.1 ++ t.2.1 ∧ Hv H' n (occ t.1) t.2.2.1 t.2.2.2 n' ∧ H' (n + 1) = some ⟨152, 6, [grpRow r nz l n]⟩ ∧ Qt H H' n ∧ n + 2 ≤ n' ∧ ∀ y ∈ t.2.2.1, n ≤ t.2.2.2 y) (fun t => t.2.1.length) ([], l, [], fun _ => 0) ⟨rfl, ⟨by rw [hu_ne (by omega)]; exact hu_same, fun x hx => (by cases hx), List.nodup_nil, fun x => by simp [occ, occFrom], fun x hx => (by cases hx), ⟨by omega, fun x hx => (by cases hx)⟩⟩, hu_same, (Qt.refl hlow |>.hu (by omega)).hu (by omega), by omega, fun y hy => (by cases hy)⟩ (by simp (disch := omega) only [↓wpre, push_cast, seval]) ?_
 rintro ⟨d, ts, K, ob⟩ fr H' n1 ⟨hab, hv, hg, hq, hn, hge⟩ hh
 simp only [has_nil, has_cons, and_true] at hh hab hv hg hge
 have hll : l.length = d.length + ts.length := by rw [hab]; simp
 cases ts with
 | nil =>
  have hlt : ¬ (d.length : Int) < l.length := by rw [hll]; simp
  simp (disch := omega) only [↓wpre, push_cast, seval, hh, hlt]
  have hdl : d = l := by rw [hab]; simp
  rw [hdl] at hv
  exact fin_intro (Sub.refl _) ⟨n + 1, n, K, ob, rfl, hg, hv, hq.1, by omega, by omega, Nat.le_refl _, hge⟩
 | cons t ts =>
  have hlt : (d.length : Int) < l.length := by rw [hll]; simp only [List.length_cons]; omega
  have hx : l[d.length]? = some t := by rw [hab]; simp
  have hto := h.each t (by rw [hab]; simp)
  have hfi := hto.few
  have hnd : t.ids.Nodup := hto.ids.asc.nodup
  simp (disch := omega) only [↓wpre, push_cast, seval, hh, hlt, even_tch, aidx_at rfl hx]
  refine xw_loopJ (σ := List Idn × List Idn × List Idn × (Idn → Nat)) (fun u => [(5, .op (n + 1) 0 0), (6, .int d.length), (15, .ls nz (l.map Tch.c)), (16, .int l.length), (17, .int d.length), (23, .ls t.nzi (t.ids.map Idn.c)), (24, .int t.ids.length), (25, .int u.1.length)]) (fun u H2 n2 => t.ids = u.1 ++ u.2.1 ∧ Hv H2 n (occS d u.1) u.2.2.1 u.2.2.2 n2 ∧ H2 (n + 1) = some ⟨152, 6, [grpRow r nz l n]⟩ ∧ Qt H H2 n ∧ n + 2 ≤ n2 ∧ ∀ y ∈ u.2.2.1, n ≤ u.2.2.2 y) (fun u => u.2.1.length) ([], t.ids, K, ob) ⟨rfl, ?_, ?_, ?_, by omega, hge⟩ (by simp (disch := omega) only [↓wpre, push_cast, seval, hh]) ?_
  ·exact Hv.mono (Hv.keep (hv.same (occS_nil d)) fun j hj => by rw [hu_ne (by omega), hu_ne (by omega)]) (by omega)
  ·simp (disch := omega) only [↓wpre, push_cast, seval, hg]
  ·exact Qt.mono (n := n) (by repeat (first | exact hq | refine Qt.hu ?_ (by omega))) (by omega)
  clear hh hv hg hq hge
  rintro ⟨e, s, K, ob⟩ fr H2 n2 ⟨hes, hv, hg, hq, hn2, hge⟩ hh
  simp only [has_nil, has_cons, and_true] at hh hes hv hg hge
  have hel : t.ids.length = e.length + s.length := by rw [hes]; simp
  cases s with
  | nil =>
   have hlt : ¬ (e.length : Int) < t.ids.length := by rw [hel]; simp
   simp (disch := omega) only [↓wpre, push_cast, seval, hh, hlt]
   have hee : e = t.ids := by rw [hes]; simp
   rw [hee] at hv
   refine againJ (d ++ [t], ts, K, ob) (Nat.lt_succ_self _) ⟨by rw [hab]; simp, hv.same fun x => (occS_all d t x).symm, hg, hq, hn2, hge⟩ (by simp (disch := omega) only [↓wpre, push_cast, seval, hh]; all_goals (try simp only [AV.lit.injEq, Value.int.injEq, Value.bool.injEq, true_and, and_true]); all_goals (try (repeat' apply And.intro)); all_goals (first | rfl | omega | simp_all | skip))
  | cons x s =>
   have hlt : (e.length : Int) < t.ids.length := by rw [hel]; simp only [List.length_cons]; omega
   have hx : t.ids[e.length]? = some x := by rw [hes]; simp
   have hxe : x ∉ e := by
    rw [hes] at hnd
    exact fun hm => (List.nodup_append.1 hnd).2.2 x hm x (by simp) rfl
   simp (disch := omega) only [↓wpre, push_cast, seval, hh, hlt, even_ids, aidx_at rfl hx]
   refine xw_nreg noH (of_eq_true (sub_noH _)) ?_
   simp (disch := omega) only [↓wpre, push_cast, seval, hh, hg]
   have hm := hv.map
   have hnn := hv.low.1
   by_cases hxK : x ∈ K
   ·have hlk := hv.look hxK
    have hox := hv.obj x hxK
    have hol := hv.low.2 x hxK
    have hon := hv.ne hxK
    have hfl : (occS d e x).length ≤ 100000 := by have := occS_len d e x; omega
    have hog := hge x hxK
    generalize hR : (K.map fun x => [AV.agg x.c, AV.os (ob x) 0 (occS d e x).length]) = R at hm hlk
    have hP : Pairs R := by rw [← hR]; exact pairs_map (key := fun x : Idn => AV.agg x.c) (val := fun x => AV.os (ob x) 0 (occS d e x).length)
    have hgd : (mget R (.agg x.c)).getD (.ls false []) = .os (ob x) 0 (occS d e x).length := by rw [hlk]; rfl
    refine xment_om (rows := R) (by rw [hu_ne (by omega), hu_ne (by omega)]; exact hm) rfl rfl rfl ?_
    simp (disch := omega) only [↓wpre, push_cast, seval, hh, hgd]
    rw [xapp_os (rows := nats (occS d e x)) (by rw [hu_ne (by omega), hu_ne (by omega), hu_ne (by omega)]; exact hox) (nats_len _) (by intro r hr; simp at hr; subst hr; exact ⟨rfl, rfl⟩) (by simp) (by simp; omega)]
    simp (disch := omega) only [↓wpre, push_cast, seval, hh]
    refine xmest_om (key := .agg x.c) (old := .os (ob x) 0 (occS d e x).length) (rows := mwith R (.agg x.c) (.ls false [])) (by rw [hu_ne (by omega), hu_ne (by omega), hu_same]) rfl (by have h9 := mwith_get (k := .agg x.c) (z := .ls false []) (v := .any) hP; rwa [hgd] at h9) ?_
    rw [(mwith_set (v := .os (n2 + 1) 0 ((occS d e x).length + 1)) hP).2]
    simp (disch := omega) only [↓wpre, push_cast, seval, hh]
    refine againJ (e ++ [x], s, K, ob' ob x (n2 + 1)) (Nat.lt_succ_self _) ⟨by rw [hes]; simp, ?_, ?_, ?_, by omega, ob'_ge hge (by omega)⟩ (by simp (disch := omega) only [↓wpre, push_cast, seval, hh]; all_goals (try simp only [AV.lit.injEq, Value.int.injEq, Value.bool.injEq, true_and, and_true]); all_goals (try (repeat' apply And.intro)); all_goals (first | rfl | omega | simp_all | skip))
    ·refine Hv.same (Hv.more (i := d.length) hv (show n2 ≤ n2 + 1 by omega) hxK ?_ ?_ ?_) fun y => occS_add hxe y
     ·rw [hR]; exact hu_same
     ·rw [hu_ne (by omega), hu_same]
     ·intro j h1 h2 h3
      rw [hu_ne h2, hu_ne (by omega), hu_ne h3, hu_ne h2, hu_ne (by omega), hu_ne (by omega)]
    ·have hgx : n + 1 ≠ ob x := by
      intro e
      rw [← e, hg] at hox
      simp at hox
     rw [hu_ne (by omega), hu_ne (by omega), hu_ne hgx, hu_ne (by omega), hu_ne (by omega), hu_ne (by omega)]
     exact hg
    ·exact Qt.mono (n := n) (by repeat (first | exact hq | refine Qt.hu ?_ (by omega))) (by omega)
   ·have hlk := hv.lookN hxK
    have hfx : occS d e x = [] := Classical.byContradiction fun h0 => hxK ((hv.all x).1 h0)
    generalize hR : (K.map fun x => [AV.agg x.c, AV.os (ob x) 0 (occS d e x).length]) = R at hm hlk
    have hP : Pairs R := by rw [← hR]; exact pairs_map (key := fun x : Idn => AV.agg x.c) (val := fun x => AV.os (ob x) 0 (occS d e x).length)
    have hgd : (mget R (.agg x.c)).getD (.ls false []) = .ls false [] := by rw [hlk]; rfl
    refine xment_om (rows := R) (by rw [hu_ne (by omega), hu_ne (by omega)]; exact hm) rfl rfl rfl ?_
    simp (disch := omega) only [↓wpre, push_cast, seval, hh, hgd]
    rw [xapp_first (by intro r hr; simp at hr; subst hr; exact ⟨rfl, rfl⟩) (by simp) (by simp)]
    simp (disch := omega) only [↓wpre, push_cast, seval, hh]
    refine xmest_om (key := .agg x.c) (old := .ls false []) (rows := mwith R (.agg x.c) (.ls false [])) (by rw [hu_ne (by omega), hu_same]) rfl (by have h9 := mwith_get (k := .agg x.c) (z := .ls false []) (v := .any) hP; rwa [hgd] at h9) ?_
    rw [(mwith_set (v := .os (n2 + 1) 0 1) hP).2]
    simp (disch := omega) only [↓wpre, push_cast, seval, hh]
    refine againJ (e ++ [x], s, K ++ [x], ob' ob x (n2 + 1)) (Nat.lt_succ_self _) ⟨by rw [hes]; simp, ?_, ?_, ?_, by omega, ?_⟩ (by simp (disch := omega) only [↓wpre, push_cast, seval, hh]; all_goals (try simp only [AV.lit.injEq, Value.int.injEq, Value.bool.injEq, true_and, and_true]); all_goals (try (repeat' apply And.intro)); all_goals (first | rfl | omega | simp_all | skip))
    ·refine Hv.same (Hv.fresh (i := d.length) hv (show n2 ≤ n2 + 1 by omega) hxK ?_ ?_ ?_) fun y => occS_add hxe y
     ·rw [hR]; exact hu_same
     ·rw [hu_ne (by omega), hu_same]
     ·intro j h1 h2
      rw [hu_ne h2, hu_ne (by omega), hu_ne h2, hu_ne (by omega), hu_ne (by omega)]
    ·rw [hu_ne (by omega), hu_ne (by omega), hu_ne (by omega), hu_ne (by omega), hu_ne (by omega)]
     exact hg
    ·exact Qt.mono (n := n) (by repeat (first | exact hq | refine Qt.hu ?_ (by omega))) (by omega)
    ·intro y hy
     by_cases e1 : y = x
     ·subst e1; dsimp only; rw [ob'_self]; omega
     ·dsimp only; rw [ob'_ne e1]; exact hge y (by simpa [e1] using hy)
theorem newGroup_c (r : Rls) (nz : Bool) (l : List Tch) (h : TouchesOk l) (n : Nat) : ACalls Tryz.prog G 84 [.agg r.c, .ls nz (l.map Tch.c)] H n fun v H' n' => ∃ g m K ob, v = .op g 0 0 ∧ H' g = some ⟨152, 6, [grpRow r nz l m]⟩ ∧ Hv H' m (occ l) K ob n' ∧ Sub H H' ∧ g < n' :=
 (newGroup_w G H r nz l h n).mono fun v H' n' ⟨g, m, K, ob, h1, h2, h3, h4, h5, _⟩ => ⟨g, m, K, ob, h1, h2, h3, h4, h5⟩
structure FewR (r : Rls) : Prop where
 k : r.kinds.length ≤ 1000000
 w : r.weak.length ≤ 1000000
theorem rulesFew {r : Rls} (hok : RulesOk r) : FewR r := ⟨by
  have := kinds_few r.kinds 0 (fun k hk => by have := hok.kin k hk; omega) hok.kasc
  rcases this with e | e
  ·omega
  ·simp [e], by have := hok.wfew; omega⟩
structure Grp (H : Nat → Option AObj) (g m : Nat) (r : Rls) (nz : Bool) (l : List Tch) (K : List Idn) (ob : Idn → Nat) (N : Nat) : Prop where
 row : H g = some ⟨152, 6, [grpRow r nz l m]⟩
 hv : Hv H m (occ l) K ob N
 lt : g < N
 ok : FewR r
 few : l.length ≤ 2000
theorem Grp.keep {H H2 : Nat → Option AObj} {g m : Nat} {r : Rls} {nz : Bool} {l : List Tch} {K : List Idn} {ob : Idn → Nat} {N : Nat} (h : Grp H g m r nz l K ob N) (hk : ∀ j, j < N → H2 j = H j) : Grp H2 g m r nz l K ob N := ⟨by rw [hk _ h.lt]; exact h.row, h.hv.keep hk, h.lt, h.ok, h.few⟩
theorem Grp.sub {H H2 : Nat → Option AObj} {g m : Nat} {r : Rls} {nz : Bool} {l : List Tch} {K : List Idn} {ob : Idn → Nat} {N : Nat} (h : Grp H g m r nz l K ob N) (hk : Sub H H2) : Grp H2 g m r nz l K ob N := ⟨hk _ _ h.row, ⟨hk _ _ h.hv.map, fun x hx => hk _ _ (h.hv.obj x hx), h.hv.keys, h.hv.all, h.hv.inj, h.hv.low⟩, h.lt, h.ok, h.few⟩
set_option maxHeartbeats 1600000 in
theorem joins_c {g m : Nat} {r : Rls} {nz : Bool} {l : List Tch} {K : List Idn} {ob : Idn → Nat} {N : Nat} (h : Grp H g m r nz l K ob N) (x : Idn) : AFn Tryz.prog G 104 [.op g 0 0, .agg x.c] H (.bool (joins r l x)) := by
 obtain ⟨hg, hv, hlt, hok, hl⟩ := h
 have hw := hok.w
 have hkn := hok.k
 have hm := hv.map
 have hlen : ∃ v, lookRes false (.ls false []) (mget (K.map fun x => [AV.agg x.c, .os (ob x) 0 (occ l x).length]) (.agg x.c)) = v ∧ alen v = some (.int (occ l x).length) := by
  by_cases hx : x ∈ K
  ·rw [hv.look hx]; exact ⟨_, rfl, rfl⟩
  ·have : occ l x = [] := Classical.byContradiction fun h0 => hx ((hv.all x).1 h0)
   rw [hv.lookN hx, this]; exact ⟨_, rfl, rfl⟩
 obtain ⟨v, hlv, hal⟩ := hlen
 refine AFn.start mix F104 (by simp) fun k hlow => ?_
 simp (disch := omega) only [↓wpre, push_cast, seval, c104, hg]
 (first | with_reducible refine (bsId_c _ _ r.nzw r.weak x (by omega)).x fun n' hn' => ?_ | with_reducible refine xfn_intro (bsId_c _ _ r.nzw r.weak x (by omega)) ?_); try simp (disch := omega) only [↓wpre, push_cast, seval, true_and]
 refine anyN_intro fun n2 hn2 => ?_
 simp (disch := omega) only [↓wpre, push_cast, seval, hg]
 repeat' (first | ((first | with_reducible refine cnd_ndec (fun hc => ?_) (fun hc => ?_) | with_reducible refine cnd_dec (fun hc => ?_) (fun hc => ?_) | with_reducible refine cnd_nb (fun hc => ?_) (fun hc => ?_) | with_reducible refine cnd_intro (fun hc => ?_) (fun hc => ?_)) <;> (first | (exfalso; omega) | (try simp (disch := omega) only [↓wpre, push_cast, seval, hc, hg, hm, hlv, hal]))) | (with_reducible refine anyN_intro fun n' hn' => ?_; try simp (disch := omega) only [↓wpre, push_cast, seval, hg, hm, hlv, hal]) | ((first | with_reducible refine (containsI_c _ _ r.nzk r.kinds x.kind hkn).x fun n' hn' => ?_ | with_reducible refine xfn_intro (containsI_c _ _ r.nzk r.kinds x.kind hkn) ?_); try simp (disch := omega) only [↓wpre, push_cast, seval, hg, hm, hlv, hal]))
 all_goals (simp only [AV.lit.injEq, Value.bool.injEq, joins, isWeak]; simp_all)
theorem find_none {J : Idn → Bool} : ∀ {l : List Idn}, (∀ x ∈ l, J x = false) → l.find? J = none := fun h => List.find?_eq_none.2 fun x hx => by simp [h x hx]
set_option maxHeartbeats 1600000 in
theorem keyOf_c {g m : Nat} {r : Rls} {nz : Bool} {l : List Tch} {K : List Idn} {ob : Idn → Nat} {N : Nat} (h : Grp H g m r nz l K ob N) (t : Tch) (ht : TouchOk t) : AFn Tryz.prog G 153 [.op g 0 0, .agg t.c] H (.agg (Pp.keyOf (joins r l) t).c) := by
 have hfew := ht.few
 have hsome := ht.some
 refine AFn.start mix F153 (by simp) fun k hlow => ?_
 have hq := Qt.refl hlow
 simp (disch := omega) only [↓wpre, push_cast, seval, c153]
 refine xw_loopJ (σ := List Idn × List Idn) (fun u => [(0, .op g 0 0), (3, .pp t.c), (4, .op k 0 0), (8, .ls t.nzi (t.ids.map Idn.c)), (9, .int t.ids.length), (10, .int u.1.length)]) (fun u H' n' => t.ids = u.1 ++ u.2 ∧ (∀ x ∈ u.1, joins r l x = false) ∧ H' k = some ⟨55, 2, [[.int 0, .str ⟨#[]⟩]]⟩ ∧ Qt H H' k ∧ k + 1 ≤ n') (fun u => u.2.length) ([], t.ids) ⟨rfl, fun x hx => (by cases hx), hu_same, (by exact Qt.mono (n := k) (by repeat (first | exact hq | refine Qt.hu ?_ (by omega))) (by omega)), by omega⟩ (by simp (disch := omega) only [↓wpre, push_cast, seval]) ?_
 clear hq
 rintro ⟨d, s⟩ fr H' n1 ⟨hab, hno, hres, hq, hn⟩ hh
 simp only [has_nil, has_cons, and_true] at hh hab hno hres
 have hll : t.ids.length = d.length + s.length := by rw [hab]; simp
 cases s with
 | nil =>
  have hlt : ¬ (d.length : Int) < t.ids.length := by rw [hll]; simp
  obtain ⟨y, ys, hy⟩ : ∃ y ys, t.ids = y :: ys := by
   cases hi : t.ids with
   | nil => exact absurd hi hsome
   | cons y ys => exact ⟨y, ys, rfl⟩
  have hy0 : t.ids[0]? = some y := by rw [hy]; rfl
  have hkey : Pp.keyOf (joins r l) t = y := by
   unfold Pp.keyOf
   rw [find_none (by rw [hab]; simpa using hno), hy]; rfl
  have e0 : (0 : Int) = ((0 : Nat) : Int) := rfl
  rw [hkey]
  simp (disch := omega) only [↓wpre, push_cast, seval, hh, hlt, even_ids, aidx_at e0 hy0, hres]
  exact (Qt.mono (n := k) (by repeat (first | exact hq | refine Qt.hu ?_ (by omega))) (Nat.le_refl _)).1
 | cons x s =>
  have hlt : (d.length : Int) < t.ids.length := by rw [hll]; simp only [List.length_cons]; omega
  have hx : t.ids[d.length]? = some x := by rw [hab]; simp
  simp (disch := omega) only [↓wpre, push_cast, seval, hh, hlt, even_ids, aidx_at rfl hx]
  refine AFn.x (joins_c G _ (h.sub ?hs) x) fun n3 hn3 => ?_
  case hs => exact (Qt.mono (n := k) (by repeat (first | exact hq | refine Qt.hu ?_ (by omega))) (Nat.le_refl _)).1
  simp (disch := omega) only [↓wpre, push_cast, seval, hh]
  (first | with_reducible refine cnd_ndec (fun hc => ?_) (fun hc => ?_) | with_reducible refine cnd_dec (fun hc => ?_) (fun hc => ?_) | with_reducible refine cnd_nb (fun hc => ?_) (fun hc => ?_) | with_reducible refine cnd_intro (fun hc => ?_) (fun hc => ?_)) <;> (first | (exfalso; omega) | (try simp (disch := omega) only [↓wpre, push_cast, seval, hc, hh]))
  ·have hkey : Pp.keyOf (joins r l) t = x := by
    unfold Pp.keyOf
    rw [hab, List.find?_append, find_none hno]
    simp [hc]
   rw [hkey]
   simp (disch := omega) only [↓wpre, push_cast, seval, hh, hres]
   exact (Qt.mono (n := k) (by repeat (first | exact hq | refine Qt.hu ?_ (by omega))) (Nat.le_refl _)).1
  ·refine againJ (d ++ [x], s) (Nat.lt_succ_self _) ⟨by rw [hab]; simp, ?_, by simp (disch := omega) only [↓wpre, push_cast, seval, hres], by exact Qt.mono (n := k) (by repeat (first | exact hq | refine Qt.hu ?_ (by omega))) (by omega), by omega⟩ (by simp (disch := omega) only [↓wpre, push_cast, seval, hh]; all_goals (try simp only [AV.lit.injEq, Value.int.injEq, Value.bool.injEq, true_and, and_true]); all_goals (try (repeat' apply And.intro)); all_goals (first | rfl | omega | simp_all | skip))
   intro z hz
   rcases List.mem_append.1 hz with hz | hz
   ·exact hno z hz
   ·simp only [List.mem_singleton] at hz
    subst hz
    simpa using hc
theorem aent_at {H : Nat → Option AObj} {j i len E sz k : Nat} {rows : List (List AV)} {idxs : List Nat} {x y : AV} (h : H j = some ⟨i, len, itRows (k : Int) idxs⟩) (h1 : H i = some ⟨E, sz, rows⟩) (hl : rows.length = len) (hk : rows[k]? = some [x, y]) : aent H (.oit j) = some (.tup [x, y]) := by
 simp only [aent, h, itRows, h1]
 rw [if_pos ⟨hl, by omega⟩]
 simp [hk]
theorem idn_dec (x y : Idn) : (decide (x.kind = y.kind) && decide (x.text = y.text)) = decide (x = y) := by
 obtain ⟨a, b⟩ := x
 obtain ⟨a', b'⟩ := y
 simp
def outP : Option Idn → AV
 | none => .lit (.pointer none)
 | some x => .pp x.c
def OutV (H : Nat → Option AObj) (o : Option Idn) (ov : AV) : Prop := match o with
 | none => ov = .lit (.pointer none)
 | some x => ov = .pp x.c ∨ ∃ i, ov = .op i 0 0 ∧ H i = some ⟨55, 2, [x.c]⟩
def JJ (o : Option Idn) (r : Rls) (l : List Tch) : Idn → Bool := fun y => joins r l y && !decide (o = some y)
theorem JJ_none (r : Rls) (l : List Tch) : JJ none r l = joins r l := funext fun y => by simp [JJ]
theorem fill_set (i k : Nat) : (List.range i ++ List.replicate (k + 1) 0).set i i = List.range (i + 1) ++ List.replicate k 0 := by
 rw [List.set_append_right _ _ (by simp)]
 simp [List.range_succ, List.replicate_succ]
theorem sl_tail (i len k : Nat) (h : len = k + 1) : ∃ sv, asl (.os i 0 len) (some (.int 1)) none = some sv ∧ alen sv = some (.int k) ∧ (0 < k → sv = .os i 1 k) := by
 subst h
 have e : asl (.os i 0 (k + 1)) (some (.int 1)) none = aslOz i 0 (k + 1) (abound (k + 1) 0 (some (.int 1))) := by rw [asl_os]; rfl
 have e2 : abound (k + 1) 0 (some (.int 1)) = some 1 := by simp [abound]; omega
 rw [e, e2]
 by_cases hk : 0 < k
 ·rw [aslOz_pos (by omega) (by omega)]
  exact ⟨_, rfl, rfl, fun _ => by simp⟩
 ·have : k = 0 := by omega
  subst this
  exact ⟨_, rfl, rfl, fun h => absurd h hk⟩
theorem filter_lt {l : List Nat} {k : Nat} (h : k ∈ l) : (l.filter (· != k)).length < l.length := by
 rw [← List.countP_eq_length_filter]
 have h1 := List.countP_le_length (p := fun x => x != k) (l := l)
 rcases Nat.lt_or_ge (List.countP (fun x => x != k) l) l.length with h2 | h2
 ·exact h2
 ·have := List.countP_eq_length.1 (Nat.le_antisymm h1 h2) k h
  simp at this
set_option maxHeartbeats 6400000 in
theorem parts_g {g m : Nat} {r : Rls} {nz : Bool} {l : List Tch} {K : List Idn} {ob : Idn → Nat} {N : Nat} (h : Grp H g m r nz l K ob N) (o : Option Idn) (ov : AV) (hov : OutV H o ov) (n : Nat) (hN : N ≤ n) : ACalls Tryz.prog G 106 [.op g 0 0, ov] H n fun v H' n' => ∃ p ro, Parts (tie (JJ o r l) l) l.length p ∧ v = .os ro 0 l.length ∧ H' ro = some ⟨3, 1, nats p⟩ ∧ n ≤ ro ∧ ro < n' ∧ Sub H H' := by
 have hrow := h.row
 have hfew := h.few
 have hgn := h.lt
 have hmn := h.hv.low.1
 refine ACalls.start mix F106 (by simp) fun hlow => ?_
 have hq := Qt.refl hlow
 simp (disch := omega) only [↓wpre, push_cast, seval, c106, hrow]
 rw [xmake_int (by omega) (by omega) (by omega) (by omega)]
 simp (disch := omega) only [↓wpre, push_cast, seval, Int.toNat_natCast]
 refine xw_loopJ (σ := Nat) (fun i => [(0, .op g 0 0), (1, ov), (5, .op (n + 1) 0 0), (22, .int l.length), (23, .int i)]) (fun i H' n' => i ≤ l.length ∧ H' n = some ⟨3, 1, nats (List.range i ++ List.replicate (l.length - i) 0)⟩ ∧ H' (n + 1) = some ⟨22, 1, [[.os n 0 l.length]]⟩ ∧ Qt H H' n ∧ n + 2 ≤ n') (fun i => l.length - i) 0 ⟨by omega, ?_, ?_, ?_, by omega⟩ (by simp (disch := omega) only [↓wpre, push_cast, seval]) ?_
 ·rw [hu_ne (by omega), hu_ne (by omega), hu_same]
  simp [nats]
 ·exact hu_same
 ·exact Qt.mono (n := n) (by repeat (first | exact hq | refine Qt.hu ?_ (by omega))) (by omega)
 clear hq
 rintro i fr H1 n1 ⟨hi, hr, hb, hq, hn1⟩ hh
 simp only [has_nil, has_cons, and_true] at hh hi hr hb
 by_cases hlt : (i : Int) < l.length
 ·have hi0 : (0 : Int) ≤ i := by omega
  have hin : i < l.length := by omega
  obtain ⟨k, hk⟩ : ∃ k, l.length - i = k + 1 := ⟨l.length - i - 1, by omega⟩
  rw [hk] at hr
  have hget : (nats (List.range i ++ List.replicate (k + 1) 0))[i]? = some [AV.int (0 : Nat)] := by simp [nats]
  have hset := nats_set (List.range i ++ List.replicate (k + 1) 0) i i
  rw [fill_set] at hset
  simp (disch := omega) only [↓wpre, push_cast, seval, hh, hlt, hb, hr, hi0, hin, hget, hset, Int.toNat_natCast]
  refine againJ (i + 1) (by omega) ⟨by omega, ?_, ?_, ?_, by omega⟩ (by simp (disch := omega) only [↓wpre, push_cast, seval, hh]; all_goals (try simp only [AV.lit.injEq, Value.int.injEq, Value.bool.injEq, true_and, and_true]); all_goals (try (repeat' apply And.intro)); all_goals (first | rfl | omega | simp_all | skip))
  ·rw [hu_same, show l.length - (i + 1) = k from by omega]
  ·simp (disch := omega) only [↓wpre, push_cast, seval, hb]
  ·exact Qt.mono (n := n) (by repeat (first | exact hq | refine Qt.hu ?_ (by omega))) (by omega)
 ·have hil : i = l.length := by omega
  subst hil
  have hr : H1 n = some ⟨3, 1, nats (List.range l.length)⟩ := by rw [hr]; simp
  have hrow1 := hq.1 _ _ hrow
  have h1 := h.sub hq.1
  have hm1 := h1.hv.map
  generalize hR : (K.map fun x => [AV.agg x.c, AV.os (ob x) 0 (occ l x).length]) = R at hm1
  have hRl : R.length = K.length := by rw [← hR]; simp
  have hRk : ∀ k x y, R[k]? = some [x, y] → ∃ z, K[k]? = some z ∧ x = AV.agg z.c ∧ y = AV.os (ob z) 0 (occ l z).length := fun k x y hk => by
   rw [← hR, List.getElem?_map] at hk
   cases hz : K[k]? with
   | none => rw [hz] at hk; cases hk
   | some z =>
    rw [hz] at hk
    simp only [Option.map_some, Option.some.injEq, List.cons.injEq, and_true] at hk
    exact ⟨z, hz, hk.1.symm, hk.2.symm⟩
  simp (disch := omega) only [↓wpre, push_cast, seval, hh, hlt, hrow1]
  refine xrng_om hm1 rfl ?_
  simp (disch := omega) only [↓wpre, push_cast, seval, hh]
  refine xw_loopJ (σ := List Nat × List Nat × Int) (fun t => [(0, .op g 0 0), (1, ov), (5, .op (n + 1) 0 0), (7, .fn (.func 171) [.op (n + 1) 0 0]), (36, .oit n1)]) (fun t H' n' => H' n1 = some ⟨m, K.length, itRows t.2.2 t.2.1⟩ ∧ Mg (JJ o r l) l t.1 ∧ (∀ i x, K[i]? = some x → i ∉ t.2.1 → JJ o r l x = true → Gone l t.1 x) ∧ H' n = some ⟨3, 1, nats t.1⟩ ∧ H' (n + 1) = some ⟨22, 1, [[.os n 0 l.length]]⟩ ∧ Qt H H' n ∧ n1 + 1 ≤ n') (fun t => t.2.1.length) (List.range l.length, List.range R.length, -1) ⟨by rw [hu_same, hRl], Mg.start _ _, ?_, ?_, ?_, ?_, by omega⟩ (by simp (disch := omega) only [↓wpre, push_cast, seval, hh]) ?_
  ·intro i x hi hno
   exact absurd (by rw [hRl]; exact List.mem_range.2 (List.getElem?_eq_some_iff.1 hi).1) hno
  ·simp (disch := omega) only [↓wpre, push_cast, seval, hr]
  ·simp (disch := omega) only [↓wpre, push_cast, seval, hb]
  ·exact Qt.mono (n := n) (by repeat (first | exact hq | refine Qt.hu ?_ (by omega))) (by omega)
  clear hh hr hb hrow1 h1 hm1 hq hi hlt
  rintro ⟨p, idxs, k0⟩ fr H2 n2 ⟨hit, hmg, hgone, hr, hb, hq, hn2⟩ hh
  simp only [has_nil, has_cons, and_true] at hh hit hmg hgone hr hb
  have h1 := h.sub hq.1
  have hm1 := h1.hv.map
  rw [hR] at hm1
  simp (disch := omega) only [↓wpre, push_cast, seval, hh]
  refine xnxt_oit hit hm1 hRl ?_ ?_
  ·rintro rfl
   have hgall : ∀ x, JJ o r l x = true → Gone l p x := fun x hx => by
    by_cases hxK : x ∈ K
    ·obtain ⟨i, hi⟩ := List.mem_iff_getElem?.1 hxK
     exact hgone i x hi (by simp) hx
    ·exact gone_none (Classical.byContradiction fun h0 => hxK ((h.hv.all x).1 h0))
   have hpl := hmg.len
   simp (disch := omega) only [↓wpre, push_cast, seval, hh, hb]
   refine xw_loopJ (σ := List Nat × Nat) (fun t => [(5, .op (n + 1) 0 0), (7, .fn (.func 171) [.op (n + 1) 0 0]), (82, .int l.length), (83, .int t.2)]) (fun t H' n' => Like p t.1 ∧ (∀ j, j < t.2 → par t.1 j = rp p j) ∧ t.2 ≤ l.length ∧ H' n = some ⟨3, 1, nats t.1⟩ ∧ H' (n + 1) = some ⟨22, 1, [[.os n 0 l.length]]⟩ ∧ Qt H H' n ∧ n1 + 1 ≤ n') (fun t => l.length - t.2) (p, 0) ⟨.refl hmg.down, fun j hj => (by omega), by omega, hr, hb, hq, by omega⟩ (by simp (disch := omega) only [↓wpre, push_cast, seval, hh]) ?_
   clear hit hr hb hq h1 hm1 hh
   rintro ⟨q, i⟩ fr H4 n4 ⟨hL, hfl, hil, hr, hb, hq, hn4⟩ hh
   simp only [has_nil, has_cons, and_true] at hh hL hfl hil hr hb
   have hql := hL.len
   by_cases hlt2 : (i : Int) < l.length
   ·have hi2 : i < q.length := by omega
    have hi0 : (0 : Int) ≤ i := by omega
    have hib : i < l.length := by omega
    simp (disch := omega) only [↓wpre, push_cast, seval, hh, hlt2]
    refine xw_nreg (Ab.only (n + 1) ⟨22, 1, [[.os n 0 l.length]]⟩) (only_sub hb) ?_
    have hon : Ab.only (n + 1) ⟨22, 1, [[.os n 0 l.length]]⟩ (n + 1) = some ⟨22, 1, [[.os n 0 l.length]]⟩ := if_pos rfl
    have hso : Ab.Sub (Ab.only (n + 1) ⟨22, 1, [[.os n 0 l.length]]⟩) H4 = True := eq_true (only_sub hb)
    have hgi := nats_get hi2
    simp (disch := omega) only [↓wpre, push_cast, seval, hh, hon, hso, hi0, hib, hlt2, Int.toNat_natCast]
    refine ACalls.x (find_c G _ (n + 1) n q hL.down l.length (by omega) (by omega) hb hr i (by omega) _) fun r1 H5 n5 ⟨q1, hL1, e1, e2, hn5⟩ => ?_
    subst e1 e2
    have hl1 := hL1.len
    have hso1 : ∀ x, Ab.Sub (Ab.only (n + 1) ⟨22, 1, [[.os n 0 l.length]]⟩) (hu H4 n x) = True := fun x => eq_true (only_sub (by rw [hu_ne (by omega)]; exact hb))
    have gi := nats_get (p := q1) (i := i) (by omega)
    have si := nats_set q1 i (rp q i)
    simp (disch := omega) only [↓wpre, push_cast, seval, hh, hon, hso1, hi0, hib, hlt2, gi, si, hu_hu, Int.toNat_natCast]
    have hL2 : Like q (q1.set i (rp q i)) := by
     have h3 := Like.root hL1.down (i := i) (by omega)
     rw [hL1.same] at h3
     exact hL1.trans h3
    refine againJ (q1.set i (rp q i), i + 1) (by omega) ⟨hL.trans hL2, ?_, by omega, hu_same, ?_, ?_, by omega⟩ (by simp (disch := omega) only [↓wpre, push_cast, seval, hh]; all_goals (try simp only [AV.lit.injEq, Value.int.injEq, Value.bool.injEq, true_and, and_true]); all_goals (try (repeat' apply And.intro)); all_goals (first | rfl | omega | simp_all | skip))
    ·intro j hj
     dsimp only at hj ⊢
     by_cases hji : j = i
     ·subst hji
      rw [par_set q1 _ _ _ (by omega), if_pos rfl, hL.same]
     ·have h5 := hfl j (by omega)
      rw [hL2.flat j (by rw [h5, hL.same]), h5]
    ·simp (disch := omega) only [↓wpre, push_cast, seval, hb]
    ·exact Qt.mono (n := n) (by repeat (first | exact hq | refine Qt.hu ?_ (by omega))) (by omega)
   ·have hie : i = l.length := by omega
    simp (disch := omega) only [↓wpre, push_cast, seval, hh, hlt2, hb]
    refine fin_intro (Sub.refl _) ⟨q, n, hmg.parts hgall (by omega) (fun j hj => hfl j (by omega)), rfl, hr, Nat.le_refl _, by omega, hq.1⟩
  ·intro k hk x y hxy
   obtain ⟨z, hz, rfl, rfl⟩ := hRk k x y hxy
   have hent : aent (hu H2 n1 (some ⟨m, K.length, itRows k (idxs.filter (· != k))⟩)) (.oit n1) = some (.tup [.agg z.c, .os (ob z) 0 (occ l z).length]) := aent_at (k := k) hu_same (by rw [hu_ne (by omega)]; exact hm1) hRl hxy
   simp (disch := omega) only [↓wpre, push_cast, seval, hh, hent]
   refine xw_nreg noH (of_eq_true (sub_noH _)) ?_
   simp (disch := omega) only [↓wpre, push_cast, seval, hh]
   refine AFn.x (joins_c G _ (h.sub ?hs) z) fun n3 hn3 => ?_
   case hs => exact (Qt.mono (n := n) (by repeat (first | exact hq | refine Qt.hu ?_ (by omega))) (Nat.le_refl _)).1
   have hskip : JJ o r l z = false → ∀ i x, K[i]? = some x → i ∉ idxs.filter (· != k) → JJ o r l x = true → Gone l p x := by
    intro hJ i x hi hno hx
    by_cases hik : i = k
    ·subst hik
     rw [hz] at hi
     cases hi
     rw [hJ] at hx; cases hx
    ·exact hgone i x hi (fun hm => hno (List.mem_filter.2 ⟨hm, by simpa using hik⟩)) hx
   have hlt := filter_lt hk
   by_cases hJ : JJ o r l z = true
   ·have hj : joins r l z = true := by simp [JJ] at hJ; exact hJ.1
    have hoz : ¬ o = some z := by simp [JJ] at hJ; exact hJ.2
    have hoo : ov = .lit (.pointer none) ∨ (∃ x0 : Idn, ov = .pp x0.c ∧ ¬ x0 = z) ∨ ∃ (x0 : Idn) (ix : Nat), ov = .op ix 0 0 ∧ ix < n ∧ H2 ix = some ⟨55, 2, [x0.c]⟩ ∧ ¬ x0 = z := by
     cases o with
     | none => exact .inl hov
     | some x0 =>
      rcases hov with hov | ⟨ix, hov, hix⟩
      ·exact .inr (.inl ⟨x0, hov, by simpa using hoz⟩)
      ·exact .inr (.inr ⟨x0, ix, hov, hlow ix _ hix, hq.1 _ _ hix, by simpa using hoz⟩)
    rcases hoo with ho1 | ⟨x0, ho1, ho2⟩ | ⟨x0, ix, ho1, hixn, hix, ho2⟩
    case' inl => simp (disch := omega) only [↓wpre, push_cast, seval, hh, hj, ho1]
    case' inr.inl =>
     have hd : (decide (x0.kind = z.kind) && decide (x0.text = z.text)) = false := by rw [idn_dec]; simpa using ho2
     simp (disch := omega) only [↓wpre, push_cast, seval, hh, hj, ho1, hd]
    case' inr.inr =>
     have hd : (decide (x0.kind = z.kind) && decide (x0.text = z.text)) = false := by rw [idn_dec]; simpa using ho2
     simp (disch := omega) only [↓wpre, push_cast, seval, hh, hj, ho1, hix, hd]
    all_goals
     have hzK : z ∈ K := List.mem_of_getElem? hz
     have hob := h1.hv.obj z hzK
     have hol := h.hv.low.2 z hzK
     obtain ⟨a, rest, hocc⟩ : ∃ a rest, occ l z = a :: rest := by
      cases ho : occ l z with
      | nil => exact absurd ho ((h.hv.all z).2 hzK)
      | cons a rest => exact ⟨a, rest, rfl⟩
     have hol2 := occ_len l z
     have hall : ∀ i ∈ occ l z, Has l i z := fun i hi => mem_occ.1 hi
     have hlen : (occ l z).length = rest.length + 1 := by rw [hocc]; rfl
     obtain ⟨sv, hsv, hsl, hsp⟩ := sl_tail (ob z) (occ l z).length rest.length hlen
     have hcut : ∀ H3, CutOk (hu (hu (hu H2 n1 H3) n2 (some ⟨55, 2, [[.int 0, .str ⟨#[]⟩]]⟩)) n2 (some ⟨55, 2, [[.int z.kind, .str z.text]]⟩)) 1 (.os (ob z) 0 (occ l z).length) = True := fun H3 => eq_true ⟨_, by rw [hu_ne (by omega), hu_ne (by omega), hu_ne (by omega)]; exact hob, rfl⟩
     simp (disch := omega) only [↓wpre, push_cast, seval, hh, hcut, hsv, hsl]
     refine xw_loopJ (σ := List Nat × Nat) (fun t => [(0, .op g 0 0), (1, ov), (5, .op (n + 1) 0 0), (7, .fn (.func 171) [.op (n + 1) 0 0]), (9, .os (ob z) 0 (occ l z).length), (36, .oit n1), (58, sv), (59, .int rest.length), (60, .int t.2)]) (fun t H' n' => H' n1 = some ⟨m, K.length, itRows k (idxs.filter (· != k))⟩ ∧ Mg (JJ o r l) l t.1 ∧ (∀ i x, K[i]? = some x → i ∉ idxs.filter (· != k) → i ≠ k → JJ o r l x = true → Gone l t.1 x) ∧ (∀ b ∈ rest.take t.2, rp t.1 b = rp t.1 a) ∧ t.2 ≤ rest.length ∧ H' n = some ⟨3, 1, nats t.1⟩ ∧ H' (n + 1) = some ⟨22, 1, [[.os n 0 l.length]]⟩ ∧ Qt H H' n ∧ n1 + 1 ≤ n') (fun t => rest.length - t.2) (p, 0) ⟨?_, hmg, ?_, ?_, by omega, ?_, ?_, ?_, by omega⟩ (by simp (disch := omega) only [↓wpre, push_cast, seval, hh, ho1]) ?_
     ·simp (disch := omega) only [↓wpre, push_cast, seval]
     ·intro i x hi hno hik hx
      exact hgone i x hi (fun hm => hno (List.mem_filter.2 ⟨hm, by simpa using hik⟩)) hx
     ·intro b hb; simp at hb
     ·simp (disch := omega) only [↓wpre, push_cast, seval, hr]
     ·simp (disch := omega) only [↓wpre, push_cast, seval, hb]
     ·exact Qt.mono (n := n) (by repeat (first | exact hq | refine Qt.hu ?_ (by omega))) (by omega)
     clear hit hmg hgone hr hb hq h1 hm1 hob hent hskip hh
     rintro ⟨p, j⟩ fr H4 n4 ⟨hit, hmg, hgone, hone, hjl, hr, hb, hq, hn4⟩ hh
     simp only [has_nil, has_cons, and_true] at hh hit hmg hgone hone hjl hr hb
     have h1 := h.sub hq.1
     have hob := h1.hv.obj z hzK
     by_cases hlt2 : (j : Int) < rest.length
     ·have hjr : j < rest.length := by omega
      obtain ⟨b, hb0⟩ : ∃ b, rest[j]? = some b := ⟨_, List.getElem?_eq_getElem hjr⟩
      have hsv2 := hsp (by omega)
      have hbo : b ∈ occ l z := by rw [hocc]; exact List.mem_cons_of_mem _ (List.mem_of_getElem? hb0)
      have hao : a ∈ occ l z := by rw [hocc]; exact List.mem_cons_self
      have hba := hall b hbo
      have haa := hall a hao
      have hbl := has_lt hba
      have hal := has_lt haa
      have ga : (nats (occ l z))[0]? = some [AV.int (a : Nat)] := by rw [hocc]; rfl
      have gb : (nats (occ l z))[1 + j]? = some [AV.int (b : Nat)] := by
       rw [hocc, nats, List.getElem?_map, show 1 + j = j + 1 from by omega, List.getElem?_cons_succ, hb0]; rfl
      have hj0 : (0 : Int) ≤ j := by omega
      have hl0 : (0 : Int) < (occ l z).length := by omega
      have hl0' : 0 < (occ l z).length := by omega
      have ht1 : ((1 : Int) + (j : Int)).toNat = 1 + j := by omega
      have ht2 : ((j : Int) + 1).toNat = 1 + j := by omega
      simp (disch := omega) only [↓wpre, push_cast, seval, hh, hsv2, hlt2, hob, ga, gb, hj0, hl0, hl0', ht1, ht2, Int.toNat_zero, Int.toNat_natCast]
      have hpl := hmg.len
      refine ACalls.x (find_c G _ (n + 1) n p hmg.down l.length hpl.symm (by omega) hb hr a (by omega) _) fun r1 H5 n5 ⟨q1, hL1, e1, e2, hn5⟩ => ?_
      subst e1 e2
      simp (disch := omega) only [↓wpre, push_cast, seval, hh]
      have hl1 := hL1.len
      refine ACalls.x (find_c G _ (n + 1) n q1 hL1.down l.length (by omega) (by omega) (by rw [hu_ne (by omega)]; exact hb) hu_same b (by omega) _) fun r2 H6 n6 ⟨q2, hL2, e1, e2, hn6⟩ => ?_
      subst e1 e2
      have hl2 := hL2.len
      rw [hL1.same]
      have hL := hL1.trans hL2
      have hmg2 := hmg.like hL
      have hmx : (max (rp p a) (rp p b) : Nat) < l.length := by
       have h1 := rp_lt (p := p) (i := a) (by omega)
       have h2 := rp_lt (p := p) (i := b) (by omega)
       omega
      have em1 : max ((rp p a : Nat) : Int) (rp p b : Nat) = ((max (rp p a) (rp p b) : Nat) : Int) := by omega
      have em2 : min ((rp p a : Nat) : Int) (rp p b : Nat) = ((min (rp p a) (rp p b) : Nat) : Int) := by omega
      generalize hM : max (rp p a) (rp p b) = M at hmx em1
      generalize hW : min (rp p a) (rp p b) = W at em2
      have hM0 : (0 : Int) ≤ (M : Nat) := by omega
      have hMl : ((M : Nat) : Int) < l.length := by omega
      have gM := nats_get (p := q2) (i := M) (by omega)
      have sM := nats_set q2 M W
      simp (disch := omega) only [↓wpre, push_cast, seval, hh, hb, em1, em2, hM0, hMl, hmx, gM, sM, hu_hu, Int.toNat_natCast]
      have hun : q2.set M W = un q2 (rp q2 a) (rp q2 b) := by unfold un; rw [hL.same, hL.same, hM, hW]
      have qa : a < q2.length := by omega
      have qb : b < q2.length := by omega
      refine againJ (q2.set M W, j + 1) (by omega) ⟨?_, ?_, ?_, ?_, by omega, hu_same, ?_, ?_, by omega⟩ (by simp (disch := omega) only [↓wpre, push_cast, seval, hh]; all_goals (try simp only [AV.lit.injEq, Value.int.injEq, Value.bool.injEq, true_and, and_true]); all_goals (try (repeat' apply And.intro)); all_goals (first | rfl | omega | simp_all | skip))
      ·simp (disch := omega) only [↓wpre, push_cast, seval, hit]
      ·dsimp only; rw [hun]; exact hmg2.un hJ haa hba
      ·intro i x hi hno hik hx
       dsimp only
       rw [hun]
       exact ((hgone i x hi hno hik hx).like hL).un hL.down qa qb
      ·intro c hc
       dsimp only
       rw [hun]
       have hc' : c ∈ rest.take j ∨ c = b := by
        dsimp only at hc
        rw [List.take_add_one, hb0] at hc
        simpa using hc
       rcases hc' with hc' | rfl
       ·rw [rp_un hL.down qa qb, rp_un hL.down qa qb, hL.same c, hone c hc', hL.same a]
       ·exact (un_same hL.down qa qb).symm
      ·simp (disch := omega) only [↓wpre, push_cast, seval, hb]
      ·exact Qt.mono (n := n) (by repeat (first | exact hq | refine Qt.hu ?_ (by omega))) (by omega)
     ·have hje : j = rest.length := by omega
      simp (disch := omega) only [↓wpre, push_cast, seval, hh, hlt2]
      refine againJ (p, idxs.filter (· != k), (k : Int)) hlt ⟨hit, hmg, ?_, hr, hb, hq, by omega⟩ (by simp (disch := omega) only [↓wpre, push_cast, seval, hh]; all_goals (try simp only [AV.lit.injEq, Value.int.injEq, Value.bool.injEq, true_and, and_true]); all_goals (try (repeat' apply And.intro)); all_goals (first | rfl | omega | simp_all | skip))
      intro i x hi hno hx
      by_cases hik : i = k
      ·subst hik
       rw [hz] at hi
       cases hi
       refine gone_all hocc fun b hb => hone b ?_
       rw [hje, List.take_length]
       exact hb
      ·exact hgone i x hi hno hik hx
   ·have hJ' : JJ o r l z = false := by simpa using hJ
    by_cases hj : joins r l z = true
    ·have hoz : o = some z := by simpa [JJ, hj] using hJ'
     have hd : (decide (z.kind = z.kind) && decide (z.text = z.text)) = true := by simp
     rw [hoz] at hov
     rcases hov with ho1 | ⟨ix, ho1, hix0⟩
     ·simp (disch := omega) only [↓wpre, push_cast, seval, hh, hj, ho1, hd]
      refine againJ (p, idxs.filter (· != k), (k : Int)) hlt ⟨?_, hmg, hskip hJ', ?_, ?_, ?_, by omega⟩ (by simp (disch := omega) only [↓wpre, push_cast, seval, hh, ho1]; all_goals (try simp only [AV.lit.injEq, Value.int.injEq, Value.bool.injEq, true_and, and_true]); all_goals (try (repeat' apply And.intro)); all_goals (first | rfl | omega | simp_all | skip))
      ·simp (disch := omega) only [↓wpre, push_cast, seval]
      ·simp (disch := omega) only [↓wpre, push_cast, seval, hr]
      ·simp (disch := omega) only [↓wpre, push_cast, seval, hb]
      ·exact Qt.mono (n := n) (by repeat (first | exact hq | refine Qt.hu ?_ (by omega))) (by omega)
     ·have hixn := hlow ix _ hix0
      have hix := hq.1 _ _ hix0
      simp (disch := omega) only [↓wpre, push_cast, seval, hh, hj, ho1, hix, hd]
      refine againJ (p, idxs.filter (· != k), (k : Int)) hlt ⟨?_, hmg, hskip hJ', ?_, ?_, ?_, by omega⟩ (by simp (disch := omega) only [↓wpre, push_cast, seval, hh, ho1]; all_goals (try simp only [AV.lit.injEq, Value.int.injEq, Value.bool.injEq, true_and, and_true]); all_goals (try (repeat' apply And.intro)); all_goals (first | rfl | omega | simp_all | skip))
      ·simp (disch := omega) only [↓wpre, push_cast, seval]
      ·simp (disch := omega) only [↓wpre, push_cast, seval, hr]
      ·simp (disch := omega) only [↓wpre, push_cast, seval, hb]
      ·exact Qt.mono (n := n) (by repeat (first | exact hq | refine Qt.hu ?_ (by omega))) (by omega)
    ·simp (disch := omega) only [↓wpre, push_cast, seval, hh, hj]
     refine againJ (p, idxs.filter (· != k), (k : Int)) hlt ⟨?_, hmg, hskip hJ', ?_, ?_, ?_, by omega⟩ (by simp (disch := omega) only [↓wpre, push_cast, seval, hh]; all_goals (try simp only [AV.lit.injEq, Value.int.injEq, Value.bool.injEq, true_and, and_true]); all_goals (try (repeat' apply And.intro)); all_goals (first | rfl | omega | simp_all | skip))
     ·simp (disch := omega) only [↓wpre, push_cast, seval]
     ·simp (disch := omega) only [↓wpre, push_cast, seval, hr]
     ·simp (disch := omega) only [↓wpre, push_cast, seval, hb]
     ·exact Qt.mono (n := n) (by repeat (first | exact hq | refine Qt.hu ?_ (by omega))) (by omega)
theorem parts_c {g m : Nat} {r : Rls} {nz : Bool} {l : List Tch} {K : List Idn} {ob : Idn → Nat} {N : Nat} (h : Grp H g m r nz l K ob N) (o : Option Idn) (n : Nat) (hN : N ≤ n) : ACalls Tryz.prog G 106 [.op g 0 0, outP o] H n fun v H' n' => ∃ p ro, Parts (tie (JJ o r l) l) l.length p ∧ v = .os ro 0 l.length ∧ H' ro = some ⟨3, 1, nats p⟩ ∧ n ≤ ro ∧ ro < n' ∧ Sub H H' :=
 parts_g G H h o _ (by cases o with | none => exact rfl | some x => exact .inl rfl) n hN
end Go.Proofs.YtblhbafoncfhdaaGreatDoor
