/- Contracts of functions of the program: each computes what its model says; the conditions stand at each. -/
import Derived.Test.YtblhbafoncfhdaaGreatDoorPe1
set_option linter.unusedSimpArgs false
set_option linter.unusedVariables false
set_option maxRecDepth 20000
set_option pp.deepTerms false
set_option pp.deepTerms.threshold 3
namespace Go.Proofs.YtblhbafoncfhdaaGreatDoor
open Go Go.Ab Go.Pm Go.Cm Go.El Go.Rm Go.Pp
variable (G : Nat → AV) (H : Nat → Option AObj)
set_option maxHeartbeats 1600000 in
theorem checkTouch_ok {m : Int} {cs : List AV} (hG : G 4 = .pp (.lit (.int .i64 m) :: cs)) (hU : GU G) (t : Tch) (h : TouchOk t) (b : Int) (hb : b < t.no) : AFn Tryz.prog G 118 [.agg t.c, .int b] H (.int 0) := by
  obtain ⟨hno, hat, hsrc, hsome, hfew, hids, hfs, hs1, hs2, hs3⟩ := h
  obtain ⟨no, at', src, nzi, ids, nzf, fs⟩ := t
  dsimp only at *
  have hsm : SmallF fs := by intro f hf; exact hs3 f hf
  refine AFn.start mix F118 (by simp) fun k hlow => ?_
  have hw1 : within no 1 1000000 = true := by simp [within]; omega
  have hw2 : within at' 0 4321439 = true := by simp [within]; omega
  have hb' : ¬ no ≤ b := by omega
  have h0 : ¬ (ids.length : Int) = 0 := by
    cases ids with
    | nil => exact absurd rfl hsome
    | cons a b => simp; omega
  have h10 : ¬ (10 : Int) < ids.length := by omega
  simp -dsimp -implicitDefEqProofs (disch := omega) only [↓wpre, push_cast, seval, c118]
  (first | with_reducible refine (within_c _ _ no 1 1000000).x fun n' hn' => ?_ | with_reducible refine xfn_intro (within_c _ _ no 1 1000000) ?_); try simp -dsimp -implicitDefEqProofs (disch := omega) only [↓wpre, push_cast, seval, hw1]
  (first | with_reducible refine (within_c _ _ at' 0 4321439).x fun n' hn' => ?_ | with_reducible refine xfn_intro (within_c _ _ at' 0 4321439) ?_); try simp -dsimp -implicitDefEqProofs (disch := omega) only [↓wpre, push_cast, seval, hw2, hb']
  (first | with_reducible refine (isKey_c _ _ src (by omega)).x fun n' hn' => ?_ | with_reducible refine xfn_intro (isKey_c _ _ src (by omega)) ?_); try simp -dsimp -implicitDefEqProofs (disch := omega) only [↓wpre, push_cast, seval, hsrc, h0, h10]
  (first | with_reducible refine (checkIds_ok _ _ hG nzi ids hids (by omega)).x fun n' hn' => ?_ | with_reducible refine xfn_intro (checkIds_ok _ _ hG nzi ids hids (by omega)) ?_); try simp -dsimp -implicitDefEqProofs (disch := omega) only [↓wpre, push_cast, seval, true_and]
  (first | with_reducible refine (checkFields_c _ _ hU nzf fs hsm (by omega)).x fun n' hn' => ?_ | with_reducible refine xfn_intro (checkFields_c _ _ hU nzf fs hsm (by omega)) ?_); try simp -dsimp -implicitDefEqProofs (disch := omega) only [↓wpre, push_cast, seval, hfs]
set_option maxHeartbeats 1600000 in
theorem check_ok {m : Int} {cs : List AV} (hG : G 4 = .pp (.lit (.int .i64 m) :: cs)) (hU : GU G) (nz : Bool) (l : List Tch) (h : TouchesOk l) : AFn Tryz.prog G 152 [.ls nz (l.map Tch.c)] H (.int 0) := by
  obtain ⟨hfew, heach, hrise⟩ := h
  refine AFn.start mix F152 (by simp) fun k hlow => ?_
  have h2000 : ¬ (2000 : Int) < l.length := by omega
  simp -dsimp -implicitDefEqProofs (disch := omega) only [↓wpre, push_cast, seval, c152, h2000]
  refine xw_loopJ (σ := List Tch × List Tch) (fun t => [(3, .int (match t.1.getLast? with | some p => p.no | none => 0)), (10, .ls nz (l.map Tch.c)), (11, .int l.length), (12, .int t.1.length)]) (fun t H' n' => l = t.1 ++ t.2 ∧ Qt H H' k ∧ k ≤ n') (fun t => t.2.length) ([], l) ⟨rfl, (by first | exact .refl hlow | (refine Qt.hu (.refl hlow) (by omega))), (by omega)⟩ (by simp -dsimp -implicitDefEqProofs (disch := omega) only [↓wpre, push_cast, seval]; try rfl) ?_
  rintro ⟨d, r⟩ fr H' n1 ⟨hab, hq, hn⟩ hh
  simp only [has_nil, has_cons, and_true] at hh hab
  have hll : l.length = d.length + r.length := by rw [hab]; simp
  cases r with
  | nil =>
    have hlt : ¬ (d.length : Int) < l.length := by rw [hll]; simp
    simp -dsimp -implicitDefEqProofs (disch := omega) only [↓wpre, push_cast, seval, hh, hlt]
    exact (Qt.mono (n := k) (by repeat (first | exact hq | refine Qt.hu ?_ (by omega))) (Nat.le_refl _)).1
  | cons x r =>
    have hlt : (d.length : Int) < l.length := by rw [hll]; simp only [List.length_cons]; omega
    have hx : l[d.length]? = some x := by rw [hab]; simp
    have hxo := heach x (by rw [hab]; simp)
    have hbef : (match d.getLast? with | some p => p.no | none => 0) < x.no := by
      rcases last_of d with rfl | ⟨d', p, rfl⟩
      · have := hxo.no; simp; omega
      · have h1 := hrise
        rw [hab] at h1
        have h2 := (List.pairwise_append.1 h1).2.2 p (by simp) x (by simp)
        simpa using h2
    simp -dsimp -implicitDefEqProofs (disch := omega) only [↓wpre, push_cast, seval, hh, hlt, even_tch, aidx_at rfl hx]
    (first | with_reducible refine (checkTouch_ok _ _ hG hU x hxo _ hbef).x fun n' hn' => ?_ | with_reducible refine xfn_intro (checkTouch_ok _ _ hG hU x hxo _ hbef) ?_); try simp -dsimp -implicitDefEqProofs (disch := omega) only [↓wpre, push_cast, seval, hh]
    refine againJ (d ++ [x], r) (Nat.lt_succ_self _) ⟨by rw [hab]; simp, by exact Qt.mono (n := k) (by repeat (first | exact hq | refine Qt.hu ?_ (by omega))) (by omega), by omega⟩ (by simp -dsimp -implicitDefEqProofs (disch := omega) only [↓wpre, push_cast, seval, hh, getLast?_snoc]; all_goals (try simp only [AV.lit.injEq, Value.int.injEq, Value.bool.injEq, true_and, and_true]); all_goals (try (repeat' apply And.intro)); all_goals (first | rfl | omega | simp_all | skip))
theorem checkBoth_ok {m : Int} {cs : List AV} (hG : G 4 = .pp (.lit (.int .i64 m) :: cs)) (hU : GU G) (r : Rls) (hr : RulesOk r) (nz : Bool) (l : List Tch) (h : TouchesOk l) : AFn Tryz.prog G 82 [.agg r.c, .ls nz (l.map Tch.c)] H (.int 0) := by
  refine AFn.start mix F82 (by simp) fun k hlow => ?_
  simp -dsimp -implicitDefEqProofs (disch := omega) only [↓wpre, push_cast, seval, c82]
  (first | with_reducible refine (checkRules_ok _ _ hG r hr).x fun n' hn' => ?_ | with_reducible refine xfn_intro (checkRules_ok _ _ hG r hr) ?_); try simp -dsimp -implicitDefEqProofs (disch := omega) only [↓wpre, push_cast, seval, true_and]
  (first | with_reducible refine (check_ok _ _ hG hU nz l h).x fun n' hn' => ?_ | with_reducible refine xfn_intro (check_ok _ _ hG hU nz l h) ?_); try simp -dsimp -implicitDefEqProofs (disch := omega) only [↓wpre, push_cast, seval, true_and]
/-! Search. -/
def idxOf {α : Type} [DecidableEq α] (x : α) : Nat → List α → Int
  | _, [] => -1
  | i, y :: r => if x = y then (i : Int) else idxOf x (i + 1) r
theorem idxOf_ge {α : Type} [DecidableEq α] (x : α) : ∀ (i : Nat) (l : List α), (0 ≤ idxOf x i l ↔ x ∈ l)
  | i, [] => by simp [idxOf]
  | i, y :: r => by
    rw [idxOf]
    split
    · rename_i h; simp [h]
    · rename_i h; rw [idxOf_ge x (i + 1) r]; simp [h]
theorem indexI_c (nz : Bool) (l : List Int) (x : Int) (hl : l.length ≤ 1000000) : AFn Tryz.prog G 102 [LL nz l, .int x] H (.int (idxOf x 0 l)) := by
  refine AFn.start mix F102 (by simp) fun k hlow => ?_
  simp -dsimp -implicitDefEqProofs (disch := omega) only [↓wpre, push_cast, seval, c102]
  refine xw_loopJ (σ := List Int × List Int) (fun t => [(0, LL nz l), (1, .int x), (7, .int l.length), (8, .int t.1.length)]) (fun t H' n' => l = t.1 ++ t.2 ∧ idxOf x t.1.length t.2 = idxOf x 0 l ∧ Qt H H' k ∧ k ≤ n') (fun t => t.2.length) ([], l) ⟨rfl, rfl, .refl hlow, Nat.le_refl _⟩ (by simp -dsimp -implicitDefEqProofs (disch := omega) only [↓wpre, push_cast, seval]) ?_
  rintro ⟨d, r⟩ fr H' n1 ⟨hab, hi, hq, hn⟩ hh
  simp only [has_nil, has_cons, and_true] at hh hab hi
  have hll : l.length = d.length + r.length := by rw [hab]; simp
  cases r with
  | nil =>
    have hlt : ¬ (d.length : Int) < l.length := by rw [hll]; simp
    rw [← hi]
    simp -dsimp -implicitDefEqProofs (disch := omega) only [↓wpre, push_cast, seval, hh, hlt, idxOf]
    first | (exact (Qt.mono (n := k) (by repeat (first | exact hq | refine Qt.hu ?_ (by omega))) (Nat.le_refl _)).1) | exact ⟨rfl, hq.1⟩
  | cons y r =>
    have hlt : (d.length : Int) < l.length := by rw [hll]; simp only [List.length_cons]; omega
    have hx : l[d.length]? = some y := by rw [hab]; simp
    have hi2 : idxOf x d.length (y :: r) = if x = y then (d.length : Int) else idxOf x (d.length + 1) r := rfl
    rw [hi2] at hi
    simp -dsimp -implicitDefEqProofs (disch := omega) only [↓wpre, push_cast, seval, hh, hlt, even_ints', aidx_at rfl hx]
    (first | with_reducible refine cnd_ndec (fun hc => ?_) (fun hc => ?_) | with_reducible refine cnd_dec (fun hc => ?_) (fun hc => ?_) | with_reducible refine cnd_nb (fun hc => ?_) (fun hc => ?_) | with_reducible refine cnd_intro (fun hc => ?_) (fun hc => ?_)) <;> (first | (exfalso; omega) | (try simp -dsimp -implicitDefEqProofs (disch := omega) only [↓wpre, push_cast, seval, hc, hh]))
    · rw [if_pos hc] at hi
      first | exact ⟨by rw [hi, hc], hq.1⟩ | (rw [← hi]; exact ⟨rfl, hq.1⟩)
    · rw [if_neg hc] at hi
      refine againJ (d ++ [y], r) (Nat.lt_succ_self _) ⟨by rw [hab]; simp, by rw [List.length_append]; exact hi, by exact Qt.mono (n := k) (by repeat (first | exact hq | refine Qt.hu ?_ (by omega))) (by omega), by omega⟩ (by simp -dsimp -implicitDefEqProofs (disch := omega) only [↓wpre, push_cast, seval, hh]; all_goals (try simp only [AV.lit.injEq, Value.int.injEq, Value.bool.injEq, true_and, and_true]); all_goals (try (repeat' apply And.intro)); all_goals (first | rfl | omega | simp_all | skip))
theorem containsI_c (nz : Bool) (l : List Int) (x : Int) (hl : l.length ≤ 1000000) : AFn Tryz.prog G 30 [LL nz l, .int x] H (.bool (decide (x ∈ l))) := by
  refine AFn.start mix F30 (by simp) fun k hlow => ?_
  simp -dsimp -implicitDefEqProofs (disch := omega) only [↓wpre, push_cast, seval, c30]
  (first | with_reducible refine (indexI_c _ _ nz l x hl).x fun n' hn' => ?_ | with_reducible refine xfn_intro (indexI_c _ _ nz l x hl) ?_); try simp -dsimp -implicitDefEqProofs (disch := omega) only [↓wpre, push_cast, seval, true_and]
  simp only [AV.lit.injEq, Value.bool.injEq]
  exact decide_eq_decide.2 (idxOf_ge x 0 l)
theorem indexId_c (nz : Bool) (l : List Idn) (x : Idn) (hl : l.length ≤ 1000000) : AFn Tryz.prog G 86 [.ls nz (l.map Idn.c), .agg x.c] H (.int (idxOf x 0 l)) := by
  refine AFn.start mix F86 (by simp) fun k hlow => ?_
  simp -dsimp -implicitDefEqProofs (disch := omega) only [↓wpre, push_cast, seval, c86]
  refine xw_loopJ (σ := List Idn × List Idn) (fun t => [(0, .ls nz (l.map Idn.c)), (3, .pp x.c), (7, .int l.length), (8, .int t.1.length)]) (fun t H' n' => l = t.1 ++ t.2 ∧ idxOf x t.1.length t.2 = idxOf x 0 l ∧ Qt H H' k ∧ k ≤ n') (fun t => t.2.length) ([], l) ⟨rfl, rfl, .refl hlow, Nat.le_refl _⟩ (by simp -dsimp -implicitDefEqProofs (disch := omega) only [↓wpre, push_cast, seval]) ?_
  rintro ⟨d, r⟩ fr H' n1 ⟨hab, hi, hq, hn⟩ hh
  simp only [has_nil, has_cons, and_true] at hh hab hi
  have hll : l.length = d.length + r.length := by rw [hab]; simp
  cases r with
  | nil =>
    have hlt : ¬ (d.length : Int) < l.length := by rw [hll]; simp
    rw [← hi]
    simp -dsimp -implicitDefEqProofs (disch := omega) only [↓wpre, push_cast, seval, hh, hlt, idxOf]
    first | (exact (Qt.mono (n := k) (by repeat (first | exact hq | refine Qt.hu ?_ (by omega))) (Nat.le_refl _)).1) | exact ⟨rfl, hq.1⟩
  | cons y r =>
    have hlt : (d.length : Int) < l.length := by rw [hll]; simp only [List.length_cons]; omega
    have hx : l[d.length]? = some y := by rw [hab]; simp
    have hi2 : idxOf x d.length (y :: r) = if x = y then (d.length : Int) else idxOf x (d.length + 1) r := rfl
    rw [hi2] at hi
    have hdec : (decide (x.kind = y.kind) && decide (x.text = y.text)) = decide (x = y) := by
      obtain ⟨a, b⟩ := x
      obtain ⟨a', b'⟩ := y
      simp
    simp -dsimp -implicitDefEqProofs (disch := omega) only [↓wpre, push_cast, seval, hh, hlt, even_ids, aidx_at rfl hx]
    refine anyN_intro fun n2 hn2 => ?_
    simp -dsimp -implicitDefEqProofs (disch := omega) only [↓wpre, push_cast, seval, hh, hdec]
    (first | with_reducible refine cnd_ndec (fun hc => ?_) (fun hc => ?_) | with_reducible refine cnd_dec (fun hc => ?_) (fun hc => ?_) | with_reducible refine cnd_nb (fun hc => ?_) (fun hc => ?_) | with_reducible refine cnd_intro (fun hc => ?_) (fun hc => ?_)) <;> (first | (exfalso; omega) | (try simp -dsimp -implicitDefEqProofs (disch := omega) only [↓wpre, push_cast, seval, hc, hh]))
    · rw [if_pos hc] at hi
      first | exact ⟨by rw [hi, hc], by exact (Qt.mono (n := k) (by repeat (first | exact hq | refine Qt.hu ?_ (by omega))) (Nat.le_refl _)).1⟩ | (rw [← hi]; exact ⟨rfl, by exact (Qt.mono (n := k) (by repeat (first | exact hq | refine Qt.hu ?_ (by omega))) (Nat.le_refl _)).1⟩)
    · rw [if_neg hc] at hi
      refine againJ (d ++ [y], r) (Nat.lt_succ_self _) ⟨by rw [hab]; simp, by rw [List.length_append]; exact hi, by exact Qt.mono (n := k) (by repeat (first | exact hq | refine Qt.hu ?_ (by omega))) (by omega), by omega⟩ (by simp -dsimp -implicitDefEqProofs (disch := omega) only [↓wpre, push_cast, seval, hh]; all_goals (try simp only [AV.lit.injEq, Value.int.injEq, Value.bool.injEq, true_and, and_true]); all_goals (try (repeat' apply And.intro)); all_goals (first | rfl | omega | simp_all | skip))
theorem containsId_c (nz : Bool) (l : List Idn) (x : Idn) (hl : l.length ≤ 1000000) : AFn Tryz.prog G 23 [.ls nz (l.map Idn.c), .agg x.c] H (.bool (decide (x ∈ l))) := by
  refine AFn.start mix F23 (by simp) fun k hlow => ?_
  simp -dsimp -implicitDefEqProofs (disch := omega) only [↓wpre, push_cast, seval, c23]
  (first | with_reducible refine (indexId_c _ _ nz l x hl).x fun n' hn' => ?_ | with_reducible refine xfn_intro (indexId_c _ _ nz l x hl) ?_); try simp -dsimp -implicitDefEqProofs (disch := omega) only [↓wpre, push_cast, seval, true_and]
  simp only [AV.lit.injEq, Value.bool.injEq]
  exact decide_eq_decide.2 (idxOf_ge x 0 l)
theorem bsGo_le (c : Nat → Int) : ∀ (k lo hi : Nat), lo ≤ hi → bsGo c k lo hi ≤ hi
  | 0, lo, hi, h => h
  | k + 1, lo, hi, h => by
    simp only [bsGo]
    split
    · split
      · exact bsGo_le c k _ _ (by omega)
      · exact Nat.le_trans (bsGo_le c k _ _ (by omega)) (by omega)
    · exact h
theorem bsAt_le {α : Type} (f : α → Int) (l : List α) : bsAt f l ≤ l.length := bsGo_le _ _ _ _ (Nat.zero_le _)
theorem bsId_c (nz : Bool) (l : List Idn) (q : Idn) (hl : l.length ≤ 1000000) : AFn Tryz.prog G 170 [.ls nz (l.map Idn.c), .agg q.c, .fn (.func 36) []] H (.tup [.int (bsAt (fun p => cmpId p q) l), .bool (bsHas (fun p => cmpId p q) l)]) := by
  have hle := bsAt_le (fun p => cmpId p q) l
  refine AFn.start mix F170 (by simp) fun k hlow => ?_
  simp -dsimp -implicitDefEqProofs (disch := omega) only [↓wpre, push_cast, seval, c170]
  refine xw_loopJ (σ := Nat × Nat × Nat) (fun t => [(0, .ls nz (l.map Idn.c)), (4, .pp q.c), (2, .fn (.func 36) []), (8, .int l.length), (9, .int t.2.1), (10, .int t.2.2)]) (fun t H' n' => t.2.1 ≤ t.2.2 ∧ t.2.2 ≤ l.length ∧ t.2.2 - t.2.1 ≤ t.1 ∧ bsGo (at0 (fun p => cmpId p q) l) t.1 t.2.1 t.2.2 = bsAt (fun p => cmpId p q) l ∧ Qt H H' n') (fun t => t.2.2 - t.2.1) (l.length, 0, l.length) ⟨Nat.zero_le _, Nat.le_refl _, by simp, rfl, .refl hlow⟩ (by simp -dsimp -implicitDefEqProofs (disch := omega) only [↓wpre, push_cast, seval]) ?_
  rintro ⟨m, lo, hi⟩ fr H' n ⟨h1, h2, h3, hf, hq⟩ hh
  simp only [has_nil, has_cons, and_true] at hh h1 h2 h3 hf
  by_cases hlt : (lo : Int) < hi
  · obtain ⟨m, rfl⟩ : ∃ k, m = k + 1 := ⟨m - 1, by omega⟩
    have hmid : (lo + hi) / 2 < l.length := by omega
    have hx := List.getElem?_eq_getElem hmid
    have hat : at0 (fun p => cmpId p q) l ((lo + hi) / 2) = cmpId (l[(lo + hi) / 2]) q := by simp only [at0, hx]
    have e1 : ((lo : Int) + hi) / 2 = (((lo + hi) / 2 : Nat) : Int) := by omega
    rw [bsGo, if_pos (by omega), hat] at hf
    simp -dsimp -implicitDefEqProofs (disch := omega) only [↓wpre, push_cast, seval, hh, hlt, even_ids, aidx_at _ hx]
    (first | with_reducible refine (cmpId_c _ _ _ _).x fun n' hn' => ?_ | with_reducible refine xfn_intro (cmpId_c _ _ _ _) ?_); try simp -dsimp -implicitDefEqProofs (disch := omega) only [↓wpre, push_cast, seval, true_and]
    refine anyN_intro fun n' hn' => ?_
    simp -dsimp -implicitDefEqProofs (disch := omega) only [↓wpre, push_cast, seval]
    (first | with_reducible refine cnd_ndec (fun hc => ?_) (fun hc => ?_) | with_reducible refine cnd_dec (fun hc => ?_) (fun hc => ?_) | with_reducible refine cnd_nb (fun hc => ?_) (fun hc => ?_) | with_reducible refine cnd_intro (fun hc => ?_) (fun hc => ?_)) <;> (first | (exfalso; omega) | (try simp -dsimp -implicitDefEqProofs (disch := omega) only [↓wpre, push_cast, seval, hc, hh]))
    · rw [if_pos hc] at hf
      refine againJ (m, (lo + hi) / 2 + 1, hi) (by dsimp only; omega) ⟨by dsimp only; omega, h2, by dsimp only; omega, hf, ?_⟩ ?_
      · exact Qt.mono (n := n) (by repeat (first | exact hq | refine Qt.hu ?_ (by omega))) (by omega)
      · simp -dsimp -implicitDefEqProofs (disch := omega) only [↓wpre, push_cast, seval, hh]
    · rw [if_neg hc] at hf
      refine againJ (m, lo, (lo + hi) / 2) (by dsimp only; omega) ⟨by dsimp only; omega, by dsimp only; omega, by dsimp only; omega, hf, ?_⟩ ?_
      · exact Qt.mono (n := n) (by repeat (first | exact hq | refine Qt.hu ?_ (by omega))) (by omega)
      · simp -dsimp -implicitDefEqProofs (disch := omega) only [↓wpre, push_cast, seval, hh]
  · have hres : lo = bsAt (fun p => cmpId p q) l := by
      rw [← hf]; cases m <;> simp only [bsGo]; rw [if_neg (by omega)]
    rw [← hres] at hle ⊢
    rw [bsHas, ← hres]
    by_cases hn : lo < l.length
    · have hx := List.getElem?_eq_getElem hn
      have hat : at0 (fun p => cmpId p q) l lo = cmpId (l[lo]) q := by simp only [at0, hx]
      have hlt2 : (lo : Int) < l.length := by omega
      simp -dsimp -implicitDefEqProofs (disch := omega) only [↓wpre, push_cast, seval, hh, hlt, hlt2, even_ids, aidx_at _ hx]
      (first | with_reducible refine (cmpId_c _ _ _ _).x fun n' hn' => ?_ | with_reducible refine xfn_intro (cmpId_c _ _ _ _) ?_); try simp -dsimp -implicitDefEqProofs (disch := omega) only [↓wpre, push_cast, seval, hat]
      refine anyN_intro fun n'' hn'' => ?_
      simp -dsimp -implicitDefEqProofs (disch := omega) only [↓wpre, push_cast, seval]
      refine ⟨?_, hq.1⟩
      simp [hat, hn]
    · have hlt2 : ¬ (lo : Int) < l.length := by omega
      simp -dsimp -implicitDefEqProofs (disch := omega) only [↓wpre, push_cast, seval, hh, hlt, hlt2]
      refine anyN_intro fun n'' hn'' => ?_
      simp -dsimp -implicitDefEqProofs (disch := omega) only [↓wpre, push_cast, seval]
      refine ⟨?_, hq.1⟩
      simp [hn]
end Go.Proofs.YtblhbafoncfhdaaGreatDoor

