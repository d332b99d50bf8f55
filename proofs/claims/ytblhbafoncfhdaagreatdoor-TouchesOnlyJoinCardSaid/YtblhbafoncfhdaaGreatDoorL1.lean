/- Contracts of functions of the program: each computes what its model says; the conditions stand at each. -/
import Derived.Test.YtblhbafoncfhdaaGreatDoorP1
import Derived.Test.YtblhbafoncfhdaaGreatDoorPe8
import Derived.Test.YtblhbafoncfhdaaGreatDoorMk5
import Derived.Test.YtblhbafoncfhdaaGreatDoorMk8
set_option linter.unusedSimpArgs false
set_option linter.unusedVariables false
set_option maxRecDepth 20000
set_option pp.deepTerms false
set_option pp.deepTerms.threshold 3
namespace Go.Proofs.YtblhbafoncfhdaaGreatDoor
open Go Go.Ab Go.Pm Go.Cm Go.El Go.Rm Go.Pp Go.Uf
variable (G : Nat → AV) (H : Nat → Option AObj)












theorem persV_eq (ps : List Per) : persV ps = .ls (decide (ps ≠ [])) (ps.map Per.c) := by cases ps <;> simp [persV]
theorem tog1_c (p : Per) (a b : Int) (hl : p.tch.length ≤ 1000000) : AFn Tryz.prog G 87 [.agg p.c, .pp [.int a], .pp [.int b]] H (.bool (decide (a ∈ p.tch) && decide (b ∈ p.tch))) := by
  refine AFn.start mix F87 (by simp) fun k hlow => ?_
  simp -dsimp -implicitDefEqProofs (disch := omega) only [↓wpre, push_cast, seval, c87]
  refine AFn.x (containsI_c G _ true p.tch a hl) fun n1 hn1 => ?_
  by_cases h1 : a ∈ p.tch
  · simp -dsimp -implicitDefEqProofs (disch := omega) only [↓wpre, push_cast, seval, h1, decide_true]
    refine AFn.x (containsI_c G _ true p.tch b hl) fun n2 hn2 => ?_
    simp -dsimp -implicitDefEqProofs (disch := omega) only [↓wpre, push_cast, seval, h1, decide_true, Bool.true_and]
  · simp -dsimp -implicitDefEqProofs (disch := omega) only [↓wpre, push_cast, seval, h1, decide_false, Bool.false_and]
def idxP (q : Per → Bool) : Nat → List Per → Int
  | _, [] => -1
  | i, y :: r => if q y then (i : Int) else idxP q (i + 1) r
theorem idxP_ge (q : Per → Bool) : ∀ (i : Nat) (l : List Per), decide (0 ≤ idxP q i l) = l.any q
  | i, [] => by simp [idxP]
  | i, y :: r => by
    rw [idxP, List.any_cons]
    by_cases h : q y = true
    · rw [if_pos h, h]; simp
    · rw [if_neg h, idxP_ge q (i + 1) r]; simp [h]
theorem indexP_c (nz : Bool) (l : List Per) (a b : Int) (hl : l.length ≤ 1000000) (ht : ∀ p ∈ l, p.tch.length ≤ 1000000) : AFn Tryz.prog G 28 [.ls nz (l.map Per.c), .fn (.func 87) [.pp [.int a], .pp [.int b]]] H (.int (idxP (fun x => decide (a ∈ x.tch) && decide (b ∈ x.tch)) 0 l)) := by
  generalize hq0 : (fun x : Per => decide (a ∈ x.tch) && decide (b ∈ x.tch)) = q
  have hqv : ∀ p, q p = (decide (a ∈ p.tch) && decide (b ∈ p.tch)) := fun p => by rw [← hq0]
  refine AFn.start mix F28 (by simp) fun k hlow => ?_
  simp -dsimp -implicitDefEqProofs (disch := omega) only [↓wpre, push_cast, seval, c28]
  refine xw_loopJ (σ := List Per × List Per) (fun t => [(0, .ls nz (l.map Per.c)), (1, .fn (.func 87) [.pp [.int a], .pp [.int b]]), (7, .int l.length), (8, .int t.1.length)]) (fun t H' n' => l = t.1 ++ t.2 ∧ idxP q t.1.length t.2 = idxP q 0 l ∧ Qt H H' k ∧ k ≤ n') (fun t => t.2.length) ([], l) ⟨rfl, rfl, .refl hlow, Nat.le_refl _⟩ (by simp -dsimp -implicitDefEqProofs (disch := omega) only [↓wpre, push_cast, seval]) ?_
  rintro ⟨d, r⟩ fr H' n1 ⟨hab, hi, hq, hn⟩ hh
  simp only [has_nil, has_cons, and_true] at hh hab hi
  have hll : l.length = d.length + r.length := by rw [hab]; simp
  cases r with
  | nil =>
    have hlt : ¬ (d.length : Int) < l.length := by rw [hll]; simp
    rw [← hi]
    simp -dsimp -implicitDefEqProofs (disch := omega) only [↓wpre, push_cast, seval, hh, hlt, idxP]
    first | (exact (Qt.mono (n := k) (by repeat (first | exact hq | refine Qt.hu ?_ (by omega))) (Nat.le_refl _)).1) | exact ⟨rfl, hq.1⟩
  | cons y r =>
    have hlt : (d.length : Int) < l.length := by rw [hll]; simp only [List.length_cons]; omega
    have hx : l[d.length]? = some y := by rw [hab]; simp
    have hi2 : idxP q d.length (y :: r) = if q y then (d.length : Int) else idxP q (d.length + 1) r := rfl
    rw [hi2] at hi
    simp -dsimp -implicitDefEqProofs (disch := omega) only [↓wpre, push_cast, seval, hh, hlt, even_per, aidx_at rfl hx]
    have h87 := tog1_c G H' y a b (ht y (by rw [hab]; simp))
    rw [← hqv y] at h87
    refine AFn.x h87 fun n2 hn2 => ?_
    by_cases hc : q y = true
    · rw [if_pos hc] at hi
      simp -dsimp -implicitDefEqProofs (disch := omega) only [↓wpre, push_cast, seval, hh, hc]
      first | exact ⟨by rw [hi], hq.1⟩ | (rw [← hi]; exact ⟨rfl, hq.1⟩)
    · have hc' : q y = false := by simpa using hc
      rw [if_neg hc] at hi
      simp -dsimp -implicitDefEqProofs (disch := omega) only [↓wpre, push_cast, seval, hh, hc']
      refine againJ (d ++ [y], r) (Nat.lt_succ_self _) ⟨by rw [hab]; simp, by rw [List.length_append]; exact hi, by exact Qt.mono (n := k) (by repeat (first | exact hq | refine Qt.hu ?_ (by omega))) (by omega), by omega⟩ (by simp -dsimp -implicitDefEqProofs (disch := omega) only [↓wpre, push_cast, seval, hh]; all_goals (try simp only [AV.lit.injEq, Value.int.injEq, Value.bool.injEq, true_and, and_true]); all_goals (try (repeat' apply And.intro)); all_goals (first | rfl | omega | simp_all | skip))
theorem together_c (ps : List Per) (a b : Int) (hl : ps.length ≤ 1000000) (ht : ∀ p ∈ ps, p.tch.length ≤ 1000000) : AFn Tryz.prog G 24 [persV ps, .int a, .int b] H (.bool (tog ps a b)) := by
  rw [persV_eq]
  have h31 : ∀ H, AFn Tryz.prog G 31 [.ls (decide (ps ≠ [])) (ps.map Per.c), .fn (.func 87) [.pp [.int a], .pp [.int b]]] H (.bool (tog ps a b)) := fun H => by
    refine AFn.start mix F31 (by simp) fun k hlow => ?_
    simp -dsimp -implicitDefEqProofs (disch := omega) only [↓wpre, push_cast, seval, c31]
    refine AFn.x (indexP_c G _ _ ps a b hl ht) fun n1 hn1 => ?_
    simp -dsimp -implicitDefEqProofs (disch := omega) only [↓wpre, push_cast, seval, idxP_ge]
    try rfl
  refine AFn.start mix F24 (by simp) fun k hlow => ?_
  simp -dsimp -implicitDefEqProofs (disch := omega) only [↓wpre, push_cast, seval, c24]
  refine AFn.x (h31 _) fun n1 hn1 => ?_
  simp -dsimp -implicitDefEqProofs (disch := omega) only [↓wpre, push_cast, seval]
end Go.Proofs.YtblhbafoncfhdaaGreatDoor

set_option linter.unusedSimpArgs false
set_option linter.unusedVariables false
set_option maxRecDepth 20000
set_option pp.deepTerms false
set_option pp.deepTerms.threshold 3
namespace Go.Proofs.YtblhbafoncfhdaaGreatDoor
open Go Go.Ab Go.Pm Go.Cm Go.El Go.Rm Go.Pp Go.Uf Go.Uf
variable (G : Nat → AV) (H : Nat → Option AObj)












theorem touchesOk_take {l : List Tch} (h : TouchesOk l) (k : Nat) : TouchesOk (l.take k) :=
  ⟨by rw [List.length_take]; have := h.few; omega, fun t ht => h.each t (List.mem_of_mem_take ht), List.Pairwise.sublist (List.take_sublist _ _) h.rise⟩
/-- How many touches have an id. -/
def cnt (x : Idn) : List Tch → Nat
  | [] => 0
  | t :: r => cnt x r + if x ∈ t.ids then 1 else 0
theorem occFrom_cnt (x : Idn) : ∀ (l : List Tch) (i : Nat), (occFrom i l x).length = cnt x l
  | [], i => rfl
  | t :: r, i => by
    unfold occFrom cnt
    rw [List.length_append, occFrom_cnt x r (i + 1)]
    split <;> simp <;> omega
theorem occ_cnt (l : List Tch) (x : Idn) : (occ l x).length = cnt x l := occFrom_cnt x l 0
theorem cnt_snoc (x : Idn) (t : Tch) : ∀ l : List Tch, cnt x (l ++ [t]) = cnt x l + if x ∈ t.ids then 1 else 0
  | [] => by simp [cnt]
  | s :: l => by
    show cnt x (l ++ [t]) + _ = cnt x l + _ + _
    rw [cnt_snoc x t l]; omega
theorem cnt_le (x : Idn) : ∀ l : List Tch, cnt x l ≤ l.length
  | [] => Nat.le_refl _
  | t :: r => by have := cnt_le x r; simp only [cnt, List.length_cons]; split <;> omega
set_option maxHeartbeats 6400000 in
theorem touchesOnlyJoin_c (hU : GU G) (hP : G 1 = .pp poolC) (hrr : ∀ (H : Nat → Option AObj) (nz : Bool) (l : List Int) (a : Int) (i : Nat), H i = some (strm (LL nz l) a) → 0 ≤ a ∧ a ≤ 1099511610000 → SC G H 19 [.op i 0 0] i (LL nz l) a 2000 fun r => ∃ q : Rls, r = .agg q.c ∧ RulesOk q) (nz : Bool) (l : List Int) (n : Nat) : ACalls Tryz.prog G 4 [LL nz l] H n fun r H' n' => r = .bool true := by
  obtain ⟨m4, cs4, hG4⟩ := hU.ok.maxLen
  refine ACalls.start mix F4 (by simp) fun hlow => ?_
  simp -dsimp -implicitDefEqProofs (disch := omega) only [↓wpre, push_cast, seval, c4]
  refine (hrr _ nz l 0 n hu_same (by omega)).x fun r a1 n1 hn1 h1 h2 h3 => ?_
  obtain ⟨q, rfl, hq⟩ := h3
  simp -dsimp -implicitDefEqProofs (disch := omega) only [↓wpre, push_cast, seval, hu_hu]
  refine (range_c G _ nz l a1 1 10 n hu_same (by omega) (by omega)).x fun r a2 n2 hn2 k1 k2 k3 => ?_
  obtain ⟨many, rfl, hmany⟩ := k3
  simp -dsimp -implicitDefEqProofs (disch := omega) only [↓wpre, push_cast, seval, hu_hu]
  refine (rightTouches_c G _ hU hP nz l a2 many n hu_same (by omega) hmany).x fun r a3 n3 hn3 k1' k2' k3 => ?_
  obtain ⟨bt, ts, rfl, hts, htl⟩ := k3
  have hrows : ∀ k, (ts.map Tch.c).take k = (ts.take k).map Tch.c := fun k => List.map_take.symm
  by_cases h0 : ts.length = 0
  · have hnil : ts = [] := List.length_eq_zero_iff.1 h0
    subst hnil
    have e1 : max (0 : Int) (-1) = 0 := rfl
    have e2 : max (0 : Int) (0 - 1) = 0 := rfl
    have c0 : (0 : Int) = 0 := rfl
    simp -dsimp -implicitDefEqProofs (disch := omega) only [↓wpre, push_cast, seval, hu_hu, List.length_nil, Int.natCast_zero, e1, e2, even_tch, Int.toNat_zero, hrows]
    refine AFn.x (allPersons_c G _ hG4 hU q hq bt [] hts) fun n4 hn4 => ?_
    simp -dsimp -implicitDefEqProofs (disch := omega) only [↓wpre, push_cast, seval]
    refine AFn.x (allPersons_c G _ hG4 hU q hq bt [] hts) fun n5 hn5 => ?_
    simp -dsimp -implicitDefEqProofs (disch := omega) only [↓wpre, push_cast, seval, List.length_nil, Int.natCast_zero, c0]
    refine AFn.x (people_c G _ hU) fun n6 hn6 => ?_
    simp -dsimp -implicitDefEqProofs (disch := omega) only [↓wpre, push_cast, seval]
    try exact fin_intro (Ab.Sub.refl _) rfl
  · obtain ⟨m, hm⟩ : ∃ m, ts.length = m + 1 := ⟨ts.length - 1, by omega⟩
    have e1 : max (0 : Int) ((ts.length : Int) - 1) = (m : Int) := by omega
    have hm0 : (0 : Int) ≤ m := by omega
    have hml : m ≤ ts.length := by omega
    simp -dsimp -implicitDefEqProofs (disch := omega) only [↓wpre, push_cast, seval, hu_hu, e1, even_tch, hrows, hm0, hml, Int.toNat_natCast]
    obtain ⟨t, ht⟩ : ∃ t, ts[m]? = some t := ⟨_, List.getElem?_eq_getElem (by omega)⟩
    have hdt : ts = ts.take m ++ [t] := by
      have h9 : ts.take (m + 1) = ts := List.take_of_length_le (by omega)
      rw [List.take_add_one, ht] at h9
      exact h9.symm
    have hdok := touchesOk_take hts m
    generalize hdd : ts.take m = d at hdt hdok
    have hdl : d.length = m := by rw [← hdd, List.length_take]; omega
    refine AFn.x (allPersons_c G _ hG4 hU q hq bt d hdok) fun n4 hn4 => ?_
    simp -dsimp -implicitDefEqProofs (disch := omega) only [↓wpre, push_cast, seval]
    refine AFn.x (allPersons_c G _ hG4 hU q hq bt ts hts) fun n5 hn5 => ?_
    have hto := hts.each t (List.mem_of_getElem? ht)
    have htf := hto.few
    have hl0 : ¬ (ts.length : Int) = 0 := by omega
    have hlm : (ts.length : Int) - 1 = (m : Int) := by omega
    have pl1 : (personsOf q d).length ≤ 1000000 := by have := pers_len q d; omega
    have pl2 : (personsOf q ts).length ≤ 1000000 := by have := pers_len q ts; omega
    have pt1 : ∀ p ∈ personsOf q d, p.tch.length ≤ 1000000 := fun p hp => by have := tch_len q d p hp; omega
    have pt2 : ∀ p ∈ personsOf q ts, p.tch.length ≤ 1000000 := fun p hp => by have := tch_len q ts p hp; omega
    have hjoin : (∀ x ∈ t.ids, (cnt x ts : Int) ≤ q.most) → ∀ a ∈ d, ∀ b ∈ d, tog (personsOf q d) a.no b.no = true → tog (personsOf q ts) a.no b.no = true := by
      intro hm2 a ha b hb htog
      obtain ⟨i1, hi1⟩ := List.mem_iff_getElem?.1 ha
      obtain ⟨i2, hi2⟩ := List.mem_iff_getElem?.1 hb
      have hr : Rise (d ++ [t]) := by rw [← hdt]; exact hts.rise
      have h9 := only_join' (r := q) hr (fun x hx => by rw [← hdt, occ_cnt]; exact hm2 x hx) (List.getElem?_eq_some_iff.1 hi1).1 (List.getElem?_eq_some_iff.1 hi2).1
      rw [tAt_get hi1, tAt_get hi2, ← hdt] at h9
      exact h9 htog
    generalize personsOf q d = PP at *
    generalize personsOf q ts = QQ at *
    simp -dsimp -implicitDefEqProofs (disch := omega) only [↓wpre, push_cast, seval, hl0, hlm, even_tch, aidx_at rfl ht]
    refine xw_loopJ (σ := List Idn × List Idn) (fun u => [(4, .op n3 0 0), (5, .ls bt (ts.map Tch.c)), (6, .ls bt (d.map Tch.c)), (7, persV PP), (9, persV QQ), (63, .ls t.nzi (t.ids.map Idn.c)), (64, .int t.ids.length), (65, .int u.1.length)]) (fun u H' n' => t.ids = u.1 ++ u.2 ∧ (∀ x ∈ u.1, (cnt x ts : Int) ≤ q.most) ∧ H' n3 = some ⟨44, 4, [q.c]⟩ ∧ n3 < n') (fun u => u.2.length) ([], t.ids) ⟨rfl, fun x hx => (by cases hx), hu_same, by omega⟩ (by simp -dsimp -implicitDefEqProofs (disch := omega) only [↓wpre, push_cast, seval]; try rfl) ?_
    rintro ⟨e, s⟩ fr H' n6 ⟨hab, hcm, hq3, hn6⟩ hh
    simp only [has_nil, has_cons, and_true] at hh hab hcm hq3
    have hll : t.ids.length = e.length + s.length := by rw [hab]; simp
    cases s with
    | cons x s =>
      have hlt : (e.length : Int) < t.ids.length := by rw [hll]; simp only [List.length_cons]; omega
      have hx : t.ids[e.length]? = some x := by rw [hab]; simp
      simp -dsimp -implicitDefEqProofs (disch := omega) only [↓wpre, push_cast, seval, hh, hlt, even_ids, aidx_at rfl hx]
      refine xw_loopJ (σ := List Tch × List Tch) (fun u => [(4, .op n3 0 0), (5, .ls bt (ts.map Tch.c)), (6, .ls bt (d.map Tch.c)), (7, persV PP), (9, persV QQ), (12, .op n6 0 0), (13, .int (cnt x u.1)), (63, .ls t.nzi (t.ids.map Idn.c)), (64, .int t.ids.length), (65, .int e.length), (69, .ls bt (ts.map Tch.c)), (70, .int ts.length), (71, .int u.1.length)]) (fun u H' n' => ts = u.1 ++ u.2 ∧ H' n3 = some ⟨44, 4, [q.c]⟩ ∧ H' n6 = some ⟨55, 2, [x.c]⟩ ∧ n6 < n') (fun u => u.2.length) ([], ts) ⟨rfl, ?_, hu_same, by omega⟩ (by simp -dsimp -implicitDefEqProofs (disch := omega) only [↓wpre, push_cast, seval, hh]; try rfl) ?_
      · simp -dsimp -implicitDefEqProofs (disch := omega) only [↓wpre, push_cast, seval, hq3]
      clear hq3 hh
      rintro ⟨u, v⟩ fr H2 n7 ⟨huv, hq3, hx6, hn7⟩ hh
      simp only [has_nil, has_cons, and_true] at hh huv hq3 hx6
      have hll2 : ts.length = u.length + v.length := by rw [huv]; simp
      have hcu := cnt_le x u
      cases v with
      | cons y v =>
        have hlt2 : (u.length : Int) < ts.length := by rw [hll2]; simp only [List.length_cons]; omega
        have hy : ts[u.length]? = some y := by rw [huv]; simp
        have hyo := hts.each y (List.mem_of_getElem? hy)
        have hyf := hyo.few
        have hsn := cnt_snoc x y u
        simp -dsimp -implicitDefEqProofs (disch := omega) only [↓wpre, push_cast, seval, hh, hlt2, even_tch, aidx_at rfl hy, hx6]
        refine AFn.x (containsId_c G _ y.nzi y.ids x (by omega)) fun n8 hn8 => ?_
        by_cases hc : x ∈ y.ids
        · rw [if_pos hc] at hsn
          simp -dsimp -implicitDefEqProofs (disch := omega) only [↓wpre, push_cast, seval, hh, hc, decide_true]
          refine againJ (u ++ [y], v) (Nat.lt_succ_self _) ⟨by rw [huv]; simp, by simp -dsimp -implicitDefEqProofs (disch := omega) only [↓wpre, push_cast, seval, hq3], by simp -dsimp -implicitDefEqProofs (disch := omega) only [↓wpre, push_cast, seval, hx6], by omega⟩ (by simp -dsimp -implicitDefEqProofs (disch := omega) only [↓wpre, push_cast, seval, hh, hsn]; all_goals (try simp only [AV.lit.injEq, Value.int.injEq, Value.bool.injEq, true_and, and_true]); all_goals (try (repeat' apply And.intro)); all_goals (first | rfl | omega | simp_all | skip))
        · rw [if_neg hc, Nat.add_zero] at hsn
          simp -dsimp -implicitDefEqProofs (disch := omega) only [↓wpre, push_cast, seval, hh, hc, decide_false]
          refine againJ (u ++ [y], v) (Nat.lt_succ_self _) ⟨by rw [huv]; simp, by simp -dsimp -implicitDefEqProofs (disch := omega) only [↓wpre, push_cast, seval, hq3], by simp -dsimp -implicitDefEqProofs (disch := omega) only [↓wpre, push_cast, seval, hx6], by omega⟩ (by simp -dsimp -implicitDefEqProofs (disch := omega) only [↓wpre, push_cast, seval, hh, hsn]; all_goals (try simp only [AV.lit.injEq, Value.int.injEq, Value.bool.injEq, true_and, and_true]); all_goals (try (repeat' apply And.intro)); all_goals (first | rfl | omega | simp_all | skip))
      | nil =>
        have hlt2 : ¬ (u.length : Int) < ts.length := by rw [hll2]; simp
        have hut : u = ts := by rw [huv]; simp
        rw [hut] at hh
        by_cases hc : q.most < (cnt x ts : Int)
        · rw [hut] at hlt2
          simp -dsimp -implicitDefEqProofs (disch := omega) only [↓wpre, push_cast, seval, hh, hlt2, hq3, hc]
          refine AFn.x (people_c G _ hU) fun n8 hn8 => ?_
          simp -dsimp -implicitDefEqProofs (disch := omega) only [↓wpre, push_cast, seval]
          try exact fin_intro (Ab.Sub.refl _) rfl
        · rw [hut] at hlt2
          simp -dsimp -implicitDefEqProofs (disch := omega) only [↓wpre, push_cast, seval, hh, hlt2, hq3, hc]
          refine againJ (e ++ [x], s) (Nat.lt_succ_self _) ⟨by rw [hab]; simp, ?_, hq3, by omega⟩ (by simp -dsimp -implicitDefEqProofs (disch := omega) only [↓wpre, push_cast, seval, hh]; all_goals (try simp only [AV.lit.injEq, Value.int.injEq, Value.bool.injEq, true_and, and_true]); all_goals (try (repeat' apply And.intro)); all_goals (first | rfl | omega | simp_all | skip))
          intro z hz
          rcases List.mem_append.1 hz with hz | hz
          · exact hcm z hz
          · simp only [List.mem_singleton] at hz
            subst hz; omega
    | nil =>
      have hlt : ¬ (e.length : Int) < t.ids.length := by rw [hll]; simp
      have het : e = t.ids := by rw [hab]; simp
      have hj := hjoin (by rw [← het]; exact hcm)
      simp -dsimp -implicitDefEqProofs (disch := omega) only [↓wpre, push_cast, seval, hh, hlt]
      refine xw_loopJ (σ := List Tch × List Tch) (fun u => [(6, .ls bt (d.map Tch.c)), (7, persV PP), (9, persV QQ), (88, .ls bt (d.map Tch.c)), (89, .int d.length), (90, .int u.1.length)]) (fun u H' n' => d = u.1 ++ u.2) (fun u => u.2.length) ([], d) rfl (by simp -dsimp -implicitDefEqProofs (disch := omega) only [↓wpre, push_cast, seval, hh]; try rfl) ?_
      clear hh
      rintro ⟨u, v⟩ fr H2 n7 huv hh
      simp only [has_nil, has_cons, and_true] at hh huv
      have hll2 : d.length = u.length + v.length := by rw [huv]; simp
      cases v with
      | nil =>
        have hlt2 : ¬ (u.length : Int) < d.length := by rw [hll2]; simp
        simp -dsimp -implicitDefEqProofs (disch := omega) only [↓wpre, push_cast, seval, hh, hlt2]
        refine AFn.x (people_c G _ hU) fun n8 hn8 => ?_
        simp -dsimp -implicitDefEqProofs (disch := omega) only [↓wpre, push_cast, seval]
        try exact fin_intro (Ab.Sub.refl _) rfl
      | cons y v =>
        have hlt2 : (u.length : Int) < d.length := by rw [hll2]; simp only [List.length_cons]; omega
        have hy : d[u.length]? = some y := by rw [huv]; simp
        have hym := List.mem_of_getElem? hy
        simp -dsimp -implicitDefEqProofs (disch := omega) only [↓wpre, push_cast, seval, hh, hlt2, even_tch, aidx_at rfl hy]
        refine xw_loopJ (σ := List Tch × List Tch) (fun w => [(6, .ls bt (d.map Tch.c)), (7, persV PP), (9, persV QQ), (17, .op n7 0 0), (88, .ls bt (d.map Tch.c)), (89, .int d.length), (90, .int u.length), (94, .ls bt (d.map Tch.c)), (95, .int d.length), (96, .int w.1.length)]) (fun w H' n' => d = w.1 ++ w.2 ∧ H' n7 = some ⟨53, 5, [y.c]⟩ ∧ n7 < n') (fun w => w.2.length) ([], d) ⟨rfl, hu_same, by omega⟩ (by simp -dsimp -implicitDefEqProofs (disch := omega) only [↓wpre, push_cast, seval, hh]; try rfl) ?_
        clear hh
        rintro ⟨w, z⟩ fr H3 n8 ⟨hwz, hy7, hn8⟩ hh
        simp only [has_nil, has_cons, and_true] at hh hwz hy7
        have hll3 : d.length = w.length + z.length := by rw [hwz]; simp
        cases z with
        | nil =>
          have hlt3 : ¬ (w.length : Int) < d.length := by rw [hll3]; simp
          simp -dsimp -implicitDefEqProofs (disch := omega) only [↓wpre, push_cast, seval, hh, hlt3]
          refine againJ (u ++ [y], v) (Nat.lt_succ_self _) (by rw [huv]; simp) (by simp -dsimp -implicitDefEqProofs (disch := omega) only [↓wpre, push_cast, seval, hh]; all_goals (try simp only [AV.lit.injEq, Value.int.injEq, Value.bool.injEq, true_and, and_true]); all_goals (try (repeat' apply And.intro)); all_goals (first | rfl | omega | simp_all | skip))
        | cons b z =>
          have hlt3 : (w.length : Int) < d.length := by rw [hll3]; simp only [List.length_cons]; omega
          have hb : d[w.length]? = some b := by rw [hwz]; simp
          have hbm := List.mem_of_getElem? hb
          simp -dsimp -implicitDefEqProofs (disch := omega) only [↓wpre, push_cast, seval, hh, hlt3, even_tch, aidx_at rfl hb, hy7]
          refine AFn.x (together_c G _ PP y.no b.no pl1 pt1) fun n9 hn9 => ?_
          by_cases hc : tog PP y.no b.no = true
          · have hc2 := hj y hym b hbm hc
            simp -dsimp -implicitDefEqProofs (disch := omega) only [↓wpre, push_cast, seval, hh, hc, hy7]
            refine AFn.x (together_c G _ QQ y.no b.no pl2 pt2) fun n10 hn10 => ?_
            simp -dsimp -implicitDefEqProofs (disch := omega) only [↓wpre, push_cast, seval, hh, hc2]
            refine againJ (w ++ [b], z) (Nat.lt_succ_self _) ⟨by rw [hwz]; simp, by simp -dsimp -implicitDefEqProofs (disch := omega) only [↓wpre, push_cast, seval, hy7], by omega⟩ (by simp -dsimp -implicitDefEqProofs (disch := omega) only [↓wpre, push_cast, seval, hh]; all_goals (try simp only [AV.lit.injEq, Value.int.injEq, Value.bool.injEq, true_and, and_true]); all_goals (try (repeat' apply And.intro)); all_goals (first | rfl | omega | simp_all | skip))
          · have hc' : tog PP y.no b.no = false := by simpa using hc
            simp -dsimp -implicitDefEqProofs (disch := omega) only [↓wpre, push_cast, seval, hh, hc']
            refine againJ (w ++ [b], z) (Nat.lt_succ_self _) ⟨by rw [hwz]; simp, by simp -dsimp -implicitDefEqProofs (disch := omega) only [↓wpre, push_cast, seval, hy7], by omega⟩ (by simp -dsimp -implicitDefEqProofs (disch := omega) only [↓wpre, push_cast, seval, hh]; all_goals (try simp only [AV.lit.injEq, Value.int.injEq, Value.bool.injEq, true_and, and_true]); all_goals (try (repeat' apply And.intro)); all_goals (first | rfl | omega | simp_all | skip))
end Go.Proofs.YtblhbafoncfhdaaGreatDoor

set_option linter.unusedSimpArgs false
set_option linter.unusedVariables false
set_option maxRecDepth 20000
set_option pp.deepTerms false
set_option pp.deepTerms.threshold 3
namespace Go.Proofs.YtblhbafoncfhdaaGreatDoor
open Go Go.Ab Go.Pm Go.Cm Go.El Go.Rm Go.Pp Go.Uf
variable (G : Nat → AV) (H : Nat → Option AObj)












theorem touchesOnly_c (hU : GU G) (hP : G 1 = .pp poolC) (nz : Bool) (l : List Int) (n : Nat) : ACalls Tryz.prog G 4 [LL nz l] H n fun r H' n' => r = .bool true :=
  touchesOnlyJoin_c G H hU hP (fun H nz l a i hi ha => rightRules_c G H hU hP nz l a i hi ha) nz l n
end Go.Proofs.YtblhbafoncfhdaaGreatDoor

