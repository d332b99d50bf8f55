/- Contracts of functions of the program: each computes what its model says; the conditions stand at each. -/
import Derived.Test.YtdbfkibbhmbaoaaGreatDoorTe32
set_option linter.unusedSimpArgs false
set_option linter.unusedVariables false
set_option maxRecDepth 20000
set_option pp.deepTerms false
set_option pp.deepTerms.threshold 4
namespace Go.Proofs.YtdbfkibbhmbaoaaGreatDoor
open Go Go.Ab Go.Pm Go.Cm Go.El Go.Em Go.Rm
variable (G : Nat → AV) (H : Nat → Option AObj)
def utc : T := ⟨#[117, 116, 99]⟩
abbrev utcZ : List AV := [.str utc, .ls true [[.int 0, .int 0]]]
theorem even_utc : Even 2 [[AV.int 0, AV.int 0]] = True := eq_true fun r hr => by simp at hr; subst hr; exact ⟨rfl, rfl⟩
theorem utc_key : isKey utc = true := by decide +kernel
theorem aidx_one {sz : Nat} {nz : Bool} {r : List AV} : aidx H sz (.ls nz [r]) (.int 0) = some (.pp r) := rfl
theorem checkZone_c : AFn Tryz.prog G 54 [.agg utcZ] H (.int 0) := by
  refine AFn.start mix F54 (by simp) fun k hlow => ?_
  simp -dsimp -implicitDefEqProofs (disch := omega) only [↓wpre, push_cast, reduceCtorEq, ↓reduceIte, Nat.reduceEqDiff, Nat.reduceLeDiff, Nat.reduceAdd, Nat.reduceLT, Int.reduceEq, Int.reduceLT, Int.reduceLE, Int.reduceNeg, Int.reduceAdd, c54]
  (first | with_reducible refine (isKey_c _ _ utc (by decide)).x fun n' hn' => ?_ | with_reducible refine xfn_intro (isKey_c _ _ utc (by decide)) ?_); try simp -dsimp -implicitDefEqProofs (disch := omega) only [↓wpre, push_cast, reduceCtorEq, ↓reduceIte, Nat.reduceEqDiff, Nat.reduceLeDiff, Nat.reduceAdd, Nat.reduceLT, Int.reduceEq, Int.reduceLT, Int.reduceLE, Int.reduceNeg, Int.reduceAdd, utc_key]
  refine xw_loopJ (σ := Nat) (fun t => [(1, .pp utcZ), (21, .ls true [[.int 0, .int 0]]), (22, .int 1), (23, .int t)]) (fun t H' n' => t ≤ 1 ∧ Qt H H' k ∧ k ≤ n') (fun t => 1 - t) 0 ⟨by omega, .refl hlow, by omega⟩ (by simp -dsimp -implicitDefEqProofs (disch := omega) only [↓wpre, push_cast, reduceCtorEq, ↓reduceIte, Nat.reduceEqDiff, Nat.reduceLeDiff, Nat.reduceAdd, Nat.reduceLT, Int.reduceEq, Int.reduceLT, Int.reduceLE, Int.reduceNeg, Int.reduceAdd]) ?_
  rintro t fr H' n1 ⟨ht, hq, hn⟩ hh
  simp only [has_nil, has_cons, and_true] at hh
  have : t = 0 ∨ t = 1 := by omega
  rcases this with rfl | rfl
  · have e0 : ((0 : Nat) : Int) = 0 := rfl
    have e1 : within 0 0 4321439 = true := rfl
    have e2 : within 0 (-720) 840 = true := rfl
    simp -dsimp -implicitDefEqProofs (disch := omega) only [↓wpre, push_cast, reduceCtorEq, ↓reduceIte, Nat.reduceEqDiff, Nat.reduceLeDiff, Nat.reduceAdd, Nat.reduceLT, Int.reduceEq, Int.reduceLT, Int.reduceLE, Int.reduceNeg, Int.reduceAdd, hh, e0, even_utc, aidx_one]
    (first | with_reducible refine (ewithin_c _ _ _ _ _).x fun n' hn' => ?_ | with_reducible refine xfn_intro (ewithin_c _ _ _ _ _) ?_); try simp -dsimp -implicitDefEqProofs (disch := omega) only [↓wpre, push_cast, reduceCtorEq, ↓reduceIte, Nat.reduceEqDiff, Nat.reduceLeDiff, Nat.reduceAdd, Nat.reduceLT, Int.reduceEq, Int.reduceLT, Int.reduceLE, Int.reduceNeg, Int.reduceAdd, hh, e1]
    (first | with_reducible refine (ewithin_c _ _ _ _ _).x fun n' hn' => ?_ | with_reducible refine xfn_intro (ewithin_c _ _ _ _ _) ?_); try simp -dsimp -implicitDefEqProofs (disch := omega) only [↓wpre, push_cast, reduceCtorEq, ↓reduceIte, Nat.reduceEqDiff, Nat.reduceLeDiff, Nat.reduceAdd, Nat.reduceLT, Int.reduceEq, Int.reduceLT, Int.reduceLE, Int.reduceNeg, Int.reduceAdd, hh, e2]
    refine anyN_intro fun n2 hn2 => ?_
    simp -dsimp -implicitDefEqProofs (disch := omega) only [↓wpre, push_cast, reduceCtorEq, ↓reduceIte, Nat.reduceEqDiff, Nat.reduceLeDiff, Nat.reduceAdd, Nat.reduceLT, Int.reduceEq, Int.reduceLT, Int.reduceLE, Int.reduceNeg, Int.reduceAdd, hh]
    refine againJ 1 (by omega) ⟨by omega, by exact Qt.mono (n := k) (by repeat (first | exact hq | refine Qt.hu ?_ (by omega))) (by omega), by omega⟩ (by simp -dsimp -implicitDefEqProofs (disch := omega) only [↓wpre, push_cast, reduceCtorEq, ↓reduceIte, Nat.reduceEqDiff, Nat.reduceLeDiff, Nat.reduceAdd, Nat.reduceLT, Int.reduceEq, Int.reduceLT, Int.reduceLE, Int.reduceNeg, Int.reduceAdd, hh]; try rfl)
  · have e1 : ¬ (((1 : Nat) : Int) < 1) := by omega
    simp -dsimp -implicitDefEqProofs (disch := omega) only [↓wpre, push_cast, reduceCtorEq, ↓reduceIte, Nat.reduceEqDiff, Nat.reduceLeDiff, Nat.reduceAdd, Nat.reduceLT, Int.reduceEq, Int.reduceLT, Int.reduceLE, Int.reduceNeg, Int.reduceAdd, hh, e1]
    exact hq.1
theorem localAt1_c (at' : Int) (h : 0 ≤ at') : AFn Tryz.prog G 170 [.int 0, .pp utcZ, .pp [.int at']] H (.bool false) := by
  refine AFn.start mix F170 (by simp) fun k hlow => ?_
  have h0 : ¬ at' < 0 := by omega
  simp -dsimp -implicitDefEqProofs (disch := omega) only [↓wpre, push_cast, reduceCtorEq, ↓reduceIte, Nat.reduceEqDiff, Nat.reduceLeDiff, Nat.reduceAdd, Nat.reduceLT, Int.reduceEq, Int.reduceLT, Int.reduceLE, Int.reduceNeg, Int.reduceAdd, c170, even_utc, aidx_one, h0]
  refine anyN_intro fun n2 hn2 => ?_
  simp -dsimp -implicitDefEqProofs (disch := omega) only [↓wpre, push_cast, reduceCtorEq, ↓reduceIte, Nat.reduceEqDiff, Nat.reduceLeDiff, Nat.reduceAdd, Nat.reduceLT, Int.reduceEq, Int.reduceLT, Int.reduceLE, Int.reduceNeg, Int.reduceAdd, true_and]
theorem search_c (at' : Int) (h : 0 ≤ at') : AFn Tryz.prog G 169 [.int 1, .fn (.func 170) [.pp utcZ, .pp [.int at']]] H (.int 1) := by
  refine AFn.start mix F169 (by simp) fun k hlow => ?_
  simp -dsimp -implicitDefEqProofs (disch := omega) only [↓wpre, push_cast, reduceCtorEq, ↓reduceIte, Nat.reduceEqDiff, Nat.reduceLeDiff, Nat.reduceAdd, Nat.reduceLT, Int.reduceEq, Int.reduceLT, Int.reduceLE, Int.reduceNeg, Int.reduceAdd, c169]
  refine xw_loopJ (σ := Nat) (fun t => [(1, .fn (.func 170) [.pp utcZ, .pp [.int at']]), (5, .int t), (6, .int 1)]) (fun t H' n' => t ≤ 1 ∧ Qt H H' k ∧ k ≤ n') (fun t => 1 - t) 0 ⟨by omega, .refl hlow, by omega⟩ (by simp -dsimp -implicitDefEqProofs (disch := omega) only [↓wpre, push_cast, reduceCtorEq, ↓reduceIte, Nat.reduceEqDiff, Nat.reduceLeDiff, Nat.reduceAdd, Nat.reduceLT, Int.reduceEq, Int.reduceLT, Int.reduceLE, Int.reduceNeg, Int.reduceAdd]) ?_
  rintro t fr H' n1 ⟨ht, hq, hn⟩ hh
  simp only [has_nil, has_cons, and_true] at hh
  have : t = 0 ∨ t = 1 := by omega
  rcases this with rfl | rfl
  · have e0 : ((0 : Nat) : Int) = 0 := rfl
    have e1 : (1 : Int) / 2 = 0 := rfl
    simp -dsimp -implicitDefEqProofs (disch := omega) only [↓wpre, push_cast, reduceCtorEq, ↓reduceIte, Nat.reduceEqDiff, Nat.reduceLeDiff, Nat.reduceAdd, Nat.reduceLT, Int.reduceEq, Int.reduceLT, Int.reduceLE, Int.reduceNeg, Int.reduceAdd, hh, e0, e1]
    (first | with_reducible refine (localAt1_c _ _ at' h).x fun n' hn' => ?_ | with_reducible refine xfn_intro (localAt1_c _ _ at' h) ?_); try simp -dsimp -implicitDefEqProofs (disch := omega) only [↓wpre, push_cast, reduceCtorEq, ↓reduceIte, Nat.reduceEqDiff, Nat.reduceLeDiff, Nat.reduceAdd, Nat.reduceLT, Int.reduceEq, Int.reduceLT, Int.reduceLE, Int.reduceNeg, Int.reduceAdd, hh]
    refine againJ 1 (by omega) ⟨by omega, by exact Qt.mono (n := k) (by repeat (first | exact hq | refine Qt.hu ?_ (by omega))) (by omega), by omega⟩ (by simp -dsimp -implicitDefEqProofs (disch := omega) only [↓wpre, push_cast, reduceCtorEq, ↓reduceIte, Nat.reduceEqDiff, Nat.reduceLeDiff, Nat.reduceAdd, Nat.reduceLT, Int.reduceEq, Int.reduceLT, Int.reduceLE, Int.reduceNeg, Int.reduceAdd, hh]; try rfl)
  · have e1 : ¬ (((1 : Nat) : Int) < 1) := by omega
    simp -dsimp -implicitDefEqProofs (disch := omega) only [↓wpre, push_cast, reduceCtorEq, ↓reduceIte, Nat.reduceEqDiff, Nat.reduceLeDiff, Nat.reduceAdd, Nat.reduceLT, Int.reduceEq, Int.reduceLT, Int.reduceLE, Int.reduceNeg, Int.reduceAdd, hh, e1]
    exact hq.1
theorem localAt_c (at' : Int) (h : 0 ≤ at' ∧ at' ≤ 4321439) : AFn Tryz.prog G 115 [.agg utcZ, .int at'] H (.int at') := by
  refine AFn.start mix F115 (by simp) fun k hlow => ?_
  simp -dsimp -implicitDefEqProofs (disch := omega) only [↓wpre, push_cast, reduceCtorEq, ↓reduceIte, Nat.reduceEqDiff, Nat.reduceLeDiff, Nat.reduceAdd, Nat.reduceLT, Int.reduceEq, Int.reduceLT, Int.reduceLE, Int.reduceNeg, Int.reduceAdd, c115]
  (first | with_reducible refine (search_c _ _ at' h.1).x fun n' hn' => ?_ | with_reducible refine xfn_intro (search_c _ _ at' h.1) ?_); try simp -dsimp -implicitDefEqProofs (disch := omega) only [↓wpre, push_cast, reduceCtorEq, ↓reduceIte, Nat.reduceEqDiff, Nat.reduceLeDiff, Nat.reduceAdd, Nat.reduceLT, Int.reduceEq, Int.reduceLT, Int.reduceLE, Int.reduceNeg, Int.reduceAdd, even_utc, aidx_one, Int.sub_self, Int.add_zero]
  refine anyN_intro fun n2 hn2 => ?_
  simp -dsimp -implicitDefEqProofs (disch := omega) only [↓wpre, push_cast, reduceCtorEq, ↓reduceIte, Nat.reduceEqDiff, Nat.reduceLeDiff, Nat.reduceAdd, Nat.reduceLT, Int.reduceEq, Int.reduceLT, Int.reduceLE, Int.reduceNeg, Int.reduceAdd, true_and]
theorem dayAt_c (at' : Int) (h : 0 ≤ at' ∧ at' ≤ 4321439) : AFn Tryz.prog G 55 [.agg utcZ, .int at'] H (.int (at' / 1440)) := by
  refine AFn.start mix F55 (by simp) fun k hlow => ?_
  have h0 : ¬ at' + 1440 < 0 := by omega
  have h1 : (at' + 1440).tdiv 1440 = at' / 1440 + 1 := by
    rw [Int.tdiv_eq_ediv_of_nonneg (by omega)]; omega
  have h2 : at' / 1440 + 1 - 1 = at' / 1440 := by omega
  simp -dsimp -implicitDefEqProofs (disch := omega) only [↓wpre, push_cast, reduceCtorEq, ↓reduceIte, Nat.reduceEqDiff, Nat.reduceLeDiff, Nat.reduceAdd, Nat.reduceLT, Int.reduceEq, Int.reduceLT, Int.reduceLE, Int.reduceNeg, Int.reduceAdd, c55]
  (first | with_reducible refine (localAt_c _ _ at' h).x fun n' hn' => ?_ | with_reducible refine xfn_intro (localAt_c _ _ at' h) ?_); try simp -dsimp -implicitDefEqProofs (disch := omega) only [↓wpre, push_cast, reduceCtorEq, ↓reduceIte, Nat.reduceEqDiff, Nat.reduceLeDiff, Nat.reduceAdd, Nat.reduceLT, Int.reduceEq, Int.reduceLT, Int.reduceLE, Int.reduceNeg, Int.reduceAdd, h0, h1, h2]
theorem bump_get {out : List Int} {d : Nat} {x : Int} (h : out[d]? = some x) : bump out d = out.set d (x + 1) := by rw [bump, h]; rfl
theorem series_run (hU : GU G) (nz : Bool) (l : List Evt) (hg : Em.Good l) (hlow' : ∀ e ∈ l, e.at' ≤ 100000) (name : T) (hk : isKey name = true ∧ name.size ≤ 1000) (n : Nat) : ACalls Tryz.prog G 18 [.ls nz (l.map Evt.c), .str name, .agg utcZ, .int 0, .int 700] H n fun r H' n' => ∃ (o : Nat) (out : List Int), r = .tup [.os o 0 701, .int 0] ∧ out.length = 701 ∧ out.sum = ((l.filter fun e => decide (e.name = name)).length : Int) ∧ (∀ x ∈ out, 0 ≤ x ∧ x ≤ 5000) ∧ H' o = some ⟨3, 1, out.map fun x => [AV.int x]⟩ ∧ n ≤ o ∧ Sub H H' := by
  have hfew := hg.few
  refine ACalls.start mix F18 (by simp) fun hlow => ?_
  simp -dsimp -implicitDefEqProofs (disch := omega) only [↓wpre, push_cast, reduceCtorEq, ↓reduceIte, Nat.reduceEqDiff, Nat.reduceLeDiff, Nat.reduceAdd, Nat.reduceLT, Int.reduceEq, Int.reduceLT, Int.reduceLE, Int.reduceNeg, Int.reduceAdd, c18]
  refine (checkNamed_c G _ hU nz true l hg 0 0 (by omega) [name] (by intro s hs; simp at hs; subst hs; exact hk) (by simp)).x fun n1 hn1 => ?_
  simp -dsimp -implicitDefEqProofs (disch := omega) only [↓wpre, push_cast, reduceCtorEq, ↓reduceIte, Nat.reduceEqDiff, Nat.reduceLeDiff, Nat.reduceAdd, Nat.reduceLT, Int.reduceEq, Int.reduceLT, Int.reduceLE, Int.reduceNeg, Int.reduceAdd, true_and]
  (first | with_reducible refine (checkZone_c _ _).x fun n' hn' => ?_ | with_reducible refine xfn_intro (checkZone_c _ _) ?_); try simp -dsimp -implicitDefEqProofs (disch := omega) only [↓wpre, push_cast, reduceCtorEq, ↓reduceIte, Nat.reduceEqDiff, Nat.reduceLeDiff, Nat.reduceAdd, Nat.reduceLT, Int.reduceEq, Int.reduceLT, Int.reduceLE, Int.reduceNeg, Int.reduceAdd, Int.sub_zero]
  rw [xmake_int (by omega) (by omega) (by omega) (by omega)]
  have h701 : (701 : Int).toNat = 701 := rfl
  simp -dsimp -implicitDefEqProofs (disch := omega) only [↓wpre, push_cast, reduceCtorEq, ↓reduceIte, Nat.reduceEqDiff, Nat.reduceLeDiff, Nat.reduceAdd, Nat.reduceLT, Int.reduceEq, Int.reduceLT, Int.reduceLE, Int.reduceNeg, Int.reduceAdd, h701]
  refine xw_loopJ (σ := List Evt × List Evt × List Int) (fun t => [(1, .str name), (3, .int 0), (4, .int 700), (7, .pp utcZ), (14, .os n' 0 701), (54, .ls nz (l.map Evt.c)), (55, .int l.length), (56, .int t.1.length)]) (fun t H' m => l = t.1 ++ t.2.1 ∧ t.2.2.length = 701 ∧ t.2.2.sum = ((t.1.filter fun e => decide (e.name = name)).length : Int) ∧ (∀ x ∈ t.2.2, 0 ≤ x ∧ x ≤ t.1.length) ∧ H' n' = some ⟨3, 1, t.2.2.map fun x => [AV.int x]⟩ ∧ Qt H H' n ∧ n' < m) (fun t => t.2.1.length) ([], l, List.replicate 701 0) ⟨rfl, by simp, by simp, fun x hx => by simp [List.mem_replicate] at hx; omega, by rw [hu_same, List.map_replicate], (Qt.refl hlow).hu (by omega), by omega⟩ (by simp -dsimp -implicitDefEqProofs (disch := omega) only [↓wpre, push_cast, reduceCtorEq, ↓reduceIte, Nat.reduceEqDiff, Nat.reduceLeDiff, Nat.reduceAdd, Nat.reduceLT, Int.reduceEq, Int.reduceLT, Int.reduceLE, Int.reduceNeg, Int.reduceAdd]) ?_
  rintro ⟨d, r, out⟩ fr H' n2 ⟨hab, hol, hsum, hb, ho, hq, hn2⟩ hh
  simp only [has_nil, has_cons, and_true] at hh hab hol hsum hb ho
  have hll : l.length = d.length + r.length := by rw [hab]; simp
  cases r with
  | nil =>
    have hlt : ¬ (d.length : Int) < l.length := by rw [hll]; simp
    rw [List.append_nil] at hab
    subst hab
    simp -dsimp -implicitDefEqProofs (disch := omega) only [↓wpre, push_cast, reduceCtorEq, ↓reduceIte, Nat.reduceEqDiff, Nat.reduceLeDiff, Nat.reduceAdd, Nat.reduceLT, Int.reduceEq, Int.reduceLT, Int.reduceLE, Int.reduceNeg, Int.reduceAdd, hh, hlt]
    exact fin_intro (Sub.refl _) ⟨n', out, rfl, hol, hsum, fun x hx => by have := hb x hx; omega, ho, by omega, hq.1⟩
  | cons e r =>
    have hlt : (d.length : Int) < l.length := by rw [hll]; simp only [List.length_cons]; omega
    have hx : l[d.length]? = some e := by rw [hab]; simp
    have hel : e ∈ l := by rw [hab]; simp
    have hat := hg.at hel
    have hat2 := hlow' e hel
    have hn12 : n' ≠ n2 := by omega
    simp -dsimp -implicitDefEqProofs (disch := omega) only [↓wpre, push_cast, reduceCtorEq, ↓reduceIte, Nat.reduceEqDiff, Nat.reduceLeDiff, Nat.reduceAdd, Nat.reduceLT, Int.reduceEq, Int.reduceLT, Int.reduceLE, Int.reduceNeg, Int.reduceAdd, hh, hlt, even_evts, aidx_at rfl hx]
    (first | with_reducible refine (dayAt_c _ _ e.at' hat).x fun n' hn' => ?_ | with_reducible refine xfn_intro (dayAt_c _ _ e.at' hat) ?_); try simp -dsimp -implicitDefEqProofs (disch := omega) only [↓wpre, push_cast, reduceCtorEq, ↓reduceIte, Nat.reduceEqDiff, Nat.reduceLeDiff, Nat.reduceAdd, Nat.reduceLT, Int.reduceEq, Int.reduceLT, Int.reduceLE, Int.reduceNeg, Int.reduceAdd, hh]
    obtain ⟨day, hday, hdl⟩ : ∃ day : Nat, e.at' / 1440 = day ∧ day ≤ 69 := ⟨(e.at' / 1440).toNat, by omega, by omega⟩
    have hfs : (d ++ [e]).filter (fun e => decide (e.name = name)) = d.filter (fun e => decide (e.name = name)) ++ (if e.name = name then [e] else []) := by
      rw [List.filter_append, List.filter_cons, List.filter_nil]; simp
    have hdx := List.getElem?_eq_getElem (l := out) (i := day) (by omega)
    have hxb := hb _ (List.getElem_mem (l := out) (n := day) (by omega))
    generalize out[day]'(by omega) = x at hdx hxb
    have hrow : (out.map fun x => [AV.int x])[day]? = some [.int x] := by rw [List.getElem?_map, hdx]; rfl
    have hset : (out.map fun x => [AV.int x]).set day [.int (x + 1)] = (bump out day).map fun x => [AV.int x] := by rw [bump_get hdx, List.map_set]
    by_cases hnm : e.name = name
    · have hnm' : decide (e.name = name) = true := by simp [hnm]
      rw [if_pos hnm] at hfs
      have hw : within (day : Int) 0 700 = true := by simp [within]; omega
      rw [hday]
      simp -dsimp -implicitDefEqProofs (disch := omega) only [↓wpre, push_cast, reduceCtorEq, ↓reduceIte, Nat.reduceEqDiff, Nat.reduceLeDiff, Nat.reduceAdd, Nat.reduceLT, Int.reduceEq, Int.reduceLT, Int.reduceLE, Int.reduceNeg, Int.reduceAdd, hh, hnm']
      (first | with_reducible refine (ewithin_c _ _ _ _ _).x fun n' hn' => ?_ | with_reducible refine xfn_intro (ewithin_c _ _ _ _ _) ?_); try simp -dsimp -implicitDefEqProofs (disch := omega) only [↓wpre, push_cast, reduceCtorEq, ↓reduceIte, Nat.reduceEqDiff, Nat.reduceLeDiff, Nat.reduceAdd, Nat.reduceLT, Int.reduceEq, Int.reduceLT, Int.reduceLE, Int.reduceNeg, Int.reduceAdd, hh, hw, ho, Int.sub_zero, Int.toNat_natCast, hrow, hset]

      refine againJ (d ++ [e], r, bump out day) (Nat.lt_succ_self _) ⟨by rw [hab]; simp, by rw [bump_get hdx]; simpa using hol, by rw [bump_sum _ _ (by omega), hfs, hsum]; simp, fun y hy => ?_, hu_same, by exact Qt.mono (n := n) (by repeat (first | exact hq | refine Qt.hu ?_ (by omega))) (by omega), by omega⟩ (by simp -dsimp -implicitDefEqProofs (disch := omega) only [↓wpre, push_cast, reduceCtorEq, ↓reduceIte, Nat.reduceEqDiff, Nat.reduceLeDiff, Nat.reduceAdd, Nat.reduceLT, Int.reduceEq, Int.reduceLT, Int.reduceLE, Int.reduceNeg, Int.reduceAdd, hh])
      rw [bump_get hdx] at hy
      rcases List.mem_or_eq_of_mem_set hy with hy | rfl
      · have := hb y hy; simp only [List.length_append, List.length_cons, List.length_nil]; omega
      · simp only [List.length_append, List.length_cons, List.length_nil]; omega
    · have hnm' : decide (e.name = name) = false := by simp [hnm]
      rw [if_neg hnm, List.append_nil] at hfs
      simp -dsimp -implicitDefEqProofs (disch := omega) only [↓wpre, push_cast, reduceCtorEq, ↓reduceIte, Nat.reduceEqDiff, Nat.reduceLeDiff, Nat.reduceAdd, Nat.reduceLT, Int.reduceEq, Int.reduceLT, Int.reduceLE, Int.reduceNeg, Int.reduceAdd, hh, hnm']
      refine againJ (d ++ [e], r, out) (Nat.lt_succ_self _) ⟨by rw [hab]; simp, hol, by rw [hfs]; exact hsum, fun y hy => by have := hb y hy; simp only [List.length_append, List.length_cons, List.length_nil]; omega, by simp -dsimp -implicitDefEqProofs (disch := omega) only [↓wpre, push_cast, reduceCtorEq, ↓reduceIte, Nat.reduceEqDiff, Nat.reduceLeDiff, Nat.reduceAdd, Nat.reduceLT, Int.reduceEq, Int.reduceLT, Int.reduceLE, Int.reduceNeg, Int.reduceAdd, ho], by exact Qt.mono (n := n) (by repeat (first | exact hq | refine Qt.hu ?_ (by omega))) (by omega), by omega⟩ (by simp -dsimp -implicitDefEqProofs (disch := omega) only [↓wpre, push_cast, reduceCtorEq, ↓reduceIte, Nat.reduceEqDiff, Nat.reduceLeDiff, Nat.reduceAdd, Nat.reduceLT, Int.reduceEq, Int.reduceLT, Int.reduceLE, Int.reduceNeg, Int.reduceAdd, hh])
end Go.Proofs.YtdbfkibbhmbaoaaGreatDoor

