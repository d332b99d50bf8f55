/- Contracts of functions of the program: each computes what its model says; the conditions stand at each. -/
import Derived.Test.YtdbfkibbhmbaoaaGreatDoorTe34
set_option linter.unusedSimpArgs false
set_option linter.unusedVariables false
set_option maxRecDepth 20000
set_option pp.deepTerms false
set_option pp.deepTerms.threshold 4
namespace Go.Proofs.YtdbfkibbhmbaoaaGreatDoor
open Go Go.Ab Go.Pm Go.Cm Go.El Go.Em Go.Rm
variable (G : Nat → AV) (H : Nat → Option AObj)
theorem even_three (a b c : T) : Even 1 [[AV.str a], [AV.str b], [AV.str c]] = True := eq_true fun r hr => by simp at hr; rcases hr with rfl | rfl | rfl <;> exact ⟨rfl, rfl⟩
theorem three_at (a b c : T) (k : Int) (h : 0 ≤ k ∧ k < 3) : ∃ s, (s = a ∨ s = b ∨ s = c) ∧ ∀ H, aidx H 1 (.ls true [[AV.str a], [AV.str b], [AV.str c]]) (.int k) = some (.pp [.str s]) := by
  have : k = 0 ∨ k = 1 ∨ k = 2 := by omega
  rcases this with rfl | rfl | rfl
  · exact ⟨a, .inl rfl, fun H => rfl⟩
  · exact ⟨b, .inr (.inl rfl), fun H => rfl⟩
  · exact ⟨c, .inr (.inr rfl), fun H => rfl⟩
theorem good_key {s a b c : T} (h : s = a ∨ s = b ∨ s = c) (ha : (isKey a && isKey b && isKey c) = true ∧ a.size ≤ 1000 ∧ b.size ≤ 1000 ∧ c.size ≤ 1000) : isKey s = true ∧ s.size ≤ 1000 := by
  obtain ⟨h1, h2, h3, h4⟩ := ha
  simp only [Bool.and_eq_true] at h1
  rcases h with rfl | rfl | rfl
  · exact ⟨h1.1.1, h2⟩
  · exact ⟨h1.1.2, h3⟩
  · exact ⟨h1.2, h4⟩
theorem sum_bnd : ∀ (d : List Int), (∀ x ∈ d, 0 ≤ x ∧ x ≤ 5000) → 0 ≤ d.sum ∧ d.sum ≤ 5000 * (d.length : Int)
  | [], _ => by simp
  | x :: d, h => by
    have h1 := sum_bnd d fun y hy => h y (by simp [hy])
    have h2 := h x (by simp)
    simp only [List.sum_cons, List.length_cons]
    omega
theorem sameOut_x {n0 m : Nat} (oid : Option Nat) (l : List Evt) (ho : OutIs n0 H oid 42 6 (l.map Evt.c) m) (hl : l.length ≤ 100000) (hf : ∀ e ∈ l, FineE e) {n : Nat} {R : AV → (Nat → Option AObj) → Nat → Prop} {u : Wit R} (hR : ∀ n', n ≤ n' → R (.bool true) H n') : xcall Tryz.prog G R u 19 [outAV oid l.length, lsOf (l.map Evt.c)] H n := by
  cases oid with
  | none =>
    have h : l.map Evt.c = [] := ho
    have h : l = [] := by simpa using h
    subst h
    exact AFn.x (sameEvents_c G H false false [] (by simp) (by simp)) hR
  | some o =>
    refine AFn.borrow (Ab.only o ⟨42, 6, l.map Evt.c⟩) 3 (only_sub ho.1) ?_ rfl hR
    have h1 : frz (Ab.only o ⟨42, 6, l.map Evt.c⟩) 3 (outAV (some o) l.length) = .ls true (l.map Evt.c) := by
      simp only [outAV, frz, Ab.only, if_true, Nat.zero_add, List.length_map, Nat.le_refl, List.drop_zero]
      rw [List.take_of_length_le (by simp), evts_frz]
    have h2 : frz (Ab.only o ⟨42, 6, l.map Evt.c⟩) 3 (lsOf (l.map Evt.c)) = lsOf (l.map Evt.c) := by
      simp only [lsOf, frz, evts_frz]
    rw [List.map_cons, List.map_cons, List.map_nil, h1, h2]
    exact sameEvents_c G noObj true _ l hl hf
def cutAt (x y : Int) (i : Nat) : Int := if i = 0 then 0 else if i = 1 then x else if i = 2 then y else 4321440
set_option maxHeartbeats 3200000 in
theorem windowsAddUp_c (hU : GU G) (nz : Bool) (l : List Int) (n : Nat) : ACalls Tryz.prog G 4 [LL nz l] H n fun r H' n' => r = .bool true := by
  refine ACalls.start mix F4 (by simp) fun hlow => ?_
  simp -dsimp -implicitDefEqProofs (disch := omega) only [↓wpre, push_cast, reduceCtorEq, ↓reduceIte, Nat.reduceEqDiff, Nat.reduceLeDiff, Nat.reduceAdd, Nat.reduceLT, Int.reduceEq, Int.reduceLT, Int.reduceLE, Int.reduceNeg, Int.reduceAdd, c4]
  refine (range_c G _ nz l 0 1 14 n hu_same (by omega) (by omega)).x fun r a1 n1 hn1 h1 h2 h3 => ?_
  obtain ⟨many, rfl, hm⟩ := h3
  simp -dsimp -implicitDefEqProofs (disch := omega) only [↓wpre, push_cast, reduceCtorEq, ↓reduceIte, Nat.reduceEqDiff, Nat.reduceLeDiff, Nat.reduceAdd, Nat.reduceLT, Int.reduceEq, Int.reduceLT, Int.reduceLE, Int.reduceNeg, Int.reduceAdd, hu_hu]
  refine (rightEvents_c G _ hU nz l a1 many n hu_same (by omega) hm).x fun r a2 n2 hn2 k1 k2 k3 => ?_
  obtain ⟨es, rfl, hg, hlo, hfew⟩ := k3
  simp -dsimp -implicitDefEqProofs (disch := omega) only [↓wpre, push_cast, reduceCtorEq, ↓reduceIte, Nat.reduceEqDiff, Nat.reduceLeDiff, Nat.reduceAdd, Nat.reduceLT, Int.reduceEq, Int.reduceLT, Int.reduceLE, Int.reduceNeg, Int.reduceAdd, hu_hu]
  obtain ⟨j1, hj1, hd1⟩ := next_det G (hu H n (some (strm (LL nz l) a2))) nz l a2 3 n hu_same (by omega) (by omega)
  obtain ⟨name, hname, hi1⟩ := three_at ⟨#[98, 117, 121]⟩ ⟨#[111, 112, 101, 110]⟩ ⟨#[118, 105, 101, 119]⟩ j1 hj1
  obtain ⟨j2, hj2, hd2⟩ := next_det G (hu (hu H n (some (strm (LL nz l) a2))) n (some (strm (LL nz l) (a2 + 1)))) nz l (a2 + 1) 3 n hu_same (by omega) (by omega)
  obtain ⟨field, hfield, hi2⟩ := three_at ⟨#[97, 103, 101]⟩ ⟨#[118, 105, 112]⟩ ⟨#[106, 111, 105, 110, 101, 100]⟩ j2 hj2
  have hk1 := good_key hname ⟨by decide +kernel, by decide, by decide, by decide⟩
  have hk2 := good_key hfield ⟨by decide +kernel, by decide, by decide, by decide⟩
  clear hname hfield
  refine xereg_intro noH (of_eq_true (sub_noH _)) ?_
  simp -dsimp -implicitDefEqProofs (disch := omega) only [↓wpre, push_cast, reduceCtorEq, ↓reduceIte, Nat.reduceEqDiff, Nat.reduceLeDiff, Nat.reduceAdd, Nat.reduceLT, Int.reduceEq, Int.reduceLT, Int.reduceLE, Int.reduceNeg, Int.reduceAdd, true_and]
  refine xecall_intro hd1 (of_eq_true (sub_noH _)) ?_
  simp -dsimp -implicitDefEqProofs (disch := omega) only [↓wpre, push_cast, reduceCtorEq, ↓reduceIte, Nat.reduceEqDiff, Nat.reduceLeDiff, Nat.reduceAdd, Nat.reduceLT, Int.reduceEq, Int.reduceLT, Int.reduceLE, Int.reduceNeg, Int.reduceAdd, even_three, hi1]
  refine xecall_intro hd2 (of_eq_true (sub_noH _)) ?_
  simp -dsimp -implicitDefEqProofs (disch := omega) only [↓wpre, push_cast, reduceCtorEq, ↓reduceIte, Nat.reduceEqDiff, Nat.reduceLeDiff, Nat.reduceAdd, Nat.reduceLT, Int.reduceEq, Int.reduceLT, Int.reduceLE, Int.reduceNeg, Int.reduceAdd, even_three, hi2, hu_hu]
  refine anyN_intro fun n3 hn3 => ?_
  simp -dsimp -implicitDefEqProofs (disch := omega) only [↓wpre, push_cast, reduceCtorEq, ↓reduceIte, Nat.reduceEqDiff, Nat.reduceLeDiff, Nat.reduceAdd, Nat.reduceLT, Int.reduceEq, Int.reduceLT, Int.reduceLE, Int.reduceNeg, Int.reduceAdd, true_and]
  refine (range_c G _ nz l (a2 + 1 + 1) 0 3000 n hu_same (by omega) (by omega)).x fun r a3 n4 hn4 p1 p2 h3 => ?_
  obtain ⟨r1, rfl, hr1⟩ := h3
  simp -dsimp -implicitDefEqProofs (disch := omega) only [↓wpre, push_cast, reduceCtorEq, ↓reduceIte, Nat.reduceEqDiff, Nat.reduceLeDiff, Nat.reduceAdd, Nat.reduceLT, Int.reduceEq, Int.reduceLT, Int.reduceLE, Int.reduceNeg, Int.reduceAdd, hu_hu]
  refine (range_c G _ nz l a3 0 9000 n hu_same (by omega) (by omega)).x fun r a4 n5 hn5 p1' p2' h3 => ?_
  obtain ⟨r2, rfl, hr2⟩ := h3
  simp -dsimp -implicitDefEqProofs (disch := omega) only [↓wpre, push_cast, reduceCtorEq, ↓reduceIte, Nat.reduceEqDiff, Nat.reduceLeDiff, Nat.reduceAdd, Nat.reduceLT, Int.reduceEq, Int.reduceLT, Int.reduceLE, Int.reduceNeg, Int.reduceAdd, hu_hu]
  refine (sortI_c G _ n5 [0, r1, r2, 4321440] (by simp) (n5 + 1) hu_same).le.x fun r H6 n6 ⟨hH, hn6⟩ => ?_
  subst hH
  obtain ⟨x, y, hcut, hx0, hxy, hy⟩ := cuts_of r1 r2 hr1 hr2
  rw [hcut]
  simp -dsimp -implicitDefEqProofs (disch := omega) only [↓wpre, push_cast, reduceCtorEq, ↓reduceIte, Nat.reduceEqDiff, Nat.reduceLeDiff, Nat.reduceAdd, Nat.reduceLT, Int.reduceEq, Int.reduceLT, Int.reduceLE, Int.reduceNeg, Int.reduceAdd, hu_hu, List.map_cons, List.map_nil]
  refine (eventNamed_c G _ hU true es hg name hk1 0 4321440 (by omega)).x fun n7 hn7 => ?_
  simp -dsimp -implicitDefEqProofs (disch := omega) only [↓wpre, push_cast, reduceCtorEq, ↓reduceIte, Nat.reduceEqDiff, Nat.reduceLeDiff, Nat.reduceAdd, Nat.reduceLT, Int.reduceEq, Int.reduceLT, Int.reduceLE, Int.reduceNeg, Int.reduceAdd, hu_hu]
  refine (sum_c G _ hU true es hg name field hk1 hk2 0 4321440 (by omega)).x fun n8 hn8 => ?_
  simp -dsimp -implicitDefEqProofs (disch := omega) only [↓wpre, push_cast, reduceCtorEq, ↓reduceIte, Nat.reduceEqDiff, Nat.reduceLeDiff, Nat.reduceAdd, Nat.reduceLT, Int.reduceEq, Int.reduceLT, Int.reduceLE, Int.reduceNeg, Int.reduceAdd, hu_hu]
  have hbnd : ∀ a b, -100000000000000 ≤ sumE es name field a b ∧ sumE es name field a b ≤ 100000000000000 := fun a b => by
    have h1 := tame_sum field (namedE es name a b) fun e he => tame_of (hg.ok e (List.mem_filter.1 he).1) field
    have h2 : (namedE es name a b).length ≤ 14 := Nat.le_trans (List.length_filter_le _ _) hfew
    unfold sumE
    omega
  have hnl : ∀ a b, (namedE es name a b).length ≤ 14 := fun a b => Nat.le_trans (List.length_filter_le _ _) hfew
  have hn0 : namedE es name 0 0 = [] := by
    unfold namedE
    rw [List.filter_eq_nil_iff]
    intro e he hi
    simp only [inW, Bool.and_eq_true, decide_eq_true_eq] at hi
    omega
  have hs0 : sumE es name field 0 0 = 0 := by unfold sumE; rw [hn0]; rfl
  generalize hW : sumE es name field 0 4321440 = W at hbnd
  have hWb : -100000000000000 ≤ W ∧ W ≤ 100000000000000 := by have := hbnd 0 4321440; rw [hW] at this; exact this
  generalize hP : namedE es name 0 4321440 = whole at *
  refine xw_loopJ (σ := Nat × Option Nat) (fun t => [(4, .ls true (es.map Evt.c)), (5, .str name), (6, .str field), (7, .os n5 0 4), (9, lsOf (whole.map Evt.c)), (11, .int (W - sumE es name field 0 (cutAt x y t.1))), (13, outAV t.2 (namedE es name 0 (cutAt x y t.1)).length), (70, .int t.1)]) (fun t H' n' => t.1 ≤ 3 ∧ OutIs n8 H' t.2 42 6 ((namedE es name 0 (cutAt x y t.1)).map Evt.c) n' ∧ (t.2 ≠ none → namedE es name 0 (cutAt x y t.1) ≠ []) ∧ H' n5 = some ⟨3, 1, [[.int 0], [.int x], [.int y], [.int 4321440]]⟩ ∧ n8 ≤ n') (fun t => 3 - t.1) (0, none) ⟨by omega, by simp [cutAt, hn0, OutIs], fun h => (h rfl).elim, by rw [hu_ne (by omega), hu_same], by omega⟩ (by simp only [cutAt, if_true, hn0, hs0, List.length_nil, outAV, Int.sub_zero]; simp -dsimp -implicitDefEqProofs (disch := omega) only [↓wpre, push_cast, reduceCtorEq, ↓reduceIte, Nat.reduceEqDiff, Nat.reduceLeDiff, Nat.reduceAdd, Nat.reduceLT, Int.reduceEq, Int.reduceLT, Int.reduceLE, Int.reduceNeg, Int.reduceAdd, hW]) ?_
  rintro ⟨i, oid⟩ fr H' m1 ⟨hi, ho, hne, hcu, hm1⟩ hh
  simp only [has_nil, has_cons, and_true] at hh hi ho hne hcu
  by_cases hi3 : i = 3
  · subst hi3
    have hlt : ¬ ((3 : Nat) : Int) < 3 := by omega
    have hc3 : cutAt x y 3 = 4321440 := rfl
    have hWW : W - sumE es name field 0 4321440 = 0 := by omega
    rw [hc3, hP] at ho hne
    rw [hc3, hP, hWW] at hh
    simp -dsimp -implicitDefEqProofs (disch := omega) only [↓wpre, push_cast, reduceCtorEq, ↓reduceIte, Nat.reduceEqDiff, Nat.reduceLeDiff, Nat.reduceAdd, Nat.reduceLT, Int.reduceEq, Int.reduceLT, Int.reduceLE, Int.reduceNeg, Int.reduceAdd, hh, hlt]
    refine (series_c G _ hU true es hg hlo name hk1 _).le.x fun r H2 m2 ⟨⟨out, hr, hol, hsum, hob, hH⟩, hm2⟩ => ?_
    subst hr hH
    simp -dsimp -implicitDefEqProofs (disch := omega) only [↓wpre, push_cast, reduceCtorEq, ↓reduceIte, Nat.reduceEqDiff, Nat.reduceLeDiff, Nat.reduceAdd, Nat.reduceLT, Int.reduceEq, Int.reduceLT, Int.reduceLE, Int.reduceNeg, Int.reduceAdd, hh]
    have hwl : (es.filter fun e => decide (e.name = name)).length = whole.length := by
      rw [← hP]; unfold namedE
      congr 1
      refine List.filter_congr fun e he => ?_
      have := hg.at he
      simp only [inW]
      have e1 : decide (0 ≤ e.at') = true := by simp; omega
      have e2 : decide (e.at' < 4321440) = true := by simp; omega
      rw [e1, e2]; simp
    rw [hwl] at hsum
    refine xw_loopJ (σ := List Int × List Int) (fun t => [(9, lsOf (whole.map Evt.c)), (10, .int 0), (11, .int 0), (13, outAV oid whole.length), (21, .int t.1.sum), (120, LL true out), (121, .int out.length), (122, .int t.1.length)]) (fun t H' n' => out = t.1 ++ t.2 ∧ H' = H2 ∧ m1 ≤ n') (fun t => t.2.length) ([], out) ⟨rfl, rfl, by omega⟩ (by simp -dsimp -implicitDefEqProofs (disch := omega) only [↓wpre, push_cast, reduceCtorEq, ↓reduceIte, Nat.reduceEqDiff, Nat.reduceLeDiff, Nat.reduceAdd, Nat.reduceLT, Int.reduceEq, Int.reduceLT, Int.reduceLE, Int.reduceNeg, Int.reduceAdd, hh, List.sum_nil]) ?_
    rintro ⟨d, r⟩ fr2 H3 m3 ⟨hab, rfl, hm3⟩ hh2
    simp only [has_nil, has_cons, and_true] at hh2 hab
    have hll : out.length = d.length + r.length := by rw [hab]; simp
    cases r with
    | nil =>
      have hlt : ¬ (d.length : Int) < out.length := by rw [hll]; simp
      rw [List.append_nil] at hab
      subst hab
      rw [hsum] at hh2
      simp -dsimp -implicitDefEqProofs (disch := omega) only [↓wpre, push_cast, reduceCtorEq, ↓reduceIte, Nat.reduceEqDiff, Nat.reduceLeDiff, Nat.reduceAdd, Nat.reduceLT, Int.reduceEq, Int.reduceLT, Int.reduceLE, Int.reduceNeg, Int.reduceAdd, hh2, hlt]
      have hwle : whole.length ≤ 14 := by rw [← hP]; exact hnl 0 4321440
      refine sameOut_x G _ oid whole ho (by omega) (fun e he => small_fine hg.small e (by rw [← hP] at he; exact (List.mem_filter.1 he).1)) fun m4 hm4 => ?_
      simp -dsimp -implicitDefEqProofs (disch := omega) only [↓wpre, push_cast, reduceCtorEq, ↓reduceIte, Nat.reduceEqDiff, Nat.reduceLeDiff, Nat.reduceAdd, Nat.reduceLT, Int.reduceEq, Int.reduceLT, Int.reduceLE, Int.reduceNeg, Int.reduceAdd, hh2, lsOf]
      refine (happenings_c G _ hU _).x fun r H6 n6 ⟨hr, _⟩ => ?_
      subst hr
      simp -dsimp -implicitDefEqProofs (disch := omega) only [↓wpre, push_cast, reduceCtorEq, ↓reduceIte, Nat.reduceEqDiff, Nat.reduceLeDiff, Nat.reduceAdd, Nat.reduceLT, Int.reduceEq, Int.reduceLT, Int.reduceLE, Int.reduceNeg, Int.reduceAdd, hu_hu]
      exact fin_intro (Sub.refl _) rfl
    | cons z r =>
      have hlt : (d.length : Int) < out.length := by rw [hll]; simp only [List.length_cons]; omega
      have hx : out[d.length]? = some z := by rw [hab]; simp
      have hz := hob z (by rw [hab]; simp)
      have hds : 0 ≤ d.sum ∧ d.sum ≤ 5000 * (d.length : Int) := sum_bnd d fun x hx => hob x (by rw [hab]; simp [hx])
      have hsn : (d ++ [z]).sum = d.sum + z := by simp
      simp -dsimp -implicitDefEqProofs (disch := omega) only [↓wpre, push_cast, reduceCtorEq, ↓reduceIte, Nat.reduceEqDiff, Nat.reduceLeDiff, Nat.reduceAdd, Nat.reduceLT, Int.reduceEq, Int.reduceLT, Int.reduceLE, Int.reduceNeg, Int.reduceAdd, hh2, hlt, even_ints', aidx_at rfl hx]
      refine againJ (d ++ [z], r) (Nat.lt_succ_self _) ⟨by rw [hab]; simp, rfl, hm3⟩ (by simp -dsimp -implicitDefEqProofs (disch := omega) only [↓wpre, push_cast, reduceCtorEq, ↓reduceIte, Nat.reduceEqDiff, Nat.reduceLeDiff, Nat.reduceAdd, Nat.reduceLT, Int.reduceEq, Int.reduceLT, Int.reduceLE, Int.reduceNeg, Int.reduceAdd, hh2, hsn])
  · have hlt : (i : Int) < 3 := by omega
    obtain ⟨ca, cb, hca, hcb, hra, hrb, hle⟩ : ∃ ca cb, cutAt x y i = ca ∧ cutAt x y (i + 1) = cb ∧ [[AV.int 0], [AV.int x], [AV.int y], [AV.int 4321440]][i]? = some [.int ca] ∧ [[AV.int 0], [AV.int x], [AV.int y], [AV.int 4321440]][i + 1]? = some [.int cb] ∧ 0 ≤ ca ∧ ca ≤ cb ∧ cb ≤ 4321440 := by
      have : i = 0 ∨ i = 1 ∨ i = 2 := by omega
      rcases this with rfl | rfl | rfl
      · exact ⟨0, x, rfl, rfl, rfl, rfl, by omega⟩
      · exact ⟨x, y, rfl, rfl, rfl, rfl, by omega⟩
      · exact ⟨y, 4321440, rfl, rfl, rfl, rfl, by omega⟩
    rw [hca] at hh ho hne
    have hi1 : ((i : Int) + 1).toNat = i + 1 := by omega
    have hcut1 := named_cut name hle.1 hle.2.1 es hg.order
    have hcut2 := sum_cut name field hle.1 hle.2.1 es hg.order
    have hb1 := hbnd 0 ca
    have hb2 := hbnd ca cb
    have hb3 := hbnd 0 cb
    generalize [[AV.int 0], [AV.int x], [AV.int y], [AV.int 4321440]] = CR at hcu hra hrb
    simp -dsimp -implicitDefEqProofs (disch := omega) only [↓wpre, push_cast, reduceCtorEq, ↓reduceIte, Nat.reduceEqDiff, Nat.reduceLeDiff, Nat.reduceAdd, Nat.reduceLT, Int.reduceEq, Int.reduceLT, Int.reduceLE, Int.reduceNeg, Int.reduceAdd, hh, hlt]
    refine xareg_intro [.int ca, .int cb] rfl rfl ?_
    simp -dsimp -implicitDefEqProofs (disch := omega) only [↓wpre, push_cast, reduceCtorEq, ↓reduceIte, Nat.reduceEqDiff, Nat.reduceLeDiff, Nat.reduceAdd, Nat.reduceLT, Int.reduceEq, Int.reduceLT, Int.reduceLE, Int.reduceNeg, Int.reduceAdd, hh, hcu, Int.toNat_natCast, hra, hi1, hrb]
    refine anyM_intro fun m2 m3 hm2 hm3 => ?_
    have hn5 : n5 ≠ m2 := by omega
    simp -dsimp -implicitDefEqProofs (disch := omega) only [↓wpre, push_cast, reduceCtorEq, ↓reduceIte, Nat.reduceEqDiff, Nat.reduceLeDiff, Nat.reduceAdd, Nat.reduceLT, Int.reduceEq, Int.reduceLT, Int.reduceLE, Int.reduceNeg, Int.reduceAdd, hh]
    refine (eventNamed_c G _ hU true es hg name hk1 ca cb (by omega)).x fun m4 hm4 => ?_
    simp -dsimp -implicitDefEqProofs (disch := omega) only [↓wpre, push_cast, reduceCtorEq, ↓reduceIte, Nat.reduceEqDiff, Nat.reduceLeDiff, Nat.reduceAdd, Nat.reduceLT, Int.reduceEq, Int.reduceLT, Int.reduceLE, Int.reduceNeg, Int.reduceAdd, hh]
    refine (sum_c G _ hU true es hg name field hk1 hk2 ca cb (by omega)).x fun m5 hm5 => ?_
    simp -dsimp -implicitDefEqProofs (disch := omega) only [↓wpre, push_cast, reduceCtorEq, ↓reduceIte, Nat.reduceEqDiff, Nat.reduceLeDiff, Nat.reduceAdd, Nat.reduceLT, Int.reduceEq, Int.reduceLT, Int.reduceLE, Int.reduceNeg, Int.reduceAdd, hh, lsOf]
    have hm2n : n8 ≤ m2 := by omega
    refine xapp_many (n0 := n8) (i := oid) (rows := (namedE es name 0 ca).map Evt.c) (n := m5) (OutIs.mono (n := m2) (OutIs.far (OutIs.mono ho (by omega)) (Nat.le_refl _)) (by omega)) (by omega) (fun h => by simpa using hne h) (by simp) (of_eq_true (even_evts _)) (by have := hnl 0 ca; have := hnl ca cb; simp only [List.length_map]; omega) (by have := hnl 0 ca; have := hnl ca cb; simp only [List.length_map]; omega) ?_
    rintro oid' HN m6 ho' hne' hj hm6
    rw [← List.map_append, hcut1] at ho' hne'
    have hlen' : ((namedE es name 0 ca).map Evt.c).length + ((namedE es name ca cb).map Evt.c).length = (namedE es name 0 cb).length := by rw [← hcut1]; simp
    rw [hlen']
    have hcn : HN n5 = some ⟨3, 1, CR⟩ := by rw [hj n5 (by omega), hu_ne hn5]; exact hcu
    simp -dsimp -implicitDefEqProofs (disch := omega) only [↓wpre, push_cast, reduceCtorEq, ↓reduceIte, Nat.reduceEqDiff, Nat.reduceLeDiff, Nat.reduceAdd, Nat.reduceLT, Int.reduceEq, Int.reduceLT, Int.reduceLE, Int.reduceNeg, Int.reduceAdd, hh]
    have hW2 : W - sumE es name field 0 ca - sumE es name field ca cb = W - sumE es name field 0 cb := by omega
    refine againJ (i + 1, oid') (by dsimp only; omega) ⟨by dsimp only; omega, by rw [hcb]; exact ho', by rw [hcb]; exact fun h => by simpa using hne' h, hcn, by omega⟩ (by simp -dsimp -implicitDefEqProofs (disch := omega) only [↓wpre, push_cast, reduceCtorEq, ↓reduceIte, Nat.reduceEqDiff, Nat.reduceLeDiff, Nat.reduceAdd, Nat.reduceLT, Int.reduceEq, Int.reduceLT, Int.reduceLE, Int.reduceNeg, Int.reduceAdd, hh, hcb, lsOf, hW2])
end Go.Proofs.YtdbfkibbhmbaoaaGreatDoor

