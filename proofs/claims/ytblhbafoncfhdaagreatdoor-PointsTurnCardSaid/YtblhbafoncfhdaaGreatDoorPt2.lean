/- Contracts of functions of the program: each computes what its model says; the conditions stand at each. -/
import Derived.Test.YtblhbafoncfhdaaGreatDoorP1
import Derived.Test.YtblhbafoncfhdaaGreatDoorPt1
import Derived.Test.YtblhbafoncfhdaaGreatDoorPe5
set_option linter.unusedSimpArgs false
set_option linter.unusedVariables false
set_option maxRecDepth 20000
set_option pp.deepTerms false
set_option pp.deepTerms.threshold 3
namespace Go.Proofs.YtblhbafoncfhdaaGreatDoor
open Go Go.Ab Go.Pm Go.Cm Go.El Go.Rm Go.Pp Go.Uf
variable (G : Nat → AV) (H : Nat → Option AObj)






theorem wrap32 (x : Int) (h : -2147483648 ≤ x ∧ x ≤ 2147483647) : IntKind.i32.wrap x = x := by
  have e : (2 : Int) ^ (IntKind.i32.bits - 1) = 2147483648 := rfl
  have e2 : (2 : Int) ^ IntKind.i32.bits = 4294967296 := rfl
  have e3 : IntKind.i32.signed = true := rfl
  simp only [IntKind.wrap, e, e2, e3, Bool.true_and, decide_eq_true_eq]
  split <;> omega
abbrev rn (x : Int) : List AV := [.lit (.int .i32 x)]
set_option maxHeartbeats 3200000 in
theorem runes_run (hU : GU G) (s0 : T) (hs0 : s0.size ≤ 1000000) (n : Nat) : ACalls Tryz.prog G 77 [.str s0] H n fun r H' n' => Sub H H' ∧ ((pts s0 = [] ∧ r = .ls false []) ∨ ∃ o, r = .os o 0 (pts s0).length ∧ H' o = some ⟨21, 1, (pts s0).map rn⟩ ∧ H o = none ∧ pts s0 ≠ []) := by
  refine ACalls.start mix F77 (by simp) fun hlow => ?_
  have hq := Qt.refl hlow
  have hpl : (pts s0).length ≤ 1000000 := Nat.le_trans (pts_len _ _) hs0
  simp -dsimp -implicitDefEqProofs (disch := omega) only [↓wpre, push_cast, reduceCtorEq, ↓reduceIte, Nat.reduceEqDiff, Nat.reduceLeDiff, Nat.reduceAdd, Nat.reduceLT, Int.reduceEq, Int.reduceLT, Int.reduceLE, Int.reduceNeg, Int.reduceAdd, c77]
  refine xw_loopJ (σ := List Int × T × Option Nat) (fun t => [(0, .str t.2.1), (3, outAV t.2.2 t.1.length)]) (fun t H' n' => pts s0 = t.1 ++ pts t.2.1 ∧ t.2.1.size ≤ s0.size ∧ OutIs n H' t.2.2 21 1 (t.1.map rn) n' ∧ (t.2.2 ≠ none → t.1 ≠ []) ∧ Qt H H' n ∧ n ≤ n') (fun t => t.2.1.size) ([], s0, none) ⟨rfl, Nat.le_refl _, rfl, fun h => (h rfl).elim, hq, Nat.le_refl _⟩ (by simp -dsimp -implicitDefEqProofs (disch := omega) only [↓wpre, push_cast, reduceCtorEq, ↓reduceIte, Nat.reduceEqDiff, Nat.reduceLeDiff, Nat.reduceAdd, Nat.reduceLT, Int.reduceEq, Int.reduceLT, Int.reduceLE, Int.reduceNeg, Int.reduceAdd, outAV]) ?_
  clear hq
  rintro ⟨d, s, oid⟩ fr H' n1 ⟨hp, hs, ho, hne, hq, hn1⟩ hh
  simp only [has_nil, has_cons, and_true] at hh hp hs ho hne
  by_cases h0 : s = ⟨#[]⟩
  · simp -dsimp -implicitDefEqProofs (disch := omega) only [↓wpre, push_cast, reduceCtorEq, ↓reduceIte, Nat.reduceEqDiff, Nat.reduceLeDiff, Nat.reduceAdd, Nat.reduceLT, Int.reduceEq, Int.reduceLT, Int.reduceLE, Int.reduceNeg, Int.reduceAdd, hh, h0]
    rw [h0, pts_nil, List.append_nil] at hp
    refine fin_intro (Sub.refl _) ⟨hq.1, ?_⟩
    rw [hp]
    cases oid with
    | none =>
      have : (d.map rn) = [] := ho
      exact .inl ⟨by simpa using this, rfl⟩
    | some o => exact .inr ⟨o, rfl, ho.1, by
        cases hx : H o with
        | none => rfl
        | some q => exact absurd (hlow o q hx) (by have := ho.2.1; omega), hne (by simp)⟩
  · have hdp := decodeGo_pos h0
    have hdr := decodeGo_rune h0
    have hdl := decodeGo_le h0
    have hsz := size_pos h0
    have hpc := pts_cons h0
    have hby := byteAt_lt s 0
    have hw32 : IntKind.i32.wrap (-1 - IntKind.i32.wrap (byteAt s 0)) = -1 - byteAt s 0 := by
      rw [wrap32 (byteAt s 0) (by omega), wrap32 _ (by omega)]
    simp -dsimp -implicitDefEqProofs (disch := omega) only [↓wpre, push_cast, reduceCtorEq, ↓reduceIte, Nat.reduceEqDiff, Nat.reduceLeDiff, Nat.reduceAdd, Nat.reduceLT, Int.reduceEq, Int.reduceLT, Int.reduceLE, Int.reduceNeg, Int.reduceAdd, hh, h0]
    refine (decode_c G _ hU s).x fun n2 hn2 => ?_
    generalize Lib.decodeGo s = dd at *
    obtain ⟨c, w⟩ := dd
    simp only at *
    obtain ⟨p, hpe⟩ : ∃ p : Int, (if c = 65533 ∧ w = 1 then -1 - byteAt s 0 else (c : Int)) = p := ⟨_, rfl⟩
    rw [hpe] at hpc
    rw [hpc] at hp
    have hdl2 : d.length + 1 ≤ 1000000 := by have := congrArg List.length hp; simp at this; omega
    simp -dsimp -implicitDefEqProofs (disch := omega) only [↓wpre, push_cast, reduceCtorEq, ↓reduceIte, Nat.reduceEqDiff, Nat.reduceLeDiff, Nat.reduceAdd, Nat.reduceLT, Int.reduceEq, Int.reduceLT, Int.reduceLE, Int.reduceNeg, Int.reduceAdd, hh, Int.toNat_zero]
    repeat' (first | ((first | with_reducible refine cnd_ndec (fun hc => ?_) (fun hc => ?_) | with_reducible refine cnd_dec (fun hc => ?_) (fun hc => ?_) | with_reducible refine cnd_nb (fun hc => ?_) (fun hc => ?_) | with_reducible refine cnd_intro (fun hc => ?_) (fun hc => ?_)) <;> (first | (exfalso; omega) | (try simp -dsimp -implicitDefEqProofs (disch := omega) only [↓wpre, push_cast, reduceCtorEq, ↓reduceIte, Nat.reduceEqDiff, Nat.reduceLeDiff, Nat.reduceAdd, Nat.reduceLT, Int.reduceEq, Int.reduceLT, Int.reduceLE, Int.reduceNeg, Int.reduceAdd, hc, hh, Int.toNat_zero]))) | (with_reducible refine anyN_intro fun n' hn' => ?_; try simp -dsimp -implicitDefEqProofs (disch := omega) only [↓wpre, push_cast, reduceCtorEq, ↓reduceIte, Nat.reduceEqDiff, Nat.reduceLeDiff, Nat.reduceAdd, Nat.reduceLT, Int.reduceEq, Int.reduceLT, Int.reduceLE, Int.reduceNeg, Int.reduceAdd, hh, Int.toNat_zero]) | fail)
    all_goals
      first
        | (rw [if_pos ⟨by omega, by omega⟩] at hpe; have hw1 : 1 = w := by omega)
        | (rw [if_neg (by omega)] at hpe; have hw1 : w = w := rfl)
      try rw [hw32]
      simp only [hpe]
      refine xapp_out (n0 := n) (rows := d.map rn) (by (refine OutIs.mono (n := n1) ?_ (by omega); repeat (first | exact ho | refine OutIs.put ?_ (by omega) | refine OutIs.far ?_ (by omega)))) (by simp) (by intro r hr; simp at hr; subst hr; exact ⟨rfl, rfl⟩) (by simp only [List.length_map]; omega) ?_
      simp -dsimp -implicitDefEqProofs (disch := omega) only [↓wpre, push_cast, reduceCtorEq, ↓reduceIte, Nat.reduceEqDiff, Nat.reduceLeDiff, Nat.reduceAdd, Nat.reduceLT, Int.reduceEq, Int.reduceLT, Int.reduceLE, Int.reduceNeg, Int.reduceAdd, hh]
      refine againJ (d ++ [p], s.extract w s.size, some n2) (by dsimp only; rw [ByteArray.size_extract]; omega) ⟨by rw [hp]; simp, by dsimp only; rw [ByteArray.size_extract]; omega, by dsimp only; rw [List.map_append]; exact OutIs.new (n0 := n) (n := n2) (by omega), fun _ => by simp, ?_, by omega⟩ (by simp -dsimp -implicitDefEqProofs (disch := omega) only [↓wpre, push_cast, reduceCtorEq, ↓reduceIte, Nat.reduceEqDiff, Nat.reduceLeDiff, Nat.reduceAdd, Nat.reduceLT, Int.reduceEq, Int.reduceLT, Int.reduceLE, Int.reduceNeg, Int.reduceAdd, hh]; (try simp [outAV]); (try rw [← hw1]))
      exact (Qt.dropO (n := n2) (n0 := n) (E := 21) (sz := 1) (rows := d.map rn) (by (refine OutIs.mono (n := n1) ?_ (by omega); repeat (first | exact ho | refine OutIs.put ?_ (by omega) | refine OutIs.far ?_ (by omega)))) hq).hu (by omega)

theorem runes_c (hU : GU G) (s : T) (hs : s.size ≤ 1000000) : AFn Tryz.prog G 77 [.str s] H (.ls (decide (pts s ≠ [])) ((pts s).map rn)) := by
  intro n
  refine ACalls.frz (runes_run G H hU s hs n) ?_
  rintro r H1 n1 ⟨h1, ⟨h2, rfl⟩ | ⟨o, rfl, h3, h4, h5⟩⟩
  · exact ⟨fun _ => none, H, 0, fun _ _ h => (by cases h), h1, fun _ _ h => (by cases h), by rw [h2]; exact ⟨rfl, rfl⟩⟩
  · refine ⟨Ab.only o ⟨21, 1, (pts s).map rn⟩, H, 1, only_sub h3, h1, fun j x hj => ?_, ?_, rfl⟩
    · unfold Ab.only at hj
      split at hj
      · rename_i e; subst e; exact h4
      · cases hj
    · rw [frz_os_plain (fun r hr => by obtain ⟨x, _, rfl⟩ := List.mem_map.1 hr; rfl) (by simp)]
      simp [h5]
theorem even_rns (l : List Int) : Even 1 (l.map rn) = True := eq_true fun r hr => by
  obtain ⟨s, _, rfl⟩ := List.mem_map.1 hr; exact ⟨rfl, rfl⟩
/-- A row of numbers by their places. -/
def rowOf (f : Nat → Int) (n : Nat) : List (List AV) := (List.range n).map fun k => [AV.int (f k)]
theorem rowOf_get {f : Nat → Int} {n k : Nat} (h : k < n) : (rowOf f n)[k]? = some [AV.int (f k)] := by
  simp [rowOf, List.getElem?_range h]
theorem rowOf_set (f : Nat → Int) (n i : Nat) (v : Int) (g : Nat → Int) (h1 : g i = v) (h2 : ∀ k, k < n → k ≠ i → g k = f k) : (rowOf f n).set i [AV.int v] = rowOf g n := by
  unfold rowOf
  apply List.ext_getElem?
  intro k
  rw [List.getElem?_set]
  by_cases hk : k < n
  · rw [List.getElem?_map, List.getElem?_map, List.getElem?_range hk]
    by_cases e : i = k
    · subst e; simp [hk, h1]
    · rw [if_neg e]
      simp [h2 k hk (fun e' => e e'.symm)]
  · rw [List.getElem?_map, List.getElem?_map, List.getElem?_eq_none (by simpa using hk)]
    simp; omega
theorem rowOf_ext {f g : Nat → Int} {n : Nat} (h : ∀ k, k < n → f k = g k) : rowOf f n = rowOf g n := List.map_congr_left fun k hk => by rw [h k (List.mem_range.1 hk)]
set_option maxHeartbeats 3200000 in
theorem distance_c (nz nz' : Bool) (a b : List Int) (ha : a.length ≤ 100000) (hb : b.length ≤ 100000) : AFn Tryz.prog G 76 [.ls nz (a.map rn), .ls nz' (b.map rn)] H (.int (dist a b)) := by
  refine AFn.start mix F76 (by simp) fun n hlow => ?_
  simp -dsimp -implicitDefEqProofs (disch := omega) only [↓wpre, push_cast, reduceCtorEq, ↓reduceIte, Nat.reduceEqDiff, Nat.reduceLeDiff, Nat.reduceAdd, Nat.reduceLT, Int.reduceEq, Int.reduceLT, Int.reduceLE, Int.reduceNeg, Int.reduceAdd, c76]
  rw [xmake_int (by omega) (by omega) (by omega) (by omega)]
  have htn : ((b.length : Int) + 1).toNat = b.length + 1 := by omega
  simp -dsimp -implicitDefEqProofs (disch := omega) only [↓wpre, push_cast, reduceCtorEq, ↓reduceIte, Nat.reduceEqDiff, Nat.reduceLeDiff, Nat.reduceAdd, Nat.reduceLT, Int.reduceEq, Int.reduceLT, Int.reduceLE, Int.reduceNeg, Int.reduceAdd, htn]
  refine xw_loopJ (σ := Nat) (fun i => [(0, .ls nz (a.map rn)), (1, .ls nz' (b.map rn)), (5, .os n 0 (b.length + 1)), (18, .int (b.length + 1)), (19, .int i)]) (fun i H' n' => i ≤ b.length + 1 ∧ H' n = some ⟨3, 1, rowOf (fun k => if k < i then (k : Int) else 0) (b.length + 1)⟩ ∧ Qt H H' n ∧ n + 1 ≤ n') (fun i => b.length + 1 - i) 0 ⟨by omega, ?_, ?_, by omega⟩ (by simp -dsimp -implicitDefEqProofs (disch := omega) only [↓wpre, push_cast, reduceCtorEq, ↓reduceIte, Nat.reduceEqDiff, Nat.reduceLeDiff, Nat.reduceAdd, Nat.reduceLT, Int.reduceEq, Int.reduceLT, Int.reduceLE, Int.reduceNeg, Int.reduceAdd]; try rfl) ?_
  · rw [hu_same]
    simp only [rowOf, Nat.not_lt_zero, if_false]
    simp [List.map_const']
  · exact (Qt.refl hlow).hu (by omega)
  rintro i fr H1 n1 ⟨hi, hr, hq, hn1⟩ hh
  simp only [has_nil, has_cons, and_true] at hh hi hr
  by_cases hlt : (i : Int) < (b.length : Int) + 1
  · have hi0 : (0 : Int) ≤ i := by omega
    have hin : i < b.length + 1 := by omega
    have hget := rowOf_get (f := fun k => if k < i then (k : Int) else 0) hin
    have hset := rowOf_set (fun k => if k < i then (k : Int) else 0) (b.length + 1) i (i : Int) (fun k => if k < i + 1 then (k : Int) else 0) (by simp) (fun k _ hk => by
      by_cases h : k < i
      · rw [if_pos h, if_pos (by omega)]
      · rw [if_neg h, if_neg (by omega)])
    simp -dsimp -implicitDefEqProofs (disch := omega) only [↓wpre, push_cast, reduceCtorEq, ↓reduceIte, Nat.reduceEqDiff, Nat.reduceLeDiff, Nat.reduceAdd, Nat.reduceLT, Int.reduceEq, Int.reduceLT, Int.reduceLE, Int.reduceNeg, Int.reduceAdd, hh, hlt, hr, hi0, hin, hget, hset, Int.toNat_natCast]
    refine againJ (i + 1) (by omega) ⟨by omega, hu_same, by exact Qt.mono (n := n) (by repeat (first | exact hq | refine Qt.hu ?_ (by omega))) (by omega), by omega⟩ (by simp -dsimp -implicitDefEqProofs (disch := omega) only [↓wpre, push_cast, reduceCtorEq, ↓reduceIte, Nat.reduceEqDiff, Nat.reduceLeDiff, Nat.reduceAdd, Nat.reduceLT, Int.reduceEq, Int.reduceLT, Int.reduceLE, Int.reduceNeg, Int.reduceAdd, hh]; all_goals (try simp only [AV.lit.injEq, Value.int.injEq, Value.bool.injEq, true_and, and_true]); all_goals (try (repeat' apply And.intro)); all_goals (first | rfl | omega | simp_all | skip))
  · have hib : i = b.length + 1 := by omega
    have hr : H1 n = some ⟨3, 1, rowOf (dd a b 0) (b.length + 1)⟩ := by
      rw [hr, rowOf_ext (g := dd a b 0)]
      intro k hk
      rw [if_pos (by omega)]
      simp [dd]
    simp -dsimp -implicitDefEqProofs (disch := omega) only [↓wpre, push_cast, reduceCtorEq, ↓reduceIte, Nat.reduceEqDiff, Nat.reduceLeDiff, Nat.reduceAdd, Nat.reduceLT, Int.reduceEq, Int.reduceLT, Int.reduceLE, Int.reduceNeg, Int.reduceAdd, hh, hlt]
    clear hib
    have hq0 := hq
    refine xw_loopJ (σ := Nat) (fun i => [(0, .ls nz (a.map rn)), (1, .ls nz' (b.map rn)), (5, .os n 0 (b.length + 1)), (27, .ls nz (a.map rn)), (28, .int a.length), (29, .int i)]) (fun i H' n' => i ≤ a.length ∧ H' n = some ⟨3, 1, rowOf (dd a b i) (b.length + 1)⟩ ∧ Qt H H' n ∧ n + 1 ≤ n') (fun i => a.length - i) 0 ⟨by omega, hr, hq, by omega⟩ (by simp -dsimp -implicitDefEqProofs (disch := omega) only [↓wpre, push_cast, reduceCtorEq, ↓reduceIte, Nat.reduceEqDiff, Nat.reduceLeDiff, Nat.reduceAdd, Nat.reduceLT, Int.reduceEq, Int.reduceLT, Int.reduceLE, Int.reduceNeg, Int.reduceAdd, hh]) ?_
    clear hh hr hq hq0 hi hlt
    rintro i fr H2 n2 ⟨hi, hr, hq, hn2⟩ hh
    simp only [has_nil, has_cons, and_true] at hh hi hr
    by_cases hlt : (i : Int) < a.length
    · obtain ⟨x, hx⟩ : ∃ x, a[i]? = some x := ⟨_, List.getElem?_eq_getElem (by omega)⟩
      have hax : at0i a i = x := by rw [at0i, hx]; rfl
      have hg0 := rowOf_get (f := dd a b i) (n := b.length + 1) (k := 0) (by omega)
      have hs0 := rowOf_set (dd a b i) (b.length + 1) 0 ((i : Int) + 1) (fun k => if k ≤ 0 then dd a b (i + 1) k else dd a b i k) (by simp [dd]) (fun k _ hk => by rw [if_neg (by omega)])
      have hb0 : (0 : Int) < (b.length : Int) + 1 := by omega
      have hb0' : 0 < b.length + 1 := by omega
      simp -dsimp -implicitDefEqProofs (disch := omega) only [↓wpre, push_cast, reduceCtorEq, ↓reduceIte, Nat.reduceEqDiff, Nat.reduceLeDiff, Nat.reduceAdd, Nat.reduceLT, Int.reduceEq, Int.reduceLT, Int.reduceLE, Int.reduceNeg, Int.reduceAdd, hh, hlt, hr, even_rns, aidx_at rfl hx, hg0, hs0, hb0, hb0', Int.toNat_zero]
      refine xw_loopJ (σ := Nat) (fun j => [(0, .ls nz (a.map rn)), (1, .ls nz' (b.map rn)), (5, .os n 0 (b.length + 1)), (7, .int i), (8, .lit (.int .i32 x)), (9, .int (dd a b i j)), (27, .ls nz (a.map rn)), (28, .int a.length), (29, .int i), (41, .ls nz' (b.map rn)), (42, .int b.length), (43, .int j)]) (fun j H' n' => j ≤ b.length ∧ H' n = some ⟨3, 1, rowOf (fun k => if k ≤ j then dd a b (i + 1) k else dd a b i k) (b.length + 1)⟩ ∧ Qt H H' n ∧ n + 1 ≤ n') (fun j => b.length - j) 0 ⟨by omega, hu_same, by exact Qt.mono (n := n) (by repeat (first | exact hq | refine Qt.hu ?_ (by omega))) (by omega), by omega⟩ (by simp -dsimp -implicitDefEqProofs (disch := omega) only [↓wpre, push_cast, reduceCtorEq, ↓reduceIte, Nat.reduceEqDiff, Nat.reduceLeDiff, Nat.reduceAdd, Nat.reduceLT, Int.reduceEq, Int.reduceLT, Int.reduceLE, Int.reduceNeg, Int.reduceAdd, hh]) ?_
      clear hh hr hq hg0 hs0
      rintro j fr H3 n3 ⟨hj, hr, hq, hn3⟩ hh
      simp only [has_nil, has_cons, and_true] at hh hj hr
      by_cases hltj : (j : Int) < b.length
      · obtain ⟨y, hy⟩ : ∃ y, b[j]? = some y := ⟨_, List.getElem?_eq_getElem (by omega)⟩
        have hby : at0i b j = y := by rw [at0i, hy]; rfl
        have g1 := rowOf_get (f := fun k => if k ≤ j then dd a b (i + 1) k else dd a b i k) (n := b.length + 1) (k := j) (by omega)
        have g2 := rowOf_get (f := fun k => if k ≤ j then dd a b (i + 1) k else dd a b i k) (n := b.length + 1) (k := j + 1) (by omega)
        rw [if_pos (Nat.le_refl _)] at g1
        rw [if_neg (by omega)] at g2
        have b1 := dd_b a b i j
        have b2 := dd_b a b (i + 1) j
        have b3 := dd_b a b i (j + 1)
        have hj0 : (0 : Int) ≤ j := by omega
        have hj1 : (0 : Int) ≤ (j : Int) + 1 := by omega
        have hj2 : (j : Int) < (b.length : Int) + 1 := by omega
        have hj3 : (j : Int) + 1 < (b.length : Int) + 1 := by omega
        have hj4 : ((j : Int) + 1).toNat = j + 1 := by omega
        have hj5 : j < b.length + 1 := by omega
        have hj6 : j + 1 < b.length + 1 := by omega
        simp -dsimp -implicitDefEqProofs (disch := omega) only [↓wpre, push_cast, reduceCtorEq, ↓reduceIte, Nat.reduceEqDiff, Nat.reduceLeDiff, Nat.reduceAdd, Nat.reduceLT, Int.reduceEq, Int.reduceLT, Int.reduceLE, Int.reduceNeg, Int.reduceAdd, hh, hltj, hr, even_rns, aidx_at rfl hy, hj0, hj2, hj5]
        (first | with_reducible refine cnd_ndec (fun hc => ?_) (fun hc => ?_) | with_reducible refine cnd_dec (fun hc => ?_) (fun hc => ?_) | with_reducible refine cnd_nb (fun hc => ?_) (fun hc => ?_) | with_reducible refine cnd_intro (fun hc => ?_) (fun hc => ?_)) <;> (first | (exfalso; omega) | (try simp -dsimp -implicitDefEqProofs (disch := omega) only [↓wpre, push_cast, reduceCtorEq, ↓reduceIte, Nat.reduceEqDiff, Nat.reduceLeDiff, Nat.reduceAdd, Nat.reduceLT, Int.reduceEq, Int.reduceLT, Int.reduceLE, Int.reduceNeg, Int.reduceAdd, hc, hh]))
        all_goals
          simp -dsimp -implicitDefEqProofs (disch := omega) only [↓wpre, push_cast, reduceCtorEq, ↓reduceIte, Nat.reduceEqDiff, Nat.reduceLeDiff, Nat.reduceAdd, Nat.reduceLT, Int.reduceEq, Int.reduceLT, Int.reduceLE, Int.reduceNeg, Int.reduceAdd, hh, hr, g1, g2, hj0, hj1, hj2, hj3, hj4, hj5, hj6, Int.toNat_natCast]
          refine againJ (j + 1) (by omega) ⟨by omega, ?_, by exact Qt.mono (n := n) (by repeat (first | exact hq | refine Qt.hu ?_ (by omega))) (by omega), by omega⟩ (by simp -dsimp -implicitDefEqProofs (disch := omega) only [↓wpre, push_cast, reduceCtorEq, ↓reduceIte, Nat.reduceEqDiff, Nat.reduceLeDiff, Nat.reduceAdd, Nat.reduceLT, Int.reduceEq, Int.reduceLT, Int.reduceLE, Int.reduceNeg, Int.reduceAdd, hh]; all_goals (try simp only [AV.lit.injEq, Value.int.injEq, Value.bool.injEq, true_and, and_true]); all_goals (try (repeat' apply And.intro)); all_goals (first | rfl | omega | simp_all | skip))
          rw [hu_same, rowOf_set (fun k => if k ≤ j then dd a b (i + 1) k else dd a b i k) (b.length + 1) (j + 1) _ (fun k => if k ≤ j + 1 then dd a b (i + 1) k else dd a b i k) ?_ ?_]
          · rw [if_pos (Nat.le_refl _), dd, hax, hby]
            first | rw [if_pos hc, Int.add_zero] | rw [if_neg hc]
          · intro k _ hk
            by_cases h1 : k ≤ j
            · rw [if_pos h1, if_pos (by omega)]
            · rw [if_neg h1, if_neg (by omega)]
      · have hjb : j = b.length := by omega
        simp -dsimp -implicitDefEqProofs (disch := omega) only [↓wpre, push_cast, reduceCtorEq, ↓reduceIte, Nat.reduceEqDiff, Nat.reduceLeDiff, Nat.reduceAdd, Nat.reduceLT, Int.reduceEq, Int.reduceLT, Int.reduceLE, Int.reduceNeg, Int.reduceAdd, hh, hltj]
        refine againJ (i + 1) (by omega) ⟨by omega, ?_, by exact Qt.mono (n := n) (by repeat (first | exact hq | refine Qt.hu ?_ (by omega))) (by omega), by omega⟩ (by simp -dsimp -implicitDefEqProofs (disch := omega) only [↓wpre, push_cast, reduceCtorEq, ↓reduceIte, Nat.reduceEqDiff, Nat.reduceLeDiff, Nat.reduceAdd, Nat.reduceLT, Int.reduceEq, Int.reduceLT, Int.reduceLE, Int.reduceNeg, Int.reduceAdd, hh]; all_goals (try simp only [AV.lit.injEq, Value.int.injEq, Value.bool.injEq, true_and, and_true]); all_goals (try (repeat' apply And.intro)); all_goals (first | rfl | omega | simp_all | skip))
        rw [hr]
        congr 2
        exact rowOf_ext fun k hk => by rw [if_pos (by omega)]
    · have hia : i = a.length := by omega
      subst hia
      have hgl := rowOf_get (f := dd a b a.length) (n := b.length + 1) (k := b.length) (by omega)
      have hl0 : (0 : Int) ≤ b.length := by omega
      have hl1 : (b.length : Int) < (b.length : Int) + 1 := by omega
      have hl2 : b.length < b.length + 1 := by omega
      simp -dsimp -implicitDefEqProofs (disch := omega) only [↓wpre, push_cast, reduceCtorEq, ↓reduceIte, Nat.reduceEqDiff, Nat.reduceLeDiff, Nat.reduceAdd, Nat.reduceLT, Int.reduceEq, Int.reduceLT, Int.reduceLE, Int.reduceNeg, Int.reduceAdd, hh, hlt, hr, hgl, hl0, hl1, hl2, Int.toNat_natCast]
      exact ⟨rfl, hq.1⟩
end Go.Proofs.YtblhbafoncfhdaaGreatDoor

