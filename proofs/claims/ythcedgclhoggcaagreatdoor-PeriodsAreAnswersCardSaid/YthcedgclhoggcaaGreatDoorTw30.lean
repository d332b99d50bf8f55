/- Contracts of functions of the program: each computes what its model says; the conditions stand at each. -/
import Derived.Test.YthcedgclhoggcaaGreatDoorA5
import Derived.Test.YthcedgclhoggcaaGreatDoorTw25
import Derived.Test.YthcedgclhoggcaaGreatDoorCl4
import Derived.Test.YthcedgclhoggcaaGreatDoorTc3e
import Derived.Test.YthcedgclhoggcaaGreatDoorTs2
set_option linter.unusedSimpArgs false
set_option linter.unusedVariables false
set_option maxRecDepth 20000
set_option pp.deepTerms false
set_option pp.deepTerms.threshold 3
namespace Go.Proofs.YthcedgclhoggcaaGreatDoor
open Go Go.Ab Go.Pm Go.Cm
variable (G : Nat → AV) (H : Nat → Option AObj)
theorem sortR_c (o : Nat) (l : List Int) (hl : l.length ≤ 1000000) (n : Nat) (ho : H o = some ⟨3, 1, l.map IC⟩) : ACalls Tryz.prog G 51 [.os o 0 l.length] H n fun r H' n' => H' = hu H o (some ⟨3, 1, (msortI l).map IC⟩) := by
  have h := ACalls.of_row (P := Tryz.prog) (G := G) (n := n) (f := 51) (enters_of_b (by kernel_rfl)) (zs := l) (ds := msortI l) (jr := []) (res := none) (H := H) (o := o) (E := 3) (by rw [List.append_nil]; exact ho) (msortI_length l) (fun m h => by cases h) (fun w blk cap hH hb hc => Tryz.slices_Sort_int blk 0 cap l w hH hb (by omega))
  refine h.mono fun r H' n' h => ?_
  rw [h.2, List.append_nil]
theorem compact_len (l : List Int) : (Lib.compact l).length ≤ l.length := cut_length _ _
theorem compactR_c (o : Nat) (l : List Int) (hl : l.length ≤ 1000000) (n : Nat) (ho : H o = some ⟨3, 1, l.map IC⟩) : ACalls Tryz.prog G 91 [.os o 0 l.length] H n fun r H' n' => r = .os o 0 (Lib.compact l).length ∧ ∃ jr, H' = hu H o (some ⟨3, 1, (Lib.compact l).map IC ++ jr⟩) := by
  have hcl := compact_len l
  have h := ACalls.of_row (P := Tryz.prog) (G := G) (n := n) (f := 91) (enters_of_b (by kernel_rfl)) (zs := l) (ds := Lib.compact l ++ List.replicate (l.length - (Lib.compact l).length) 0) (jr := []) (res := some (Lib.compact l).length) (H := H) (o := o) (E := 3) (by rw [List.append_nil]; exact ho) (by simp; omega) (fun m h => by cases h; exact hcl) (fun w blk cap hH hb hc => (Tryz.slices_Compact_int blk 0 cap l w hH (by omega) hc).mono fun e w' ⟨k1, q, k2⟩ => ⟨k1, q, #[], by rw [k2]; simp⟩)
  refine h.mono fun r H' n' h => ⟨h.1, (List.replicate (l.length - (Lib.compact l).length) 0).map IC, ?_⟩
  rw [h.2, List.append_nil, List.map_append]
theorem rep_nil {w : World} {g : Gh} {vs : Array Value} (h : RepList w g [.ls false []] vs.toList) : vs = #[.slice none 0 0] := by
  obtain ⟨v, vs', h1, ⟨a, cap, h2, h3, h4, h5, h6, h7⟩, h8⟩ := h
  have h8 : vs' = [] := h8
  subst h8
  cases a with
  | some a => simp at h5
  | none =>
    have := (h6 rfl).1
    subst this
    subst h2
    exact Array.toList_inj.1 (by simpa using h1)
theorem sortNil_c : AFn Tryz.prog G 51 [.ls false []] H (.tup []) := by
  intro n w g vs h1 h2 h3 h4 h5
  rw [rep_nil h5]
  refine .inl ⟨enters_of_b (by kernel_rfl), (Tryz.slices_Sort_int_none none 0 w).mono fun e w' ⟨k1, k2⟩ => ?_⟩
  subst k2
  exact ⟨_, _, g, k1, ⟨rfl, h2⟩, ⟨#[], rfl, rfl⟩, h1, Step.refl _ _⟩
theorem compactNil_c : AFn Tryz.prog G 91 [.ls false []] H (.ls false []) := by
  intro n w g vs h1 h2 h3 h4 h5
  rw [rep_nil h5]
  refine .inl ⟨enters_of_b (by kernel_rfl), (Tryz.slices_Compact_int_empty none 0 w).mono fun e w' ⟨k1, k2⟩ => ?_⟩
  subst k2
  exact ⟨_, _, g, k1, ⟨rfl, h2⟩, ⟨none, 0, rfl, by simp, by simp [maxLen], rfl, by simp, by simp⟩, h1, Step.refl _ _⟩
theorem end_c (x : Int) : AFn Tryz.prog G 93 [.int x] H (.bool (decide (4321440 ≤ x))) := by
  refine AFn.start mix F93 (by simp) fun k hlow => ?_
  simp -dsimp -implicitDefEqProofs (disch := omega) only [↓wpre, push_cast, reduceCtorEq, ↓reduceIte, Nat.reduceEqDiff, Nat.reduceLeDiff, Nat.reduceAdd, Nat.reduceMul, Nat.reduceSub, Nat.reduceLT, Int.reduceEq, Int.reduceLT, Int.reduceLE, Int.reduceNeg, Int.reduceAdd, Int.reduceSub, c93]
theorem at_midJ (a b : List Int) (x : Int) (jr : List (List AV)) : (List.map IC (a ++ x :: b) ++ jr)[a.length]? = some (IC x) := by
  rw [List.getElem?_append_left (by simp)]; exact at_mid IC a b x
def idxI (p : Int → Bool) : Int → List Int → Int
  | _, [] => -1
  | i, y :: r => if p y = true then i else idxI p (i + 1) r
theorem indexI_c (o : Nat) (l : List Int) (jr : List (List AV)) (hl : l.length ≤ 1000000) (f : FuncId) (p : Int → Bool) (hp : ∀ x, AFn Tryz.prog G f [.int x] H (.bool (p x))) (ho : H o = some ⟨3, 1, l.map IC ++ jr⟩) : AFn Tryz.prog G 140 [.os o 0 l.length, .fn (.func f) []] H (.int (idxI p 0 l)) := by
  refine AFn.start mix F140 (by simp) fun k hlow => ?_
  simp -dsimp -implicitDefEqProofs (disch := omega) only [↓wpre, push_cast, reduceCtorEq, ↓reduceIte, Nat.reduceEqDiff, Nat.reduceLeDiff, Nat.reduceAdd, Nat.reduceMul, Nat.reduceSub, Nat.reduceLT, Int.reduceEq, Int.reduceLT, Int.reduceLE, Int.reduceNeg, Int.reduceAdd, Int.reduceSub, c140]
  refine xw_loopJ (σ := List Int × List Int) (fun t => [(0, .os o 0 l.length), (1, .fn (.func f) []), (6, .os o 0 l.length), (7, .int l.length), (8, .int t.1.length)]) (fun t H' n' => l = t.1 ++ t.2 ∧ idxI p t.1.length t.2 = idxI p 0 l ∧ H' = H) (fun t => t.2.length) ([], l) ⟨rfl, rfl, rfl⟩ (by simp -dsimp -implicitDefEqProofs (disch := omega) only [↓wpre, push_cast, reduceCtorEq, ↓reduceIte, Nat.reduceEqDiff, Nat.reduceLeDiff, Nat.reduceAdd, Nat.reduceMul, Nat.reduceSub, Nat.reduceLT, Int.reduceEq, Int.reduceLT, Int.reduceLE, Int.reduceNeg, Int.reduceAdd, Int.reduceSub]) ?_
  rintro ⟨a, b⟩ fr H' n ⟨rfl, hf, rfl⟩ hh
  simp only [has_nil, has_cons, and_true, List.length_append] at hh hl hf
  cases b with
  | nil =>
    simp -dsimp -implicitDefEqProofs (disch := omega) only [↓wpre, push_cast, reduceCtorEq, ↓reduceIte, Nat.reduceEqDiff, Nat.reduceLeDiff, Nat.reduceAdd, Nat.reduceMul, Nat.reduceSub, Nat.reduceLT, Int.reduceEq, Int.reduceLT, Int.reduceLE, Int.reduceNeg, Int.reduceAdd, Int.reduceSub, hh]
    simp only [List.append_nil] at hf
    rw [← hf]; rfl
  | cons y b =>
    simp only [List.length_cons] at hl
    have hlt : (a.length : Int) < a.length + (b.length + 1) := by omega
    have hg := at_midJ a b y jr
    rw [idxI] at hf
    simp -dsimp -implicitDefEqProofs (disch := omega) only [↓wpre, push_cast, reduceCtorEq, ↓reduceIte, Nat.reduceEqDiff, Nat.reduceLeDiff, Nat.reduceAdd, Nat.reduceMul, Nat.reduceSub, Nat.reduceLT, Int.reduceEq, Int.reduceLT, Int.reduceLE, Int.reduceNeg, Int.reduceAdd, Int.reduceSub, hh, hlt, ho, hg, Int.toNat_natCast]
    (first | with_reducible refine (hp y).x fun n' hn' => ?_ | with_reducible refine xfn_intro (hp y) ?_); try simp -dsimp -implicitDefEqProofs (disch := omega) only [↓wpre, push_cast, reduceCtorEq, ↓reduceIte, Nat.reduceEqDiff, Nat.reduceLeDiff, Nat.reduceAdd, Nat.reduceMul, Nat.reduceSub, Nat.reduceLT, Int.reduceEq, Int.reduceLT, Int.reduceLE, Int.reduceNeg, Int.reduceAdd, Int.reduceSub, hh]
    (first | with_reducible refine cnd_ndec (fun hc => ?_) (fun hc => ?_) | with_reducible refine cnd_dec (fun hc => ?_) (fun hc => ?_) | with_reducible refine cnd_nb (fun hc => ?_) (fun hc => ?_) | with_reducible refine cnd_intro (fun hc => ?_) (fun hc => ?_)) <;> (first | (exfalso; omega) | (try simp -dsimp -implicitDefEqProofs (disch := omega) only [↓wpre, push_cast, reduceCtorEq, ↓reduceIte, Nat.reduceEqDiff, Nat.reduceLeDiff, Nat.reduceAdd, Nat.reduceMul, Nat.reduceSub, Nat.reduceLT, Int.reduceEq, Int.reduceLT, Int.reduceLE, Int.reduceNeg, Int.reduceAdd, Int.reduceSub, hc, hh]))
    · rw [if_pos hc] at hf
      rw [← hf]
    · refine againJ (a ++ [y], b) (Nat.lt_succ_self _) ⟨by simp, ?_, rfl⟩ (by simp -dsimp -implicitDefEqProofs (disch := omega) only [↓wpre, push_cast, reduceCtorEq, ↓reduceIte, Nat.reduceEqDiff, Nat.reduceLeDiff, Nat.reduceAdd, Nat.reduceMul, Nat.reduceSub, Nat.reduceLT, Int.reduceEq, Int.reduceLT, Int.reduceLE, Int.reduceNeg, Int.reduceAdd, Int.reduceSub, hh])
      rw [← hf, if_neg (by simpa using hc)]
      simp
theorem idxI_spec (p : Int → Bool) : ∀ (l : List Int) (i : Int), ((∀ y ∈ l, p y = false) ∧ idxI p i l = -1) ∨ ∃ pre x post, l = pre ++ x :: post ∧ (∀ y ∈ pre, p y = false) ∧ p x = true ∧ idxI p i l = i + pre.length
  | [], i => .inl ⟨by simp, rfl⟩
  | y :: r, i => by
    by_cases h : p y = true
    · exact .inr ⟨[], y, r, rfl, by simp, h, by simp [idxI, h]⟩
    · have h' : p y = false := by simpa using h
      rcases idxI_spec p r (i + 1) with ⟨h1, h2⟩ | ⟨pre, x, post, h1, h2, h3, h4⟩
      · exact .inl ⟨by simpa [h'] using h1, by rw [idxI, if_neg h]; exact h2⟩
      · refine .inr ⟨y :: pre, x, post, by simp [h1], by simpa [h'] using h2, h3, ?_⟩
        rw [idxI, if_neg h, h4]
        simp only [List.length_cons]
        omega
theorem deleteNil_c (f : FuncId) : AFn Tryz.prog G 92 [.ls false [], .fn (.func f) []] H (.ls false []) := by
  refine AFn.start mix F92 (by simp) fun k hlow => ?_
  simp -dsimp -implicitDefEqProofs (disch := omega) only [↓wpre, push_cast, reduceCtorEq, ↓reduceIte, Nat.reduceEqDiff, Nat.reduceLeDiff, Nat.reduceAdd, Nat.reduceMul, Nat.reduceSub, Nat.reduceLT, Int.reduceEq, Int.reduceLT, Int.reduceLE, Int.reduceNeg, Int.reduceAdd, Int.reduceSub, c92]
  have h : AFn Tryz.prog G 140 [.ls false [], .fn (.func f) []] H (.int (-1)) := by
    refine AFn.start mix F140 (by simp) fun k hlow => ?_
    simp -dsimp -implicitDefEqProofs (disch := omega) only [↓wpre, push_cast, reduceCtorEq, ↓reduceIte, Nat.reduceEqDiff, Nat.reduceLeDiff, Nat.reduceAdd, Nat.reduceMul, Nat.reduceSub, Nat.reduceLT, Int.reduceEq, Int.reduceLT, Int.reduceLE, Int.reduceNeg, Int.reduceAdd, Int.reduceSub, c140]
    refine xw_loopJ (σ := Unit) (fun t => [(7, .int 0), (8, .int 0)]) (fun t H' n' => H' = H) (fun t => 0) () rfl (by simp -dsimp -implicitDefEqProofs (disch := omega) only [↓wpre, push_cast, reduceCtorEq, ↓reduceIte, Nat.reduceEqDiff, Nat.reduceLeDiff, Nat.reduceAdd, Nat.reduceMul, Nat.reduceSub, Nat.reduceLT, Int.reduceEq, Int.reduceLT, Int.reduceLE, Int.reduceNeg, Int.reduceAdd, Int.reduceSub]) ?_
    rintro ⟨⟩ fr H' n rfl hh
    simp only [has_nil, has_cons, and_true] at hh
    simp -dsimp -implicitDefEqProofs (disch := omega) only [↓wpre, push_cast, reduceCtorEq, ↓reduceIte, Nat.reduceEqDiff, Nat.reduceLeDiff, Nat.reduceAdd, Nat.reduceMul, Nat.reduceSub, Nat.reduceLT, Int.reduceEq, Int.reduceLT, Int.reduceLE, Int.reduceNeg, Int.reduceAdd, Int.reduceSub, hh]
  refine h.x fun n' hn' => ?_
  simp -dsimp -implicitDefEqProofs (disch := omega) only [↓wpre, push_cast, reduceCtorEq, ↓reduceIte, Nat.reduceEqDiff, Nat.reduceLeDiff, Nat.reduceAdd, Nat.reduceMul, Nat.reduceSub, Nat.reduceLT, Int.reduceEq, Int.reduceLT, Int.reduceLE, Int.reduceNeg, Int.reduceAdd, Int.reduceSub]
theorem deleteI_c (o : Nat) (l : List Int) (jr : List (List AV)) (hl : l.length ≤ 1000000) (f : FuncId) (p : Int → Bool) (hp : ∀ H2 x, AFn Tryz.prog G f [.int x] H2 (.bool (p x))) (ho : H o = some ⟨3, 1, l.map IC ++ jr⟩) (n : Nat) : ACalls Tryz.prog G 92 [.os o 0 l.length, .fn (.func f) []] H n fun r H' n' => r = .os o 0 (l.filter fun x => !p x).length ∧ ∃ jr', H' = hu H o (some ⟨3, 1, (l.filter fun x => !p x).map IC ++ jr'⟩) := by
  refine ACalls.start mix F92 (by simp) fun hlow => ?_
  simp -dsimp -implicitDefEqProofs (disch := omega) only [↓wpre, push_cast, reduceCtorEq, ↓reduceIte, Nat.reduceEqDiff, Nat.reduceLeDiff, Nat.reduceAdd, Nat.reduceMul, Nat.reduceSub, Nat.reduceLT, Int.reduceEq, Int.reduceLT, Int.reduceLE, Int.reduceNeg, Int.reduceAdd, Int.reduceSub, c92]
  refine (indexI_c G H o l jr hl f p (hp H) ho).x fun n' hn' => ?_
  simp -dsimp -implicitDefEqProofs (disch := omega) only [↓wpre, push_cast, reduceCtorEq, ↓reduceIte, Nat.reduceEqDiff, Nat.reduceLeDiff, Nat.reduceAdd, Nat.reduceMul, Nat.reduceSub, Nat.reduceLT, Int.reduceEq, Int.reduceLT, Int.reduceLE, Int.reduceNeg, Int.reduceAdd, Int.reduceSub, true_and]
  rcases idxI_spec p l 0 with ⟨h1, h2⟩ | ⟨pre, x, post, rfl, h1, h2, h3⟩
  · have hfl : l.filter (fun x => !p x) = l := by
      rw [List.filter_eq_self]; intro y hy; simp [h1 y hy]
    simp -dsimp -implicitDefEqProofs (disch := omega) only [↓wpre, push_cast, reduceCtorEq, ↓reduceIte, Nat.reduceEqDiff, Nat.reduceLeDiff, Nat.reduceAdd, Nat.reduceMul, Nat.reduceSub, Nat.reduceLT, Int.reduceEq, Int.reduceLT, Int.reduceLE, Int.reduceNeg, Int.reduceAdd, Int.reduceSub, h2]
    refine fin_intro (Sub.refl _) ⟨by rw [hfl], jr, ?_⟩
    rw [hfl, hu_self H ho]
  · rw [Int.zero_add] at h3
    have hm1 : ¬ (pre.length : Int) = -1 := by omega
    simp -dsimp -implicitDefEqProofs (disch := omega) only [↓wpre, push_cast, reduceCtorEq, ↓reduceIte, Nat.reduceEqDiff, Nat.reduceLeDiff, Nat.reduceAdd, Nat.reduceMul, Nat.reduceSub, Nat.reduceLT, Int.reduceEq, Int.reduceLT, Int.reduceLE, Int.reduceNeg, Int.reduceAdd, Int.reduceSub, h3, hm1]
    have hof : pre.filter (fun x => !p x) = pre := by
      rw [List.filter_eq_self]; intro y hy; simp [h1 y hy]
    refine xw_loopJ (σ := List Int × List Int × List Int × List Int) (fun t => [(0, .os o 0 (pre ++ x :: post).length), (1, .fn (.func f) []), (5, .int t.2.1.length), (6, .int t.1.length)]) (fun t H' n' => pre ++ x :: post = t.1 ++ t.2.2.2 ∧ t.1.filter (fun x => !p x) = t.2.1 ∧ t.2.1.length + t.2.2.1.length = t.1.length ∧ t.2.2.1 ≠ [] ∧ ∃ R, R = (t.2.1 ++ (t.2.2.1 ++ t.2.2.2)).map IC ++ jr ∧ H' = hu H o (some ⟨3, 1, R⟩)) (fun t => t.2.2.2.length) (pre ++ [x], pre, [x], post) ⟨by simp, by rw [List.filter_append, hof]; simp [h2], by simp, by simp, _, rfl, by rw [show pre ++ ([x] ++ post) = pre ++ x :: post by simp, hu_self H ho]⟩ (by simp only [List.length_append, List.length_cons] at hl; simp -dsimp -implicitDefEqProofs (disch := omega) only [↓wpre, push_cast, reduceCtorEq, ↓reduceIte, Nat.reduceEqDiff, Nat.reduceLeDiff, Nat.reduceAdd, Nat.reduceMul, Nat.reduceSub, Nat.reduceLT, Int.reduceEq, Int.reduceLT, Int.reduceLE, Int.reduceNeg, Int.reduceAdd, Int.reduceSub, h3]; try simp) ?_
    generalize pre ++ x :: post = l0 at hl ho ⊢
    clear h1 h2 h3 hm1 hof
    rintro ⟨a, kept, junk, b⟩ fr H' n1 ⟨rfl, hf, hlen, hj, R, hR, rfl⟩ hh
    simp only [has_nil, has_cons, and_true, List.length_append] at hh hl hlen
    dsimp only at hR hf hj
    cases b with
    | nil =>
      have hjl : 0 < junk.length := List.length_pos_iff.2 hj
      simp only [List.append_nil, List.length_nil, Nat.add_zero] at hh hl
      have hf2 : (a ++ []).filter (fun x => !p x) = kept := by rw [List.append_nil]; exact hf
      have hcut : ∀ x len, CutOk (hu H o (some ⟨3, 1, x⟩)) 1 (.os o 0 len) = True := fun _ _ => eq_true ⟨_, hu_same, rfl⟩
      have hkl : kept.length < a.length := by omega
      have hrl : a.length ≤ R.length := by rw [hR]; simp; omega
      have htk : R.take kept.length = kept.map IC := by
        rw [hR, List.take_append_of_le_length (by simp), List.map_append, List.take_append_of_le_length (by simp), List.take_of_length_le (by simp)]
      have hooh : hu H o (some ⟨3, 1, R⟩) o = some ⟨3, 1, R⟩ := hu_same
      by_cases h0 : kept.length = 0
      · have hz : kept = [] := List.length_eq_zero_iff.1 h0
        have ht0 : Int.toNat 0 = 0 := rfl
        simp -dsimp -implicitDefEqProofs (disch := omega) only [↓wpre, push_cast, reduceCtorEq, ↓reduceIte, Nat.reduceEqDiff, Nat.reduceLeDiff, Nat.reduceAdd, Nat.reduceMul, Nat.reduceSub, Nat.reduceLT, Int.reduceEq, Int.reduceLT, Int.reduceLE, Int.reduceNeg, Int.reduceAdd, Int.reduceSub, hh, Int.toNat_natCast, hcut, h0, ht0]
        rw [xclear_os hooh rfl (by decide) (by omega)]
        simp -dsimp -implicitDefEqProofs (disch := omega) only [↓wpre, push_cast, reduceCtorEq, ↓reduceIte, Nat.reduceEqDiff, Nat.reduceLeDiff, Nat.reduceAdd, Nat.reduceMul, Nat.reduceSub, Nat.reduceLT, Int.reduceEq, Int.reduceLT, Int.reduceLE, Int.reduceNeg, Int.reduceAdd, Int.reduceSub, hh, Int.toNat_natCast, hcut, h0, ht0, hu_hu]
        refine fin_intro (H' := hu H o (some ⟨3, 1, List.replicate a.length [AV.int 0] ++ R.drop a.length⟩)) ?_ ⟨by rw [hf2, hz]; rfl, List.replicate a.length [AV.int 0] ++ R.drop a.length, by rw [hf2, hz]; rfl⟩
        first | exact Sub.refl _ | (simp only [hu_hu, Nat.zero_add, List.take_zero, List.nil_append]; exact Sub.refl _) | trace_state
      · simp -dsimp -implicitDefEqProofs (disch := omega) only [↓wpre, push_cast, reduceCtorEq, ↓reduceIte, Nat.reduceEqDiff, Nat.reduceLeDiff, Nat.reduceAdd, Nat.reduceMul, Nat.reduceSub, Nat.reduceLT, Int.reduceEq, Int.reduceLT, Int.reduceLE, Int.reduceNeg, Int.reduceAdd, Int.reduceSub, hh, Int.toNat_natCast, hcut]
        rw [xclear_os hooh rfl (by decide) (by omega)]
        simp -dsimp -implicitDefEqProofs (disch := omega) only [↓wpre, push_cast, reduceCtorEq, ↓reduceIte, Nat.reduceEqDiff, Nat.reduceLeDiff, Nat.reduceAdd, Nat.reduceMul, Nat.reduceSub, Nat.reduceLT, Int.reduceEq, Int.reduceLT, Int.reduceLE, Int.reduceNeg, Int.reduceAdd, Int.reduceSub, hh, Int.toNat_natCast, hcut, hu_hu]
        refine fin_intro (H' := hu H o (some ⟨3, 1, kept.map IC ++ (List.replicate (a.length - kept.length) [AV.int 0] ++ R.drop (kept.length + (a.length - kept.length)))⟩)) ?_ ⟨by rw [hf2], List.replicate (a.length - kept.length) [AV.int 0] ++ R.drop (kept.length + (a.length - kept.length)), by rw [hf2]⟩
        first | (rw [htk]; exact Sub.refl _) | (simp only [hu_hu, htk]; exact Sub.refl _) | trace_state
    | cons y b =>
      simp only [List.length_cons] at hl
      have hlt : (a.length : Int) < a.length + (b.length + 1) := by omega
      cases junk with
      | nil => exact absurd rfl hj
      | cons z junk =>
        simp only [List.length_cons] at hlen
        simp only [List.cons_append] at hR
        have hg : R[a.length]? = some (IC y) := by
          rw [hR, ← hlen, show kept ++ z :: (junk ++ y :: b) = (kept ++ z :: junk) ++ y :: b by simp, show kept.length + (junk.length + 1) = (kept ++ z :: junk).length by simp]
          exact at_midJ (kept ++ z :: junk) b y jr
        have hg2 : R[kept.length]? = some (IC z) := by rw [hR]; exact at_midJ kept (junk ++ y :: b) z jr
        have hset : R.set kept.length (IC y) = List.map IC ((kept ++ [y]) ++ ((junk ++ [y]) ++ b)) ++ jr := by
          rw [hR, List.set_append_left _ _ (by simp), set_mid IC kept (junk ++ y :: b) z y]
          simp
        simp -dsimp -implicitDefEqProofs (disch := omega) only [↓wpre, push_cast, reduceCtorEq, ↓reduceIte, Nat.reduceEqDiff, Nat.reduceLeDiff, Nat.reduceAdd, Nat.reduceMul, Nat.reduceSub, Nat.reduceLT, Int.reduceEq, Int.reduceLT, Int.reduceLE, Int.reduceNeg, Int.reduceAdd, Int.reduceSub, hh, hlt, hu_same, hg, Int.toNat_natCast]
        refine AFn.x (hp _ y) fun n2 hn2 => ?_
        simp -dsimp -implicitDefEqProofs (disch := omega) only [↓wpre, push_cast, reduceCtorEq, ↓reduceIte, Nat.reduceEqDiff, Nat.reduceLeDiff, Nat.reduceAdd, Nat.reduceMul, Nat.reduceSub, Nat.reduceLT, Int.reduceEq, Int.reduceLT, Int.reduceLE, Int.reduceNeg, Int.reduceAdd, Int.reduceSub, hh, hu_same, hg2, Int.toNat_natCast]
        repeat' (first | ((first | with_reducible refine cnd_ndec (fun hc => ?_) (fun hc => ?_) | with_reducible refine cnd_dec (fun hc => ?_) (fun hc => ?_) | with_reducible refine cnd_nb (fun hc => ?_) (fun hc => ?_) | with_reducible refine cnd_intro (fun hc => ?_) (fun hc => ?_)) <;> (first | (exfalso; omega) | (try simp -dsimp -implicitDefEqProofs (disch := omega) only [↓wpre, push_cast, reduceCtorEq, ↓reduceIte, Nat.reduceEqDiff, Nat.reduceLeDiff, Nat.reduceAdd, Nat.reduceMul, Nat.reduceSub, Nat.reduceLT, Int.reduceEq, Int.reduceLT, Int.reduceLE, Int.reduceNeg, Int.reduceAdd, Int.reduceSub, hc, hh, hu_same, hg2, hset, Int.toNat_natCast]))) | (with_reducible refine anyN_intro fun n' hn' => ?_; try simp -dsimp -implicitDefEqProofs (disch := omega) only [↓wpre, push_cast, reduceCtorEq, ↓reduceIte, Nat.reduceEqDiff, Nat.reduceLeDiff, Nat.reduceAdd, Nat.reduceMul, Nat.reduceSub, Nat.reduceLT, Int.reduceEq, Int.reduceLT, Int.reduceLE, Int.reduceNeg, Int.reduceAdd, Int.reduceSub, hh, hu_same, hg2, hset, Int.toNat_natCast]) | fail)
        · have hfy : (a ++ [y]).filter (fun x => !p x) = kept ++ [y] := by rw [List.filter_append, hf]; simp [hc]
          refine againJ (a ++ [y], kept ++ [y], junk ++ [y], b) (Nat.lt_succ_self _) ⟨by simp, hfy, by simp only [List.length_append, List.length_cons, List.length_nil]; omega, by simp, _, rfl, ?_⟩ (by simp -dsimp -implicitDefEqProofs (disch := omega) only [↓wpre, push_cast, reduceCtorEq, ↓reduceIte, Nat.reduceEqDiff, Nat.reduceLeDiff, Nat.reduceAdd, Nat.reduceMul, Nat.reduceSub, Nat.reduceLT, Int.reduceEq, Int.reduceLT, Int.reduceLE, Int.reduceNeg, Int.reduceAdd, Int.reduceSub, hh]; try simp)
          first | rfl | (rw [hu_hu]) | trace_state
        · have hfy : (a ++ [y]).filter (fun x => !p x) = kept := by rw [List.filter_append, hf]; simp [hc]
          refine againJ (a ++ [y], kept, z :: (junk ++ [y]), b) (Nat.lt_succ_self _) ⟨by simp, hfy, by simp only [List.length_append, List.length_cons, List.length_nil]; omega, by simp, R, by rw [hR]; simp, rfl⟩ (by simp -dsimp -implicitDefEqProofs (disch := omega) only [↓wpre, push_cast, reduceCtorEq, ↓reduceIte, Nat.reduceEqDiff, Nat.reduceLeDiff, Nat.reduceAdd, Nat.reduceMul, Nat.reduceSub, Nat.reduceLT, Int.reduceEq, Int.reduceLT, Int.reduceLE, Int.reduceNeg, Int.reduceAdd, Int.reduceSub, hh]; try simp)
end Go.Proofs.YthcedgclhoggcaaGreatDoor
