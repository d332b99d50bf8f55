/- Contracts of functions of the program: each computes what its model says; the conditions stand at each. -/
import Derived.Test.YthcedgclhoggcaaGreatDoorTw13
import Derived.Test.YthcedgclhoggcaaGreatDoorTc3b
set_option linter.unusedSimpArgs false
set_option linter.unusedVariables false
set_option maxRecDepth 20000
set_option pp.deepTerms false
set_option pp.deepTerms.threshold 3
namespace Go.Proofs.YthcedgclhoggcaaGreatDoor
open Go Go.Ab Go.Pm Go.Cm
variable (G : Nat → AV) (H : Nat → Option AObj)
theorem clone_c (l : List Stm) (hl : l ≠ []) (hl2 : l.length ≤ 1000000) (n : Nat) : ACalls Tryz.prog G 15 [.ls true (l.map Stm.c)] H n fun r H' n' => r = .os (n + 1) 0 l.length ∧ H' = hu H (n + 1) (some ⟨43, 8, l.map Stm.c⟩) := by
  refine ACalls.start mix F15o (by simp) fun hlow => ?_
  have hlp := List.length_pos_iff.2 hl
  simp -dsimp -implicitDefEqProofs (disch := omega) only [↓wpre, ↓wmap, push_cast, reduceCtorEq, ↓reduceIte, Nat.reduceEqDiff, Nat.reduceLeDiff, Nat.reduceAdd, Nat.reduceMul, Nat.reduceMod, Nat.reduceSub, Nat.reduceLT, Int.reduceEq, Int.reduceLT, Int.reduceLE, Int.reduceNeg, Int.reduceAdd, Int.reduceSub, c15o]
  rw [xapp_os (rows := []) (len := 0) hu_same rfl (even_stms l) (by simp; omega) (by simp; omega)]
  simp -dsimp -implicitDefEqProofs (disch := omega) only [↓wpre, ↓wmap, push_cast, reduceCtorEq, ↓reduceIte, Nat.reduceEqDiff, Nat.reduceLeDiff, Nat.reduceAdd, Nat.reduceMul, Nat.reduceMod, Nat.reduceSub, Nat.reduceLT, Int.reduceEq, Int.reduceLT, Int.reduceLE, Int.reduceNeg, Int.reduceAdd, Int.reduceSub, true_and]
  intro j x hj
  by_cases h : j = n + 1
  · subst h; rw [hu_same] at hj ⊢; exact hj
  · rw [hu_ne h] at hj ⊢
    have := hlow j x hj
    rw [hu_ne (by omega), hu_ne (by omega)]
    exact hj
theorem later_c (s : Stm) (q : Nat) (qm : Qm) (hq : H q = some ⟨34, 6, [qm.c]⟩) : AFn Tryz.prog G 16 [.agg s.c, .op q 0 0] H (.bool (decide (qm.at' < s.at'))) := by
  refine AFn.start mix F16 (by simp) fun k hlow => ?_
  simp -dsimp -implicitDefEqProofs (disch := omega) only [↓wpre, ↓wmap, push_cast, reduceCtorEq, ↓reduceIte, Nat.reduceEqDiff, Nat.reduceLeDiff, Nat.reduceAdd, Nat.reduceMul, Nat.reduceMod, Nat.reduceSub, Nat.reduceLT, Int.reduceEq, Int.reduceLT, Int.reduceLE, Int.reduceNeg, Int.reduceAdd, Int.reduceSub, c16, hq]
def idxP (p : Stm → Bool) : Int → List Stm → Int
  | _, [] => -1
  | i, y :: r => if p y = true then i else idxP p (i + 1) r
theorem indexFunc_c (o q : Nat) (l : List Stm) (hl : l.length ≤ 1000000) (f : FuncId) (p : Stm → Bool) (hp : ∀ x, AFn Tryz.prog G f [.agg (Stm.c x), .op q 0 0] H (.bool (p x))) (ho : H o = some ⟨43, 8, l.map Stm.c⟩) : AFn Tryz.prog G 43 [.os o 0 l.length, .fn (.func f) [.op q 0 0]] H (.int (idxP p 0 l)) := by
  refine AFn.start mix F43 (by simp) fun k hlow => ?_
  simp -dsimp -implicitDefEqProofs (disch := omega) only [↓wpre, ↓wmap, push_cast, reduceCtorEq, ↓reduceIte, Nat.reduceEqDiff, Nat.reduceLeDiff, Nat.reduceAdd, Nat.reduceMul, Nat.reduceMod, Nat.reduceSub, Nat.reduceLT, Int.reduceEq, Int.reduceLT, Int.reduceLE, Int.reduceNeg, Int.reduceAdd, Int.reduceSub, c43]
  refine xw_loopJ (σ := List Stm × List Stm) (fun t => [(0, .os o 0 l.length), (1, .fn (.func f) [.op q 0 0]), (6, .os o 0 l.length), (7, .int l.length), (8, .int t.1.length)]) (fun t H' n' => l = t.1 ++ t.2 ∧ idxP p t.1.length t.2 = idxP p 0 l ∧ H' = H) (fun t => t.2.length) ([], l) ⟨rfl, rfl, rfl⟩ (by simp -dsimp -implicitDefEqProofs (disch := omega) only [↓wpre, ↓wmap, push_cast, reduceCtorEq, ↓reduceIte, Nat.reduceEqDiff, Nat.reduceLeDiff, Nat.reduceAdd, Nat.reduceMul, Nat.reduceMod, Nat.reduceSub, Nat.reduceLT, Int.reduceEq, Int.reduceLT, Int.reduceLE, Int.reduceNeg, Int.reduceAdd, Int.reduceSub]) ?_
  rintro ⟨a, b⟩ fr H' n ⟨rfl, hf, rfl⟩ hh
  simp only [has_nil, has_cons, and_true, List.length_append] at hh hl hf
  cases b with
  | nil =>
    simp -dsimp -implicitDefEqProofs (disch := omega) only [↓wpre, ↓wmap, push_cast, reduceCtorEq, ↓reduceIte, Nat.reduceEqDiff, Nat.reduceLeDiff, Nat.reduceAdd, Nat.reduceMul, Nat.reduceMod, Nat.reduceSub, Nat.reduceLT, Int.reduceEq, Int.reduceLT, Int.reduceLE, Int.reduceNeg, Int.reduceAdd, Int.reduceSub, hh]
    simp only [List.append_nil] at hf
    rw [← hf]; rfl
  | cons y b =>
    simp only [List.length_cons] at hl
    have hlt : (a.length : Int) < a.length + (b.length + 1) := by omega
    have hg := at_mid Stm.c a b y
    rw [idxP] at hf
    simp -dsimp -implicitDefEqProofs (disch := omega) only [↓wpre, ↓wmap, push_cast, reduceCtorEq, ↓reduceIte, Nat.reduceEqDiff, Nat.reduceLeDiff, Nat.reduceAdd, Nat.reduceMul, Nat.reduceMod, Nat.reduceSub, Nat.reduceLT, Int.reduceEq, Int.reduceLT, Int.reduceLE, Int.reduceNeg, Int.reduceAdd, Int.reduceSub, hh, hlt, ho, hg, Int.toNat_natCast]
    (first | with_reducible refine (hp y).x fun n' hn' => ?_ | with_reducible refine xfn_intro (hp y) ?_); try simp -dsimp -implicitDefEqProofs (disch := omega) only [↓wpre, ↓wmap, push_cast, reduceCtorEq, ↓reduceIte, Nat.reduceEqDiff, Nat.reduceLeDiff, Nat.reduceAdd, Nat.reduceMul, Nat.reduceMod, Nat.reduceSub, Nat.reduceLT, Int.reduceEq, Int.reduceLT, Int.reduceLE, Int.reduceNeg, Int.reduceAdd, Int.reduceSub, hh]
    (first | with_reducible refine cnd_ndec (fun hc => ?_) (fun hc => ?_) | with_reducible refine cnd_dec (fun hc => ?_) (fun hc => ?_) | with_reducible refine cnd_nb (fun hc => ?_) (fun hc => ?_) | with_reducible refine cnd_intro (fun hc => ?_) (fun hc => ?_)) <;> (first | (exfalso; omega) | (try simp -dsimp -implicitDefEqProofs (disch := omega) only [↓wpre, ↓wmap, push_cast, reduceCtorEq, ↓reduceIte, Nat.reduceEqDiff, Nat.reduceLeDiff, Nat.reduceAdd, Nat.reduceMul, Nat.reduceMod, Nat.reduceSub, Nat.reduceLT, Int.reduceEq, Int.reduceLT, Int.reduceLE, Int.reduceNeg, Int.reduceAdd, Int.reduceSub, hc, hh]))
    · rw [if_pos hc] at hf
      rw [← hf]
    · refine againJ (a ++ [y], b) (Nat.lt_succ_self _) ⟨by simp, ?_, rfl⟩ (by simp -dsimp -implicitDefEqProofs (disch := omega) only [↓wpre, ↓wmap, push_cast, reduceCtorEq, ↓reduceIte, Nat.reduceEqDiff, Nat.reduceLeDiff, Nat.reduceAdd, Nat.reduceMul, Nat.reduceMod, Nat.reduceSub, Nat.reduceLT, Int.reduceEq, Int.reduceLT, Int.reduceLE, Int.reduceNeg, Int.reduceAdd, Int.reduceSub, hh])
      rw [← hf, if_neg (by simpa using hc)]
      simp
theorem idxP_spec (p : Stm → Bool) : ∀ (l : List Stm) (i : Int), ((∀ y ∈ l, p y = false) ∧ idxP p i l = -1) ∨ ∃ pre x post, l = pre ++ x :: post ∧ (∀ y ∈ pre, p y = false) ∧ p x = true ∧ idxP p i l = i + pre.length
  | [], i => .inl ⟨by simp, rfl⟩
  | y :: r, i => by
    by_cases h : p y = true
    · exact .inr ⟨[], y, r, rfl, by simp, h, by simp [idxP, h]⟩
    · have h' : p y = false := by simpa using h
      rcases idxP_spec p r (i + 1) with ⟨h1, h2⟩ | ⟨pre, x, post, h1, h2, h3, h4⟩
      · exact .inl ⟨by simpa [h'] using h1, by rw [idxP, if_neg h]; exact h2⟩
      · refine .inr ⟨y :: pre, x, post, by simp [h1], by simpa [h'] using h2, h3, ?_⟩
        rw [idxP, if_neg h, h4]
        simp only [List.length_cons]
        omega
theorem deleteFunc_c (o q : Nat) (qo : AObj) (hoq : o ≠ q) (l : List Stm) (hl : l.length ≤ 1000000) (f : FuncId) (p : Stm → Bool) (hq : H q = some qo) (hp : ∀ H2 : Nat → Option AObj, H2 q = some qo → ∀ x, AFn Tryz.prog G f [.agg (Stm.c x), .op q 0 0] H2 (.bool (p x))) (ho : H o = some ⟨43, 8, l.map Stm.c⟩) (n : Nat) : ACalls Tryz.prog G 14 [.os o 0 l.length, .fn (.func f) [.op q 0 0]] H n fun r H' n' => r = .os o 0 (l.filter fun x => !p x).length ∧ ∃ jr, H' = hu H o (some ⟨43, 8, (l.filter fun x => !p x).map Stm.c ++ jr⟩) := by
  refine ACalls.start mix F14 (by simp) fun hlow => ?_
  simp -dsimp -implicitDefEqProofs (disch := omega) only [↓wpre, ↓wmap, push_cast, reduceCtorEq, ↓reduceIte, Nat.reduceEqDiff, Nat.reduceLeDiff, Nat.reduceAdd, Nat.reduceMul, Nat.reduceMod, Nat.reduceSub, Nat.reduceLT, Int.reduceEq, Int.reduceLT, Int.reduceLE, Int.reduceNeg, Int.reduceAdd, Int.reduceSub, c14]
  refine (indexFunc_c G H o q l hl f p (hp H hq) ho).x fun n' hn' => ?_
  simp -dsimp -implicitDefEqProofs (disch := omega) only [↓wpre, ↓wmap, push_cast, reduceCtorEq, ↓reduceIte, Nat.reduceEqDiff, Nat.reduceLeDiff, Nat.reduceAdd, Nat.reduceMul, Nat.reduceMod, Nat.reduceSub, Nat.reduceLT, Int.reduceEq, Int.reduceLT, Int.reduceLE, Int.reduceNeg, Int.reduceAdd, Int.reduceSub, true_and]
  rcases idxP_spec p l 0 with ⟨h1, h2⟩ | ⟨pre, x, post, rfl, h1, h2, h3⟩
  · have hfl : l.filter (fun x => !p x) = l := by
      rw [List.filter_eq_self]; intro y hy; simp [h1 y hy]
    simp -dsimp -implicitDefEqProofs (disch := omega) only [↓wpre, ↓wmap, push_cast, reduceCtorEq, ↓reduceIte, Nat.reduceEqDiff, Nat.reduceLeDiff, Nat.reduceAdd, Nat.reduceMul, Nat.reduceMod, Nat.reduceSub, Nat.reduceLT, Int.reduceEq, Int.reduceLT, Int.reduceLE, Int.reduceNeg, Int.reduceAdd, Int.reduceSub, h2]
    refine fin_intro (Sub.refl _) ⟨by rw [hfl], [], ?_⟩
    rw [hfl, List.append_nil, hu_self H ho]
  · rw [Int.zero_add] at h3
    have hm1 : ¬ (pre.length : Int) = -1 := by omega
    simp -dsimp -implicitDefEqProofs (disch := omega) only [↓wpre, ↓wmap, push_cast, reduceCtorEq, ↓reduceIte, Nat.reduceEqDiff, Nat.reduceLeDiff, Nat.reduceAdd, Nat.reduceMul, Nat.reduceMod, Nat.reduceSub, Nat.reduceLT, Int.reduceEq, Int.reduceLT, Int.reduceLE, Int.reduceNeg, Int.reduceAdd, Int.reduceSub, h3, hm1]
    have hof : pre.filter (fun x => !p x) = pre := by
      rw [List.filter_eq_self]; intro y hy; simp [h1 y hy]
    refine xw_loopJ (σ := List Stm × List Stm × List Stm × List Stm) (fun t => [(0, .os o 0 (pre ++ x :: post).length), (1, .fn (.func f) [.op q 0 0]), (5, .int t.2.1.length), (6, .int t.1.length)]) (fun t H' n' => pre ++ x :: post = t.1 ++ t.2.2.2 ∧ t.1.filter (fun x => !p x) = t.2.1 ∧ t.2.1.length + t.2.2.1.length = t.1.length ∧ t.2.2.1 ≠ [] ∧ (∃ HL, H' = HL ∧ HL o = some ⟨43, 8, (t.2.1 ++ (t.2.2.1 ++ t.2.2.2)).map Stm.c⟩) ∧ Qs H H' o n ∧ n ≤ n') (fun t => t.2.2.2.length) (pre ++ [x], pre, [x], post) ⟨by simp, by rw [List.filter_append, hof]; simp [h2], by simp, by simp, ⟨H, rfl, by simpa using ho⟩, Qs.refl ho hlow, hn'⟩ (by simp only [List.length_append, List.length_cons] at hl; simp -dsimp -implicitDefEqProofs (disch := omega) only [↓wpre, ↓wmap, push_cast, reduceCtorEq, ↓reduceIte, Nat.reduceEqDiff, Nat.reduceLeDiff, Nat.reduceAdd, Nat.reduceMul, Nat.reduceMod, Nat.reduceSub, Nat.reduceLT, Int.reduceEq, Int.reduceLT, Int.reduceLE, Int.reduceNeg, Int.reduceAdd, Int.reduceSub, h3]; try simp) ?_
    generalize pre ++ x :: post = l0 at hl ho ⊢
    clear h1 h2 h3 hm1 hof
    rintro ⟨a, kept, junk, b⟩ fr H' n1 ⟨rfl, hf, hlen, hj, ⟨HL, rfl, hoo⟩, hqs, hn1⟩ hh
    simp only [has_nil, has_cons, and_true, List.length_append] at hh hl hoo hlen
    have hq1 : H' q = some qo := hqs.1 q qo (Ne.symm hoq) hq
    have hqn : q < n := hqs.2.1 q qo hq
    have hq2 : ∀ o1 o2, hu (hu H' n1 o1) n1 o2 q = some qo := fun o1 o2 => by rw [hu_ne (by omega), hu_ne (by omega)]; exact hq1
    have hon : o < n := hqs.2.2
    cases b with
    | nil =>
      have hjl : 0 < junk.length := List.length_pos_iff.2 hj
      have hcut : ∀ len, CutOk H' 8 (.os o 0 len) = True := fun _ => eq_true ⟨_, hoo, rfl⟩
      simp only [List.append_nil, List.length_nil, Nat.add_zero] at hh hl hoo
      have hf2 : (a ++ []).filter (fun x => !p x) = kept := by rw [List.append_nil]; exact hf
      have hcut2 : ∀ x len, CutOk (hu H' o (some ⟨43, 8, x⟩)) 8 (.os o 0 len) = True := fun _ _ => eq_true ⟨_, hu_same, rfl⟩
      have hkl : kept.length < a.length := by omega
      have hrl : (List.map Stm.c (kept ++ junk)).length = a.length := by simp [hlen]
      by_cases h0 : kept.length = 0
      · have hz : kept = [] := List.length_eq_zero_iff.1 h0
        have ht0 : Int.toNat 0 = 0 := rfl
        simp -dsimp -implicitDefEqProofs (disch := omega) only [↓wpre, ↓wmap, push_cast, reduceCtorEq, ↓reduceIte, Nat.reduceEqDiff, Nat.reduceLeDiff, Nat.reduceAdd, Nat.reduceMul, Nat.reduceMod, Nat.reduceSub, Nat.reduceLT, Int.reduceEq, Int.reduceLT, Int.reduceLE, Int.reduceNeg, Int.reduceAdd, Int.reduceSub, hh, hoo, Int.toNat_natCast, hcut, h0, ht0]
        rw [xclear_os hoo rfl (by decide) (by rw [hrl]; omega)]
        simp -dsimp -implicitDefEqProofs (disch := omega) only [↓wpre, ↓wmap, push_cast, reduceCtorEq, ↓reduceIte, Nat.reduceEqDiff, Nat.reduceLeDiff, Nat.reduceAdd, Nat.reduceMul, Nat.reduceMod, Nat.reduceSub, Nat.reduceLT, Int.reduceEq, Int.reduceLT, Int.reduceLE, Int.reduceNeg, Int.reduceAdd, Int.reduceSub, hh, hoo, Int.toNat_natCast, hcut2, h0, ht0]
        refine fin_intro (H' := hu H o (some ⟨43, 8, List.replicate a.length noStm.c⟩)) ((Qs.put hqs).sub ?_) ⟨by rw [hf2, hz]; rfl, List.replicate a.length noStm.c, by rw [hf2, hz]; rfl⟩
        rw [hu_same, hz]
        have e1 : List.drop a.length (List.map Stm.c junk) = [] := List.drop_eq_nil_of_le (by simp; omega)
        simp only [List.nil_append, List.take_zero, Nat.zero_add, Nat.sub_zero, e1, List.append_nil]
        rfl
      · simp -dsimp -implicitDefEqProofs (disch := omega) only [↓wpre, ↓wmap, push_cast, reduceCtorEq, ↓reduceIte, Nat.reduceEqDiff, Nat.reduceLeDiff, Nat.reduceAdd, Nat.reduceMul, Nat.reduceMod, Nat.reduceSub, Nat.reduceLT, Int.reduceEq, Int.reduceLT, Int.reduceLE, Int.reduceNeg, Int.reduceAdd, Int.reduceSub, hh, hoo, Int.toNat_natCast, hcut]
        rw [xclear_os hoo rfl (by decide) (by rw [hrl]; omega)]
        simp -dsimp -implicitDefEqProofs (disch := omega) only [↓wpre, ↓wmap, push_cast, reduceCtorEq, ↓reduceIte, Nat.reduceEqDiff, Nat.reduceLeDiff, Nat.reduceAdd, Nat.reduceMul, Nat.reduceMod, Nat.reduceSub, Nat.reduceLT, Int.reduceEq, Int.reduceLT, Int.reduceLE, Int.reduceNeg, Int.reduceAdd, Int.reduceSub, hh, hoo, Int.toNat_natCast, hcut2]
        refine fin_intro (H' := hu H o (some ⟨43, 8, kept.map Stm.c ++ List.replicate (a.length - kept.length) noStm.c⟩)) ((Qs.put hqs).sub ?_) ⟨by rw [hf2], List.replicate (a.length - kept.length) noStm.c, by rw [hf2]⟩
        rw [hu_same, List.map_append]
        have e1 : kept.length + (a.length - kept.length) = (List.map Stm.c kept ++ List.map Stm.c junk).length := by simp; omega
        rw [e1, List.drop_length, List.append_nil, List.take_append_of_le_length (by simp), List.take_of_length_le (by simp)]
        rfl
    | cons y b =>
      simp only [List.length_cons] at hl
      have hlt : (a.length : Int) < a.length + (b.length + 1) := by omega
      cases junk with
      | nil => exact absurd rfl hj
      | cons z junk =>
        simp only [List.length_cons] at hlen
        simp only [List.cons_append] at hoo
        have hg : (List.map Stm.c (kept ++ z :: (junk ++ y :: b)))[a.length]? = some y.c := by
          rw [← hlen, show kept ++ z :: (junk ++ y :: b) = (kept ++ z :: junk) ++ y :: b by simp, show kept.length + (junk.length + 1) = (kept ++ z :: junk).length by simp]
          exact at_mid Stm.c (kept ++ z :: junk) b y
        have hg2 : (List.map Stm.c (kept ++ z :: (junk ++ y :: b)))[kept.length]? = some z.c := at_mid Stm.c kept (junk ++ y :: b) z
        have hset : (List.map Stm.c (kept ++ z :: (junk ++ y :: b))).set kept.length y.c = List.map Stm.c ((kept ++ [y]) ++ ((junk ++ [y]) ++ b)) := by
          rw [set_mid Stm.c kept (junk ++ y :: b) z y]
          simp
        simp -dsimp -implicitDefEqProofs (disch := omega) only [↓wpre, ↓wmap, push_cast, reduceCtorEq, ↓reduceIte, Nat.reduceEqDiff, Nat.reduceLeDiff, Nat.reduceAdd, Nat.reduceMul, Nat.reduceMod, Nat.reduceSub, Nat.reduceLT, Int.reduceEq, Int.reduceLT, Int.reduceLE, Int.reduceNeg, Int.reduceAdd, Int.reduceSub, hh, hlt, hoo, hg, Int.toNat_natCast]
        refine AFn.x (hp _ (hq2 _ _) y) fun n2 hn2 => ?_
        simp -dsimp -implicitDefEqProofs (disch := omega) only [↓wpre, ↓wmap, push_cast, reduceCtorEq, ↓reduceIte, Nat.reduceEqDiff, Nat.reduceLeDiff, Nat.reduceAdd, Nat.reduceMul, Nat.reduceMod, Nat.reduceSub, Nat.reduceLT, Int.reduceEq, Int.reduceLT, Int.reduceLE, Int.reduceNeg, Int.reduceAdd, Int.reduceSub, hh, hoo, hg2, Int.toNat_natCast]
        repeat' (first | ((first | with_reducible refine cnd_ndec (fun hc => ?_) (fun hc => ?_) | with_reducible refine cnd_dec (fun hc => ?_) (fun hc => ?_) | with_reducible refine cnd_nb (fun hc => ?_) (fun hc => ?_) | with_reducible refine cnd_intro (fun hc => ?_) (fun hc => ?_)) <;> (first | (exfalso; omega) | (try simp -dsimp -implicitDefEqProofs (disch := omega) only [↓wpre, ↓wmap, push_cast, reduceCtorEq, ↓reduceIte, Nat.reduceEqDiff, Nat.reduceLeDiff, Nat.reduceAdd, Nat.reduceMul, Nat.reduceMod, Nat.reduceSub, Nat.reduceLT, Int.reduceEq, Int.reduceLT, Int.reduceLE, Int.reduceNeg, Int.reduceAdd, Int.reduceSub, hc, hh, hoo, hg2, hset, Int.toNat_natCast]))) | (with_reducible refine anyN_intro fun n' hn' => ?_; try simp -dsimp -implicitDefEqProofs (disch := omega) only [↓wpre, ↓wmap, push_cast, reduceCtorEq, ↓reduceIte, Nat.reduceEqDiff, Nat.reduceLeDiff, Nat.reduceAdd, Nat.reduceMul, Nat.reduceMod, Nat.reduceSub, Nat.reduceLT, Int.reduceEq, Int.reduceLT, Int.reduceLE, Int.reduceNeg, Int.reduceAdd, Int.reduceSub, hh, hoo, hg2, hset, Int.toNat_natCast]) | fail)
        · have hfy : (a ++ [y]).filter (fun x => !p x) = kept ++ [y] := by rw [List.filter_append, hf]; simp [hc]
          refine againJ (a ++ [y], kept ++ [y], junk ++ [y], b) (Nat.lt_succ_self _) ⟨by simp, hfy, by simp only [List.length_append, List.length_cons, List.length_nil]; omega, by simp, ⟨_, rfl, ?_⟩, (Qs.put ((hqs.new hn1).new hn1)), by omega⟩ (by simp -dsimp -implicitDefEqProofs (disch := omega) only [↓wpre, ↓wmap, push_cast, reduceCtorEq, ↓reduceIte, Nat.reduceEqDiff, Nat.reduceLeDiff, Nat.reduceAdd, Nat.reduceMul, Nat.reduceMod, Nat.reduceSub, Nat.reduceLT, Int.reduceEq, Int.reduceLT, Int.reduceLE, Int.reduceNeg, Int.reduceAdd, Int.reduceSub, hh]; try simp)
          rw [hu_same]
        · have hfy : (a ++ [y]).filter (fun x => !p x) = kept := by rw [List.filter_append, hf]; simp [hc]
          refine againJ (a ++ [y], kept, z :: (junk ++ [y]), b) (Nat.lt_succ_self _) ⟨by simp, hfy, by simp only [List.length_append, List.length_cons, List.length_nil]; omega, by simp, ⟨_, rfl, ?_⟩, ((hqs.new hn1).new hn1), by omega⟩ (by simp -dsimp -implicitDefEqProofs (disch := omega) only [↓wpre, ↓wmap, push_cast, reduceCtorEq, ↓reduceIte, Nat.reduceEqDiff, Nat.reduceLeDiff, Nat.reduceAdd, Nat.reduceMul, Nat.reduceMod, Nat.reduceSub, Nat.reduceLT, Int.reduceEq, Int.reduceLT, Int.reduceLE, Int.reduceNeg, Int.reduceAdd, Int.reduceSub, hh]; try simp)
          rw [hu_ne (by omega), hu_ne (by omega), hoo]
          simp
end Go.Proofs.YthcedgclhoggcaaGreatDoor
