/- Contracts of functions of the program: each computes what its model says; the conditions stand at each. -/
import Derived.Test.YtdbfkibbhmbaoaaGreatDoorA5
import Derived.Test.YtdbfkibbhmbaoaaGreatDoorP1
import Derived.Test.YtdbfkibbhmbaoaaGreatDoorTe19
set_option linter.unusedSimpArgs false
set_option linter.unusedVariables false
set_option maxRecDepth 20000
set_option pp.deepTerms false
set_option pp.deepTerms.threshold 3
namespace Go.Proofs.YtdbfkibbhmbaoaaGreatDoor
open Go Go.Ab Go.Pm Go.Cm Go.El Go.Em Go.Rm
variable (G : Nat → AV) (H : Nat → Option AObj)
/-! slices.DeleteFunc of events. -/
def idxE (p : Evt → Bool) : Int → List Evt → Int
  | _, [] => -1
  | i, y :: r => if p y = true then i else idxE p (i + 1) r
theorem at_midE (a b : List Evt) (x : Evt) (jr : List (List AV)) : (List.map Evt.c (a ++ x :: b) ++ jr)[a.length]? = some x.c := by
  rw [List.getElem?_append_left (by simp)]; exact at_mid Evt.c a b x
theorem indexE_c (o : Nat) (l : List Evt) (jr : List (List AV)) (hl : l.length ≤ 1000000) (f : FuncId) (p : Evt → Bool) (hp : ∀ H2, ∀ x ∈ l, AFn Tryz.prog G f [.agg x.c] H2 (.bool (p x))) (ho : H o = some ⟨42, 6, l.map Evt.c ++ jr⟩) : AFn Tryz.prog G 93 [.os o 0 l.length, .fn (.func f) []] H (.int (idxE p 0 l)) := by
  refine AFn.start mix F93 (by simp) fun k hlow => ?_
  simp -dsimp -implicitDefEqProofs (disch := omega) only [↓wpre, push_cast, reduceCtorEq, ↓reduceIte, Nat.reduceEqDiff, Nat.reduceLeDiff, Nat.reduceAdd, Nat.reduceLT, Int.reduceEq, Int.reduceLT, Int.reduceLE, Int.reduceNeg, Int.reduceAdd, c93]
  refine xw_loopJ (σ := List Evt × List Evt) (fun t => [(0, .os o 0 l.length), (1, .fn (.func f) []), (6, .os o 0 l.length), (7, .int l.length), (8, .int t.1.length)]) (fun t H' n' => l = t.1 ++ t.2 ∧ idxE p t.1.length t.2 = idxE p 0 l ∧ H' = H) (fun t => t.2.length) ([], l) ⟨rfl, rfl, rfl⟩ (by simp -dsimp -implicitDefEqProofs (disch := omega) only [↓wpre, push_cast, reduceCtorEq, ↓reduceIte, Nat.reduceEqDiff, Nat.reduceLeDiff, Nat.reduceAdd, Nat.reduceLT, Int.reduceEq, Int.reduceLT, Int.reduceLE, Int.reduceNeg, Int.reduceAdd]) ?_
  rintro ⟨a, b⟩ fr H' n ⟨hab, hf, rfl⟩ hh
  simp only [has_nil, has_cons, and_true] at hh hf hab
  have hll : l.length = a.length + b.length := by rw [hab]; simp
  cases b with
  | nil =>
    have hnl : ¬ (a.length : Int) < l.length := by rw [hll]; simp
    simp -dsimp -implicitDefEqProofs (disch := omega) only [↓wpre, push_cast, reduceCtorEq, ↓reduceIte, Nat.reduceEqDiff, Nat.reduceLeDiff, Nat.reduceAdd, Nat.reduceLT, Int.reduceEq, Int.reduceLT, Int.reduceLE, Int.reduceNeg, Int.reduceAdd, hh, hnl]
    rw [← hf]; rfl
  | cons y b =>
    have hlt : (a.length : Int) < l.length := by rw [hll]; simp only [List.length_cons]; omega
    have hg : (l.map Evt.c ++ jr)[a.length]? = some y.c := by rw [hab]; exact at_midE a b y jr
    rw [idxE] at hf
    have hpy := hp H' y (by rw [hab]; simp)
    simp -dsimp -implicitDefEqProofs (disch := omega) only [↓wpre, push_cast, reduceCtorEq, ↓reduceIte, Nat.reduceEqDiff, Nat.reduceLeDiff, Nat.reduceAdd, Nat.reduceLT, Int.reduceEq, Int.reduceLT, Int.reduceLE, Int.reduceNeg, Int.reduceAdd, hh, hlt, ho, hg, Int.toNat_natCast]
    (first | with_reducible refine (hpy).x fun n' hn' => ?_ | with_reducible refine xfn_intro (hpy) ?_); try simp -dsimp -implicitDefEqProofs (disch := omega) only [↓wpre, push_cast, reduceCtorEq, ↓reduceIte, Nat.reduceEqDiff, Nat.reduceLeDiff, Nat.reduceAdd, Nat.reduceLT, Int.reduceEq, Int.reduceLT, Int.reduceLE, Int.reduceNeg, Int.reduceAdd, hh]
    (first | with_reducible refine cnd_ndec (fun hc => ?_) (fun hc => ?_) | with_reducible refine cnd_dec (fun hc => ?_) (fun hc => ?_) | with_reducible refine cnd_nb (fun hc => ?_) (fun hc => ?_) | with_reducible refine cnd_intro (fun hc => ?_) (fun hc => ?_)) <;> (first | (exfalso; omega) | (try simp -dsimp -implicitDefEqProofs (disch := omega) only [↓wpre, push_cast, reduceCtorEq, ↓reduceIte, Nat.reduceEqDiff, Nat.reduceLeDiff, Nat.reduceAdd, Nat.reduceLT, Int.reduceEq, Int.reduceLT, Int.reduceLE, Int.reduceNeg, Int.reduceAdd, hc, hh]))
    · rw [if_pos hc] at hf
      rw [← hf]
    · refine againJ (a ++ [y], b) (Nat.lt_succ_self _) ⟨by rw [hab]; simp, ?_, rfl⟩ (by simp -dsimp -implicitDefEqProofs (disch := omega) only [↓wpre, push_cast, reduceCtorEq, ↓reduceIte, Nat.reduceEqDiff, Nat.reduceLeDiff, Nat.reduceAdd, Nat.reduceLT, Int.reduceEq, Int.reduceLT, Int.reduceLE, Int.reduceNeg, Int.reduceAdd, hh])
      rw [← hf, if_neg (by simpa using hc)]
      simp
theorem idxE_spec (p : Evt → Bool) : ∀ (l : List Evt) (i : Int), ((∀ y ∈ l, p y = false) ∧ idxE p i l = -1) ∨ ∃ pre x post, l = pre ++ x :: post ∧ (∀ y ∈ pre, p y = false) ∧ p x = true ∧ idxE p i l = i + pre.length
  | [], i => .inl ⟨by simp, rfl⟩
  | y :: r, i => by
    by_cases h : p y = true
    · exact .inr ⟨[], y, r, rfl, by simp, h, by simp [idxE, h]⟩
    · have h' : p y = false := by simpa using h
      rcases idxE_spec p r (i + 1) with ⟨h1, h2⟩ | ⟨pre, x, post, h1, h2, h3, h4⟩
      · exact .inl ⟨by simpa [h'] using h1, by rw [idxE, if_neg h]; exact h2⟩
      · refine .inr ⟨y :: pre, x, post, by simp [h1], by simpa [h'] using h2, h3, ?_⟩
        rw [idxE, if_neg h, h4]
        simp only [List.length_cons]
        omega
set_option maxHeartbeats 3200000 in
theorem deleteE_c (o : Nat) (l : List Evt) (hl : l.length ≤ 1000000) (f : FuncId) (p : Evt → Bool) (hp : ∀ H2, ∀ x ∈ l, AFn Tryz.prog G f [.agg x.c] H2 (.bool (p x))) (ho : H o = some ⟨42, 6, l.map Evt.c⟩) (n : Nat) : ACalls Tryz.prog G 41 [.os o 0 l.length, .fn (.func f) []] H n fun r H' n' => r = .os o 0 (l.filter fun x => !p x).length ∧ ∃ jr', H' = hu H o (some ⟨42, 6, (l.filter fun x => !p x).map Evt.c ++ jr'⟩) := by
  refine ACalls.start mix F41 (by simp) fun hlow => ?_
  have hq := Qs.refl ho hlow
  have hon := hq.2.2
  simp -dsimp -implicitDefEqProofs (disch := omega) only [↓wpre, push_cast, reduceCtorEq, ↓reduceIte, Nat.reduceEqDiff, Nat.reduceLeDiff, Nat.reduceAdd, Nat.reduceLT, Int.reduceEq, Int.reduceLT, Int.reduceLE, Int.reduceNeg, Int.reduceAdd, c41]
  refine (indexE_c G H o l [] hl f p hp (by rw [List.append_nil]; exact ho)).x fun n' hn' => ?_
  simp -dsimp -implicitDefEqProofs (disch := omega) only [↓wpre, push_cast, reduceCtorEq, ↓reduceIte, Nat.reduceEqDiff, Nat.reduceLeDiff, Nat.reduceAdd, Nat.reduceLT, Int.reduceEq, Int.reduceLT, Int.reduceLE, Int.reduceNeg, Int.reduceAdd, true_and]
  rcases idxE_spec p l 0 with ⟨h1, h2⟩ | ⟨pre, x, post, hlp, h1, h2, h3⟩
  · have hfl : l.filter (fun x => !p x) = l := by
      rw [List.filter_eq_self]; intro y hy; simp [h1 y hy]
    simp -dsimp -implicitDefEqProofs (disch := omega) only [↓wpre, push_cast, reduceCtorEq, ↓reduceIte, Nat.reduceEqDiff, Nat.reduceLeDiff, Nat.reduceAdd, Nat.reduceLT, Int.reduceEq, Int.reduceLT, Int.reduceLE, Int.reduceNeg, Int.reduceAdd, h2]
    refine fin_intro (Sub.refl _) ⟨by rw [hfl], [], ?_⟩
    rw [hfl, List.append_nil, hu_self H ho]
  · rw [Int.zero_add] at h3
    have hm1 : ¬ (pre.length : Int) = -1 := by omega
    have hlpl : l.length = pre.length + (post.length + 1) := by rw [hlp]; simp
    simp -dsimp -implicitDefEqProofs (disch := omega) only [↓wpre, push_cast, reduceCtorEq, ↓reduceIte, Nat.reduceEqDiff, Nat.reduceLeDiff, Nat.reduceAdd, Nat.reduceLT, Int.reduceEq, Int.reduceLT, Int.reduceLE, Int.reduceNeg, Int.reduceAdd, h3, hm1]
    have hof : pre.filter (fun x => !p x) = pre := by
      rw [List.filter_eq_self]; intro y hy; simp [h1 y hy]
    refine xw_loopJ (σ := List Evt × List Evt × List Evt × List Evt) (fun t => [(0, .os o 0 l.length), (1, .fn (.func f) []), (5, .int t.2.1.length), (6, .int t.1.length)]) (fun t H' n' => l = t.1 ++ t.2.2.2 ∧ t.1.filter (fun x => !p x) = t.2.1 ∧ t.2.1.length + t.2.2.1.length = t.1.length ∧ t.2.2.1 ≠ [] ∧ (∃ R, R = (t.2.1 ++ (t.2.2.1 ++ t.2.2.2)).map Evt.c ∧ H' o = some ⟨42, 6, R⟩) ∧ Qs H H' o n ∧ n ≤ n') (fun t => t.2.2.2.length) (pre ++ [x], pre, [x], post) ⟨by rw [hlp]; simp, by rw [List.filter_append, hof]; simp [h2], by simp, by simp, ⟨_, rfl, by rw [show pre ++ ([x] ++ post) = l by rw [hlp]; simp]; exact ho⟩, hq, by omega⟩ (by simp -dsimp -implicitDefEqProofs (disch := omega) only [↓wpre, push_cast, reduceCtorEq, ↓reduceIte, Nat.reduceEqDiff, Nat.reduceLeDiff, Nat.reduceAdd, Nat.reduceLT, Int.reduceEq, Int.reduceLT, Int.reduceLE, Int.reduceNeg, Int.reduceAdd, h3]; try simp) ?_
    clear h1 h2 h3 hm1 hof hlp hlpl hq
    rintro ⟨a, kept, junk, b⟩ fr H' n1 ⟨hab, hf, hlen, hj, ⟨R, hR, hso⟩, hq, hn1⟩ hh
    simp only [has_nil, has_cons, and_true] at hh hab hlen
    dsimp only at hR hf hj
    have hll : l.length = a.length + b.length := by rw [hab]; simp
    cases b with
    | nil =>
      have hjl : 0 < junk.length := List.length_pos_iff.2 hj
      have hnl : ¬ (a.length : Int) < l.length := by rw [hll]; simp
      have hf2 : l.filter (fun x => !p x) = kept := by rw [hab, List.append_nil]; exact hf
      have hcut : ∀ len, CutOk H' 6 (.os o 0 len) = True := fun _ => eq_true ⟨_, hso, rfl⟩
      have hkl : kept.length < a.length := by omega
      have hRl : R.length = a.length := by rw [hR]; simp; omega
      have hla : l.length = a.length := by rw [hll]; simp
      have htk : R.take kept.length = kept.map Evt.c := by
        rw [hR, List.map_append, List.take_append_of_le_length (by simp), List.take_of_length_le (by simp)]
      have hcut2 : ∀ rows len, CutOk (hu H' o (some ⟨42, 6, rows⟩)) 6 (.os o 0 len) = True := fun _ _ => eq_true ⟨_, hu_same, rfl⟩
      by_cases h0 : kept.length = 0
      · have hz : kept = [] := List.length_eq_zero_iff.1 h0
        have ht0 : Int.toNat 0 = 0 := rfl
        simp -dsimp -implicitDefEqProofs (disch := omega) only [↓wpre, push_cast, reduceCtorEq, ↓reduceIte, Nat.reduceEqDiff, Nat.reduceLeDiff, Nat.reduceAdd, Nat.reduceLT, Int.reduceEq, Int.reduceLT, Int.reduceLE, Int.reduceNeg, Int.reduceAdd, hh, hnl, Int.toNat_natCast, hcut, h0, ht0]
        rw [xclear_os hso rfl (by decide) (by omega)]
        simp -dsimp -implicitDefEqProofs (disch := omega) only [↓wpre, push_cast, reduceCtorEq, ↓reduceIte, Nat.reduceEqDiff, Nat.reduceLeDiff, Nat.reduceAdd, Nat.reduceLT, Int.reduceEq, Int.reduceLT, Int.reduceLE, Int.reduceNeg, Int.reduceAdd, hh, Int.toNat_natCast, hcut2, h0, ht0]
        refine fin_intro (Qs.sub (n := n) (Qs.put hq) hu_same) ⟨by rw [hf2, hz]; rfl, _, by rw [hf2, hz]; rfl⟩
      · simp -dsimp -implicitDefEqProofs (disch := omega) only [↓wpre, push_cast, reduceCtorEq, ↓reduceIte, Nat.reduceEqDiff, Nat.reduceLeDiff, Nat.reduceAdd, Nat.reduceLT, Int.reduceEq, Int.reduceLT, Int.reduceLE, Int.reduceNeg, Int.reduceAdd, hh, hnl, Int.toNat_natCast, hcut]
        rw [xclear_os hso rfl (by decide) (by omega), htk]
        simp -dsimp -implicitDefEqProofs (disch := omega) only [↓wpre, push_cast, reduceCtorEq, ↓reduceIte, Nat.reduceEqDiff, Nat.reduceLeDiff, Nat.reduceAdd, Nat.reduceLT, Int.reduceEq, Int.reduceLT, Int.reduceLE, Int.reduceNeg, Int.reduceAdd, hh, Int.toNat_natCast, hcut2]
        refine fin_intro (Qs.sub (n := n) (Qs.put hq) hu_same) ⟨by rw [hf2], _, by rw [hf2]⟩
    | cons y b =>
      have hlt : (a.length : Int) < l.length := by rw [hll]; simp only [List.length_cons]; omega
      cases junk with
      | nil => exact absurd rfl hj
      | cons z junk =>
        simp only [List.length_cons] at hlen
        simp only [List.cons_append] at hR
        have hg : R[a.length]? = some y.c := by
          rw [hR, ← hlen, show kept ++ z :: (junk ++ y :: b) = (kept ++ z :: junk) ++ y :: b by simp, show kept.length + (junk.length + 1) = (kept ++ z :: junk).length by simp]
          have := at_midE (kept ++ z :: junk) b y []
          rwa [List.append_nil] at this
        have hg2 : R[kept.length]? = some z.c := by
          have := at_midE kept (junk ++ y :: b) z []
          rw [List.append_nil] at this
          rw [hR]; exact this
        have hset : R.set kept.length y.c = List.map Evt.c ((kept ++ [y]) ++ ((junk ++ [y]) ++ b)) := by
          rw [hR, set_mid Evt.c kept (junk ++ y :: b) z y]
          simp
        have hon1 : o ≠ n1 := by omega
        simp -dsimp -implicitDefEqProofs (disch := omega) only [↓wpre, push_cast, reduceCtorEq, ↓reduceIte, Nat.reduceEqDiff, Nat.reduceLeDiff, Nat.reduceAdd, Nat.reduceLT, Int.reduceEq, Int.reduceLT, Int.reduceLE, Int.reduceNeg, Int.reduceAdd, hh, hlt, hso, hg, Int.toNat_natCast]
        refine AFn.x (hp _ y (by rw [hab]; simp)) fun n2 hn2 => ?_
        simp -dsimp -implicitDefEqProofs (disch := omega) only [↓wpre, push_cast, reduceCtorEq, ↓reduceIte, Nat.reduceEqDiff, Nat.reduceLeDiff, Nat.reduceAdd, Nat.reduceLT, Int.reduceEq, Int.reduceLT, Int.reduceLE, Int.reduceNeg, Int.reduceAdd, hh, hso, hg2, Int.toNat_natCast]
        repeat' (first | ((first | with_reducible refine cnd_ndec (fun hc => ?_) (fun hc => ?_) | with_reducible refine cnd_dec (fun hc => ?_) (fun hc => ?_) | with_reducible refine cnd_nb (fun hc => ?_) (fun hc => ?_) | with_reducible refine cnd_intro (fun hc => ?_) (fun hc => ?_)) <;> (first | (exfalso; omega) | (try simp -dsimp -implicitDefEqProofs (disch := omega) only [↓wpre, push_cast, reduceCtorEq, ↓reduceIte, Nat.reduceEqDiff, Nat.reduceLeDiff, Nat.reduceAdd, Nat.reduceLT, Int.reduceEq, Int.reduceLT, Int.reduceLE, Int.reduceNeg, Int.reduceAdd, hc, hh, hso, hg2, hset, Int.toNat_natCast]))) | (with_reducible refine anyN_intro fun n' hn' => ?_; try simp -dsimp -implicitDefEqProofs (disch := omega) only [↓wpre, push_cast, reduceCtorEq, ↓reduceIte, Nat.reduceEqDiff, Nat.reduceLeDiff, Nat.reduceAdd, Nat.reduceLT, Int.reduceEq, Int.reduceLT, Int.reduceLE, Int.reduceNeg, Int.reduceAdd, hh, hso, hg2, hset, Int.toNat_natCast]) | fail)
        · have hfy : (a ++ [y]).filter (fun x => !p x) = kept ++ [y] := by rw [List.filter_append, hf]; simp [hc]
          refine againJ (a ++ [y], kept ++ [y], junk ++ [y], b) (Nat.lt_succ_self _) ⟨by rw [hab]; simp, hfy, by simp only [List.length_append, List.length_cons, List.length_nil]; omega, by simp, ⟨_, rfl, hu_same⟩, by (repeat (first | exact hq | refine Qs.put ?_ | refine Qs.new ?_ (by omega))), by omega⟩ (by simp -dsimp -implicitDefEqProofs (disch := omega) only [↓wpre, push_cast, reduceCtorEq, ↓reduceIte, Nat.reduceEqDiff, Nat.reduceLeDiff, Nat.reduceAdd, Nat.reduceLT, Int.reduceEq, Int.reduceLT, Int.reduceLE, Int.reduceNeg, Int.reduceAdd, hh]; try simp)
        · have hfy : (a ++ [y]).filter (fun x => !p x) = kept := by rw [List.filter_append, hf]; simp [hc]
          refine againJ (a ++ [y], kept, z :: (junk ++ [y]), b) (Nat.lt_succ_self _) ⟨by rw [hab]; simp, hfy, by simp only [List.length_append, List.length_cons, List.length_nil]; omega, by simp, ⟨R, by rw [hR]; simp, by simp -dsimp -implicitDefEqProofs (disch := omega) only [↓wpre, push_cast, reduceCtorEq, ↓reduceIte, Nat.reduceEqDiff, Nat.reduceLeDiff, Nat.reduceAdd, Nat.reduceLT, Int.reduceEq, Int.reduceLT, Int.reduceLE, Int.reduceNeg, Int.reduceAdd, hso]⟩, by (repeat (first | exact hq | refine Qs.put ?_ | refine Qs.new ?_ (by omega))), by omega⟩ (by simp -dsimp -implicitDefEqProofs (disch := omega) only [↓wpre, push_cast, reduceCtorEq, ↓reduceIte, Nat.reduceEqDiff, Nat.reduceLeDiff, Nat.reduceAdd, Nat.reduceLT, Int.reduceEq, Int.reduceLT, Int.reduceLE, Int.reduceNeg, Int.reduceAdd, hh]; try simp)
end Go.Proofs.YtdbfkibbhmbaoaaGreatDoor

set_option linter.unusedSimpArgs false
set_option linter.unusedVariables false
set_option maxRecDepth 20000
set_option pp.deepTerms false
set_option pp.deepTerms.threshold 3
namespace Go.Proofs.YtdbfkibbhmbaoaaGreatDoor
open Go Go.Ab Go.Pm Go.Cm Go.El Go.Em Go.Rm
/-! slices.SortFunc of events. -/
theorem run_callF {P : Program} {f : FuncId} (he : Go.Ab.Enters P f) (vs : Array Value) (w : World) : (callFunc f vs).run P w = .ok (.enter f vs) w := by
  obtain ⟨fn, c, h1, h2, h3⟩ := he
  rw [beq_eq_false_iff_ne] at h2
  simp [callFunc, h1, h2, h3]
def strictG : Nat → AV := fun k => if k = 1000000007 then .pp [] else .any
def gS : Gh := ⟨fun _ => 0, noObj, 0, true⟩
theorem invS (W : World) : Inv W gS := ⟨fun i o h => (by cases h), fun i j o o' h => (by cases h), fun i o h => (by cases h)⟩
theorem no_ownS (b : Nat) : ¬ gS.Own b := fun ⟨i, o, h, _⟩ => by cases h
theorem glS (W : World) : Gl strictG gS W := ⟨fun k => by
    unfold strictG
    split
    · exact ⟨k, 0, rfl, trivial⟩
    · trivial, fun _ => if_pos rfl, fun k h => by
    unfold strictG at h
    rw [if_neg (by omega)] at h
    cases h⟩
/-- A quiet function that counts its draws: the world is the old one, grown. -/
theorem grown_of_afn {P : Program} {f : FuncId} {args : List AV} {v : Value} (he : Go.Ab.Enters P f) (h : AFn P strictG f args noObj (.lit v)) (W : World) (vs : Array Value) (hr : RepList W gS args vs.toList) :
    Calls P f vs W fun e w' => e = .returned v ∧ ∃ q os, w' = Go.Sort.grow (W.drewN q) os := by
  rcases h 0 W gS vs (invS W) rfl rfl (glS W) hr with ⟨_, hc⟩ | ⟨v, w', hc, _⟩
  · refine hc.mono fun e w' ⟨v', r, g', k1, ⟨k2, k3⟩, k4, k5, k6⟩ => ?_
    subst k2
    have k4 : v' = v := k4
    subst k4
    refine ⟨k1, w'.drawn - W.drawn, w'.heap.extract W.heap.size w'.heap.size, ?_⟩
    have hd := k6.drawn rfl
    have hh : w'.heap = W.heap ++ w'.heap.extract W.heap.size w'.heap.size := by
      apply Array.ext_getElem?
      intro b
      by_cases hb : b < W.heap.size
      · rw [Array.getElem?_append_left hb]; exact k6.keep b hb (no_ownS b)
      · rw [Array.getElem?_append_right (by omega), Array.getElem?_extract]
        by_cases hb2 : b < w'.heap.size
        · rw [if_pos (by omega)]; congr 1; omega
        · rw [if_neg (by omega)]; exact Array.getElem?_eq_none (by omega)
    have e1 := k6.os
    have e2 := k6.tape
    have e3 := k6.output
    obtain ⟨wh, wt, wd, wo, wp⟩ := w'
    obtain ⟨vh, vt, vd, vo, vp⟩ := W
    simp only at e1 e2 e3 hh hd
    subst e1 e2 e3
    simp only [Go.Sort.grow, World.drewN, World.mk.injEq]
    exact ⟨hh, trivial, by omega, trivial, trivial⟩
  · rw [run_callF he] at hc
    cases hc
theorem repList_lits' {w : World} {g : Gh} : ∀ (xs : List Value), RepList w g (xs.map .lit) xs
  | [] => rfl
  | x :: xs => ⟨x, xs, rfl, rfl, repList_lits' xs⟩
/-- An event as it lies in memory. -/
structure RawE where
  id : T
  name : T
  at' : Int
  kind : Int
  text : T
  fs : {v : Value // ∃ a n c, v = .slice a n c}
instance : Inhabited RawE := ⟨⟨⟨#[]⟩, ⟨#[]⟩, 0, 0, ⟨#[]⟩, ⟨.slice none 0 0, _, _, _, rfl⟩⟩⟩
def encE (r : RawE) : List Value := [.string r.id, .string r.name, .int .i64 r.at', .int .i64 r.kind, .string r.text, r.fs.1]
def ltE (a b : RawE) : Bool := decide (a.at' < b.at') || (decide (a.at' = b.at') && strLt a.id b.id)
def cfE (a b : RawE) : Int := if ltE a b = true then -1 else 1
theorem cmpE_c (G : Nat → AV) (H : Nat → Option AObj) (a b : RawE) : AFn Tryz.prog G 92 [.agg ((encE a).map .lit), .agg ((encE b).map .lit)] H (.int (cfE a b)) := by
  obtain ⟨ia, na, ta, ka, xa, ⟨va, pa, la, ca, rfl⟩⟩ := a
  obtain ⟨ib, nb, tb, kb, xb, ⟨vb, pb, lb, cb, rfl⟩⟩ := b
  refine AFn.start mix F92 (by simp) fun k hlow => ?_
  simp only [encE, List.map_cons, List.map_nil]
  simp -dsimp -implicitDefEqProofs (disch := omega) only [↓wpre, push_cast, reduceCtorEq, ↓reduceIte, Nat.reduceEqDiff, Nat.reduceLeDiff, Nat.reduceAdd, Nat.reduceLT, Int.reduceEq, Int.reduceLT, Int.reduceLE, Int.reduceNeg, Int.reduceAdd, c92]
  repeat' (first | ((first | with_reducible refine cnd_ndec (fun hc => ?_) (fun hc => ?_) | with_reducible refine cnd_dec (fun hc => ?_) (fun hc => ?_) | with_reducible refine cnd_nb (fun hc => ?_) (fun hc => ?_) | with_reducible refine cnd_intro (fun hc => ?_) (fun hc => ?_)) <;> (first | (exfalso; omega) | (try simp -dsimp -implicitDefEqProofs (disch := omega) only [↓wpre, push_cast, reduceCtorEq, ↓reduceIte, Nat.reduceEqDiff, Nat.reduceLeDiff, Nat.reduceAdd, Nat.reduceLT, Int.reduceEq, Int.reduceLT, Int.reduceLE, Int.reduceNeg, Int.reduceAdd, hc, true_and]))) | (with_reducible refine anyN_intro fun n' hn' => ?_; try simp -dsimp -implicitDefEqProofs (disch := omega) only [↓wpre, push_cast, reduceCtorEq, ↓reduceIte, Nat.reduceEqDiff, Nat.reduceLeDiff, Nat.reduceAdd, Nat.reduceLT, Int.reduceEq, Int.reduceLT, Int.reduceLE, Int.reduceNeg, Int.reduceAdd, true_and]) | fail)
  all_goals (simp only [AV.lit.injEq, Value.int.injEq, cfE, ltE]; grind)
theorem swo_ltE : Go.Sort.SWO (Go.Proofs.ltOf cfE) := by
  have h := (Co.TC.cons (f := fun (a b : RawE) => cmpI a.at' b.at') (g := fun (a b : RawE) => [cmpS a.id b.id]) (Co.tc_cmpI.on RawE.at') (Co.TC.cons (f := fun (a b : RawE) => cmpS a.id b.id) (g := fun (a b : RawE) => []) (Co.tc_cmpS.on RawE.id) Co.TC.nil)).swo
  have e : Go.Proofs.ltOf cfE = Go.Proofs.ltOf (fun a b : RawE => cmpOr (cmpI a.at' b.at' :: [cmpS a.id b.id])) := by
    funext a b
    have e1 : ltE a b = decide (cmpOr [cmpI a.at' b.at', cmpS a.id b.id] < 0) := by
      unfold ltE
      rcases Int.lt_trichotomy a.at' b.at' with h1 | h1 | h1
      · have : cmpI a.at' b.at' = -1 := by simp [cmpI, h1]
        simp [cmpOr, this, h1]
      · have : cmpI a.at' b.at' = 0 := by simp [cmpI, h1]
        rcases Co.cmpS_cases a.id b.id with ⟨h2, h3⟩ | ⟨h2, h3⟩ | ⟨h2, h3⟩
        · simp only [cmpOr, this, h3]; simp [h1, h2]
        · simp only [cmpOr, this, h3]; simp [h1, h2, Co.strLt_irrefl]
        · simp only [cmpOr, this, h3]; simp [h1, Co.strLt_asymm h2]
      · have h2 : ¬ a.at' < b.at' := by omega
        have h3 : ¬ a.at' = b.at' := by omega
        have : cmpI a.at' b.at' = 1 := by simp [cmpI, h2, h1]
        simp [cmpOr, this, h2, h3]
    simp only [Go.Proofs.ltOf, cfE, e1]
    by_cases h : cmpOr [cmpI a.at' b.at', cmpS a.id b.id] < 0 <;> simp [h]
  rw [e]
  exact h
theorem cmpE_lays (w : World) (blk size : Nat) : Go.Proofs.CmpLays Tryz.prog 92 #[] encE 6 cfE blk 0 size w := by
  intro m os dk _ x y
  exact grown_of_afn (enters_of_b (by kernel_rfl)) (cmpE_c strictG noObj x y) _ _ ⟨_, _, rfl, ⟨_, rfl, repList_lits' (encE x)⟩, _, _, rfl, ⟨_, rfl, repList_lits' (encE y)⟩, rfl⟩
def phiE (r : List AV) (a : RawE) : Prop := r[0]? = some (.str a.id) ∧ r[2]? = some (.int a.at')
theorem phi_of (w : World) (gh : Gh) (e : Evt) (vs : List Value) (h : RepList w gh e.c vs) : ∃ a, encE a = vs ∧ phiE e.c a := by
  obtain ⟨v1, r1, rfl, h1, v2, r2, rfl, h2, v3, r3, rfl, h3, v4, r4, rfl, h4, v5, r5, rfl, h5, v6, r6, rfl, h6, h7⟩ := h
  have h7 : r6 = [] := h7
  subst h7
  have h1 : v1 = _ := h1
  have h2 : v2 = _ := h2
  have h3 : v3 = _ := h3
  have h4 : v4 = _ := h4
  have h5 : v5 = _ := h5
  subst h1 h2 h3 h4 h5
  obtain ⟨a, cap, h8, _⟩ := h6
  exact ⟨⟨e.id, e.name, e.at', e.who.kind, e.who.text, ⟨v6, a, _, cap, h8⟩⟩, rfl, rfl, rfl⟩
theorem sortE_c (G : Nat → AV) (H : Nat → Option AObj) (l : List Evt) (o : Nat) (ho : H o = some ⟨42, 6, l.map Evt.c⟩) (hl : l.length ≤ 1000000) (n : Nat) :
    ACalls Tryz.prog G 91 [.os o 0 l.length, .fn (.func 92) []] H n fun r H' n' => r = .tup [] ∧ ∃ l' : List Evt, l'.Perm l ∧ l'.Pairwise (fun a b => ¬ Bf b a) ∧ H' = hu H o (some ⟨42, 6, l'.map Evt.c⟩) := by
  have h := ACalls.of_sortR (P := Tryz.prog) (G := G) (H := H) (n := n) (f := 91) (enters_of_b (by kernel_rfl)) (o := o) (E := 42) (k := 6) (by decide) encE (fun _ => rfl) (rows := l.map Evt.c) (jr := []) (g := 92) (φ := phiE) (D := fun zs ds => ds.Pairwise fun a b => ltE b a = false) (by rw [List.append_nil]; exact ho)
    (fun w gh r vs hr hv => by
      obtain ⟨e, _, rfl⟩ := List.mem_map.1 hr
      exact phi_of w gh e vs hv)
    (fun zs w blk cap h0 h1 h2 h3 => by
      rw [List.length_map] at h0
      refine (Go.Proofs.AnyQ.slices_SortFunc Tryz.sortE 6 (fun w => Tryz.isAgg42 w) (fun w => Tryz.sizeOf42 w) encE (fun _ => rfl) (fun x v hv => ?_) cfE swo_ltE 92 #[] blk 0 cap zs.toArray w (fun args w => run_callF (enters_of_b (by kernel_rfl)) args w) (cmpE_lays w blk _) h1 h2 (by simp; omega)).mono fun e w' ⟨k1, d', m, os, k2, k3, k4⟩ => ⟨k1, d'.toList, m, os, ?_, ?_, k4⟩
      · obtain ⟨i, nm, t, kd, x, ⟨fv, pa, la, ca, rfl⟩⟩ := x
        simp only [encE, List.mem_cons, List.not_mem_nil, or_false] at hv
        rcases hv with rfl | rfl | rfl | rfl | rfl | rfl <;> rfl
      · have hs : d'.size = zs.length := by simpa using k2.1
        have := k2.2.2
        have ht : List.take zs.length d'.toList = d'.toList := List.take_of_length_le (by simp [hs])
        simpa [ht] using this
      · have hs : d'.size = zs.length := by simpa using k2.1
        rw [List.pairwise_iff_getElem]
        intro i j hi hj hij
        simp only [Array.length_toList] at hi hj
        have h4 := k3 i j (Nat.zero_le _) hij (by simp; omega)
        simp only [Go.Proofs.ltOf, decide_eq_false_iff_not] at h4
        rw [getElem!_pos d' i hi, getElem!_pos d' j hj] at h4
        simp only [Array.getElem_toList]
        unfold cfE at h4
        cases hx : ltE d'[j] d'[i] with
        | false => rfl
        | true => rw [if_pos hx] at h4; exact absurd (by decide) h4)
  rw [List.length_map] at h
  refine h.mono fun r H' n' ⟨hr, ps, qs, h1, h2, h3, h4, h5⟩ => ⟨hr, ?_⟩
  have hp : (l.map Evt.c).Perm (qs.map (·.1)) := by rw [← h1]; exact h3.map _
  obtain ⟨l', h6, h7⟩ := perm_lift hp l rfl
  refine ⟨l', h6.symm, ?_, by rw [h5, List.append_nil, h7]⟩
  have hlq : l'.length = qs.length := by have := congrArg List.length h7; simpa using this
  rw [List.pairwise_iff_getElem] at h4 ⊢
  intro i j hi hj hij
  have k1 := h4 i j (by simp; omega) (by simp; omega) hij
  have get : ∀ m (hm : m < l'.length), (l'[m]).id = (qs[m]'(by omega)).2.id ∧ (l'[m]).at' = (qs[m]'(by omega)).2.at' := fun m hm => by
    have e1 : (l'[m]).c = (qs[m]'(by omega)).1 := by
      have := congrArg (fun x : List (List AV) => x[m]?) h7
      simpa [hm, hlq ▸ hm] using this
    have e2 := h2 _ (h3.mem_iff.2 (List.getElem_mem (show m < qs.length by omega)))
    rw [← e1] at e2
    have e3 : some (AV.str (l'[m]).id) = some (AV.str (qs[m]'(by omega)).2.id) := e2.1
    have e4 : some (AV.int (l'[m]).at') = some (AV.int (qs[m]'(by omega)).2.at') := e2.2
    simp only [Option.some.injEq, AV.lit.injEq, Value.string.injEq, Value.int.injEq, true_and] at e3 e4
    exact ⟨e3, e4⟩
  obtain ⟨i1, i2⟩ := get i hi
  obtain ⟨j1, j2⟩ := get j hj
  simp only [List.getElem_map] at k1
  unfold Bf
  rw [i1, i2, j1, j2]
  intro hb
  unfold ltE at k1
  simp only [Bool.or_eq_false_iff, decide_eq_false_iff_not, Bool.and_eq_false_iff] at k1
  rcases hb with hb | ⟨hb1, hb2⟩
  · exact k1.1 hb
  · rcases k1.2 with k | k
    · exact k hb1
    · rw [hb2] at k; cases k
end Go.Proofs.YtdbfkibbhmbaoaaGreatDoor

set_option linter.unusedSimpArgs false
set_option linter.unusedVariables false
set_option maxRecDepth 20000
set_option pp.deepTerms false
set_option pp.deepTerms.threshold 3
namespace Go.Proofs.YtdbfkibbhmbaoaaGreatDoor
open Go Go.Ab Go.Pm Go.Cm Go.El Go.Em Go.Rm
variable (G : Nat → AV) (H : Nat → Option AObj)
theorem cloneE_c (o : Nat) (l : List Evt) (jr : List (List AV)) (hl : l.length ≤ 100000) (ho : H o = some ⟨42, 6, l.map Evt.c ++ jr⟩) (n : Nat) : ACalls Tryz.prog G 72 [.os o 0 l.length] H n fun r H' n' => ∃ o', r = .os o' 0 l.length ∧ H' o' = some ⟨42, 6, l.map Evt.c⟩ ∧ n ≤ o' ∧ o' < n' ∧ Sub H H' := by
  refine ACalls.start mix F72 (by simp) fun hlow => ?_
  have hq := Qt.refl hlow
  have hon := hlow o _ ho
  have hon1 : o ≠ n := by omega
  simp -dsimp -implicitDefEqProofs (disch := omega) only [↓wpre, push_cast, reduceCtorEq, ↓reduceIte, Nat.reduceEqDiff, Nat.reduceLeDiff, Nat.reduceAdd, Nat.reduceLT, Int.reduceEq, Int.reduceLT, Int.reduceLE, Int.reduceNeg, Int.reduceAdd, c72]
  have hsrc : ∀ x, srcRows (hu H n (some x)) (.os o 0 l.length) = some (l.map Evt.c) := fun x => by
    simp only [srcRows, hu_ne hon1, ho]
    rw [if_pos (by simp), List.drop_zero, List.take_append_of_le_length (by simp), List.take_of_length_le (by simp)]
  cases l with
  | nil =>
    rw [xapp_zero (hsrc _)]
    simp -dsimp -implicitDefEqProofs (disch := omega) only [↓wpre, push_cast, reduceCtorEq, ↓reduceIte, Nat.reduceEqDiff, Nat.reduceLeDiff, Nat.reduceAdd, Nat.reduceLT, Int.reduceEq, Int.reduceLT, Int.reduceLE, Int.reduceNeg, Int.reduceAdd, true_and]
    refine fin_intro (Sub.refl _) ⟨n, rfl, hu_same, Nat.le_refl _, by omega, hq.1.hu hlow (Nat.le_refl _)⟩
  | cons x l =>
    rw [xapp_src (ho := hu_same) (by simp) (hsrc _) (by have := even_evts (x :: l); simpa using this) (by simp) (by simp at hl ⊢; omega)]
    simp -dsimp -implicitDefEqProofs (disch := omega) only [↓wpre, push_cast, reduceCtorEq, ↓reduceIte, Nat.reduceEqDiff, Nat.reduceLeDiff, Nat.reduceAdd, Nat.reduceLT, Int.reduceEq, Int.reduceLT, Int.reduceLE, Int.reduceNeg, Int.reduceAdd, true_and]
    refine fin_intro (Sub.refl _) ⟨n + 1, by simp, ?_, by omega, by omega, ((hq.1.hu hlow (Nat.le_refl _)).hu hlow (Nat.le_refl _)).hu hlow (by omega)⟩
    rw [hu_same]
/-- Events in order. -/
theorem sorted_run (o : Nat) (l : List Evt) (jr : List (List AV)) (hl : l.length ≤ 100000) (ho : H o = some ⟨42, 6, l.map Evt.c ++ jr⟩) (n : Nat) : ACalls Tryz.prog G 40 [.os o 0 l.length] H n fun r H' n' => ∃ (o' : Nat) (l' : List Evt), l'.Perm l ∧ l'.Pairwise (fun a b => ¬ Bf b a) ∧ r = .os o' 0 l'.length ∧ H' o' = some ⟨42, 6, l'.map Evt.c⟩ ∧ n ≤ o' ∧ Sub H H' := by
  refine ACalls.start mix F40 (by simp) fun hlow => ?_
  simp -dsimp -implicitDefEqProofs (disch := omega) only [↓wpre, push_cast, reduceCtorEq, ↓reduceIte, Nat.reduceEqDiff, Nat.reduceLeDiff, Nat.reduceAdd, Nat.reduceLT, Int.reduceEq, Int.reduceLT, Int.reduceLE, Int.reduceNeg, Int.reduceAdd, c40]
  refine (cloneE_c G H o l jr hl ho n).le.x fun r H1 n1 ⟨⟨o', hr, h1, h2, h3, h4⟩, hn1⟩ => ?_
  subst hr
  simp -dsimp -implicitDefEqProofs (disch := omega) only [↓wpre, push_cast, reduceCtorEq, ↓reduceIte, Nat.reduceEqDiff, Nat.reduceLeDiff, Nat.reduceAdd, Nat.reduceLT, Int.reduceEq, Int.reduceLT, Int.reduceLE, Int.reduceNeg, Int.reduceAdd, true_and]
  refine (sortE_c G H1 l o' h1 (by omega) n1).le.x fun r H2 n2 ⟨⟨hr, l', k1, k2, k3⟩, hn2⟩ => ?_
  subst hr
  simp -dsimp -implicitDefEqProofs (disch := omega) only [↓wpre, push_cast, reduceCtorEq, ↓reduceIte, Nat.reduceEqDiff, Nat.reduceLeDiff, Nat.reduceAdd, Nat.reduceLT, Int.reduceEq, Int.reduceLT, Int.reduceLE, Int.reduceNeg, Int.reduceAdd, true_and]
  refine fin_intro (Sub.refl _) ⟨o', l', k1, k2, by rw [k1.length_eq], by rw [k3]; exact hu_same, h2, ?_⟩
  rw [k3]
  intro j x hx
  rw [hu_ne (by have := hlow j x hx; omega)]
  exact h4 j x hx
set_option maxHeartbeats 1600000 in
theorem rightEvents_run (hU : GU G) (nz : Bool) (l : List Int) (a many : Int) (i : Nat) (hi : H i = some (strm (LL nz l) a)) (ha : 0 ≤ a ∧ a ≤ 1099511620000) (hm : 1 ≤ many ∧ many ≤ 14) (n : Nat) : ACalls Tryz.prog G 8 [.op i 0 0, .int many] H n fun r H' n' => ∃ (a' : Int) (o : Nat) (es : List Evt), a ≤ a' ∧ a' ≤ a + 1200 ∧ Em.Good es ∧ (∀ e ∈ es, e.at' ≤ 100000) ∧ es.length ≤ 14 ∧ r = .os o 0 es.length ∧ H' o = some ⟨42, 6, es.map Evt.c⟩ ∧ n ≤ o ∧ Sub (hu H i (some (strm (LL nz l) a'))) H' := by
  refine ACalls.start mix F8 (by simp) fun hlow => ?_
  have hin := hlow i _ hi
  simp -dsimp -implicitDefEqProofs (disch := omega) only [↓wpre, push_cast, reduceCtorEq, ↓reduceIte, Nat.reduceEqDiff, Nat.reduceLeDiff, Nat.reduceAdd, Nat.reduceLT, Int.reduceEq, Int.reduceLT, Int.reduceLE, Int.reduceNeg, Int.reduceAdd, c8]
  refine (events_run G H hU.ok nz l a many i hi ha ⟨by omega, hm.2⟩ n).le.x fun r H1 n1 ⟨⟨a1, es, h1, h2, h3, h4, h5, h6⟩, hn1⟩ => ?_
  rcases h6 with ⟨h6, _⟩ | ⟨o, rfl, h7, h8, h9⟩
  · subst h6; simp at h4; omega
  simp -dsimp -implicitDefEqProofs (disch := omega) only [↓wpre, push_cast, reduceCtorEq, ↓reduceIte, Nat.reduceEqDiff, Nat.reduceLeDiff, Nat.reduceAdd, Nat.reduceLT, Int.reduceEq, Int.reduceLT, Int.reduceLE, Int.reduceNeg, Int.reduceAdd, true_and]
  have hf := h3.few
  refine (deleteE_c G H1 o es (by omega) 43 (fun e => !keep e) (fun H2 e he => gone_c G H2 hU e (h3.small e he)) h7 n1).le.x fun r H2 n2 ⟨⟨hr, jr, h10⟩, hn2⟩ => ?_
  have hfl : es.filter (fun e => !!keep e) = es.filter keep := by congr 1; funext e; simp
  rw [hfl] at hr h10
  subst hr h10
  simp -dsimp -implicitDefEqProofs (disch := omega) only [↓wpre, push_cast, reduceCtorEq, ↓reduceIte, Nat.reduceEqDiff, Nat.reduceLeDiff, Nat.reduceAdd, Nat.reduceLT, Int.reduceEq, Int.reduceLT, Int.reduceLE, Int.reduceNeg, Int.reduceAdd, true_and]
  have hfl2 := List.length_filter_le keep es
  refine (sorted_run G _ o (es.filter keep) jr (by omega) hu_same n2).le.x fun r H3 n3 ⟨⟨o', l', k1, k2, hr, k3, k4, k5⟩, hn3⟩ => ?_
  subst hr
  simp -dsimp -implicitDefEqProofs (disch := omega) only [↓wpre, push_cast, reduceCtorEq, ↓reduceIte, Nat.reduceEqDiff, Nat.reduceLeDiff, Nat.reduceAdd, Nat.reduceLT, Int.reduceEq, Int.reduceLT, Int.reduceLE, Int.reduceNeg, Int.reduceAdd, true_and]
  refine fin_intro (Sub.refl _) ⟨a1, o', l', h1, h2, Em.good_of h3 k1 k2, Em.low_of k1, by have := k1.length_eq; omega, rfl, k3, by omega, ?_⟩
  intro j x hx
  refine k5 j x ?_
  have hjo : j ≠ o := fun e => by
    subst e
    rw [hu_ne (by omega)] at hx
    exact absurd (hlow j x hx) (by omega)
  rw [hu_ne hjo]
  exact h5 j x hx
end Go.Proofs.YtdbfkibbhmbaoaaGreatDoor

