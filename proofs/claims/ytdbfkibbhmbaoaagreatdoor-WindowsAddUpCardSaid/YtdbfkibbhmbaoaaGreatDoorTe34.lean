/- Contracts of functions of the program: each computes what its model says; the conditions stand at each. -/
import Derived.Test.YtdbfkibbhmbaoaaGreatDoorA5
import Derived.Test.YtdbfkibbhmbaoaaGreatDoorTe33
import Derived.Test.YtdbfkibbhmbaoaaGreatDoorTs6
set_option linter.unusedSimpArgs false
set_option linter.unusedVariables false
set_option maxRecDepth 20000
set_option pp.deepTerms false
set_option pp.deepTerms.threshold 4
namespace Go.Proofs.YtdbfkibbhmbaoaaGreatDoor
open Go Go.Ab Go.Pm Go.Cm Go.El Go.Em Go.Rm
variable (G : Nat → AV) (H : Nat → Option AObj)
theorem only_none {o n n0 : Nat} {x : AObj} (hlow : Low H n0) (ho : n0 ≤ o) : ∀ j y, Ab.only o x j = some y → H j = none := fun j y hj => by
  unfold Ab.only at hj
  split at hj
  · rename_i e; subst e
    cases hx : H j with
    | none => rfl
    | some z => exact absurd (hlow j z hx) (by omega)
  · cases hj
theorem series_c (hU : GU G) (nz : Bool) (l : List Evt) (hg : Em.Good l) (hl : ∀ e ∈ l, e.at' ≤ 100000) (name : T) (hk : isKey name = true ∧ name.size ≤ 1000) (n : Nat) : ACalls Tryz.prog G 18 [.ls nz (l.map Evt.c), .str name, .agg utcZ, .int 0, .int 700] H n fun r H' n' => ∃ (out : List Int), r = .tup [LL true out, .int 0] ∧ out.length = 701 ∧ out.sum = ((l.filter fun e => decide (e.name = name)).length : Int) ∧ (∀ x ∈ out, 0 ≤ x ∧ x ≤ 5000) ∧ H' = H := by
  refine low_of G H fun hlow => ACalls.frz (series_run G H hU nz l hg hl name hk n) ?_
  rintro r H1 n1 ⟨o, out, rfl, h1, h2, h3, h4, h5, h6⟩
  refine ⟨Ab.only o ⟨3, 1, out.map fun x => [AV.int x]⟩, H, 2, only_sub h4, h6, only_none (n := n) H hlow h5, out, ?_, h1, h2, h3, rfl⟩
  have e1 : frz (Ab.only o ⟨3, 1, out.map fun x => [AV.int x]⟩) 1 (.os o 0 701) = LL true out := frz_os_plain (by intro r hr; obtain ⟨x, _, rfl⟩ := List.mem_map.1 hr; rfl) (by simp [h1])
  show AV.tup [frz _ 1 _, frz _ 1 _] = _
  rw [e1, frz_lit]
def msort (l : List Int) : List Int := l.mergeSort fun x y => decide (x ≤ y)
theorem msort_length (l : List Int) : (msort l).length = l.length := List.length_mergeSort l
theorem sortI_c (o : Nat) (l : List Int) (hl : l.length ≤ 1000000) (n : Nat) (ho : H o = some ⟨3, 1, l.map fun x => [AV.int x]⟩) : ACalls Tryz.prog G 15 [.os o 0 l.length] H n fun r H' n' => H' = hu H o (some ⟨3, 1, (msort l).map fun x => [AV.int x]⟩) := by
  have h := ACalls.of_row (P := Tryz.prog) (G := G) (n := n) (f := 15) (enters_of_b (by kernel_rfl)) (zs := l) (ds := msort l) (jr := []) (res := none) (H := H) (o := o) (E := 3) (by rw [List.append_nil]; exact ho) (msort_length l) (fun m h => by cases h) (fun w blk cap hH hb hc => Tryz.slices_Sort_int blk 0 cap l w hH hb (by omega))
  refine h.mono fun r H' n' h => ?_
  rw [h.2, List.append_nil]
theorem cuts_of (a b : Int) (ha : 0 ≤ a ∧ a ≤ 3000) (hb : 0 ≤ b ∧ b ≤ 9000) : ∃ x y : Int, msort [0, a, b, 4321440] = [0, x, y, 4321440] ∧ 0 ≤ x ∧ x ≤ y ∧ y ≤ 4321440 := by
  have hp : (msort [0, a, b, 4321440]).Perm [0, a, b, 4321440] := List.mergeSort_perm _ _
  have hs : (msort [0, a, b, 4321440]).Pairwise fun x y => x ≤ y := by
    have := List.pairwise_mergeSort (le := fun x y : Int => decide (x ≤ y)) (by intro a b c h1 h2; simp at h1 h2 ⊢; omega) (by intro a b; simp; omega) [0, a, b, 4321440]
    exact this.imp fun h => by simpa using h
  have hl : (msort [0, a, b, 4321440]).length = 4 := msort_length _
  have hm : ∀ z ∈ msort [0, a, b, 4321440], 0 ≤ z ∧ z ≤ 4321440 := fun z hz => by
    have := hp.mem_iff.1 hz
    simp only [List.mem_cons, List.not_mem_nil, or_false] at this
    omega
  have h0 : (0 : Int) ∈ msort [0, a, b, 4321440] := hp.mem_iff.2 (by simp)
  have h1 : (4321440 : Int) ∈ msort [0, a, b, 4321440] := hp.mem_iff.2 (by simp)
  generalize msort [0, a, b, 4321440] = L at hs hl hm h0 h1
  match L, hl with
  | [p, q, r, s], _ =>
    simp only [List.pairwise_cons, List.mem_cons, List.not_mem_nil, or_false, forall_eq_or_imp, forall_eq] at hs hm h0 h1
    refine ⟨q, r, ?_, by omega, by omega, by omega⟩
    have e1 : p = 0 := by omega
    have e2 : s = 4321440 := by omega
    rw [e1, e2]
theorem next_det (nz : Bool) (l : List Int) (a m : Int) (i : Nat) (hi : H i = some (strm (LL nz l) a)) (ha : 0 ≤ a ∧ a ≤ 1099511627776) (hm : 1 ≤ m ∧ m ≤ 4611686018427387904) : ∃ k : Int, (0 ≤ k ∧ k < m) ∧ ∀ n, ACalls Tryz.prog G 14 [.op i 0 0, .int m] H n fun r H' n' => r = .int k ∧ H' = hu H i (some (strm (LL nz l) (a + 1))) := by
  cases l with
  | nil =>
    refine ⟨below ((a + 1) * 7919) m, below_in _ _ hm.1, fun n => ?_⟩
    refine ACalls.start mix F14 (by simp) fun hlow => ?_
    have hq := Qs.refl hi hlow
    simp -dsimp -implicitDefEqProofs (disch := omega) only [↓wpre, push_cast, reduceCtorEq, ↓reduceIte, Nat.reduceEqDiff, Nat.reduceLeDiff, Nat.reduceAdd, Nat.reduceLT, Int.reduceEq, Int.reduceLT, Int.reduceLE, Int.reduceNeg, Int.reduceAdd, c14, hi]
    refine (below_c G _ _ m ⟨by omega, by omega⟩).x fun n' hn' => ?_
    simp -dsimp -implicitDefEqProofs (disch := omega) only [↓wpre, push_cast, reduceCtorEq, ↓reduceIte, Nat.reduceEqDiff, Nat.reduceLeDiff, Nat.reduceAdd, Nat.reduceLT, Int.reduceEq, Int.reduceLT, Int.reduceLE, Int.reduceNeg, Int.reduceAdd, hi]
  | cons y l =>
    have hlen : (0 : Int) < (l.length : Int) + 1 := by omega
    have t1 := Int.tmod_nonneg ((l.length : Int) + 1) ha.1
    have t2 := Int.tmod_lt_of_pos a hlen
    obtain ⟨j, hj⟩ : ∃ j : Nat, a.tmod ((l.length : Int) + 1) = j := ⟨(a.tmod ((l.length : Int) + 1)).toNat, by omega⟩
    have hjl : j < (y :: l).length := by simp only [List.length_cons]; omega
    have hx := List.getElem?_eq_getElem hjl
    have he : a + 1 - 1 = a := by omega
    refine ⟨below (IntKind.i64.wrap (below ((y :: l)[j]) 1073741824 + IntKind.i64.wrap (IntKind.i64.wrap (a.tdiv ((l.length : Int) + 1)) * IntKind.i64.wrap (7919 + j)))) m, below_in _ _ hm.1, fun n => ?_⟩
    refine ACalls.start mix F14 (by simp) fun hlow => ?_
    have hq := Qs.refl hi hlow
    simp -dsimp -implicitDefEqProofs (disch := omega) only [↓wpre, push_cast, reduceCtorEq, ↓reduceIte, Nat.reduceEqDiff, Nat.reduceLeDiff, Nat.reduceAdd, Nat.reduceLT, Int.reduceEq, Int.reduceLT, Int.reduceLE, Int.reduceNeg, Int.reduceAdd, c14, hi]
    repeat' (first | ((first | with_reducible refine cnd_ndec (fun hc => ?_) (fun hc => ?_) | with_reducible refine cnd_dec (fun hc => ?_) (fun hc => ?_) | with_reducible refine cnd_nb (fun hc => ?_) (fun hc => ?_) | with_reducible refine cnd_intro (fun hc => ?_) (fun hc => ?_)) <;> (first | (exfalso; omega) | (try simp -dsimp -implicitDefEqProofs (disch := omega) only [↓wpre, push_cast, reduceCtorEq, ↓reduceIte, Nat.reduceEqDiff, Nat.reduceLeDiff, Nat.reduceAdd, Nat.reduceLT, Int.reduceEq, Int.reduceLT, Int.reduceLE, Int.reduceNeg, Int.reduceAdd, hc, hi, even_ints', he, hj, aidx_at _ hx]))) | (with_reducible refine anyN_intro fun n' hn' => ?_; try simp -dsimp -implicitDefEqProofs (disch := omega) only [↓wpre, push_cast, reduceCtorEq, ↓reduceIte, Nat.reduceEqDiff, Nat.reduceLeDiff, Nat.reduceAdd, Nat.reduceLT, Int.reduceEq, Int.reduceLT, Int.reduceLE, Int.reduceNeg, Int.reduceAdd, hi, even_ints', he, hj, aidx_at _ hx]) | (refine (below_c G _ _ _ ⟨by omega, by omega⟩).x fun n' hn' => ?_; simp -dsimp -implicitDefEqProofs (disch := omega) only [↓wpre, push_cast, reduceCtorEq, ↓reduceIte, Nat.reduceEqDiff, Nat.reduceLeDiff, Nat.reduceAdd, Nat.reduceLT, Int.reduceEq, Int.reduceLT, Int.reduceLE, Int.reduceNeg, Int.reduceAdd, hi, even_ints', he, hj, aidx_at _ hx]))
/-- Many rows more. -/
theorem xapp_many {P : Program} {G fr : Nat → AV} {H : Nat → Option AObj} {n n0 : Nat} {K : St → Prop} {u : Wit K} {d : Option Nat} {os : List AOper} {i : Option Nat} {E : TypeId} {sz bytes : Nat} {rows news : List (List AV)} {nz : Bool} {len : Nat} (h : OutIs n0 H i E sz rows n) (hn0 : n0 ≤ n) (hne : i ≠ none → rows ≠ []) (hl : len = rows.length) (hr : Even sz news) (hb : (rows.length + news.length) * bytes ≤ 140737488355328) (hb2 : rows.length + news.length ≤ 9223372036854775807)
    (k : ∀ i' HN n', OutIs n0 HN i' E sz (rows ++ news) n' → (i' ≠ none → rows ++ news ≠ []) → (∀ j, j < n0 → HN j = H j) → n ≤ n' → xops P G K u os ⟨put fr d (outAV i' (rows.length + news.length)), HN, n'⟩) : xapp P G K u os d E sz bytes fr H n (outAV i len) (.ls nz news) := by
  subst hl
  cases i with
  | none =>
    have h : rows = [] := h
    subst h
    cases news with
    | nil =>
      rw [outAV, xapp_nil]
      exact k none H n rfl (fun h => (h rfl).elim) (fun _ _ => rfl) (Nat.le_refl _)
    | cons r rs =>
      rw [outAV, xapp_first hr (by simpa using hb2) (by simpa using hb)]
      have := k (some n) (hu H n (some ⟨E, sz, [] ++ r :: rs⟩)) (n + 1) ⟨hu_same, hn0, Nat.lt_succ_self _⟩ (fun _ => by simp) (fun j hj => hu_ne (by omega)) (by omega)
      simpa [outAV] using this
  | some i =>
    have hr0 := hne (by simp)
    have hpos := List.length_pos_iff.2 hr0
    obtain ⟨h1, h2, h3⟩ := h
    rw [outAV, xapp_os h1 rfl hr (by omega) hb]
    exact k (some n) _ (n + 1) ⟨hu_same, hn0, Nat.lt_succ_self _⟩ (fun _ => by simp [hr0]) (fun j hj => by rw [hu_ne (by omega), hu_ne (by omega)]) (by omega)
end Go.Proofs.YtdbfkibbhmbaoaaGreatDoor

