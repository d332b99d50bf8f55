/- Contracts of functions of the program: each computes what its model says; the conditions stand at each. -/
import Derived.Test.YthcedgclhoggcaaGreatDoorTw33
set_option linter.unusedSimpArgs false
set_option linter.unusedVariables false
set_option maxRecDepth 20000
set_option pp.deepTerms false
set_option pp.deepTerms.threshold 3
namespace Go.Proofs.YthcedgclhoggcaaGreatDoor
open Go Go.Ab Go.Pm Go.Cm
variable (G : Nat → AV) (H : Nat → Option AObj)
theorem plain_per (l : List Per) : ∀ r ∈ l.map Per.c, plain r = true := fun r hr => by
  obtain ⟨s, _, rfl⟩ := List.mem_map.1 hr
  rfl
theorem even_pers (l : List Per) : Even 5 (l.map Per.c) = True := eq_true fun r hr => by
  obtain ⟨s, _, rfl⟩ := List.mem_map.1 hr
  exact ⟨rfl, rfl⟩
theorem periods_c (hG : GOk G) (nzp nz : Bool) (p : List Purpose) (l : List Stm) (x : Idn) (purpose region : T) (channel : Int) (hP : SmallP p) (hpl : p.length ≤ 1000000) (hS : SmallS l) (hl : l.length ≤ 19) (hr : region.size ≤ 9223372036854775807) (hx : x.text.size < 4294967281) : AFn Tryz.prog G 24 [.ls nzp (p.map Purpose.c), .ls nz (l.map Stm.c), .agg x.c, .str purpose, .str region, .int channel] H (.tup [lsOf ((periodsOf ⟨p, nzp, purpose, region, channel, 0⟩ l x).1.map Per.c), .int (periodsOf ⟨p, nzp, purpose, region, channel, 0⟩ l x).2]) := by
  intro n
  refine ACalls.frz (periods_run G H hG nzp nz p l x purpose region channel hP hpl hS hl hr hx n) ?_
  generalize periodsOf ⟨p, nzp, purpose, region, channel, 0⟩ l x = pe
  rintro r H1 n1 (⟨rfl, rfl⟩ | ⟨o, rfl, h1, h2, h3, h4⟩)
  · refine ⟨fun _ => none, H1, 0, fun _ _ h => (by cases h), Sub.refl _, fun _ _ h => (by cases h), rfl, rfl⟩
  · refine ⟨only o ⟨61, 5, pe.1.map Per.c⟩, H, 2, only_sub h1, h2, fun j x hj => ?_, ?_, rfl⟩
    · unfold only at hj
      split at hj
      · rename_i e; subst e; exact h3
      · cases hj
    · show AV.tup [frz _ 1 (.os o 0 _), frz _ 1 (.lit _)] = _
      rw [frz_os_plain (plain_per _) (by simp)]
      cases hx : pe.1 with
      | nil => exact absurd hx h4
      | cons s r => rfl
/-- Next takes one number off the stream; which it gives is fixed. -/
theorem next_det (nz : Bool) (l : List Int) (a m : Int) (i : Nat) (hi : H i = some (strm (LL nz l) a)) (ha : 0 ≤ a ∧ a ≤ 1099511627776) (hm : 1 ≤ m ∧ m ≤ 4611686018427387904) : ∃ k : Int, (0 ≤ k ∧ k < m) ∧ ∀ n, ACalls Tryz.prog G 25 [.op i 0 0, .int m] H n fun r H' n' => r = .int k ∧ H' = hu H i (some (strm (LL nz l) (a + 1))) := by
  cases l with
  | nil =>
    refine ⟨below ((a + 1) * 7919) m, below_in _ _ hm.1, fun n => ?_⟩
    refine ACalls.start mix F25 (by simp) fun hlow => ?_
    have hq := Qs.refl hi hlow
    simp -dsimp -implicitDefEqProofs (disch := omega) only [↓wpre, push_cast, reduceCtorEq, ↓reduceIte, Nat.reduceEqDiff, Nat.reduceLeDiff, Nat.reduceAdd, Nat.reduceMul, Nat.reduceSub, Nat.reduceLT, Int.reduceEq, Int.reduceLT, Int.reduceLE, Int.reduceNeg, Int.reduceAdd, Int.reduceSub, c25, hi]
    refine (below_c G _ _ m ⟨by omega, by omega⟩).x fun n' hn' => ?_
    simp -dsimp -implicitDefEqProofs (disch := omega) only [↓wpre, push_cast, reduceCtorEq, ↓reduceIte, Nat.reduceEqDiff, Nat.reduceLeDiff, Nat.reduceAdd, Nat.reduceMul, Nat.reduceSub, Nat.reduceLT, Int.reduceEq, Int.reduceLT, Int.reduceLE, Int.reduceNeg, Int.reduceAdd, Int.reduceSub, hi]
  | cons y l =>
    have hlen : (0 : Int) < (l.length : Int) + 1 := by omega
    have t1 := Int.tmod_nonneg ((l.length : Int) + 1) ha.1
    have t2 := Int.tmod_lt_of_pos a hlen
    obtain ⟨j, hj⟩ : ∃ j : Nat, a.tmod ((l.length : Int) + 1) = j := ⟨(a.tmod ((l.length : Int) + 1)).toNat, by omega⟩
    have hjl : j < (y :: l).length := by simp only [List.length_cons]; omega
    have hx := List.getElem?_eq_getElem hjl
    have he : a + 1 - 1 = a := by omega
    refine ⟨below (IntKind.i64.wrap (below ((y :: l)[j]) 1073741824 + IntKind.i64.wrap (IntKind.i64.wrap (a.tdiv ((l.length : Int) + 1)) * IntKind.i64.wrap (7919 + j)))) m, below_in _ _ hm.1, fun n => ?_⟩
    refine ACalls.start mix F25 (by simp) fun hlow => ?_
    have hq := Qs.refl hi hlow
    simp -dsimp -implicitDefEqProofs (disch := omega) only [↓wpre, push_cast, reduceCtorEq, ↓reduceIte, Nat.reduceEqDiff, Nat.reduceLeDiff, Nat.reduceAdd, Nat.reduceMul, Nat.reduceSub, Nat.reduceLT, Int.reduceEq, Int.reduceLT, Int.reduceLE, Int.reduceNeg, Int.reduceAdd, Int.reduceSub, c25, hi]
    repeat' (first | ((first | with_reducible refine cnd_ndec (fun hc => ?_) (fun hc => ?_) | with_reducible refine cnd_dec (fun hc => ?_) (fun hc => ?_) | with_reducible refine cnd_nb (fun hc => ?_) (fun hc => ?_) | with_reducible refine cnd_intro (fun hc => ?_) (fun hc => ?_)) <;> (first | (exfalso; omega) | (try simp -dsimp -implicitDefEqProofs (disch := omega) only [↓wpre, push_cast, reduceCtorEq, ↓reduceIte, Nat.reduceEqDiff, Nat.reduceLeDiff, Nat.reduceAdd, Nat.reduceMul, Nat.reduceSub, Nat.reduceLT, Int.reduceEq, Int.reduceLT, Int.reduceLE, Int.reduceNeg, Int.reduceAdd, Int.reduceSub, hc, hi, even_ints', he, hj, aidx_at _ hx]))) | (with_reducible refine anyN_intro fun n' hn' => ?_; try simp -dsimp -implicitDefEqProofs (disch := omega) only [↓wpre, push_cast, reduceCtorEq, ↓reduceIte, Nat.reduceEqDiff, Nat.reduceLeDiff, Nat.reduceAdd, Nat.reduceMul, Nat.reduceSub, Nat.reduceLT, Int.reduceEq, Int.reduceLT, Int.reduceLE, Int.reduceNeg, Int.reduceAdd, Int.reduceSub, hi, even_ints', he, hj, aidx_at _ hx]) | (refine (below_c G _ _ _ ⟨by omega, by omega⟩).x fun n' hn' => ?_; simp -dsimp -implicitDefEqProofs (disch := omega) only [↓wpre, push_cast, reduceCtorEq, ↓reduceIte, Nat.reduceEqDiff, Nat.reduceLeDiff, Nat.reduceAdd, Nat.reduceMul, Nat.reduceSub, Nat.reduceLT, Int.reduceEq, Int.reduceLT, Int.reduceLE, Int.reduceNeg, Int.reduceAdd, Int.reduceSub, hi, even_ints', he, hj, aidx_at _ hx]))
theorem perGo_length (ans : Int → Answer) : ∀ (ms : List Int) (f : Int) (a : Answer), (perGo ans f a ms).length ≤ ms.length + 1
  | [], f, a => by simp [perGo]
  | m :: r, f, a => by
    rw [perGo]
    split
    · have := perGo_length ans r f a; simp only [List.length_cons]; omega
    · have := perGo_length ans r m (ans m); simp only [List.length_cons]; omega
theorem periodsOf_length (q : Q) (l : List Stm) (x : Idn) (hl : l.length ≤ 19) : (periodsOf q l x).1.length ≤ 58 := by
  unfold periodsOf
  split
  · simp
  · have h0 : (saidBy l x q.channel).length ≤ 19 := by rw [saidBy, isort_length]; exact Nat.le_trans (List.length_filter_le _ _) (by omega)
    have h1 := compact_len (msortI (momRaw ((termOf q.p q.purpose q.region q.channel).getD noTerm) q.purpose (saidBy l x q.channel)))
    rw [msortI_length] at h1
    have h2 := momRaw_len ((termOf q.p q.purpose q.region q.channel).getD noTerm) q.purpose (saidBy l x q.channel)
    have h3 : (momL ((termOf q.p q.purpose q.region q.channel).getD noTerm) q.purpose (saidBy l x q.channel)).length ≤ 57 := Nat.le_trans (List.length_filter_le _ _) (by omega)
    have h4 := perGo_length (answer q l x) (momL ((termOf q.p q.purpose q.region q.channel).getD noTerm) q.purpose (saidBy l x q.channel)) 0 (answer q l x 0)
    dsimp only; omega
/-- The last answer so far. -/
def lastA (d : List Per) : Option Answer := d.getLast?.map (·.a)
set_option maxHeartbeats 3200000 in
theorem periodsLaw_c (hG : GOk G) (nz : Bool) (l : List Int) (n : Nat) : ACalls Tryz.prog G 6 [LL nz l] H n fun r H' n' => r = .bool true := by
  refine ACalls.start mix F6o (by simp) fun hlow => ?_
  simp -dsimp -implicitDefEqProofs (disch := omega) only [↓wpre, push_cast, reduceCtorEq, ↓reduceIte, Nat.reduceEqDiff, Nat.reduceLeDiff, Nat.reduceAdd, Nat.reduceMul, Nat.reduceSub, Nat.reduceLT, Int.reduceEq, Int.reduceLT, Int.reduceLE, Int.reduceNeg, Int.reduceAdd, Int.reduceSub, c6o]
  refine (rightPolicy_c G _ nz l 0 n hu_same (by omega)).x fun r a1 n1 hn1 h1 h2 h3 => ?_
  obtain ⟨p, rfl, hp⟩ := h3
  simp -dsimp -implicitDefEqProofs (disch := omega) only [↓wpre, push_cast, reduceCtorEq, ↓reduceIte, Nat.reduceEqDiff, Nat.reduceLeDiff, Nat.reduceAdd, Nat.reduceMul, Nat.reduceSub, Nat.reduceLT, Int.reduceEq, Int.reduceLT, Int.reduceLE, Int.reduceNeg, Int.reduceAdd, Int.reduceSub, hu_hu]
  refine (range_c G _ nz l a1 1 12 n hu_same (by omega) (by omega)).x fun r a2 n2 hn2 h1' h2' h3 => ?_
  obtain ⟨many, rfl, hm⟩ := h3
  simp -dsimp -implicitDefEqProofs (disch := omega) only [↓wpre, push_cast, reduceCtorEq, ↓reduceIte, Nat.reduceEqDiff, Nat.reduceLeDiff, Nat.reduceAdd, Nat.reduceMul, Nat.reduceSub, Nat.reduceLT, Int.reduceEq, Int.reduceLT, Int.reduceLE, Int.reduceNeg, Int.reduceAdd, Int.reduceSub, hu_hu]
  refine (rightStatements_c G _ hG nz true p hp.1 l a2 many n hu_same (by omega) (by omega)).x fun r a3 n3 hn3 h3 h4 h5 => ?_
  obtain ⟨lst, rfl, hR, hlen⟩ := h5
  simp -dsimp -implicitDefEqProofs (disch := omega) only [↓wpre, push_cast, reduceCtorEq, ↓reduceIte, Nat.reduceEqDiff, Nat.reduceLeDiff, Nat.reduceAdd, Nat.reduceMul, Nat.reduceSub, Nat.reduceLT, Int.reduceEq, Int.reduceLT, Int.reduceLE, Int.reduceNeg, Int.reduceAdd, Int.reduceSub, hu_hu]
  refine (question_c G _ hG nz true p hp l a3 n hu_same (by omega)).x fun r a4 n4 hn4 h6 h7 h8 => ?_
  obtain ⟨q, hq, rfl⟩ := h8
  have hl0 : lst ≠ [] := by intro e; subst e; simp at hlen; omega
  have hls : lsOf (lst.map Stm.c) = .ls true (lst.map Stm.c) := by
    cases lst with
    | nil => exact absurd rfl hl0
    | cons s r => rfl
  have hP : SmallP p := fun x hx => ⟨Nat.le_trans (hp.2 x hx).1 (by decide), fun t ht => Nat.le_trans ((hp.2 x hx).2 t ht) (by decide)⟩
  have hps := hp.1
  have hS : SmallS lst := fun s hs => by
    have h := (hR.each s hs).1
    have := (pool_small _ h.id).2.2
    refine ⟨by omega, ?_⟩
    rcases h.region with e | e <;> rw [e] <;> decide
  have hqr : q.region.size ≤ 9223372036854775807 := Nat.le_trans hq.2.2.1 (by decide)
  have hqx : q.x.text.size < 4294967281 := Nat.lt_of_le_of_lt hq.1.2.2 (by decide)
  simp -dsimp -implicitDefEqProofs (disch := omega) only [↓wpre, push_cast, reduceCtorEq, ↓reduceIte, Nat.reduceEqDiff, Nat.reduceLeDiff, Nat.reduceAdd, Nat.reduceMul, Nat.reduceSub, Nat.reduceLT, Int.reduceEq, Int.reduceLT, Int.reduceLE, Int.reduceNeg, Int.reduceAdd, Int.reduceSub, hu_hu, hls]
  refine AFn.x (periods_c G _ hG true true p lst q.x q.purpose q.region q.channel hP (by omega) hS (by omega) hqr hqx) fun n5 hn5 => ?_
  by_cases h0 : checkAll ⟨p, true, q.purpose, q.region, q.channel, 0⟩ lst 1 [q.x] = 0
  case neg =>
    have e1 : periodsOf ⟨p, true, q.purpose, q.region, q.channel, 0⟩ lst q.x = ([], checkAll ⟨p, true, q.purpose, q.region, q.channel, 0⟩ lst 1 [q.x]) := by rw [periodsOf, if_pos h0]
    rw [e1]
    simp -dsimp -implicitDefEqProofs (disch := omega) only [↓wpre, push_cast, reduceCtorEq, ↓reduceIte, Nat.reduceEqDiff, Nat.reduceLeDiff, Nat.reduceAdd, Nat.reduceMul, Nat.reduceSub, Nat.reduceLT, Int.reduceEq, Int.reduceLT, Int.reduceLE, Int.reduceNeg, Int.reduceAdd, Int.reduceSub, hu_hu, h0, lsOf]
    refine AFn.x (consents_c G _ hG) fun n9 hn9 => ?_
    simp -dsimp -implicitDefEqProofs (disch := omega) only [↓wpre, push_cast, reduceCtorEq, ↓reduceIte, Nat.reduceEqDiff, Nat.reduceLeDiff, Nat.reduceAdd, Nat.reduceMul, Nat.reduceSub, Nat.reduceLT, Int.reduceEq, Int.reduceLT, Int.reduceLE, Int.reduceNeg, Int.reduceAdd, Int.reduceSub, hu_hu]
    exact fin_intro (Sub.refl _) rfl
  have hck : Cm.check p lst = 0 := by grind [checkAll]
  have hpa := checkPolicy_all (check_all hck).1
  have hlaw := periods_law p true q.purpose q.region q.channel lst q.x h0 (fun t ht => by
    obtain ⟨p', hp', ht'⟩ := termOf_mem ht
    have := (hpa p' hp').2 t ht'
    omega) (fun s hs => (hR.each s hs).1.at'.1)
  have hpl := periodsOf_length ⟨p, true, q.purpose, q.region, q.channel, 0⟩ lst q.x (by omega)
  obtain ⟨g1, g2, g3⟩ := hlaw
  generalize periodsOf ⟨p, true, q.purpose, q.region, q.channel, 0⟩ lst q.x = pe at g1 g2 g3 hpl ⊢
  obtain ⟨x, e⟩ := pe
  dsimp only at g1 g2 g3 hpl
  subst g1
  simp -dsimp -implicitDefEqProofs (disch := omega) only [↓wpre, push_cast, reduceCtorEq, ↓reduceIte, Nat.reduceEqDiff, Nat.reduceLeDiff, Nat.reduceAdd, Nat.reduceMul, Nat.reduceSub, Nat.reduceLT, Int.reduceEq, Int.reduceLT, Int.reduceLE, Int.reduceNeg, Int.reduceAdd, Int.reduceSub, hu_hu, lsOf]
  generalize (!(List.map Per.c x).isEmpty) = nzx
  refine xw_loopJ (σ := List Per × List Per × Int × Int) (fun t => [(3, .op n 0 0), (4, .ls true (p.map Purpose.c)), (5, .ls true (lst.map Stm.c)), (6, .op n4 0 0), (7, .ls nzx (x.map Per.c)), (9, .int t.2.2.1), (53, .ls nzx (x.map Per.c)), (54, .int x.length), (55, .int t.1.length)]) (fun t H' n' => x = t.1 ++ t.2.1 ∧ PChain t.2.2.1 (lastA t.1) t.2.1 ∧ H' n = some (strm (LL nz l) t.2.2.2) ∧ H' n4 = some ⟨34, 6, [Qm.c q]⟩ ∧ 0 ≤ t.2.2.2 ∧ t.2.2.2 ≤ 1000 + t.1.length ∧ n4 < n') (fun t => t.2.1.length) ([], x, 0, a4) ⟨rfl, g2, by simp -dsimp -implicitDefEqProofs (disch := omega) only [↓wpre, push_cast, reduceCtorEq, ↓reduceIte, Nat.reduceEqDiff, Nat.reduceLeDiff, Nat.reduceAdd, Nat.reduceMul, Nat.reduceSub, Nat.reduceLT, Int.reduceEq, Int.reduceLT, Int.reduceLE, Int.reduceNeg, Int.reduceAdd, Int.reduceSub, true_and], by simp -dsimp -implicitDefEqProofs (disch := omega) only [↓wpre, push_cast, reduceCtorEq, ↓reduceIte, Nat.reduceEqDiff, Nat.reduceLeDiff, Nat.reduceAdd, Nat.reduceMul, Nat.reduceSub, Nat.reduceLT, Int.reduceEq, Int.reduceLT, Int.reduceLE, Int.reduceNeg, Int.reduceAdd, Int.reduceSub, true_and], by dsimp only; omega, by simp only [List.length_nil]; omega, by omega⟩ (by simp -dsimp -implicitDefEqProofs (disch := omega) only [↓wpre, push_cast, reduceCtorEq, ↓reduceIte, Nat.reduceEqDiff, Nat.reduceLeDiff, Nat.reduceAdd, Nat.reduceMul, Nat.reduceSub, Nat.reduceLT, Int.reduceEq, Int.reduceLT, Int.reduceLE, Int.reduceNeg, Int.reduceAdd, Int.reduceSub, true_and]; try rfl) ?_
  rintro ⟨d, b, at0, a⟩ fr H' m1 ⟨hab, hch, hsn, hs4, ha1, ha2, hm1⟩ hh
  simp only [has_nil, has_cons, and_true] at hh hab
  dsimp only at hch hsn hs4 ha1 ha2
  cases b with
  | nil =>
    rw [List.append_nil] at hab
    subst hab
    have hat : at0 = 4321440 := hch
    subst hat
    simp -dsimp -implicitDefEqProofs (disch := omega) only [↓wpre, push_cast, reduceCtorEq, ↓reduceIte, Nat.reduceEqDiff, Nat.reduceLeDiff, Nat.reduceAdd, Nat.reduceMul, Nat.reduceSub, Nat.reduceLT, Int.reduceEq, Int.reduceLT, Int.reduceLE, Int.reduceNeg, Int.reduceAdd, Int.reduceSub, hh]
    refine AFn.x (consents_c G _ hG) fun n9 hn9 => ?_
    simp -dsimp -implicitDefEqProofs (disch := omega) only [↓wpre, push_cast, reduceCtorEq, ↓reduceIte, Nat.reduceEqDiff, Nat.reduceLeDiff, Nat.reduceAdd, Nat.reduceMul, Nat.reduceSub, Nat.reduceLT, Int.reduceEq, Int.reduceLT, Int.reduceLE, Int.reduceNeg, Int.reduceAdd, Int.reduceSub, true_and]
    exact fin_intro (Sub.refl _) rfl
  | cons v b =>
    have hxl : d.length + (b.length + 1) ≤ 58 := by rw [hab] at hpl; simpa using hpl
    have hlt : (d.length : Int) < x.length := by rw [hab]; simp only [List.length_append, List.length_cons]; omega
    have hget : x[d.length]? = some v := by rw [hab]; simp
    obtain ⟨k1, k2, k3, k4⟩ := g3 v (by rw [hab]; simp)
    obtain ⟨c1, c2, c3⟩ := hch
    subst c1
    have k5 : ¬ v.hi ≤ v.lo := by omega
    simp -dsimp -implicitDefEqProofs (disch := omega) only [↓wpre, push_cast, reduceCtorEq, ↓reduceIte, Nat.reduceEqDiff, Nat.reduceLeDiff, Nat.reduceAdd, Nat.reduceMul, Nat.reduceSub, Nat.reduceLT, Int.reduceEq, Int.reduceLT, Int.reduceLE, Int.reduceNeg, Int.reduceAdd, Int.reduceSub, hh, hlt, even_pers, aidx_at _ hget, k5]
    have hj : ((0 : Int) < d.length ∧ ∃ (j : Nat) (u : Per), (d.length : Int) - 1 = j ∧ x[j]? = some u ∧ ¬ v.a = u.a) ∨ ¬ (0 : Int) < d.length := by
      rcases List.eq_nil_or_concat d with rfl | ⟨d', u, rfl⟩
      · right; simp
      · left
        rw [List.concat_eq_append] at *
        refine ⟨by simp only [List.length_append, List.length_cons, List.length_nil]; omega, d'.length, u, by simp, by rw [hab]; simp, c2 u.a (by simp [lastA])⟩
    obtain ⟨HX, hHX⟩ : ∃ HX, HX = hu (hu H' m1 (some ⟨61, 5, [[.int 0, .int 0, .bool false, .int 0, .int 0]]⟩)) m1 (some ⟨61, 5, [Per.c v]⟩) := ⟨_, rfl⟩
    have hXn : HX n = some (strm (LL nz l) a) := by rw [hHX, hu_ne (by omega), hu_ne (by omega)]; exact hsn
    have hX4 : HX n4 = some ⟨34, 6, [Qm.c q]⟩ := by rw [hHX, hu_ne (by omega), hu_ne (by omega)]; exact hs4
    have hXm : HX m1 = some ⟨61, 5, [Per.c v]⟩ := by rw [hHX, hu_same]
    obtain ⟨kk, hkk, hdet⟩ := next_det G HX nz l a (v.hi - v.lo) n hXn ⟨by omega, by omega⟩ ⟨by omega, by omega⟩
    have honly : only m1 ⟨61, 5, [Per.c v]⟩ m1 = some ⟨61, 5, [Per.c v]⟩ := by simp [only]
    have hs1 : Ab.Sub (only m1 ⟨61, 5, [Per.c v]⟩) HX := only_sub hXm
    have hs2 : Ab.Sub (only m1 ⟨61, 5, [Per.c v]⟩) (hu HX n (some (strm (LL nz l) (a + 1)))) := only_sub (by rw [hu_ne (by omega)]; exact hXm)
    rcases hj with ⟨hj0, j, u, hj1, hj2, hj3⟩ | hj0
    case' inl =>
      simp -dsimp -implicitDefEqProofs (disch := omega) only [↓wpre, push_cast, reduceCtorEq, ↓reduceIte, Nat.reduceEqDiff, Nat.reduceLeDiff, Nat.reduceAdd, Nat.reduceMul, Nat.reduceSub, Nat.reduceLT, Int.reduceEq, Int.reduceLT, Int.reduceLE, Int.reduceNeg, Int.reduceAdd, Int.reduceSub, hh, hj0, hj1, even_pers, aidx_at _ hj2, ans_eq, hj3, decide_false]
      refine anyN_intro fun m2 hm2 => ?_
      simp -dsimp -implicitDefEqProofs (disch := omega) only [↓wpre, push_cast, reduceCtorEq, ↓reduceIte, Nat.reduceEqDiff, Nat.reduceLeDiff, Nat.reduceAdd, Nat.reduceMul, Nat.reduceSub, Nat.reduceLT, Int.reduceEq, Int.reduceLT, Int.reduceLE, Int.reduceNeg, Int.reduceAdd, Int.reduceSub, hh, ans_eq, hj3, decide_false]
    case' inr =>
      simp -dsimp -implicitDefEqProofs (disch := omega) only [↓wpre, push_cast, reduceCtorEq, ↓reduceIte, Nat.reduceEqDiff, Nat.reduceLeDiff, Nat.reduceAdd, Nat.reduceMul, Nat.reduceSub, Nat.reduceLT, Int.reduceEq, Int.reduceLT, Int.reduceLE, Int.reduceNeg, Int.reduceAdd, Int.reduceSub, hh, hj0]
      refine anyN_intro fun m2 hm2 => ?_
      simp -dsimp -implicitDefEqProofs (disch := omega) only [↓wpre, push_cast, reduceCtorEq, ↓reduceIte, Nat.reduceEqDiff, Nat.reduceLeDiff, Nat.reduceAdd, Nat.reduceMul, Nat.reduceSub, Nat.reduceLT, Int.reduceEq, Int.reduceLT, Int.reduceLE, Int.reduceNeg, Int.reduceAdd, Int.reduceSub, hh]
    all_goals
      rw [← hHX]
      refine xereg_intro (only m1 ⟨61, 5, [Per.c v]⟩) hs1 ?_
      simp -dsimp -implicitDefEqProofs (disch := omega) only [↓wpre, push_cast, reduceCtorEq, ↓reduceIte, Nat.reduceEqDiff, Nat.reduceLeDiff, Nat.reduceAdd, Nat.reduceMul, Nat.reduceSub, Nat.reduceLT, Int.reduceEq, Int.reduceLT, Int.reduceLE, Int.reduceNeg, Int.reduceAdd, Int.reduceSub, hh, honly]
      refine xecall_intro hdet hs2 ?_
      simp -dsimp -implicitDefEqProofs (disch := omega) only [↓wpre, push_cast, reduceCtorEq, ↓reduceIte, Nat.reduceEqDiff, Nat.reduceLeDiff, Nat.reduceAdd, Nat.reduceMul, Nat.reduceSub, Nat.reduceLT, Int.reduceEq, Int.reduceLT, Int.reduceLE, Int.reduceNeg, Int.reduceAdd, Int.reduceSub, hh, honly]
      refine anyN_intro fun m3 hm3 => ?_
      simp -dsimp -implicitDefEqProofs (disch := omega) only [↓wpre, push_cast, reduceCtorEq, ↓reduceIte, Nat.reduceEqDiff, Nat.reduceLeDiff, Nat.reduceAdd, Nat.reduceMul, Nat.reduceSub, Nat.reduceLT, Int.reduceEq, Int.reduceLT, Int.reduceLE, Int.reduceNeg, Int.reduceAdd, Int.reduceSub, hh]
      have hin : ∀ m ∈ [v.lo, v.hi - 1, v.lo + kk], v.lo ≤ m ∧ m < v.hi := fun m hm => by
        simp at hm
        rcases hm with rfl | rfl | rfl <;> omega
      have h3l : [v.lo, v.hi - 1, v.lo + kk].length = 3 := rfl
      generalize hms3 : [v.lo, v.hi - 1, v.lo + kk] = ms3 at hin h3l
      refine xw_loopJ (σ := List Int × List Int) (fun t => [(3, .op n 0 0), (4, .ls true (p.map Purpose.c)), (5, .ls true (lst.map Stm.c)), (6, .op n4 0 0), (7, .ls nzx (x.map Per.c)), (9, .int v.hi), (11, .op m1 0 0), (53, .ls nzx (x.map Per.c)), (54, .int x.length), (55, .int d.length), (112, .ls true (ms3.map IC)), (113, .int 3), (114, .int t.1.length)]) (fun t H' n' => ms3 = t.1 ++ t.2 ∧ H' n = some (strm (LL nz l) (a + 1)) ∧ H' n4 = some ⟨34, 6, [Qm.c q]⟩ ∧ H' m1 = some ⟨61, 5, [Per.c v]⟩ ∧ m1 < n') (fun t => t.2.length) ([], ms3) ⟨rfl, hu_same, by rw [hu_ne (by omega)]; exact hX4, by rw [hu_ne (by omega)]; exact hXm, by omega⟩ (by simp -dsimp -implicitDefEqProofs (disch := omega) only [↓wpre, push_cast, reduceCtorEq, ↓reduceIte, Nat.reduceEqDiff, Nat.reduceLeDiff, Nat.reduceAdd, Nat.reduceMul, Nat.reduceSub, Nat.reduceLT, Int.reduceEq, Int.reduceLT, Int.reduceLE, Int.reduceNeg, Int.reduceAdd, Int.reduceSub, hh]; try (rw [← hms3]); try rfl) ?_
      clear hXn hX4 hXm hs1 hs2 hdet hHX
      rintro ⟨d3, b3⟩ fr3 H3 m4 ⟨hab3, q1, q2, q3, hm4⟩ hh3
      simp only [has_nil, has_cons, and_true] at hh3 hab3
      cases b3 with
      | nil =>
        rw [List.append_nil] at hab3
        subst hab3
        have h3i : (ms3.length : Int) = 3 := by omega
        simp -dsimp -implicitDefEqProofs (disch := omega) only [↓wpre, push_cast, reduceCtorEq, ↓reduceIte, Nat.reduceEqDiff, Nat.reduceLeDiff, Nat.reduceAdd, Nat.reduceMul, Nat.reduceSub, Nat.reduceLT, Int.reduceEq, Int.reduceLT, Int.reduceLE, Int.reduceNeg, Int.reduceAdd, Int.reduceSub, hh3, h3i]
        refine againJ (d ++ [v], b, v.hi, a + 1) (Nat.lt_succ_self _) ⟨by rw [hab]; simp, by simpa [lastA] using c3, q1, q2, by dsimp only; omega, by simp only [List.length_append, List.length_cons, List.length_nil]; omega, by omega⟩ (by simp -dsimp -implicitDefEqProofs (disch := omega) only [↓wpre, push_cast, reduceCtorEq, ↓reduceIte, Nat.reduceEqDiff, Nat.reduceLeDiff, Nat.reduceAdd, Nat.reduceMul, Nat.reduceSub, Nat.reduceLT, Int.reduceEq, Int.reduceLT, Int.reduceLE, Int.reduceNeg, Int.reduceAdd, Int.reduceSub, hh3]; try simp)
      | cons m b3 =>
        have hl3 : d3.length + (b3.length + 1) = 3 := by rw [hab3] at h3l; simpa using h3l
        have hlt3 : (d3.length : Int) < 3 := by omega
        have hget3 : ms3[d3.length]? = some m := by rw [hab3]; simp
        have hm3 := hin m (by rw [hab3]; simp)
        obtain ⟨e1, e2⟩ := k4 m hm3.1 hm3.2
        simp -dsimp -implicitDefEqProofs (disch := omega) only [↓wpre, push_cast, reduceCtorEq, ↓reduceIte, Nat.reduceEqDiff, Nat.reduceLeDiff, Nat.reduceAdd, Nat.reduceMul, Nat.reduceSub, Nat.reduceLT, Int.reduceEq, Int.reduceLT, Int.reduceLE, Int.reduceNeg, Int.reduceAdd, Int.reduceSub, hh3, hlt3, even_ints', aidx_at _ hget3, q1, q2, q3]
        refine AFn.x (may_c G _ hG true true p lst q.x q.purpose q.region q.channel m hP (by omega) hS (by omega) hqr hqx) fun m5 hm5 => ?_
        rw [e1]
        simp -dsimp -implicitDefEqProofs (disch := omega) only [↓wpre, push_cast, reduceCtorEq, ↓reduceIte, Nat.reduceEqDiff, Nat.reduceLeDiff, Nat.reduceAdd, Nat.reduceMul, Nat.reduceSub, Nat.reduceLT, Int.reduceEq, Int.reduceLT, Int.reduceLE, Int.reduceNeg, Int.reduceAdd, Int.reduceSub, hh3, q1, q2, q3]
        refine AFn.x (next_fn G _ hG true true p lst q.x q.purpose q.region q.channel m hP (by omega) hS (by omega) hqr hqx) fun m6 hm6 => ?_
        rw [e2]
        simp -dsimp -implicitDefEqProofs (disch := omega) only [↓wpre, push_cast, reduceCtorEq, ↓reduceIte, Nat.reduceEqDiff, Nat.reduceLeDiff, Nat.reduceAdd, Nat.reduceMul, Nat.reduceSub, Nat.reduceLT, Int.reduceEq, Int.reduceLT, Int.reduceLE, Int.reduceNeg, Int.reduceAdd, Int.reduceSub, hh3, q1, q2, q3]
        refine againJ (d3 ++ [m], b3) (Nat.lt_succ_self _) ⟨by rw [hab3]; simp, by simp -dsimp -implicitDefEqProofs (disch := omega) only [↓wpre, push_cast, reduceCtorEq, ↓reduceIte, Nat.reduceEqDiff, Nat.reduceLeDiff, Nat.reduceAdd, Nat.reduceMul, Nat.reduceSub, Nat.reduceLT, Int.reduceEq, Int.reduceLT, Int.reduceLE, Int.reduceNeg, Int.reduceAdd, Int.reduceSub, q1], by simp -dsimp -implicitDefEqProofs (disch := omega) only [↓wpre, push_cast, reduceCtorEq, ↓reduceIte, Nat.reduceEqDiff, Nat.reduceLeDiff, Nat.reduceAdd, Nat.reduceMul, Nat.reduceSub, Nat.reduceLT, Int.reduceEq, Int.reduceLT, Int.reduceLE, Int.reduceNeg, Int.reduceAdd, Int.reduceSub, q2], by simp -dsimp -implicitDefEqProofs (disch := omega) only [↓wpre, push_cast, reduceCtorEq, ↓reduceIte, Nat.reduceEqDiff, Nat.reduceLeDiff, Nat.reduceAdd, Nat.reduceMul, Nat.reduceSub, Nat.reduceLT, Int.reduceEq, Int.reduceLT, Int.reduceLE, Int.reduceNeg, Int.reduceAdd, Int.reduceSub, q3], by omega⟩ (by simp -dsimp -implicitDefEqProofs (disch := omega) only [↓wpre, push_cast, reduceCtorEq, ↓reduceIte, Nat.reduceEqDiff, Nat.reduceLeDiff, Nat.reduceAdd, Nat.reduceMul, Nat.reduceSub, Nat.reduceLT, Int.reduceEq, Int.reduceLT, Int.reduceLE, Int.reduceNeg, Int.reduceAdd, Int.reduceSub, hh3]; try simp)
end Go.Proofs.YthcedgclhoggcaaGreatDoor
