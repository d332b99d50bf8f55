/- Contracts of functions of the program: each computes what its model says; the conditions stand at each. -/
import Derived.Test.YthcedgclhoggcaaGreatDoorTw63
import Derived.Test.YthcedgclhoggcaaGreatDoorTw26
import Derived.Test.YthcedgclhoggcaaGreatDoorTw27
import Derived.Test.YthcedgclhoggcaaGreatDoorW5
set_option linter.unusedSimpArgs false
set_option linter.unusedVariables false
set_option maxRecDepth 20000
set_option pp.deepTerms false
set_option pp.deepTerms.threshold 3
namespace Go.Proofs.YthcedgclhoggcaaGreatDoor
open Go Go.Ab Go.Pm Go.Cm
variable (G : Nat → AV) (H : Nat → Option AObj)
theorem merge_err {m : Int} {cs : List AV} (hG : G 2 = .pp (.lit (.int .i64 m) :: cs)) (nzp nza nzb : Bool) (p : List Purpose) (a b : List Stm) (hP : SmallP p) (hpl : p.length ≤ 1000000) (hka : SmallS a) (h1 : Cm.check p a ≠ 0) :
    AFn Tryz.prog G 30 [.ls nzp (p.map Purpose.c), .ls nza (a.map Stm.c), .ls nzb (b.map Stm.c)] H (.tup [.ls false [], .int (Cm.check p a)]) := by
  refine AFn.start mix F30 (by simp) fun n hlow => ?_
  simp -dsimp -implicitDefEqProofs (disch := omega) only [↓wpre, push_cast, reduceCtorEq, ↓reduceIte, Nat.reduceEqDiff, Nat.reduceLeDiff, Nat.reduceAdd, Nat.reduceLT, Int.reduceEq, Int.reduceLT, Int.reduceLE, Int.reduceNeg, Int.reduceAdd, c30]
  refine xw_loopJ (σ := Unit) (fun t => [(0, .ls nzp (p.map Purpose.c)), (1, .ls nza (a.map Stm.c)), (2, .ls nzb (b.map Stm.c)), (15, .ls true (LsC [(nza, a), (nzb, b)])), (16, .int 2), (17, .int 0)]) (fun t H' n' => H = H') (fun t => 0) () rfl (by simp -dsimp -implicitDefEqProofs (disch := omega) only [↓wpre, push_cast, reduceCtorEq, ↓reduceIte, Nat.reduceEqDiff, Nat.reduceLeDiff, Nat.reduceAdd, Nat.reduceLT, Int.reduceEq, Int.reduceLT, Int.reduceLE, Int.reduceNeg, Int.reduceAdd, true_and]; try rfl) ?_
  rintro _ fr H' n1 rfl hh
  simp only [has_nil, has_cons, and_true] at hh
  have hget : ([(nza, a), (nzb, b)] : List (Bool × List Stm))[0]? = some (nza, a) := rfl
  have h01 : (0 : Int) < 2 := by decide
  have hidx : aidx H 1 (.ls true (LsC [(nza, a), (nzb, b)])) (.lit (.int .i64 0)) = some (.pp [.ls nza (a.map Stm.c)]) := rfl
  simp -dsimp -implicitDefEqProofs (disch := omega) only [↓wpre, push_cast, reduceCtorEq, ↓reduceIte, Nat.reduceEqDiff, Nat.reduceLeDiff, Nat.reduceAdd, Nat.reduceLT, Int.reduceEq, Int.reduceLT, Int.reduceLE, Int.reduceNeg, Int.reduceAdd, hh, h01, even_LsC, hidx]
  refine AFn.x (check_c G _ hG nzp nza p a hP hpl hka) fun n2 hn2 => ?_
  simp -dsimp -implicitDefEqProofs (disch := omega) only [↓wpre, push_cast, reduceCtorEq, ↓reduceIte, Nat.reduceEqDiff, Nat.reduceLeDiff, Nat.reduceAdd, Nat.reduceLT, Int.reduceEq, Int.reduceLT, Int.reduceLE, Int.reduceNeg, Int.reduceAdd, hh, h1]
  first | done | exact ⟨rfl, Sub.refl _⟩
theorem clone_f (l : List Stm) (hl : l ≠ []) (hl2 : l.length ≤ 1000000) : AFn Tryz.prog G 15 [.ls true (l.map Stm.c)] H (.ls true (l.map Stm.c)) := by
  intro n
  refine low_of G H fun hlow => ACalls.frz (clone_c G H l hl hl2 n) ?_
  rintro r H1 n1 ⟨rfl, rfl⟩
  have hp : ∀ r ∈ l.map Stm.c, plain r = true := plain_stm l
  refine ⟨only (n + 1) ⟨43, 8, l.map Stm.c⟩, H, 3, only_sub hu_same, fun i o hi => by have := hlow i o hi; rw [hu_ne (by omega)]; exact hi, fun j o hj => ?_, ?_, rfl⟩
  · unfold only at hj
    split at hj
    · rename_i e; subst e
      cases hx : H (n + 1) with
      | none => rfl
      | some y => exact absurd (hlow _ y hx) (by omega)
    · cases hj
  · rw [frz_os_plain hp (by simp)]
theorem even_idn' (l : List Idn) : Even 2 (l.map Idn.c) = True := eq_true fun r hr => by
  obtain ⟨s, _, rfl⟩ := List.mem_map.1 hr
  exact ⟨rfl, rfl⟩
theorem idn_dec (x y : Idn) : (decide (x.kind = y.kind) && decide (x.text = y.text)) = decide (x = y) := by
  obtain ⟨c, d⟩ := x
  obtain ⟨c', d'⟩ := y
  rw [Bool.eq_iff_iff]
  simp only [Bool.and_eq_true, decide_eq_true_eq, Idn.mk.injEq]
theorem equalIds_c (nza nzb : Bool) (a b : List Idn) (ha : a.length ≤ 1000000) (hb : b.length ≤ 1000000) : AFn Tryz.prog G 34 [.ls nza (a.map Idn.c), .ls nzb (b.map Idn.c)] H (.bool (decide (a = b))) := by
  refine AFn.start mix F34 (by simp) fun k hlow => ?_
  by_cases hl : (a.length : Int) = b.length
  · simp -dsimp -implicitDefEqProofs (disch := omega) only [↓wpre, push_cast, reduceCtorEq, ↓reduceIte, Nat.reduceEqDiff, Nat.reduceLeDiff, Nat.reduceAdd, Nat.reduceLT, Int.reduceEq, Int.reduceLT, Int.reduceLE, Int.reduceNeg, Int.reduceAdd, c34, hl]
    refine xw_loopJ (σ := List Idn × List Idn × List Idn) (fun t => [(0, .ls nza (a.map Idn.c)), (1, .ls nzb (b.map Idn.c)), (12, .int a.length), (13, .int t.1.length)]) (fun t H' n' => a = t.1 ++ t.2.1 ∧ b = t.1 ++ t.2.2 ∧ t.2.1.length = t.2.2.length ∧ H = H' ∧ k ≤ n') (fun t => t.2.1.length) ([], a, b) ⟨rfl, rfl, by dsimp only; omega, rfl, Nat.le_refl _⟩ (by simp -dsimp -implicitDefEqProofs (disch := omega) only [↓wpre, push_cast, reduceCtorEq, ↓reduceIte, Nat.reduceEqDiff, Nat.reduceLeDiff, Nat.reduceAdd, Nat.reduceLT, Int.reduceEq, Int.reduceLT, Int.reduceLE, Int.reduceNeg, Int.reduceAdd, hl]; try rfl) ?_
    rintro ⟨d, u, v⟩ fr H' n1 ⟨hu, hv, huv, rfl, hn1⟩ hh
    simp only [has_nil, has_cons, and_true] at hh hu hv huv
    cases u with
    | nil =>
      cases v with
      | cons y v => simp at huv
      | nil =>
        rw [List.append_nil] at hu hv
        subst hu hv
        simp -dsimp -implicitDefEqProofs (disch := omega) only [↓wpre, push_cast, reduceCtorEq, ↓reduceIte, Nat.reduceEqDiff, Nat.reduceLeDiff, Nat.reduceAdd, Nat.reduceLT, Int.reduceEq, Int.reduceLT, Int.reduceLE, Int.reduceNeg, Int.reduceAdd, hh]
    | cons x u =>
      cases v with
      | nil => simp at huv
      | cons y v =>
        have hlt : (d.length : Int) < a.length := by rw [hu]; simp; omega
        have g1 : a[d.length]? = some x := by rw [hu]; simp
        have g2 : b[d.length]? = some y := by rw [hv]; simp
        simp -dsimp -implicitDefEqProofs (disch := omega) only [↓wpre, push_cast, reduceCtorEq, ↓reduceIte, Nat.reduceEqDiff, Nat.reduceLeDiff, Nat.reduceAdd, Nat.reduceLT, Int.reduceEq, Int.reduceLT, Int.reduceLE, Int.reduceNeg, Int.reduceAdd, hh, hlt, even_idn', aidx_at _ g1, aidx_at _ g2]
        refine anyN_intro fun n2 hn2 => ?_
        simp -dsimp -implicitDefEqProofs (disch := omega) only [↓wpre, push_cast, reduceCtorEq, ↓reduceIte, Nat.reduceEqDiff, Nat.reduceLeDiff, Nat.reduceAdd, Nat.reduceLT, Int.reduceEq, Int.reduceLT, Int.reduceLE, Int.reduceNeg, Int.reduceAdd, hh]
        rw [idn_dec x y]
        by_cases hxy : x = y
        · simp only [hxy, decide_true, Bool.not_true]
          simp -dsimp -implicitDefEqProofs (disch := omega) only [↓wpre, push_cast, reduceCtorEq, ↓reduceIte, Nat.reduceEqDiff, Nat.reduceLeDiff, Nat.reduceAdd, Nat.reduceLT, Int.reduceEq, Int.reduceLT, Int.reduceLE, Int.reduceNeg, Int.reduceAdd, hh]
          refine againJ (d ++ [x], u, v) (Nat.lt_succ_self _) ⟨by rw [hu]; simp, by rw [hv, hxy]; simp, by simpa using huv, rfl, by omega⟩ (by simp -dsimp -implicitDefEqProofs (disch := omega) only [↓wpre, push_cast, reduceCtorEq, ↓reduceIte, Nat.reduceEqDiff, Nat.reduceLeDiff, Nat.reduceAdd, Nat.reduceLT, Int.reduceEq, Int.reduceLT, Int.reduceLE, Int.reduceNeg, Int.reduceAdd, hh]; try simp)
        · have hne : ¬ a = b := fun e => hxy (by
            rw [e, g2] at g1
            exact (Option.some.inj g1).symm)
          simp only [hxy, decide_false, Bool.not_false]
          simp -dsimp -implicitDefEqProofs (disch := omega) only [↓wpre, push_cast, reduceCtorEq, ↓reduceIte, Nat.reduceEqDiff, Nat.reduceLeDiff, Nat.reduceAdd, Nat.reduceLT, Int.reduceEq, Int.reduceLT, Int.reduceLE, Int.reduceNeg, Int.reduceAdd, hh, hne]
          try simp [hne]
  · simp -dsimp -implicitDefEqProofs (disch := omega) only [↓wpre, push_cast, reduceCtorEq, ↓reduceIte, Nat.reduceEqDiff, Nat.reduceLeDiff, Nat.reduceAdd, Nat.reduceLT, Int.reduceEq, Int.reduceLT, Int.reduceLE, Int.reduceNeg, Int.reduceAdd, c34, hl]
    have : ¬ a = b := fun e => hl (by rw [e])
    simp [this]
/-- A slice that may be written, at object o, or nil. -/
def OwnW (n4 E sz : Nat) (mo : AV) (len : Nat) (H : Nat → Option AObj) : Prop := len ≤ 1000000 ∧ ((mo = .ls false [] ∧ len = 0) ∨ ∃ o rows, mo = .os o 0 len ∧ o ≠ n4 ∧ H o = some ⟨E, sz, rows⟩ ∧ ∀ i, i < len → ∃ row, rows[i]? = some row ∧ row.length = sz)
theorem OwnW.len {n4 E sz len : Nat} {mo : AV} {H : Nat → Option AObj} (h : OwnW n4 E sz mo len H) : alen mo = some (.int len) := by
  rcases h with ⟨_, ⟨rfl, rfl⟩ | ⟨o, rows, rfl, _⟩⟩ <;> rfl
theorem OwnW.put {n4 E sz len o k : Nat} {H : Nat → Option AObj} {rows : List (List AV)} {r : List AV} (hl : len ≤ 1000000) (hne : o ≠ n4) (hw : ∀ i, i < len → ∃ row, rows[i]? = some row ∧ row.length = sz) (hr : r.length = sz) : OwnW n4 E sz (.os o 0 len) len (hu H o (some ⟨E, sz, rows.set k r⟩)) := by
  refine ⟨hl, .inr ⟨o, _, rfl, hne, hu_same, fun i hi => ?_⟩⟩
  obtain ⟨row, h1, h2⟩ := hw i hi
  by_cases hk : k = i
  · subst hk
    exact ⟨r, by rw [List.getElem?_set_self (List.getElem?_eq_some_iff.1 h1).1], hr⟩
  · exact ⟨row, by rw [List.getElem?_set_ne hk]; exact h1, h2⟩
theorem OwnS.toW {k n4 : Nat} {x : AV} {H : Nat → Option AObj} (h : OwnS k x H) (hn : n4 < k) : ∃ len, OwnW n4 43 8 x len H := by
  rcases h with rfl | ⟨o, len, rows, rfl, h1, h2, h3, h4, h5⟩
  · exact ⟨0, by omega, .inl ⟨rfl, rfl⟩⟩
  · refine ⟨len, h5, .inr ⟨o, rows, rfl, by omega, h1, fun i hi => ?_⟩⟩
    have hx := List.getElem?_eq_getElem (l := rows) (i := i) (by omega)
    exact ⟨_, hx, (h3 _ (List.mem_of_getElem? hx)).1⟩
theorem list8 {r : List AV} (h : r.length = 8) : ∃ a b c d e f g i, r = [a, b, c, d, e, f, g, i] := by
  match r, h with
  | [a, b, c, d, e, f, g, i], _ => exact ⟨a, b, c, d, e, f, g, i, rfl⟩
theorem list1 {r : List AV} (h : r.length = 1) : ∃ a, r = [a] := by
  match r, h with
  | [a], _ => exact ⟨a, rfl⟩
set_option maxHeartbeats 3200000 in
theorem stay_c (hG : GOk G) (hT : GT G) (nz : Bool) (l : List Int) (n : Nat) : ACalls Tryz.prog G 8 [LL nz l] H n fun r H' n' => r = .bool true := by
  refine ACalls.start mix F8 (by simp) fun hlow => ?_
  simp -dsimp -implicitDefEqProofs (disch := omega) only [↓wpre, push_cast, reduceCtorEq, ↓reduceIte, Nat.reduceEqDiff, Nat.reduceLeDiff, Nat.reduceAdd, Nat.reduceLT, Int.reduceEq, Int.reduceLT, Int.reduceLE, Int.reduceNeg, Int.reduceAdd, c8]
  refine (rightPolicyS_c G _ nz l 0 n hu_same (by omega)).x fun r a1 n1 hn1 h1 h2 h3 => ?_
  obtain ⟨p, rfl, hpp, hp0⟩ := h3
  have hp := polSmallN hpp
  simp -dsimp -implicitDefEqProofs (disch := omega) only [↓wpre, push_cast, reduceCtorEq, ↓reduceIte, Nat.reduceEqDiff, Nat.reduceLeDiff, Nat.reduceAdd, Nat.reduceLT, Int.reduceEq, Int.reduceLT, Int.reduceLE, Int.reduceNeg, Int.reduceAdd, hu_hu]
  refine (range_c G _ nz l a1 1 10 n hu_same (by omega) (by omega)).x fun r a2 n2 hn2 h1' h2' h3 => ?_
  obtain ⟨many, rfl, hm⟩ := h3
  simp -dsimp -implicitDefEqProofs (disch := omega) only [↓wpre, push_cast, reduceCtorEq, ↓reduceIte, Nat.reduceEqDiff, Nat.reduceLeDiff, Nat.reduceAdd, Nat.reduceLT, Int.reduceEq, Int.reduceLT, Int.reduceLE, Int.reduceNeg, Int.reduceAdd, hu_hu]
  refine (rightStatements_c G _ hG nz true p hp.1 l a2 many n hu_same (by omega) (by omega)).x fun r a3 n3 hn3 h3 h4 h5 => ?_
  obtain ⟨lst, rfl, hR, hlen⟩ := h5
  simp -dsimp -implicitDefEqProofs (disch := omega) only [↓wpre, push_cast, reduceCtorEq, ↓reduceIte, Nat.reduceEqDiff, Nat.reduceLeDiff, Nat.reduceAdd, Nat.reduceLT, Int.reduceEq, Int.reduceLT, Int.reduceLE, Int.reduceNeg, Int.reduceAdd, hu_hu]
  refine (question_c G _ hG nz true p hp l a3 n hu_same (by omega)).x fun r a4 n4 hn4 h6 h7 h8 => ?_
  obtain ⟨q, hq, rfl⟩ := h8
  have hl0 : lst ≠ [] := by intro e; subst e; simp at hlen; omega
  have hls : lsOf (lst.map Stm.c) = .ls true (lst.map Stm.c) := by
    cases lst with
    | nil => exact absurd rfl hl0
    | cons s r => rfl
  have hP : SmallP p := fun x hx => ⟨Nat.le_trans (hp.2 x hx).1 (by decide), fun t ht => Nat.le_trans ((hp.2 x hx).2 t ht) (by decide)⟩
  have hps := hp.1
  have hS : SmallS lst := fun s hs => by
    have h := (hR.each s hs).1
    have := (pool_small _ h.id).2.2
    refine ⟨by omega, ?_⟩
    rcases h.region with e | e <;> rw [e] <;> decide
  have hqr : q.region.size ≤ 9223372036854775807 := Nat.le_trans hq.2.2.1 (by decide)
  have hqx : q.x.text.size < 4294967281 := Nat.lt_of_le_of_lt hq.1.2.2 (by decide)
  simp -dsimp -implicitDefEqProofs (disch := omega) only [↓wpre, push_cast, reduceCtorEq, ↓reduceIte, Nat.reduceEqDiff, Nat.reduceLeDiff, Nat.reduceAdd, Nat.reduceLT, Int.reduceEq, Int.reduceLT, Int.reduceLE, Int.reduceNeg, Int.reduceAdd, hu_hu, hls]
  refine (clone_f G _ lst hl0 (by omega)).x fun n5 hn5 => ?_
  simp -dsimp -implicitDefEqProofs (disch := omega) only [↓wpre, push_cast, reduceCtorEq, ↓reduceIte, Nat.reduceEqDiff, Nat.reduceLeDiff, Nat.reduceAdd, Nat.reduceLT, Int.reduceEq, Int.reduceLT, Int.reduceLE, Int.reduceNeg, Int.reduceAdd, hu_hu]
  refine (textPolicy_c G _ hT true p hpp hp0).x fun n6 hn6 => ?_
  simp -dsimp -implicitDefEqProofs (disch := omega) only [↓wpre, push_cast, reduceCtorEq, ↓reduceIte, Nat.reduceEqDiff, Nat.reduceLeDiff, Nat.reduceAdd, Nat.reduceLT, Int.reduceEq, Int.reduceLT, Int.reduceLE, Int.reduceNeg, Int.reduceAdd, hu_hu]
  obtain ⟨m, cs, hGm⟩ := hG.maxLen
  obtain ⟨mm, hml, hM, hN, hO⟩ : ∃ mm : List Stm, mm.length ≤ 1000000 ∧
      (∀ H n, H n4 ≠ none → ACalls Tryz.prog G 30 [.ls true (p.map Purpose.c), .ls true (lst.map Stm.c), .ls true (lst.map Stm.c)] H n fun r H' n' => ∃ mo len e, r = .tup [mo, .int e] ∧ Sub H H' ∧ OwnW n4 43 8 mo len H') ∧
      (∃ b e, ∀ H, AFn Tryz.prog G 30 [.ls true (p.map Purpose.c), .ls true (lst.map Stm.c), .ls true (lst.map Stm.c)] H (.tup [.ls b (mm.map Stm.c), .int e])) ∧
      (∃ b e, ∀ H, AFn Tryz.prog G 30 [.ls true (p.map Purpose.c), .ls true (lst.map Stm.c), .ls false []] H (.tup [.ls b (mm.map Stm.c), .int e])) := by
    by_cases hc : Cm.check p lst = 0
    · have hc0 : Cm.check p [] = 0 := by rw [Cm.check, if_neg (by rw [checkPolicy_zero hpp hp0]; simp), if_neg (by simp)]; rfl
      have hmc : mergeL (lst ++ lst) = mergeL (lst ++ []) := mergeL_congr (KSub.of_sub fun s h => by simp only [List.mem_append, List.not_mem_nil, or_false, or_self] at h ⊢; exact h) (KSub.of_sub fun s h => by simp only [List.mem_append, List.not_mem_nil, or_false, or_self] at h ⊢; exact h)
      refine ⟨mergeL (lst ++ lst), by have := mergeL_len (lst ++ lst); rw [List.length_append] at this; omega, fun H n hne => ?_, ⟨_, _, fun H => merge_c G H hGm true true true p lst lst hP (by omega) hS hS (by omega) hc hc⟩, ⟨!(lst ++ []).isEmpty, 0, fun H => ?_⟩⟩
      · refine (merge_run G H hGm true true true p lst lst hP (by omega) hS hS (by omega) hc hc n).mono fun r H' n' h => ?_
        rcases h with ⟨h1, rfl, rfl⟩ | ⟨h1, o, jr, rfl, h2, h3, h4⟩
        · exact ⟨_, 0, _, rfl, Sub.refl _, by omega, .inl ⟨rfl, rfl⟩⟩
        · refine ⟨_, _, _, rfl, h3, by have := mergeL_len (lst ++ lst); rw [List.length_append] at this; omega, .inr ⟨o, _, rfl, fun e => hne (by rw [← e]; exact h4), h2, fun i hi => ?_⟩⟩
          refine ⟨((mergeL (lst ++ lst))[i]'hi).c, ?_, rfl⟩
          rw [List.getElem?_append_left (by simpa using hi), List.getElem?_map, List.getElem?_eq_getElem hi]; rfl
      · rw [hmc]
        exact merge_c G H hGm true true false p lst [] hP (by omega) hS (fun s hs => by simp at hs) (by simp; omega) hc hc0
    · refine ⟨[], by simp, fun H n hne => ?_, ⟨false, _, fun H => merge_err G H hGm true true true p lst lst hP (by omega) hS hc⟩, ⟨false, _, fun H => merge_err G H hGm true true false p lst [] hP (by omega) hS hc⟩⟩
      exact (merge_err G H hGm true true true p lst lst hP (by omega) hS hc).calls fun n' _ => ⟨_, 0, _, rfl, Sub.refl _, by omega, .inl ⟨rfl, rfl⟩⟩
  obtain ⟨b1, e1, hN⟩ := hN
  obtain ⟨b2, e2, hO⟩ := hO
  generalize htx : (⟨(polB p).toArray⟩ : T) = txt
  have hqn : ∀ o, hu (hu H n (some (strm (LL nz l) a4))) n4 o n4 = o := fun o => hu_same
  refine (hM _ _ (by rw [hu_same]; simp)).le.x fun r H2 n7 ⟨⟨mo, len, e0, h8, h9, h10⟩, hn7⟩ => ?_
  subst h8
  have hqq : H2 n4 = some ⟨34, 6, [q.c]⟩ := h9 _ _ hu_same
  simp -dsimp -implicitDefEqProofs (disch := omega) only [↓wpre, push_cast, reduceCtorEq, ↓reduceIte, Nat.reduceEqDiff, Nat.reduceLeDiff, Nat.reduceAdd, Nat.reduceLT, Int.reduceEq, Int.reduceLT, Int.reduceLE, Int.reduceNeg, Int.reduceAdd, true_and]
  refine (hN _).x fun n8 hn8 => ?_
  simp -dsimp -implicitDefEqProofs (disch := omega) only [↓wpre, push_cast, reduceCtorEq, ↓reduceIte, Nat.reduceEqDiff, Nat.reduceLeDiff, Nat.reduceAdd, Nat.reduceLT, Int.reduceEq, Int.reduceLT, Int.reduceLE, Int.reduceNeg, Int.reduceAdd, h10.len]
  refine xw_loopJ (σ := Nat) (fun t => [(4, .ls true (p.map Purpose.c)), (5, .ls true (lst.map Stm.c)), (6, .op n4 0 0), (7, .ls true (lst.map Stm.c)), (8, .str txt), (12, .ls b1 (mm.map Stm.c)), (10, mo), (62, .int len), (63, .int t)]) (fun t H' n' => H' n4 = some ⟨34, 6, [q.c]⟩ ∧ OwnW n4 43 8 mo len H' ∧ t ≤ len ∧ n4 < n') (fun t => len - t) 0 ⟨hqq, h10, Nat.zero_le _, by (first | omega | (dsimp only; omega))⟩ (by simp -dsimp -implicitDefEqProofs (disch := omega) only [↓wpre, push_cast, reduceCtorEq, ↓reduceIte, Nat.reduceEqDiff, Nat.reduceLeDiff, Nat.reduceAdd, Nat.reduceLT, Int.reduceEq, Int.reduceLT, Int.reduceLE, Int.reduceNeg, Int.reduceAdd, h10.len]) ?_
  rintro k fr H1 m1 ⟨hq1, ho1, hk1, hm1⟩ hh
  simp only [has_nil, has_cons, and_true] at hh
  have hal := ho1.len
  by_cases hkl : (k : Int) < len
  · rcases ho1 with ⟨hlb, ⟨_, h0⟩ | ⟨o, rows, rfl, hon, hoo, hw⟩⟩
    · omega
    · obtain ⟨row, hr1, hr2⟩ := hw k (by omega)
      obtain ⟨_, _, _, _, _, _, _, _, rfl⟩ := list8 hr2
      simp -dsimp -implicitDefEqProofs (disch := omega) only [↓wpre, push_cast, reduceCtorEq, ↓reduceIte, Nat.reduceEqDiff, Nat.reduceLeDiff, Nat.reduceAdd, Nat.reduceLT, Int.reduceEq, Int.reduceLT, Int.reduceLE, Int.reduceNeg, Int.reduceAdd, hh, hkl, hoo, hr1, Int.toNat_natCast]
      refine againJ (k + 1) (by omega) ⟨by rw [hu_ne (Ne.symm hon)]; exact hq1, OwnW.put hlb hon hw (by first | rfl | simp), by omega, hm1⟩ (by simp -dsimp -implicitDefEqProofs (disch := omega) only [↓wpre, push_cast, reduceCtorEq, ↓reduceIte, Nat.reduceEqDiff, Nat.reduceLeDiff, Nat.reduceAdd, Nat.reduceLT, Int.reduceEq, Int.reduceLT, Int.reduceLE, Int.reduceNeg, Int.reduceAdd, hh])
  simp -dsimp -implicitDefEqProofs (disch := omega) only [↓wpre, push_cast, reduceCtorEq, ↓reduceIte, Nat.reduceEqDiff, Nat.reduceLeDiff, Nat.reduceAdd, Nat.reduceLT, Int.reduceEq, Int.reduceLT, Int.reduceLE, Int.reduceNeg, Int.reduceAdd, hh, hkl]
  clear hal ho1 hk1 hkl h10 hqq
  have hqq := hq1
  clear h9 hM hN
  refine (hO _).x fun n9 hn9 => ?_
  simp -dsimp -implicitDefEqProofs (disch := omega) only [↓wpre, push_cast, reduceCtorEq, ↓reduceIte, Nat.reduceEqDiff, Nat.reduceLeDiff, Nat.reduceAdd, Nat.reduceLT, Int.reduceEq, Int.reduceLT, Int.reduceLE, Int.reduceNeg, Int.reduceAdd, hh, hq1]
  refine (askFor_run G _ hG true true true p lst q.x q.purpose q.region q.channel q.at' hP (by omega) hS (by omega) hqr hqx _).le.x fun r H3 n10 ⟨⟨mo2, e3, h8, h9, h10⟩, hn10⟩ => ?_
  subst h8
  have hqq := h9 _ _ hq1
  obtain ⟨len2, h10⟩ := h10.toW (n4 := n4) (by omega)
  simp -dsimp -implicitDefEqProofs (disch := omega) only [↓wpre, push_cast, reduceCtorEq, ↓reduceIte, Nat.reduceEqDiff, Nat.reduceLeDiff, Nat.reduceAdd, Nat.reduceLT, Int.reduceEq, Int.reduceLT, Int.reduceLE, Int.reduceNeg, Int.reduceAdd, hh, h10.len]
  clear hq1 h9
  refine xw_loopJ (σ := Nat) (fun t => [(4, .ls true (p.map Purpose.c)), (5, .ls true (lst.map Stm.c)), (6, .op n4 0 0), (7, .ls true (lst.map Stm.c)), (8, .str txt), (12, .ls b1 (mm.map Stm.c)), (15, .ls b2 (mm.map Stm.c)), (17, mo2), (94, .int len2), (95, .int t)]) (fun t H' n' => H' n4 = some ⟨34, 6, [q.c]⟩ ∧ OwnW n4 43 8 mo2 len2 H' ∧ t ≤ len2 ∧ n4 < n') (fun t => len2 - t) 0 ⟨hqq, h10, Nat.zero_le _, by (first | omega | (dsimp only; omega))⟩ (by simp -dsimp -implicitDefEqProofs (disch := omega) only [↓wpre, push_cast, reduceCtorEq, ↓reduceIte, Nat.reduceEqDiff, Nat.reduceLeDiff, Nat.reduceAdd, Nat.reduceLT, Int.reduceEq, Int.reduceLT, Int.reduceLE, Int.reduceNeg, Int.reduceAdd, hh, h10.len]) ?_
  rintro k fr H1 m1 ⟨hq1, ho1, hk1, hm1⟩ hh
  simp only [has_nil, has_cons, and_true] at hh
  have hal := ho1.len
  by_cases hkl : (k : Int) < len2
  · rcases ho1 with ⟨hlb, ⟨_, h0⟩ | ⟨o, rows, rfl, hon, hoo, hw⟩⟩
    · omega
    · obtain ⟨row, hr1, hr2⟩ := hw k (by omega)
      obtain ⟨_, _, _, _, _, _, _, _, rfl⟩ := list8 hr2
      simp -dsimp -implicitDefEqProofs (disch := omega) only [↓wpre, push_cast, reduceCtorEq, ↓reduceIte, Nat.reduceEqDiff, Nat.reduceLeDiff, Nat.reduceAdd, Nat.reduceLT, Int.reduceEq, Int.reduceLT, Int.reduceLE, Int.reduceNeg, Int.reduceAdd, hh, hkl, hoo, hr1, Int.toNat_natCast]
      refine againJ (k + 1) (by omega) ⟨by rw [hu_ne (Ne.symm hon)]; exact hq1, OwnW.put hlb hon hw (by first | rfl | simp), by omega, hm1⟩ (by simp -dsimp -implicitDefEqProofs (disch := omega) only [↓wpre, push_cast, reduceCtorEq, ↓reduceIte, Nat.reduceEqDiff, Nat.reduceLeDiff, Nat.reduceAdd, Nat.reduceLT, Int.reduceEq, Int.reduceLT, Int.reduceLE, Int.reduceNeg, Int.reduceAdd, hh])
  simp -dsimp -implicitDefEqProofs (disch := omega) only [↓wpre, push_cast, reduceCtorEq, ↓reduceIte, Nat.reduceEqDiff, Nat.reduceLeDiff, Nat.reduceAdd, Nat.reduceLT, Int.reduceEq, Int.reduceLT, Int.reduceLE, Int.reduceNeg, Int.reduceAdd, hh, hkl]
  clear hal ho1 hk1 hkl h10 hqq
  have hqq := hq1
  simp -dsimp -implicitDefEqProofs (disch := omega) only [↓wpre, push_cast, reduceCtorEq, ↓reduceIte, Nat.reduceEqDiff, Nat.reduceLeDiff, Nat.reduceAdd, Nat.reduceLT, Int.reduceEq, Int.reduceLT, Int.reduceLE, Int.reduceNeg, Int.reduceAdd, hh, hq1]
  refine (proof_run G _ hG true true p lst q.x q.purpose q.region q.channel q.at' hP (by omega) hS (by omega) hqr hqx (fun no => one_of (upTo_ne hR.rise _ _ _) no) _).le.x fun r H4 n11 ⟨h8, hn11⟩ => ?_
  obtain ⟨mo3, len3, e4, h8, hqq, h10⟩ : ∃ mo3 len3 e4, r = .tup [mo3, .int e4] ∧ H4 n4 = some ⟨34, 6, [q.c]⟩ ∧ OwnW n4 3 1 mo3 len3 H4 := by
    rcases h8 with ⟨h1, h2, h3⟩ | ⟨o, h1, h2, h3, h4, h5, h6⟩
    · subst h2
      exact ⟨_, 0, _, h1, hq1, by omega, .inl ⟨by rw [lsI, h3]; rfl, rfl⟩⟩
    · refine ⟨_, _, _, h1, h3 _ _ hq1, by omega, .inr ⟨o, _, rfl, fun e => ?_, h2, fun i hi => ?_⟩⟩
      · rw [e, hq1] at h4; cases h4
      · exact ⟨_, by rw [List.getElem?_map, List.getElem?_eq_getElem hi]; rfl, rfl⟩
  subst h8
  simp -dsimp -implicitDefEqProofs (disch := omega) only [↓wpre, push_cast, reduceCtorEq, ↓reduceIte, Nat.reduceEqDiff, Nat.reduceLeDiff, Nat.reduceAdd, Nat.reduceLT, Int.reduceEq, Int.reduceLT, Int.reduceLE, Int.reduceNeg, Int.reduceAdd, hh, h10.len]
  clear hq1
  refine xw_loopJ (σ := Nat) (fun t => [(4, .ls true (p.map Purpose.c)), (5, .ls true (lst.map Stm.c)), (6, .op n4 0 0), (7, .ls true (lst.map Stm.c)), (8, .str txt), (12, .ls b1 (mm.map Stm.c)), (15, .ls b2 (mm.map Stm.c)), (20, mo3), (120, .int len3), (121, .int t)]) (fun t H' n' => H' n4 = some ⟨34, 6, [q.c]⟩ ∧ OwnW n4 3 1 mo3 len3 H' ∧ t ≤ len3 ∧ n4 < n') (fun t => len3 - t) 0 ⟨hqq, h10, Nat.zero_le _, by (first | omega | (dsimp only; omega))⟩ (by simp -dsimp -implicitDefEqProofs (disch := omega) only [↓wpre, push_cast, reduceCtorEq, ↓reduceIte, Nat.reduceEqDiff, Nat.reduceLeDiff, Nat.reduceAdd, Nat.reduceLT, Int.reduceEq, Int.reduceLT, Int.reduceLE, Int.reduceNeg, Int.reduceAdd, hh, h10.len]) ?_
  rintro k fr H1 m1 ⟨hq1, ho1, hk1, hm1⟩ hh
  simp only [has_nil, has_cons, and_true] at hh
  have hal := ho1.len
  by_cases hkl : (k : Int) < len3
  · rcases ho1 with ⟨hlb, ⟨_, h0⟩ | ⟨o, rows, rfl, hon, hoo, hw⟩⟩
    · omega
    · obtain ⟨row, hr1, hr2⟩ := hw k (by omega)
      obtain ⟨_, rfl⟩ := list1 hr2
      simp -dsimp -implicitDefEqProofs (disch := omega) only [↓wpre, push_cast, reduceCtorEq, ↓reduceIte, Nat.reduceEqDiff, Nat.reduceLeDiff, Nat.reduceAdd, Nat.reduceLT, Int.reduceEq, Int.reduceLT, Int.reduceLE, Int.reduceNeg, Int.reduceAdd, hh, hkl, hoo, hr1, Int.toNat_natCast]
      refine againJ (k + 1) (by omega) ⟨by rw [hu_ne (Ne.symm hon)]; exact hq1, OwnW.put hlb hon hw (by first | rfl | simp), by omega, hm1⟩ (by simp -dsimp -implicitDefEqProofs (disch := omega) only [↓wpre, push_cast, reduceCtorEq, ↓reduceIte, Nat.reduceEqDiff, Nat.reduceLeDiff, Nat.reduceAdd, Nat.reduceLT, Int.reduceEq, Int.reduceLT, Int.reduceLE, Int.reduceNeg, Int.reduceAdd, hh])
  simp -dsimp -implicitDefEqProofs (disch := omega) only [↓wpre, push_cast, reduceCtorEq, ↓reduceIte, Nat.reduceEqDiff, Nat.reduceLeDiff, Nat.reduceAdd, Nat.reduceLT, Int.reduceEq, Int.reduceLT, Int.reduceLE, Int.reduceNeg, Int.reduceAdd, hh, hkl]
  clear hal ho1 hk1 hkl h10 hqq
  have hqq := hq1
  simp -dsimp -implicitDefEqProofs (disch := omega) only [↓wpre, push_cast, reduceCtorEq, ↓reduceIte, Nat.reduceEqDiff, Nat.reduceLeDiff, Nat.reduceAdd, Nat.reduceLT, Int.reduceEq, Int.reduceLT, Int.reduceLE, Int.reduceNeg, Int.reduceAdd, hh, hq1]
  refine (audience_run G _ hG true true true p lst [q.x, q.x] q.purpose q.region q.channel q.at' hP (by omega) hS (by omega) hqr (by simp) (by simpa using hqx) _).x fun r H5 n12 h8 => ?_
  have hq5 := h8 _ _ hq1
  simp -dsimp -implicitDefEqProofs (disch := omega) only [↓wpre, push_cast, reduceCtorEq, ↓reduceIte, Nat.reduceEqDiff, Nat.reduceLeDiff, Nat.reduceAdd, Nat.reduceLT, Int.reduceEq, Int.reduceLT, Int.reduceLE, Int.reduceNeg, Int.reduceAdd, hh, hq5]
  refine (textPolicy_c G _ hT true p hpp hp0).x fun n13 hn13 => ?_
  rw [htx]
  simp -dsimp -implicitDefEqProofs (disch := omega) only [↓wpre, push_cast, reduceCtorEq, ↓reduceIte, Nat.reduceEqDiff, Nat.reduceLeDiff, Nat.reduceAdd, Nat.reduceLT, Int.reduceEq, Int.reduceLT, Int.reduceLE, Int.reduceNeg, Int.reduceAdd, hh, hq5]
  refine (equalS_c G _ true true lst lst (by omega) (by omega)).x fun n14 hn14 => ?_
  simp -dsimp -implicitDefEqProofs (disch := omega) only [↓wpre, push_cast, reduceCtorEq, ↓reduceIte, Nat.reduceEqDiff, Nat.reduceLeDiff, Nat.reduceAdd, Nat.reduceLT, Int.reduceEq, Int.reduceLT, Int.reduceLE, Int.reduceNeg, Int.reduceAdd, hh, hq5]
  refine (equalS_c G _ b1 b2 mm mm hml hml).x fun n15 hn15 => ?_
  simp -dsimp -implicitDefEqProofs (disch := omega) only [↓wpre, push_cast, reduceCtorEq, ↓reduceIte, Nat.reduceEqDiff, Nat.reduceLeDiff, Nat.reduceAdd, Nat.reduceLT, Int.reduceEq, Int.reduceLT, Int.reduceLE, Int.reduceNeg, Int.reduceAdd, hh, hq5]
  refine (equalIds_c G _ true true [q.x, q.x] [q.x, q.x] (by simp) (by simp)).x fun n16 hn16 => ?_
  simp -dsimp -implicitDefEqProofs (disch := omega) only [↓wpre, push_cast, reduceCtorEq, ↓reduceIte, Nat.reduceEqDiff, Nat.reduceLeDiff, Nat.reduceAdd, Nat.reduceLT, Int.reduceEq, Int.reduceLT, Int.reduceLE, Int.reduceNeg, Int.reduceAdd, hh, hq5]
  refine AFn.x (consents_c G _ hG) fun n17 hn17 => ?_
  simp -dsimp -implicitDefEqProofs (disch := omega) only [↓wpre, push_cast, reduceCtorEq, ↓reduceIte, Nat.reduceEqDiff, Nat.reduceLeDiff, Nat.reduceAdd, Nat.reduceLT, Int.reduceEq, Int.reduceLT, Int.reduceLE, Int.reduceNeg, Int.reduceAdd, hh]
  exact fin_intro (Sub.refl _) rfl
end Go.Proofs.YthcedgclhoggcaaGreatDoor

