/- Contracts of functions of the program: each computes what its model says; the conditions stand at each. -/
import Derived.Test.YthcedgclhoggcaaGreatDoorTw21
import Derived.Test.YthcedgclhoggcaaGreatDoorTc3c
set_option linter.unusedSimpArgs false
set_option linter.unusedVariables false
set_option maxRecDepth 20000
set_option pp.deepTerms false
set_option pp.deepTerms.threshold 3
namespace Go.Proofs.YthcedgclhoggcaaGreatDoor
open Go Go.Ab Go.Pm Go.Cm
variable (G : Nat → AV) (H : Nat → Option AObj)
set_option maxHeartbeats 1600000 in
theorem narrow_c (hG : GOk G) (nz : Bool) (l : List Int) (n : Nat) : ACalls Tryz.prog G 4 [LL nz l] H n fun r H' n' => r = .bool true := by
  refine ACalls.start mix F4o (by simp) fun hlow => ?_
  simp -dsimp -implicitDefEqProofs (disch := omega) only [↓wpre, push_cast, reduceCtorEq, ↓reduceIte, Nat.reduceEqDiff, Nat.reduceLeDiff, Nat.reduceAdd, Nat.reduceMul, Nat.reduceSub, Nat.reduceLT, Int.reduceEq, Int.reduceLT, Int.reduceLE, Int.reduceNeg, Int.reduceAdd, Int.reduceSub, c4o]
  refine (rightPolicy_c G _ nz l 0 n hu_same (by omega)).x fun r a1 n1 hn1 h1 h2 h3 => ?_
  obtain ⟨p, rfl, hp⟩ := h3
  simp -dsimp -implicitDefEqProofs (disch := omega) only [↓wpre, push_cast, reduceCtorEq, ↓reduceIte, Nat.reduceEqDiff, Nat.reduceLeDiff, Nat.reduceAdd, Nat.reduceMul, Nat.reduceSub, Nat.reduceLT, Int.reduceEq, Int.reduceLT, Int.reduceLE, Int.reduceNeg, Int.reduceAdd, Int.reduceSub, hu_hu]
  refine (range_c G _ nz l a1 1 14 n hu_same (by omega) (by omega)).x fun r a2 n2 hn2 h1' h2' h3 => ?_
  obtain ⟨many, rfl, hm⟩ := h3
  simp -dsimp -implicitDefEqProofs (disch := omega) only [↓wpre, push_cast, reduceCtorEq, ↓reduceIte, Nat.reduceEqDiff, Nat.reduceLeDiff, Nat.reduceAdd, Nat.reduceMul, Nat.reduceSub, Nat.reduceLT, Int.reduceEq, Int.reduceLT, Int.reduceLE, Int.reduceNeg, Int.reduceAdd, Int.reduceSub, hu_hu]
  refine (rightStatements_c G _ hG nz true p hp.1 l a2 many n hu_same (by omega) (by omega)).x fun r a3 n3 hn3 h3 h4 h5 => ?_
  obtain ⟨lst, rfl, hR, hlen⟩ := h5
  simp -dsimp -implicitDefEqProofs (disch := omega) only [↓wpre, push_cast, reduceCtorEq, ↓reduceIte, Nat.reduceEqDiff, Nat.reduceLeDiff, Nat.reduceAdd, Nat.reduceMul, Nat.reduceSub, Nat.reduceLT, Int.reduceEq, Int.reduceLT, Int.reduceLE, Int.reduceNeg, Int.reduceAdd, Int.reduceSub, hu_hu]
  refine (question_c G _ hG nz true p hp l a3 n hu_same (by omega)).x fun r a4 n4 hn4 h6 h7 h8 => ?_
  obtain ⟨q, hq, rfl⟩ := h8
  have hl0 : lst ≠ [] := by intro e; subst e; simp at hlen; omega
  have hls : lsOf (lst.map Stm.c) = .ls true (lst.map Stm.c) := by
    cases lst with
    | nil => exact absurd rfl hl0
    | cons s r => rfl
  have hP : SmallP p := fun x hx => ⟨Nat.le_trans (hp.2 x hx).1 (by decide), fun t ht => Nat.le_trans ((hp.2 x hx).2 t ht) (by decide)⟩
  have hps := hp.1
  have hS : SmallS lst := fun s hs => by
    have h := (hR.each s hs).1
    have := (pool_small _ h.id).2.2
    refine ⟨by omega, ?_⟩
    rcases h.region with e | e <;> rw [e] <;> decide
  have hqr : q.region.size ≤ 9223372036854775807 := Nat.le_trans hq.2.2.1 (by decide)
  have hqx : q.x.text.size < 4294967281 := Nat.lt_of_le_of_lt hq.1.2.2 (by decide)
  simp -dsimp -implicitDefEqProofs (disch := omega) only [↓wpre, push_cast, reduceCtorEq, ↓reduceIte, Nat.reduceEqDiff, Nat.reduceLeDiff, Nat.reduceAdd, Nat.reduceMul, Nat.reduceSub, Nat.reduceLT, Int.reduceEq, Int.reduceLT, Int.reduceLE, Int.reduceNeg, Int.reduceAdd, Int.reduceSub, hu_hu, hls]
  refine AFn.x (may_c G _ hG true true p lst q.x q.purpose q.region q.channel q.at' hP (by omega) hS (by omega) hqr hqx) fun n5 hn5 => ?_
  generalize hQ : (⟨p, true, q.purpose, q.region, q.channel, q.at'⟩ : Q) = Q0
  have eQ : Q0 = ⟨p, true, q.purpose, q.region, q.channel, q.at'⟩ := hQ.symm
  by_cases h0 : (may Q0 lst q.x).2 = 0
  case neg =>
    simp -dsimp -implicitDefEqProofs (disch := omega) only [↓wpre, push_cast, reduceCtorEq, ↓reduceIte, Nat.reduceEqDiff, Nat.reduceLeDiff, Nat.reduceAdd, Nat.reduceMul, Nat.reduceSub, Nat.reduceLT, Int.reduceEq, Int.reduceLT, Int.reduceLE, Int.reduceNeg, Int.reduceAdd, Int.reduceSub, h0]
    refine AFn.x (consents_c G _ hG) fun n9 hn9 => ?_
    simp -dsimp -implicitDefEqProofs (disch := omega) only [↓wpre, push_cast, reduceCtorEq, ↓reduceIte, Nat.reduceEqDiff, Nat.reduceLeDiff, Nat.reduceAdd, Nat.reduceMul, Nat.reduceSub, Nat.reduceLT, Int.reduceEq, Int.reduceLT, Int.reduceLE, Int.reduceNeg, Int.reduceAdd, Int.reduceSub, hu_hu]
    exact fin_intro (Sub.refl _) rfl
  obtain ⟨g1, g2, g3, g4⟩ := may_ok h0
  simp -dsimp -implicitDefEqProofs (disch := omega) only [↓wpre, push_cast, reduceCtorEq, ↓reduceIte, Nat.reduceEqDiff, Nat.reduceLeDiff, Nat.reduceAdd, Nat.reduceMul, Nat.reduceSub, Nat.reduceLT, Int.reduceEq, Int.reduceLT, Int.reduceLE, Int.reduceNeg, Int.reduceAdd, Int.reduceSub, h0, hu_hu]
  refine xw_loopJ (σ := Nat × List Idn × Nat × Answer × Int) (fun t => [(3, .op n 0 0), (4, .ls true (p.map Purpose.c)), (5, .ls true (lst.map Stm.c)), (6, .op n4 0 0), (7, .os t.2.2.1 0 t.2.1.length), (8, .op n5 0 0), (48, .int t.1)]) (fun t H' n' => t.1 ≤ 4 ∧ t.2.1.length ≤ t.1 + 1 ∧ hasId q.x t.2.1 = true ∧ (∀ x ∈ t.2.1, SmallId x) ∧ t.2.2.2.1.may = ((answer Q0 lst q.x Q0.at').may && okIds Q0 lst q.x t.2.1) ∧ (0 ≤ t.2.2.2.2 ∧ t.2.2.2.2 ≤ 1000 + 10 * t.1) ∧ H' n = some (strm (LL nz l) t.2.2.2.2) ∧ H' n4 = some ⟨34, 6, [Qm.c q]⟩ ∧ H' t.2.2.1 = some ⟨32, 2, t.2.1.map Idn.c⟩ ∧ H' n5 = some ⟨37, 3, [t.2.2.2.1.c]⟩ ∧ (t.2.2.1 ≠ n ∧ t.2.2.1 ≠ n4 ∧ t.2.2.1 ≠ n5) ∧ t.2.2.1 < n' ∧ n5 < n') (fun t => 4 - t.1) (0, [q.x], n4 + 1, (may Q0 lst q.x).1, a4) ⟨by omega, by simp, by simp [hasId, idEq_self], by simpa using hq.1, by rw [g4]; simp [okIds, idEq_self], by (first | omega | (dsimp only; omega)), by simp -dsimp -implicitDefEqProofs (disch := omega) only [↓wpre, push_cast, reduceCtorEq, ↓reduceIte, Nat.reduceEqDiff, Nat.reduceLeDiff, Nat.reduceAdd, Nat.reduceMul, Nat.reduceSub, Nat.reduceLT, Int.reduceEq, Int.reduceLT, Int.reduceLE, Int.reduceNeg, Int.reduceAdd, Int.reduceSub, hu_hu], by simp -dsimp -implicitDefEqProofs (disch := omega) only [↓wpre, push_cast, reduceCtorEq, ↓reduceIte, Nat.reduceEqDiff, Nat.reduceLeDiff, Nat.reduceAdd, Nat.reduceMul, Nat.reduceSub, Nat.reduceLT, Int.reduceEq, Int.reduceLT, Int.reduceLE, Int.reduceNeg, Int.reduceAdd, Int.reduceSub, hu_hu], by simp -dsimp -implicitDefEqProofs (disch := omega) only [↓wpre, push_cast, reduceCtorEq, ↓reduceIte, Nat.reduceEqDiff, Nat.reduceLeDiff, Nat.reduceAdd, Nat.reduceMul, Nat.reduceSub, Nat.reduceLT, Int.reduceEq, Int.reduceLT, Int.reduceLE, Int.reduceNeg, Int.reduceAdd, Int.reduceSub, hu_hu]; try rfl, by simp -dsimp -implicitDefEqProofs (disch := omega) only [↓wpre, push_cast, reduceCtorEq, ↓reduceIte, Nat.reduceEqDiff, Nat.reduceLeDiff, Nat.reduceAdd, Nat.reduceMul, Nat.reduceSub, Nat.reduceLT, Int.reduceEq, Int.reduceLT, Int.reduceLE, Int.reduceNeg, Int.reduceAdd, Int.reduceSub, hu_hu], by (first | omega | (dsimp only; omega)), by (first | omega | (dsimp only; omega)), by (first | omega | (dsimp only; omega))⟩ (by simp -dsimp -implicitDefEqProofs (disch := omega) only [↓wpre, push_cast, reduceCtorEq, ↓reduceIte, Nat.reduceEqDiff, Nat.reduceLeDiff, Nat.reduceAdd, Nat.reduceMul, Nat.reduceSub, Nat.reduceLT, Int.reduceEq, Int.reduceLT, Int.reduceLE, Int.reduceNeg, Int.reduceAdd, Int.reduceSub, hu_hu]) ?_
  rintro ⟨i, ids, oid, last, a5⟩ fr H' m1 ⟨hi4, hil, hhas, hsm, hmay, ha5, hs, hq4, hid, hla, hne, hom, hnm⟩ hh
  simp only [has_nil, has_cons, and_true] at hh hi4 hil hhas hsm hmay ha5 hs hq4 hid hla hne hom hnm
  by_cases hi : (i : Int) < 4
  case neg =>
    simp -dsimp -implicitDefEqProofs (disch := omega) only [↓wpre, push_cast, reduceCtorEq, ↓reduceIte, Nat.reduceEqDiff, Nat.reduceLeDiff, Nat.reduceAdd, Nat.reduceMul, Nat.reduceSub, Nat.reduceLT, Int.reduceEq, Int.reduceLT, Int.reduceLE, Int.reduceNeg, Int.reduceAdd, Int.reduceSub, hh, hi]
    refine AFn.x (consents_c G _ hG) fun n9 hn9 => ?_
    simp -dsimp -implicitDefEqProofs (disch := omega) only [↓wpre, push_cast, reduceCtorEq, ↓reduceIte, Nat.reduceEqDiff, Nat.reduceLeDiff, Nat.reduceAdd, Nat.reduceMul, Nat.reduceSub, Nat.reduceLT, Int.reduceEq, Int.reduceLT, Int.reduceLE, Int.reduceNeg, Int.reduceAdd, Int.reduceSub, hu_hu]
    exact fin_intro (Sub.refl _) rfl
  simp -dsimp -implicitDefEqProofs (disch := omega) only [↓wpre, push_cast, reduceCtorEq, ↓reduceIte, Nat.reduceEqDiff, Nat.reduceLeDiff, Nat.reduceAdd, Nat.reduceMul, Nat.reduceSub, Nat.reduceLT, Int.reduceEq, Int.reduceLT, Int.reduceLE, Int.reduceNeg, Int.reduceAdd, Int.reduceSub, hh, hi]
  refine (id_c G _ hG nz l a5 n hs (by omega)).x fun r a6 m2 hm2 b1 b2 b3 => ?_
  obtain ⟨y, hy, rfl⟩ := b3
  simp -dsimp -implicitDefEqProofs (disch := omega) only [↓wpre, push_cast, reduceCtorEq, ↓reduceIte, Nat.reduceEqDiff, Nat.reduceLeDiff, Nat.reduceAdd, Nat.reduceMul, Nat.reduceSub, Nat.reduceLT, Int.reduceEq, Int.reduceLT, Int.reduceLE, Int.reduceNeg, Int.reduceAdd, Int.reduceSub, hh]
  refine containsId_os G _ ids y oid (by simp -dsimp -implicitDefEqProofs (disch := omega) only [↓wpre, push_cast, reduceCtorEq, ↓reduceIte, Nat.reduceEqDiff, Nat.reduceLeDiff, Nat.reduceAdd, Nat.reduceMul, Nat.reduceSub, Nat.reduceLT, Int.reduceEq, Int.reduceLT, Int.reduceLE, Int.reduceNeg, Int.reduceAdd, Int.reduceSub, hid]) (by omega) fun m3 hm3 => ?_
  simp -dsimp -implicitDefEqProofs (disch := omega) only [↓wpre, push_cast, reduceCtorEq, ↓reduceIte, Nat.reduceEqDiff, Nat.reduceLeDiff, Nat.reduceAdd, Nat.reduceMul, Nat.reduceSub, Nat.reduceLT, Int.reduceEq, Int.reduceLT, Int.reduceLE, Int.reduceNeg, Int.reduceAdd, Int.reduceSub, hh]
  have hok1 : ∀ z, okIds Q0 lst q.x (ids ++ [z]) = true → okIds Q0 lst q.x ids = true := fun z h => by
    simp only [okIds, List.all_append, Bool.and_eq_true] at h ⊢
    exact h.1
  cases hy2 : hasId y ids
  case' false =>
    simp -dsimp -implicitDefEqProofs (disch := omega) only [↓wpre, push_cast, reduceCtorEq, ↓reduceIte, Nat.reduceEqDiff, Nat.reduceLeDiff, Nat.reduceAdd, Nat.reduceMul, Nat.reduceSub, Nat.reduceLT, Int.reduceEq, Int.reduceLT, Int.reduceLE, Int.reduceNeg, Int.reduceAdd, Int.reduceSub, hh]
    rw [xapp_os (rows := ids.map Idn.c) (len := ids.length) (by simp -dsimp -implicitDefEqProofs (disch := omega) only [↓wpre, push_cast, reduceCtorEq, ↓reduceIte, Nat.reduceEqDiff, Nat.reduceLeDiff, Nat.reduceAdd, Nat.reduceMul, Nat.reduceSub, Nat.reduceLT, Int.reduceEq, Int.reduceLT, Int.reduceLE, Int.reduceNeg, Int.reduceAdd, Int.reduceSub, hid]) (by simp) (by intro r hr; simp at hr; subst hr; exact ⟨rfl, rfl⟩) (by simp) (by simp only [List.length_cons, List.length_nil]; omega)]
    simp -dsimp -implicitDefEqProofs (disch := omega) only [↓wpre, push_cast, reduceCtorEq, ↓reduceIte, Nat.reduceEqDiff, Nat.reduceLeDiff, Nat.reduceAdd, Nat.reduceMul, Nat.reduceSub, Nat.reduceLT, Int.reduceEq, Int.reduceLT, Int.reduceLE, Int.reduceNeg, Int.reduceAdd, Int.reduceSub, hh, hq4]
    generalize hHX : hu _ _ _ = HX
    have e_s : HX n = some (strm (LL nz l) a6) := by rw [← hHX]; simp -dsimp -implicitDefEqProofs (disch := omega) only [↓wpre, push_cast, reduceCtorEq, ↓reduceIte, Nat.reduceEqDiff, Nat.reduceLeDiff, Nat.reduceAdd, Nat.reduceMul, Nat.reduceSub, Nat.reduceLT, Int.reduceEq, Int.reduceLT, Int.reduceLE, Int.reduceNeg, Int.reduceAdd, Int.reduceSub, hs]
    have e_q : HX n4 = some ⟨34, 6, [Qm.c q]⟩ := by rw [← hHX]; simp -dsimp -implicitDefEqProofs (disch := omega) only [↓wpre, push_cast, reduceCtorEq, ↓reduceIte, Nat.reduceEqDiff, Nat.reduceLeDiff, Nat.reduceAdd, Nat.reduceMul, Nat.reduceSub, Nat.reduceLT, Int.reduceEq, Int.reduceLT, Int.reduceLE, Int.reduceNeg, Int.reduceAdd, Int.reduceSub, hq4]
    have e_l : HX n5 = some ⟨37, 3, [last.c]⟩ := by rw [← hHX]; simp -dsimp -implicitDefEqProofs (disch := omega) only [↓wpre, push_cast, reduceCtorEq, ↓reduceIte, Nat.reduceEqDiff, Nat.reduceLeDiff, Nat.reduceAdd, Nat.reduceMul, Nat.reduceSub, Nat.reduceLT, Int.reduceEq, Int.reduceLT, Int.reduceLE, Int.reduceNeg, Int.reduceAdd, Int.reduceSub, hla]
    have e_i : HX m3 = some ⟨32, 2, (ids ++ [y]).map Idn.c⟩ := by rw [← hHX, hu_same]; simp
    have e_n : m3 ≠ n ∧ m3 ≠ n4 ∧ m3 ≠ n5 := by omega
    have e_len : (ids ++ [y]).length ≤ i + 2 := by simp only [List.length_append, List.length_cons, List.length_nil]; omega
    have e_len2 : ids.length + 1 = (ids ++ [y]).length := by simp
    have e_has : hasId q.x (ids ++ [y]) = true := by simp only [hasId, List.any_append, Bool.or_eq_true] at hhas ⊢; exact .inl hhas
    have e_sm : ∀ z ∈ ids ++ [y], SmallId z := fun z hz => by
      rcases List.mem_append.1 hz with h | h
      · exact hsm z h
      · simp only [List.mem_singleton] at h; subst h; exact hy
    have e_ok := hok1 y
    rw [e_len2]
    generalize ids ++ [y] = ids2 at *
    obtain ⟨oid2, hoid2⟩ : ∃ oid2, oid2 = m3 := ⟨_, rfl⟩
    rw [← hoid2]
    rw [← hoid2] at e_i e_n
    have e_b : oid2 < m3 + 1 := by omega
    generalize hm4 : m3 + 1 = m4 at e_b ⊢
    have e_m : m3 ≤ m4 := by omega
    clear hHX
  case' true =>
    simp -dsimp -implicitDefEqProofs (disch := omega) only [↓wpre, push_cast, reduceCtorEq, ↓reduceIte, Nat.reduceEqDiff, Nat.reduceLeDiff, Nat.reduceAdd, Nat.reduceMul, Nat.reduceSub, Nat.reduceLT, Int.reduceEq, Int.reduceLT, Int.reduceLE, Int.reduceNeg, Int.reduceAdd, Int.reduceSub, hh, hq4]
    generalize hHX : hu _ _ _ = HX
    have e_s : HX n = some (strm (LL nz l) a6) := by rw [← hHX]; simp -dsimp -implicitDefEqProofs (disch := omega) only [↓wpre, push_cast, reduceCtorEq, ↓reduceIte, Nat.reduceEqDiff, Nat.reduceLeDiff, Nat.reduceAdd, Nat.reduceMul, Nat.reduceSub, Nat.reduceLT, Int.reduceEq, Int.reduceLT, Int.reduceLE, Int.reduceNeg, Int.reduceAdd, Int.reduceSub, hs]
    have e_q : HX n4 = some ⟨34, 6, [Qm.c q]⟩ := by rw [← hHX]; simp -dsimp -implicitDefEqProofs (disch := omega) only [↓wpre, push_cast, reduceCtorEq, ↓reduceIte, Nat.reduceEqDiff, Nat.reduceLeDiff, Nat.reduceAdd, Nat.reduceMul, Nat.reduceSub, Nat.reduceLT, Int.reduceEq, Int.reduceLT, Int.reduceLE, Int.reduceNeg, Int.reduceAdd, Int.reduceSub, hq4]
    have e_l : HX n5 = some ⟨37, 3, [last.c]⟩ := by rw [← hHX]; simp -dsimp -implicitDefEqProofs (disch := omega) only [↓wpre, push_cast, reduceCtorEq, ↓reduceIte, Nat.reduceEqDiff, Nat.reduceLeDiff, Nat.reduceAdd, Nat.reduceMul, Nat.reduceSub, Nat.reduceLT, Int.reduceEq, Int.reduceLT, Int.reduceLE, Int.reduceNeg, Int.reduceAdd, Int.reduceSub, hla]
    have e_i : HX oid = some ⟨32, 2, ids.map Idn.c⟩ := by rw [← hHX]; simp -dsimp -implicitDefEqProofs (disch := omega) only [↓wpre, push_cast, reduceCtorEq, ↓reduceIte, Nat.reduceEqDiff, Nat.reduceLeDiff, Nat.reduceAdd, Nat.reduceMul, Nat.reduceSub, Nat.reduceLT, Int.reduceEq, Int.reduceLT, Int.reduceLE, Int.reduceNeg, Int.reduceAdd, Int.reduceSub, hid]
    have e_n := hne
    have e_len : ids.length ≤ i + 2 := by omega
    have e_has := hhas
    have e_sm := hsm
    have e_ok : okIds Q0 lst q.x ids = true → okIds Q0 lst q.x ids = true := id
    obtain ⟨ids2, hids2⟩ : ∃ ids2, ids2 = ids := ⟨_, rfl⟩
    obtain ⟨oid2, hoid2⟩ : ∃ oid2, oid2 = oid := ⟨_, rfl⟩
    rw [← hids2, ← hoid2]
    rw [← hids2] at e_len e_has
    rw [← hids2, ← hoid2] at e_i
    rw [← hoid2] at e_n
    have e_sm : ∀ z ∈ ids2, SmallId z := by rw [hids2]; exact hsm
    have e_ok : okIds Q0 lst q.x ids2 = true → okIds Q0 lst q.x ids = true := by rw [hids2]; exact id
    have e_b : oid2 < m3 := by omega
    obtain ⟨m4, hm4⟩ : ∃ m4, m4 = m3 := ⟨_, rfl⟩
    rw [← hm4]
    have e_m : m3 ≤ m4 := by omega
    clear hHX
  all_goals
    refine mayOf_os G _ hG true true p lst ids2 oid2 e_i q.x q.purpose q.region q.channel q.at' hP (by omega) hS (by omega) hqr hqx (by omega) (fun z hz => by have := (e_sm z hz).2.2; omega) fun m5 hm5 => ?_
    rw [hQ]
    obtain ⟨f1, f2⟩ := mayOf_ok Q0 lst ids2 q.x g1 g2 g3 e_has
    generalize mayOf Q0 lst ids2 q.x = mo at f1 f2
    by_cases hmo : mo.2 = 0
    case neg =>
      have h8 := f1 hmo
      simp -dsimp -implicitDefEqProofs (disch := omega) only [↓wpre, push_cast, reduceCtorEq, ↓reduceIte, Nat.reduceEqDiff, Nat.reduceLeDiff, Nat.reduceAdd, Nat.reduceMul, Nat.reduceSub, Nat.reduceLT, Int.reduceEq, Int.reduceLT, Int.reduceLE, Int.reduceNeg, Int.reduceAdd, Int.reduceSub, hh, hmo, h8]
      refine AFn.x (consents_c G _ hG) fun n9 hn9 => ?_
      simp -dsimp -implicitDefEqProofs (disch := omega) only [↓wpre, push_cast, reduceCtorEq, ↓reduceIte, Nat.reduceEqDiff, Nat.reduceLeDiff, Nat.reduceAdd, Nat.reduceMul, Nat.reduceSub, Nat.reduceLT, Int.reduceEq, Int.reduceLT, Int.reduceLE, Int.reduceNeg, Int.reduceAdd, Int.reduceSub, true_and]
      exact fin_intro (Sub.refl _) rfl
    have f3 := f2 hmo
    have hlast : mo.1.may = true → last.may = true := fun h => by
      rw [f3, Bool.and_eq_true] at h
      rw [hmay, h.1, e_ok h.2]
      rfl
    cases hm1 : mo.1.may
    case' false =>
      simp -dsimp -implicitDefEqProofs (disch := omega) only [↓wpre, push_cast, reduceCtorEq, ↓reduceIte, Nat.reduceEqDiff, Nat.reduceLeDiff, Nat.reduceAdd, Nat.reduceMul, Nat.reduceSub, Nat.reduceLT, Int.reduceEq, Int.reduceLT, Int.reduceLE, Int.reduceNeg, Int.reduceAdd, Int.reduceSub, hh, hmo, e_l, hm1]
    case' true =>
      have hl1 := hlast hm1
      simp -dsimp -implicitDefEqProofs (disch := omega) only [↓wpre, push_cast, reduceCtorEq, ↓reduceIte, Nat.reduceEqDiff, Nat.reduceLeDiff, Nat.reduceAdd, Nat.reduceMul, Nat.reduceSub, Nat.reduceLT, Int.reduceEq, Int.reduceLT, Int.reduceLE, Int.reduceNeg, Int.reduceAdd, Int.reduceSub, hh, hmo, e_l, hm1, hl1]
    all_goals
      refine againJ (i + 1, ids2, oid2, mo.1, a6) (by (first | omega | (dsimp only; omega))) ⟨by (first | omega | (dsimp only; omega)), by (first | omega | (dsimp only; omega)), e_has, e_sm, f3, by (first | omega | (dsimp only; omega)), by simp -dsimp -implicitDefEqProofs (disch := omega) only [↓wpre, push_cast, reduceCtorEq, ↓reduceIte, Nat.reduceEqDiff, Nat.reduceLeDiff, Nat.reduceAdd, Nat.reduceMul, Nat.reduceSub, Nat.reduceLT, Int.reduceEq, Int.reduceLT, Int.reduceLE, Int.reduceNeg, Int.reduceAdd, Int.reduceSub, e_s], by simp -dsimp -implicitDefEqProofs (disch := omega) only [↓wpre, push_cast, reduceCtorEq, ↓reduceIte, Nat.reduceEqDiff, Nat.reduceLeDiff, Nat.reduceAdd, Nat.reduceMul, Nat.reduceSub, Nat.reduceLT, Int.reduceEq, Int.reduceLT, Int.reduceLE, Int.reduceNeg, Int.reduceAdd, Int.reduceSub, e_q], by simp -dsimp -implicitDefEqProofs (disch := omega) only [↓wpre, push_cast, reduceCtorEq, ↓reduceIte, Nat.reduceEqDiff, Nat.reduceLeDiff, Nat.reduceAdd, Nat.reduceMul, Nat.reduceSub, Nat.reduceLT, Int.reduceEq, Int.reduceLT, Int.reduceLE, Int.reduceNeg, Int.reduceAdd, Int.reduceSub, e_i], by rw [hu_same]; simp [Answer.c, hm1], e_n, by (first | omega | (dsimp only; omega)), by (first | omega | (dsimp only; omega))⟩ (by simp -dsimp -implicitDefEqProofs (disch := omega) only [↓wpre, push_cast, reduceCtorEq, ↓reduceIte, Nat.reduceEqDiff, Nat.reduceLeDiff, Nat.reduceAdd, Nat.reduceMul, Nat.reduceSub, Nat.reduceLT, Int.reduceEq, Int.reduceLT, Int.reduceLE, Int.reduceNeg, Int.reduceAdd, Int.reduceSub, hh]; try rw [hids2, hoid2])
end Go.Proofs.YthcedgclhoggcaaGreatDoor
