/- Contracts of functions of the program: each computes what its model says; the conditions stand at each. -/
import Derived.Test.YthcedgclhoggcaaGreatDoorTw41
set_option linter.unusedSimpArgs false
set_option linter.unusedVariables false
set_option maxRecDepth 20000
set_option pp.deepTerms false
set_option pp.deepTerms.threshold 3
namespace Go.Proofs.YthcedgclhoggcaaGreatDoor
open Go Go.Ab Go.Pm Go.Cm
variable (G : Nat → AV) (H : Nat → Option AObj)
/-- What is like its forerunner goes. -/
def cptGo (p : Stm) : List Stm → List Stm
  | [] => []
  | y :: r => if ordS y p = 0 then cptGo y r else y :: cptGo y r
def cpt : List Stm → List Stm
  | [] => []
  | x :: r => x :: cptGo x r
theorem cptGo_len : ∀ (p : Stm) (l : List Stm), (cptGo p l).length ≤ l.length
  | p, [] => Nat.le_refl _
  | p, y :: r => by
    have := cptGo_len y r
    simp only [cptGo]
    split <;> simp only [List.length_cons] <;> omega
set_option maxHeartbeats 1600000 in
theorem compactFunc_c (o : Nat) (l : List Stm) (hl : l.length ≤ 1000000) (ho : H o = some ⟨43, 8, l.map Stm.c⟩) (n : Nat) : ACalls Tryz.prog G 60 [.os o 0 l.length, .fn (.func 61) []] H n fun r H' n' => r = .os o 0 (cpt l).length ∧ ∃ jr, H' = hu H o (some ⟨43, 8, (cpt l).map Stm.c ++ jr⟩) := by
  refine ACalls.start mix F60 (by simp) fun hlow => ?_
  by_cases h2 : l.length < 2
  · have hi2 : (l.length : Int) < 2 := by omega
    have hc : cpt l = l := by
      match l, h2 with
      | [], _ => rfl
      | [x], _ => rfl
    simp -dsimp -implicitDefEqProofs (disch := omega) only [↓wpre, push_cast, reduceCtorEq, ↓reduceIte, Nat.reduceEqDiff, Nat.reduceLeDiff, Nat.reduceAdd, Nat.reduceLT, Int.reduceEq, Int.reduceLT, Int.reduceLE, Int.reduceNeg, Int.reduceAdd, c60, hi2]
    exact fin_intro (Sub.refl _) ⟨by rw [hc], [], by rw [hc, List.append_nil, hu_self H ho]⟩
  have hi2 : ¬ (l.length : Int) < 2 := by omega
  obtain ⟨x0, r0, rfl⟩ : ∃ x r, l = x :: r := by
    cases l with
    | nil => simp at h2
    | cons x r => exact ⟨x, r, rfl⟩
  generalize hll : x0 :: r0 = l at hl ho h2 hi2 ⊢
  have hcpt0 : cpt l = x0 :: cptGo x0 r0 := by rw [← hll]; rfl
  simp -dsimp -implicitDefEqProofs (disch := omega) only [↓wpre, push_cast, reduceCtorEq, ↓reduceIte, Nat.reduceEqDiff, Nat.reduceLeDiff, Nat.reduceAdd, Nat.reduceLT, Int.reduceEq, Int.reduceLT, Int.reduceLE, Int.reduceNeg, Int.reduceAdd, c60, hi2]
  refine xw_loopJ (σ := List Stm × Stm × List Stm) (fun t => [(0, .os o 0 l.length), (1, .fn (.func 61) []), (5, .int ((t.1.length : Int) + 1))]) (fun t H' n' => l = t.1 ++ t.2.1 :: t.2.2 ∧ cpt l = t.1 ++ t.2.1 :: cptGo t.2.1 t.2.2 ∧ H = H' ∧ n ≤ n') (fun t => t.2.2.length) ([], x0, r0) ⟨hll.symm, hcpt0, rfl, Nat.le_refl _⟩ (by simp -dsimp -implicitDefEqProofs (disch := omega) only [↓wpre, push_cast, reduceCtorEq, ↓reduceIte, Nat.reduceEqDiff, Nat.reduceLeDiff, Nat.reduceAdd, Nat.reduceLT, Int.reduceEq, Int.reduceLT, Int.reduceLE, Int.reduceNeg, Int.reduceAdd, true_and]; try rfl) ?_
  rintro ⟨d, p, b⟩ fr H' n1 ⟨hab, hcp, rfl, hn1⟩ hh
  simp only [has_nil, has_cons, and_true] at hh hab hcp
  have hlab : l.length = d.length + 1 + b.length := by rw [hab]; simp; omega
  have hcut : ∀ len, CutOk H 8 (.os o 0 len) = True := fun _ => eq_true ⟨_, ho, rfl⟩
  cases b with
  | nil =>
    have hnl : ¬ (d.length : Int) + 1 < l.length := by rw [hlab]; simp
    simp -dsimp -implicitDefEqProofs (disch := omega) only [↓wpre, push_cast, reduceCtorEq, ↓reduceIte, Nat.reduceEqDiff, Nat.reduceLeDiff, Nat.reduceAdd, Nat.reduceLT, Int.reduceEq, Int.reduceLT, Int.reduceLE, Int.reduceNeg, Int.reduceAdd, hh, hnl]
    have hcl : cpt l = l := by rw [hcp, hab]; rfl
    exact fin_intro (Sub.refl _) ⟨by rw [hcl], [], by rw [hcl, List.append_nil, hu_self H ho]⟩
  | cons y b =>
    have hlab' : l.length = d.length + 1 + (b.length + 1) := by simpa using hlab
    have hlt : (d.length : Int) + 1 < l.length := by rw [hlab']; omega
    have ht1 : ((d.length : Int) + 1).toNat = d.length + 1 := by omega
    have hj1 : (d.length : Int) + 1 - 1 = d.length := by omega
    have g1 : (l.map Stm.c)[d.length + 1]? = some y.c := by rw [hab]; simp
    have g2 : (l.map Stm.c)[d.length]? = some p.c := by rw [hab]; simp
    simp -dsimp -implicitDefEqProofs (disch := omega) only [↓wpre, push_cast, reduceCtorEq, ↓reduceIte, Nat.reduceEqDiff, Nat.reduceLeDiff, Nat.reduceAdd, Nat.reduceLT, Int.reduceEq, Int.reduceLT, Int.reduceLE, Int.reduceNeg, Int.reduceAdd, hh, hlt, ho, g1, g2, ht1, hj1, Int.toNat_natCast]
    refine xfn_intro (sameS_c G H y p) ?_
    simp -dsimp -implicitDefEqProofs (disch := omega) only [↓wpre, push_cast, reduceCtorEq, ↓reduceIte, Nat.reduceEqDiff, Nat.reduceLeDiff, Nat.reduceAdd, Nat.reduceLT, Int.reduceEq, Int.reduceLT, Int.reduceLE, Int.reduceNeg, Int.reduceAdd, hh]
    refine anyN_intro fun n2 hn2 => ?_
    by_cases he : ordS y p = 0
    · simp -dsimp -implicitDefEqProofs (disch := omega) only [↓wpre, push_cast, reduceCtorEq, ↓reduceIte, Nat.reduceEqDiff, Nat.reduceLeDiff, Nat.reduceAdd, Nat.reduceLT, Int.reduceEq, Int.reduceLT, Int.reduceLE, Int.reduceNeg, Int.reduceAdd, hh, he, hcut]
      have hcp1 : cpt l = (d ++ [p]) ++ cptGo y b := by rw [hcp]; simp [cptGo, he]
      have hk0 : d.length + 1 + (b.length + 1) = l.length := hlab'.symm
      have hm : l.length - (d.length + 1) = b.length + 1 := by omega
      refine xw_loopJ (σ := List Stm × List Stm × Stm × List Stm × Nat) (fun t => [(0, .os o 0 l.length), (1, .fn (.func 61) []), (5, .int t.1.length), (6, .os o (d.length + 1) (b.length + 1)), (7, .int ((t.2.2.2.2 : Int) + 1))]) (fun t H1 n' => cpt l = t.1 ++ cptGo t.2.2.1 t.2.2.2.1 ∧ t.1.length + t.2.1.length = d.length + 1 + t.2.2.2.2 ∧ d.length + 1 ≤ t.1.length ∧ t.1.length + t.2.1.length + 1 + t.2.2.2.1.length = l.length ∧ (∃ HL, H1 = HL ∧ HL o = some ⟨43, 8, (t.1 ++ (t.2.1 ++ t.2.2.1 :: t.2.2.2.1)).map Stm.c⟩) ∧ Qs H H1 o n ∧ n ≤ n') (fun t => t.2.2.2.1.length) (d ++ [p], [], y, b, 0) ⟨hcp1, by simp, by simp, by simp; omega, ⟨_, rfl, by rw [ho, hab]; simp⟩, Qs.refl ho hlow, by omega⟩ (by simp -dsimp -implicitDefEqProofs (disch := omega) only [↓wpre, push_cast, reduceCtorEq, ↓reduceIte, Nat.reduceEqDiff, Nat.reduceLeDiff, Nat.reduceAdd, Nat.reduceLT, Int.reduceEq, Int.reduceLT, Int.reduceLE, Int.reduceNeg, Int.reduceAdd, hh, ht1, hm]; try simp) ?_
      rintro ⟨kept, junk, q, b2, j⟩ fr H1 n3 ⟨hcp2, hkj, hkd, hlen, ⟨HL, rfl, hoo⟩, hqs, hn3⟩ hh
      simp only [has_nil, has_cons, and_true] at hh hcp2 hkj hkd hlen
      dsimp only at hoo
      have hcut2 : ∀ off len, CutOk H1 8 (.os o off len) = True := fun _ _ => eq_true ⟨_, hoo, rfl⟩
      cases b2 with
      | nil =>
        simp only [List.length_nil, Nat.add_zero] at hlen
        have hnl : ¬ (j : Int) + 1 < (b.length : Int) + 1 := by omega
        simp -dsimp -implicitDefEqProofs (disch := omega) only [↓wpre, push_cast, reduceCtorEq, ↓reduceIte, Nat.reduceEqDiff, Nat.reduceLeDiff, Nat.reduceAdd, Nat.reduceLT, Int.reduceEq, Int.reduceLT, Int.reduceLE, Int.reduceNeg, Int.reduceAdd, hh, hnl, hcut2, hoo, Int.toNat_natCast]
        have hcut3 : ∀ rows off len, CutOk (hu H1 o (some ⟨43, 8, rows⟩)) 8 (.os o off len) = True := fun _ _ _ => eq_true ⟨_, hu_same, rfl⟩
        rw [xclear_os hoo rfl (by decide) (by simp; omega)]
        simp -dsimp -implicitDefEqProofs (disch := omega) only [↓wpre, push_cast, reduceCtorEq, ↓reduceIte, Nat.reduceEqDiff, Nat.reduceLeDiff, Nat.reduceAdd, Nat.reduceLT, Int.reduceEq, Int.reduceLT, Int.reduceLE, Int.reduceNeg, Int.reduceAdd, hh, hcut3, Int.toNat_natCast]
        have hck : cpt l = kept := by rw [hcp2]; simp [cptGo]
        refine fin_intro (H' := hu H o (some ⟨43, 8, (cpt l).map Stm.c ++ List.replicate (l.length - kept.length) noStm.c⟩)) ((Qs.put hqs).sub ?_) ⟨by rw [hck], _, rfl⟩
        rw [hu_same, hck]
        have e1 : List.drop (kept.length + (l.length - kept.length)) (List.map Stm.c (kept ++ (junk ++ [q]))) = [] := List.drop_eq_nil_of_le (by simp; omega)
        have e2 : List.take kept.length (List.map Stm.c (kept ++ (junk ++ [q]))) = List.map Stm.c kept := by rw [List.map_append, List.take_append_of_le_length (by simp), List.take_of_length_le (by simp)]
        rw [e1, e2, List.append_nil]
        rfl
      | cons z b2 =>
        simp only [List.length_cons] at hlen
        have hlt2 : (j : Int) + 1 < (b.length : Int) + 1 := by omega
        have ht2 : ((j : Int) + 1).toNat = j + 1 := by omega
        have hj2 : (j : Int) + 1 - 1 = j := by omega
        obtain ⟨w0, js, hjs⟩ : ∃ w0 js, junk ++ [q] = w0 :: js := by
          cases junk with
          | nil => exact ⟨q, [], rfl⟩
          | cons a r => exact ⟨a, r ++ [q], rfl⟩
        have hrw : kept ++ (junk ++ q :: z :: b2) = kept ++ w0 :: (js ++ z :: b2) := by
          rw [show junk ++ q :: z :: b2 = (junk ++ [q]) ++ z :: b2 by simp, hjs]; rfl
        have hjl : js.length = junk.length := by
          have := congrArg List.length hjs
          simpa using this.symm
        have g3 : ((kept ++ (junk ++ q :: z :: b2)).map Stm.c)[d.length + 1 + (j + 1)]? = some z.c := by
          rw [show d.length + 1 + (j + 1) = (kept ++ (junk ++ [q])).length by simp; omega, show kept ++ (junk ++ q :: z :: b2) = (kept ++ (junk ++ [q])) ++ z :: b2 by simp]
          exact at_mid Stm.c _ b2 z
        have g4 : ((kept ++ (junk ++ q :: z :: b2)).map Stm.c)[d.length + 1 + j]? = some q.c := by
          rw [show d.length + 1 + j = (kept ++ junk).length by simp; omega, show kept ++ (junk ++ q :: z :: b2) = (kept ++ junk) ++ q :: z :: b2 by simp]
          exact at_mid Stm.c _ (z :: b2) q
        simp -dsimp -implicitDefEqProofs (disch := omega) only [↓wpre, push_cast, reduceCtorEq, ↓reduceIte, Nat.reduceEqDiff, Nat.reduceLeDiff, Nat.reduceAdd, Nat.reduceLT, Int.reduceEq, Int.reduceLT, Int.reduceLE, Int.reduceNeg, Int.reduceAdd, hh, hlt2, hoo, g3, g4, ht2, hj2, Int.toNat_natCast]
        refine xfn_intro (sameS_c G H1 z q) ?_
        simp -dsimp -implicitDefEqProofs (disch := omega) only [↓wpre, push_cast, reduceCtorEq, ↓reduceIte, Nat.reduceEqDiff, Nat.reduceLeDiff, Nat.reduceAdd, Nat.reduceLT, Int.reduceEq, Int.reduceLT, Int.reduceLE, Int.reduceNeg, Int.reduceAdd, hh]
        refine anyN_intro fun n4 hn4 => ?_
        by_cases hz : ordS z q = 0
        · simp -dsimp -implicitDefEqProofs (disch := omega) only [↓wpre, push_cast, reduceCtorEq, ↓reduceIte, Nat.reduceEqDiff, Nat.reduceLeDiff, Nat.reduceAdd, Nat.reduceLT, Int.reduceEq, Int.reduceLT, Int.reduceLE, Int.reduceNeg, Int.reduceAdd, hh, hz]
          have hc3 : cpt l = kept ++ cptGo z b2 := by rw [hcp2]; simp [cptGo, hz]
          refine againJ (kept, junk ++ [q], z, b2, j + 1) (Nat.lt_succ_self _) ⟨hc3, by simp; omega, hkd, by simp; omega, ⟨_, rfl, by rw [hoo]; simp⟩, hqs, by omega⟩ (by simp -dsimp -implicitDefEqProofs (disch := omega) only [↓wpre, push_cast, reduceCtorEq, ↓reduceIte, Nat.reduceEqDiff, Nat.reduceLeDiff, Nat.reduceAdd, Nat.reduceLT, Int.reduceEq, Int.reduceLT, Int.reduceLE, Int.reduceNeg, Int.reduceAdd, hh]; try simp)
        · have hc3 : cpt l = (kept ++ [z]) ++ cptGo z b2 := by rw [hcp2]; simp [cptGo, hz]
          rw [hrw] at hoo g3
          have g5 := at_mid Stm.c kept (js ++ z :: b2) w0
          have hset := set_mid Stm.c kept (js ++ z :: b2) w0 z
          have hkl : (kept.length : Int) < l.length := by omega
          simp -dsimp -implicitDefEqProofs (disch := omega) only [↓wpre, push_cast, reduceCtorEq, ↓reduceIte, Nat.reduceEqDiff, Nat.reduceLeDiff, Nat.reduceAdd, Nat.reduceLT, Int.reduceEq, Int.reduceLT, Int.reduceLE, Int.reduceNeg, Int.reduceAdd, hh, hz, hoo, g3, g5, hset, ht2, hkl, Int.toNat_natCast]
          refine againJ (kept ++ [z], js, z, b2, j + 1) (Nat.lt_succ_self _) ⟨hc3, by simp; omega, by simp; omega, by simp; omega, ⟨_, rfl, by rw [hu_same]; simp⟩, Qs.put hqs, by omega⟩ (by simp -dsimp -implicitDefEqProofs (disch := omega) only [↓wpre, push_cast, reduceCtorEq, ↓reduceIte, Nat.reduceEqDiff, Nat.reduceLeDiff, Nat.reduceAdd, Nat.reduceLT, Int.reduceEq, Int.reduceLT, Int.reduceLE, Int.reduceNeg, Int.reduceAdd, hh]; try simp)
    · have hcp1 : cpt l = (d ++ [p]) ++ y :: cptGo y b := by rw [hcp]; simp [cptGo, he]
      simp -dsimp -implicitDefEqProofs (disch := omega) only [↓wpre, push_cast, reduceCtorEq, ↓reduceIte, Nat.reduceEqDiff, Nat.reduceLeDiff, Nat.reduceAdd, Nat.reduceLT, Int.reduceEq, Int.reduceLT, Int.reduceLE, Int.reduceNeg, Int.reduceAdd, hh, he]
      refine againJ (d ++ [p], y, b) (Nat.lt_succ_self _) ⟨by rw [hab]; simp, hcp1, rfl, by omega⟩ (by simp -dsimp -implicitDefEqProofs (disch := omega) only [↓wpre, push_cast, reduceCtorEq, ↓reduceIte, Nat.reduceEqDiff, Nat.reduceLeDiff, Nat.reduceAdd, Nat.reduceLT, Int.reduceEq, Int.reduceLT, Int.reduceLE, Int.reduceNeg, Int.reduceAdd, hh]; try simp)
end Go.Proofs.YthcedgclhoggcaaGreatDoor

