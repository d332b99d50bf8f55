/- Contracts of functions of the program: each computes what its model says; the conditions stand at each. -/
import Derived.Test.YtdbfkibbhmbaoaaGreatDoorTe26
set_option linter.unusedSimpArgs false
set_option linter.unusedVariables false
set_option maxRecDepth 20000
set_option pp.deepTerms false
set_option pp.deepTerms.threshold 3
namespace Go.Proofs.YtdbfkibbhmbaoaaGreatDoor
open Go Go.Ab Go.Pm Go.Cm Go.El Go.Em Go.Rm
variable (G : Nat → AV) (H : Nat → Option AObj)
theorem varint0_c (o : Nat) (E : TypeId) (c : AV) (ho : H o = some ⟨E, 2, [[.ls false [], c]]⟩) (n : Nat) : ACalls Tryz.prog G 77 [.op o 0 0, .int 0] H n fun r H' n' => r = .tup [] ∧ n < n' ∧ H' = hu (hu H n (some ⟨5, 1, [[.lit (.int .u8 0)]]⟩)) o (some ⟨E, 2, [[.os n 0 1, c]]⟩) := by
  refine ACalls.start mix F77 (by simp) fun hlow => ?_
  have hon := hlow o _ ho
  simp -dsimp -implicitDefEqProofs (disch := omega) only [↓wpre, push_cast, reduceCtorEq, ↓reduceIte, Nat.reduceEqDiff, Nat.reduceLeDiff, Nat.reduceAdd, Nat.reduceLT, Int.reduceEq, Int.reduceLT, Int.reduceLE, Int.reduceNeg, Int.reduceAdd, c77]
  refine xw_loopJ (σ := Unit) (fun t => [(0, .op o 0 0), (1, .int 0)]) (fun t H' n' => H' = H ∧ n' = n) (fun t => 0) () ⟨rfl, rfl⟩ (by simp -dsimp -implicitDefEqProofs (disch := omega) only [↓wpre, push_cast, reduceCtorEq, ↓reduceIte, Nat.reduceEqDiff, Nat.reduceLeDiff, Nat.reduceAdd, Nat.reduceLT, Int.reduceEq, Int.reduceLT, Int.reduceLE, Int.reduceNeg, Int.reduceAdd]) ?_
  rintro ⟨⟩ fr H' n1 ⟨rfl, rfl⟩ hh
  simp only [has_nil, has_cons, and_true] at hh
  simp -dsimp -implicitDefEqProofs (disch := omega) only [↓wpre, push_cast, reduceCtorEq, ↓reduceIte, Nat.reduceEqDiff, Nat.reduceLeDiff, Nat.reduceAdd, Nat.reduceLT, Int.reduceEq, Int.reduceLT, Int.reduceLE, Int.reduceNeg, Int.reduceAdd, hh, ho]
  have hw : IntKind.u8.wrap 0 = 0 := rfl
  have hon1 : o ≠ n1 := by omega
  rw [xapp_first (by intro r hr; simp at hr; subst hr; exact ⟨rfl, rfl⟩) (by simp) (by simp)]
  simp -dsimp -implicitDefEqProofs (disch := omega) only [↓wpre, push_cast, reduceCtorEq, ↓reduceIte, Nat.reduceEqDiff, Nat.reduceLeDiff, Nat.reduceAdd, Nat.reduceLT, Int.reduceEq, Int.reduceLT, Int.reduceLE, Int.reduceNeg, Int.reduceAdd, hh, ho, hw]
  exact fin_intro (Sub.refl _) ⟨rfl, by omega, rfl⟩
theorem good_nil : Em.Good [] := ⟨by simp, by simp, by simp, .nil, by simp⟩
theorem packNil_c (hU : GU G) (n : Nat) : ACalls Tryz.prog G 36 [.ls false []] H n fun r H' n' => r = .tup [.str ⟨#[0]⟩, .int 0] ∧ Sub H H' := by
  have h0 : ∀ H, AFn Tryz.prog G 45 [.ls false []] H (.int 0) := fun H => check_c G H hU false [] good_nil
  refine ACalls.start mix F36 (by simp) fun hlow => ?_
  simp -dsimp -implicitDefEqProofs (disch := omega) only [↓wpre, push_cast, reduceCtorEq, ↓reduceIte, Nat.reduceEqDiff, Nat.reduceLeDiff, Nat.reduceAdd, Nat.reduceLT, Int.reduceEq, Int.reduceLT, Int.reduceLE, Int.reduceNeg, Int.reduceAdd, c36]
  refine (h0 _).x fun n1 hn1 => ?_
  simp -dsimp -implicitDefEqProofs (disch := omega) only [↓wpre, push_cast, reduceCtorEq, ↓reduceIte, Nat.reduceEqDiff, Nat.reduceLeDiff, Nat.reduceAdd, Nat.reduceLT, Int.reduceEq, Int.reduceLT, Int.reduceLE, Int.reduceNeg, Int.reduceAdd, true_and]
  refine (varint0_c G _ (n1 + 1) _ _ hu_same _).x fun r H1 n2 ⟨hr, hn2, hH⟩ => ?_
  subst hr hH
  simp -dsimp -implicitDefEqProofs (disch := omega) only [↓wpre, push_cast, reduceCtorEq, ↓reduceIte, Nat.reduceEqDiff, Nat.reduceLeDiff, Nat.reduceAdd, Nat.reduceLT, Int.reduceEq, Int.reduceLT, Int.reduceLE, Int.reduceNeg, Int.reduceAdd, true_and]
  have hq := Qt.refl hlow
  refine xw_loopJ (σ := Unit) (fun t => [(5, .op (n1 + 1) 0 0), (23, .ls false []), (24, .int 0), (25, .int 0)]) (fun t H' n' => (∃ E c, H' (n1 + 1) = some ⟨E, 2, [[.os (n1 + 1 + 1) 0 1, c]]⟩) ∧ H' (n1 + 1 + 1) = some ⟨5, 1, [[.lit (.int .u8 0)]]⟩ ∧ Qt H H' n) (fun t => 0) () ⟨⟨_, _, hu_same⟩, by rw [hu_ne (by omega)]; exact hu_same, by exact Qt.mono (n := n) (by repeat (first | exact hq | refine Qt.hu ?_ (by omega))) (by omega)⟩ (by simp -dsimp -implicitDefEqProofs (disch := omega) only [↓wpre, push_cast, reduceCtorEq, ↓reduceIte, Nat.reduceEqDiff, Nat.reduceLeDiff, Nat.reduceAdd, Nat.reduceLT, Int.reduceEq, Int.reduceLT, Int.reduceLE, Int.reduceNeg, Int.reduceAdd]) ?_
  clear hq
  rintro ⟨⟩ fr H' n3 ⟨⟨E, c, h1⟩, h3, hq⟩ hh
  simp only [has_nil, has_cons, and_true] at hh
  have hb : abts H' (.os (n1 + 1 + 1) 0 1) = some (.str ⟨#[0]⟩) := abts_os (l := [0]) h3 rfl
  simp -dsimp -implicitDefEqProofs (disch := omega) only [↓wpre, push_cast, reduceCtorEq, ↓reduceIte, Nat.reduceEqDiff, Nat.reduceLeDiff, Nat.reduceAdd, Nat.reduceLT, Int.reduceEq, Int.reduceLT, Int.reduceLE, Int.reduceNeg, Int.reduceAdd, hh, h1, h3, hb]
  exact fin_intro (Sub.refl _) ⟨rfl, hq.1⟩
theorem happenings_c (hU : GU G) (n : Nat) : ACalls Tryz.prog G 13 [] H n fun r H' n' => r = .bool true ∧ Sub H H' := by
  refine ACalls.start mix F13 (by simp) fun hlow => ?_
  simp -dsimp -implicitDefEqProofs (disch := omega) only [↓wpre, push_cast, reduceCtorEq, ↓reduceIte, Nat.reduceEqDiff, Nat.reduceLeDiff, Nat.reduceAdd, Nat.reduceLT, Int.reduceEq, Int.reduceLT, Int.reduceLE, Int.reduceNeg, Int.reduceAdd, c13]
  refine (packNil_c G H hU n).le.x fun r H1 n1 ⟨⟨hr, hs⟩, hn⟩ => ?_
  subst hr
  simp -dsimp -implicitDefEqProofs (disch := omega) only [↓wpre, push_cast, reduceCtorEq, ↓reduceIte, Nat.reduceEqDiff, Nat.reduceLeDiff, Nat.reduceAdd, Nat.reduceLT, Int.reduceEq, Int.reduceLT, Int.reduceLE, Int.reduceNeg, Int.reduceAdd, true_and]
  exact fin_intro (Sub.refl _) ⟨rfl, hs⟩
end Go.Proofs.YtdbfkibbhmbaoaaGreatDoor

