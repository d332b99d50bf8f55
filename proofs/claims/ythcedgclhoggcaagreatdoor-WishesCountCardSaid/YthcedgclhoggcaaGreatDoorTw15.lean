/- Contracts of functions of the program: each computes what its model says; the conditions stand at each. -/
import Derived.Test.YthcedgclhoggcaaGreatDoorCl
set_option linter.unusedSimpArgs false
set_option linter.unusedVariables false
set_option maxRecDepth 20000
set_option pp.deepTerms false
set_option pp.deepTerms.threshold 3
namespace Go.Proofs.YthcedgclhoggcaaGreatDoor
open Go Go.Ab Go.Pm Go.Cm
variable (G : Nat → AV) (H : Nat → Option AObj)
abbrev newsP : List Purpose := [⟨⟨#[110, 101, 119, 115]⟩, true, [⟨⟨#[101, 117]⟩, 1, true, 0, 0⟩]⟩]
theorem news_may : may ⟨newsP, true, ⟨#[110, 101, 119, 115]⟩, ⟨#[101, 117]⟩, 1, 0⟩ [] ⟨1, ⟨#[97, 64, 98, 46, 100, 101]⟩⟩ = (⟨true, 1, 0⟩, 0) := by decide +kernel
theorem consents_c (hG : GOk G) : AFn Tryz.prog G 17 [] H (.bool true) := by
  refine AFn.start mix F17 (by simp) fun k hlow => ?_
  have hq := Qt.refl hlow
  simp -dsimp -implicitDefEqProofs (disch := omega) only [↓wpre, ↓wmap, push_cast, reduceCtorEq, ↓reduceIte, Nat.reduceEqDiff, Nat.reduceLeDiff, Nat.reduceAdd, Nat.reduceMul, Nat.reduceMod, Nat.reduceSub, Nat.reduceLT, Int.reduceEq, Int.reduceLT, Int.reduceLE, Int.reduceNeg, Int.reduceAdd, Int.reduceSub, c17]
  refine AFn.x (may_c G _ hG true false newsP [] ⟨1, ⟨#[97, 64, 98, 46, 100, 101]⟩⟩ ⟨#[110, 101, 119, 115]⟩ ⟨#[101, 117]⟩ 1 0 (by intro p hp; simp at hp; subst hp; exact ⟨by decide, fun t ht => by simp at ht; subst ht; decide⟩) (by simp) (by intro s hs; simp at hs) (by simp) (by decide) (by decide)) fun n' hn' => ?_
  rw [news_may]
  simp -dsimp -implicitDefEqProofs (disch := omega) only [↓wpre, ↓wmap, push_cast, reduceCtorEq, ↓reduceIte, Nat.reduceEqDiff, Nat.reduceLeDiff, Nat.reduceAdd, Nat.reduceMul, Nat.reduceMod, Nat.reduceSub, Nat.reduceLT, Int.reduceEq, Int.reduceLT, Int.reduceLE, Int.reduceNeg, Int.reduceAdd, Int.reduceSub, true_and]
  exact (Qt.mono (n := k) (by repeat (first | exact hq | refine Qt.hu ?_ (by omega))) (Nat.le_refl _)).1
theorem may_os (hG : GOk G) (nzp : Bool) (p : List Purpose) (l : List Stm) (jr : List (List AV)) (o : Nat) (ho : H o = some ⟨43, 8, l.map Stm.c ++ jr⟩) (x : Idn) (purpose region : T) (channel at' : Int) (hP : SmallP p) (hpl : p.length ≤ 1000000) (hS : SmallS l) (hl : l.length ≤ 19) (hr : region.size ≤ 9223372036854775807) (hx : x.text.size < 4294967281) {n : Nat} {R : AV → (Nat → Option AObj) → Nat → Prop} {u : Wit R} (hR : ∀ n', n ≤ n' → R (.tup [.agg (may ⟨p, nzp, purpose, region, channel, at'⟩ l x).1.c, .int (may ⟨p, nzp, purpose, region, channel, at'⟩ l x).2]) H n') : xcall Tryz.prog G R u 13 [.ls nzp (p.map Purpose.c), .os o 0 l.length, .agg x.c, .str purpose, .str region, .int channel, .int at'] H n := by
  refine AFn.borrow (only o ⟨43, 8, l.map Stm.c ++ jr⟩) 3 (only_sub ho) ?_ rfl hR
  have h1 : ∀ D, frz D 3 (.ls nzp (p.map Purpose.c)) = .ls nzp (p.map Purpose.c) := fun D => by
    show AV.ls nzp ((p.map Purpose.c).map (List.map (frz D 2))) = _
    rw [purposes_frz]
  have h2 : frz (only o ⟨43, 8, l.map Stm.c ++ jr⟩) 3 (.os o 0 l.length) = .ls true (l.map Stm.c) := by
    have e : (List.map Stm.c l ++ jr).take l.length = l.map Stm.c := by
      rw [List.take_append_of_le_length (by simp), List.take_of_length_le (by simp)]
    simp only [frz, only, if_true, Nat.zero_add, List.length_append, List.length_map, Nat.le_add_right, List.drop_zero, e, rows_plain (plain_stm l)]
  simp only [List.map_cons, List.map_nil, h1, h2]
  exact may_c G noObj hG nzp true p l x purpose region channel at' hP hpl hS hl hr hx
set_option maxHeartbeats 1600000 in
theorem look_c (hG : GOk G) (nz : Bool) (l : List Int) (n : Nat) : ACalls Tryz.prog G 3 [LL nz l] H n fun r H' n' => r = .bool true := by
  refine ACalls.start mix F3 (by simp) fun hlow => ?_
  simp -dsimp -implicitDefEqProofs (disch := omega) only [↓wpre, ↓wmap, push_cast, reduceCtorEq, ↓reduceIte, Nat.reduceEqDiff, Nat.reduceLeDiff, Nat.reduceAdd, Nat.reduceMul, Nat.reduceMod, Nat.reduceSub, Nat.reduceLT, Int.reduceEq, Int.reduceLT, Int.reduceLE, Int.reduceNeg, Int.reduceAdd, Int.reduceSub, c3]
  refine (rightPolicy_c G _ nz l 0 n hu_same (by omega)).x fun r a1 n1 hn1 h1 h2 h3 => ?_
  obtain ⟨p, rfl, hp⟩ := h3
  simp -dsimp -implicitDefEqProofs (disch := omega) only [↓wpre, ↓wmap, push_cast, reduceCtorEq, ↓reduceIte, Nat.reduceEqDiff, Nat.reduceLeDiff, Nat.reduceAdd, Nat.reduceMul, Nat.reduceMod, Nat.reduceSub, Nat.reduceLT, Int.reduceEq, Int.reduceLT, Int.reduceLE, Int.reduceNeg, Int.reduceAdd, Int.reduceSub, hu_hu]
  refine (range_c G _ nz l a1 1 14 n hu_same (by omega) (by omega)).x fun r a2 n2 hn2 h1' h2' h3 => ?_
  obtain ⟨many, rfl, hm⟩ := h3
  simp -dsimp -implicitDefEqProofs (disch := omega) only [↓wpre, ↓wmap, push_cast, reduceCtorEq, ↓reduceIte, Nat.reduceEqDiff, Nat.reduceLeDiff, Nat.reduceAdd, Nat.reduceMul, Nat.reduceMod, Nat.reduceSub, Nat.reduceLT, Int.reduceEq, Int.reduceLT, Int.reduceLE, Int.reduceNeg, Int.reduceAdd, Int.reduceSub, hu_hu]
  refine (rightStatements_c G _ hG nz true p hp.1 l a2 many n hu_same (by omega) (by omega)).x fun r a3 n3 hn3 h3 h4 h5 => ?_
  obtain ⟨lst, rfl, hR, hlen⟩ := h5
  simp -dsimp -implicitDefEqProofs (disch := omega) only [↓wpre, ↓wmap, push_cast, reduceCtorEq, ↓reduceIte, Nat.reduceEqDiff, Nat.reduceLeDiff, Nat.reduceAdd, Nat.reduceMul, Nat.reduceMod, Nat.reduceSub, Nat.reduceLT, Int.reduceEq, Int.reduceLT, Int.reduceLE, Int.reduceNeg, Int.reduceAdd, Int.reduceSub, hu_hu]
  refine (question_c G _ hG nz true p hp l a3 n hu_same (by omega)).x fun r a4 n4 hn4 h6 h7 h8 => ?_
  obtain ⟨q, hq, rfl⟩ := h8
  have hl0 : lst ≠ [] := by intro e; subst e; simp at hlen; omega
  have hls : lsOf (lst.map Stm.c) = .ls true (lst.map Stm.c) := by
    cases lst with
    | nil => exact absurd rfl hl0
    | cons s r => rfl
  have hP : SmallP p := fun x hx => ⟨Nat.le_trans (hp.2 x hx).1 (by decide), fun t ht => Nat.le_trans ((hp.2 x hx).2 t ht) (by decide)⟩
  have hps := hp.1
  have hS : SmallS lst := fun s hs => by
    have h := (hR.each s hs).1
    have := (pool_small _ h.id).2.2
    refine ⟨by omega, ?_⟩
    rcases h.region with e | e <;> rw [e] <;> decide
  have hS2 : SmallS (lst.filter fun s => !decide (q.at' < s.at')) := fun s hs => hS s (List.mem_filter.1 hs).1
  have hqr : q.region.size ≤ 9223372036854775807 := Nat.le_trans hq.2.2.1 (by decide)
  have hqx : q.x.text.size < 4294967281 := Nat.lt_of_le_of_lt hq.1.2.2 (by decide)
  simp -dsimp -implicitDefEqProofs (disch := omega) only [↓wpre, ↓wmap, push_cast, reduceCtorEq, ↓reduceIte, Nat.reduceEqDiff, Nat.reduceLeDiff, Nat.reduceAdd, Nat.reduceMul, Nat.reduceMod, Nat.reduceSub, Nat.reduceLT, Int.reduceEq, Int.reduceLT, Int.reduceLE, Int.reduceNeg, Int.reduceAdd, Int.reduceSub, hu_hu, hls]
  refine AFn.x (may_c G _ hG true true p lst q.x q.purpose q.region q.channel q.at' hP (by omega) hS (by omega) hqr hqx) fun n5 hn5 => ?_
  simp -dsimp -implicitDefEqProofs (disch := omega) only [↓wpre, ↓wmap, push_cast, reduceCtorEq, ↓reduceIte, Nat.reduceEqDiff, Nat.reduceLeDiff, Nat.reduceAdd, Nat.reduceMul, Nat.reduceMod, Nat.reduceSub, Nat.reduceLT, Int.reduceEq, Int.reduceLT, Int.reduceLE, Int.reduceNeg, Int.reduceAdd, Int.reduceSub, hu_hu]
  refine (clone_c G _ lst hl0 (by omega) _).le.x fun r H6 n6 ⟨⟨e1, e2⟩, hn6⟩ => ?_
  subst e1 e2
  simp -dsimp -implicitDefEqProofs (disch := omega) only [↓wpre, ↓wmap, push_cast, reduceCtorEq, ↓reduceIte, Nat.reduceEqDiff, Nat.reduceLeDiff, Nat.reduceAdd, Nat.reduceMul, Nat.reduceMod, Nat.reduceSub, Nat.reduceLT, Int.reduceEq, Int.reduceLT, Int.reduceLE, Int.reduceNeg, Int.reduceAdd, Int.reduceSub, hu_hu]
  refine ((deleteFunc_c G _ (n5 + 1 + 1) n4 ⟨34, 6, [Qm.c q]⟩ (by omega) lst (by omega) 16 (fun s => decide (q.at' < s.at')) (by rw [hu_ne (by omega), hu_ne (by omega)]; first | exact hu_same | (rw [hu_ne (by omega)]; exact hu_same)) (fun H2 h2 x => later_c G H2 x n4 q h2) hu_same _).le).x fun r H7 n7 ⟨⟨e3, jr, e4⟩, hn7⟩ => ?_
  subst e3 e4
  simp -dsimp -implicitDefEqProofs (disch := omega) only [↓wpre, ↓wmap, push_cast, reduceCtorEq, ↓reduceIte, Nat.reduceEqDiff, Nat.reduceLeDiff, Nat.reduceAdd, Nat.reduceMul, Nat.reduceMod, Nat.reduceSub, Nat.reduceLT, Int.reduceEq, Int.reduceLT, Int.reduceLE, Int.reduceNeg, Int.reduceAdd, Int.reduceSub, hu_hu]
  refine may_os G _ hG true p (lst.filter fun s => !decide (q.at' < s.at')) jr (n5 + 1 + 1) hu_same q.x q.purpose q.region q.channel q.at' hP (by omega) hS2 (Nat.le_trans (List.length_filter_le _ _) (by omega)) hqr hqx fun n8 hn8 => ?_
  have hme := may_early ⟨p, true, q.purpose, q.region, q.channel, q.at'⟩ lst q.x hR (by omega)
  rw [hme]
  simp -dsimp -implicitDefEqProofs (disch := omega) only [↓wpre, ↓wmap, push_cast, reduceCtorEq, ↓reduceIte, Nat.reduceEqDiff, Nat.reduceLeDiff, Nat.reduceAdd, Nat.reduceMul, Nat.reduceMod, Nat.reduceSub, Nat.reduceLT, Int.reduceEq, Int.reduceLT, Int.reduceLE, Int.reduceNeg, Int.reduceAdd, Int.reduceSub, hu_hu]
  refine AFn.x (consents_c G _ hG) fun n9 hn9 => ?_
  simp -dsimp -implicitDefEqProofs (disch := omega) only [↓wpre, ↓wmap, push_cast, reduceCtorEq, ↓reduceIte, Nat.reduceEqDiff, Nat.reduceLeDiff, Nat.reduceAdd, Nat.reduceMul, Nat.reduceMod, Nat.reduceSub, Nat.reduceLT, Int.reduceEq, Int.reduceLT, Int.reduceLE, Int.reduceNeg, Int.reduceAdd, Int.reduceSub, hu_hu]
  first | exact fin_intro (Sub.refl _) rfl | trace_state
end Go.Proofs.YthcedgclhoggcaaGreatDoor
