/- Contracts of functions of the program: each computes what its model says; the conditions stand at each. -/
import Derived.Test.YthcedgclhoggcaaGreatDoorTw30
set_option linter.unusedSimpArgs false
set_option linter.unusedVariables false
set_option maxRecDepth 20000
set_option pp.deepTerms false
set_option pp.deepTerms.threshold 3
namespace Go.Proofs.YthcedgclhoggcaaGreatDoor
open Go Go.Ab Go.Pm Go.Cm
variable (G : Nat → AV) (H : Nat → Option AObj)
theorem momRaw_app (t : Term) (pu : T) (a : List Stm) (s : Stm) : momRaw t pu (a ++ [s]) = momRaw t pu a ++ momOf t pu s := by simp [momRaw]
theorem momRaw_len (t : Term) (pu : T) : ∀ (l : List Stm), (momRaw t pu l).length ≤ 3 * l.length
  | [] => by simp [momRaw]
  | s :: r => by
    have ih := momRaw_len t pu r
    have e : momRaw t pu (s :: r) = momOf t pu s ++ momRaw t pu r := by simp [momRaw]
    have h2 : (momOf t pu s).length ≤ 3 := by unfold momOf; split <;> simp
    rw [e, List.length_append, List.length_cons]
    omega
theorem moments_run (nz : Bool) (t : Option Term) (pu : T) (l : List Stm) (hl : l.length ≤ 19) (ht : 0 ≤ (t.getD noTerm).days ∧ (t.getD noTerm).days ≤ 2000 ∧ 0 ≤ (t.getD noTerm).wait ∧ (t.getD noTerm).wait ≤ 100000) (hb : ∀ s ∈ l, 0 ≤ s.at' ∧ s.at' ≤ 4321439) (n : Nat) : ACalls Tryz.prog G 53 [.agg (askedC t pu (.ls nz (l.map Stm.c)))] H n fun r H' n' => (l = [] ∧ r = .ls false [] ∧ H' = H) ∨ ∃ i jr, r = .os i 0 (momL (t.getD noTerm) pu l).length ∧ H' i = some ⟨3, 1, (momL (t.getD noTerm) pu l).map IC ++ jr⟩ ∧ Sub H H' ∧ H i = none ∧ l ≠ [] := by
  refine ACalls.start mix F53 (by simp) fun hlow => ?_
  simp -dsimp -implicitDefEqProofs (disch := omega) only [↓wpre, push_cast, reduceCtorEq, ↓reduceIte, Nat.reduceEqDiff, Nat.reduceLeDiff, Nat.reduceAdd, Nat.reduceMul, Nat.reduceSub, Nat.reduceLT, Int.reduceEq, Int.reduceLT, Int.reduceLE, Int.reduceNeg, Int.reduceAdd, Int.reduceSub, c53, askedC]
  refine xw_loopJ (σ := List Stm × List Stm × Option Nat) (fun q => [(1, .pp (askedC t pu (.ls nz (l.map Stm.c)))), (3, outAV q.2.2 (momRaw (t.getD noTerm) pu q.1).length), (7, .ls nz (l.map Stm.c)), (8, .int l.length), (9, .int q.1.length)]) (fun q H' n' => l = q.1 ++ q.2.1 ∧ OutIs n H' q.2.2 3 1 ((momRaw (t.getD noTerm) pu q.1).map IC) n' ∧ Qt H H' n ∧ n ≤ n' ∧ (q.2.2 = none → q.1 = []) ∧ (q.2.2 ≠ none → q.1 ≠ [])) (fun q => q.2.1.length) ([], l, none) ⟨rfl, rfl, .refl hlow, Nat.le_refl _, fun _ => rfl, fun h => (h rfl).elim⟩ (by simp -dsimp -implicitDefEqProofs (disch := omega) only [↓wpre, push_cast, reduceCtorEq, ↓reduceIte, Nat.reduceEqDiff, Nat.reduceLeDiff, Nat.reduceAdd, Nat.reduceMul, Nat.reduceSub, Nat.reduceLT, Int.reduceEq, Int.reduceLT, Int.reduceLE, Int.reduceNeg, Int.reduceAdd, Int.reduceSub, outAV, askedC]; try rfl) ?_
  rintro ⟨a, b, oid⟩ fr H' n1 ⟨rfl, ho, hq, hn1, hne, hne2⟩ hh
  simp only [has_nil, has_cons, and_true, List.length_append, askedC] at hh hl ho hne
  have hrl := momRaw_len (t.getD noTerm) pu a
  cases b with
  | nil =>
    simp only [List.length_nil] at hl
    simp -dsimp -implicitDefEqProofs (disch := omega) only [↓wpre, push_cast, reduceCtorEq, ↓reduceIte, Nat.reduceEqDiff, Nat.reduceLeDiff, Nat.reduceAdd, Nat.reduceMul, Nat.reduceSub, Nat.reduceLT, Int.reduceEq, Int.reduceLT, Int.reduceLE, Int.reduceNeg, Int.reduceAdd, Int.reduceSub, hh]
    rw [List.append_nil]
    cases oid with
    | none =>
      have ha := hne rfl
      subst ha
      simp -dsimp -implicitDefEqProofs (disch := omega) only [↓wpre, push_cast, reduceCtorEq, ↓reduceIte, Nat.reduceEqDiff, Nat.reduceLeDiff, Nat.reduceAdd, Nat.reduceMul, Nat.reduceSub, Nat.reduceLT, Int.reduceEq, Int.reduceLT, Int.reduceLE, Int.reduceNeg, Int.reduceAdd, Int.reduceSub, hh, outAV]
      refine AFn.x (sortNil_c G _) fun n2 hn2 => ?_
      simp -dsimp -implicitDefEqProofs (disch := omega) only [↓wpre, push_cast, reduceCtorEq, ↓reduceIte, Nat.reduceEqDiff, Nat.reduceLeDiff, Nat.reduceAdd, Nat.reduceMul, Nat.reduceSub, Nat.reduceLT, Int.reduceEq, Int.reduceLT, Int.reduceLE, Int.reduceNeg, Int.reduceAdd, Int.reduceSub, hh, outAV]
      refine AFn.x (compactNil_c G _) fun n3 hn3 => ?_
      simp -dsimp -implicitDefEqProofs (disch := omega) only [↓wpre, push_cast, reduceCtorEq, ↓reduceIte, Nat.reduceEqDiff, Nat.reduceLeDiff, Nat.reduceAdd, Nat.reduceMul, Nat.reduceSub, Nat.reduceLT, Int.reduceEq, Int.reduceLT, Int.reduceLE, Int.reduceNeg, Int.reduceAdd, Int.reduceSub, hh, outAV]
      refine AFn.x (deleteNil_c G _ 93) fun n4 hn4 => ?_
      simp -dsimp -implicitDefEqProofs (disch := omega) only [↓wpre, push_cast, reduceCtorEq, ↓reduceIte, Nat.reduceEqDiff, Nat.reduceLeDiff, Nat.reduceAdd, Nat.reduceMul, Nat.reduceSub, Nat.reduceLT, Int.reduceEq, Int.reduceLT, Int.reduceLE, Int.reduceNeg, Int.reduceAdd, Int.reduceSub, hh, outAV]
      exact fin_intro hq.1 (.inl ⟨rfl, rfl, rfl⟩)
    | some i =>
      obtain ⟨h1, h2, h3⟩ := ho
      simp -dsimp -implicitDefEqProofs (disch := omega) only [↓wpre, push_cast, reduceCtorEq, ↓reduceIte, Nat.reduceEqDiff, Nat.reduceLeDiff, Nat.reduceAdd, Nat.reduceMul, Nat.reduceSub, Nat.reduceLT, Int.reduceEq, Int.reduceLT, Int.reduceLE, Int.reduceNeg, Int.reduceAdd, Int.reduceSub, hh, outAV]
      refine (sortR_c G _ i (momRaw (t.getD noTerm) pu a) (by omega) _ h1).x fun r H2 n2 h => ?_
      subst h
      simp -dsimp -implicitDefEqProofs (disch := omega) only [↓wpre, push_cast, reduceCtorEq, ↓reduceIte, Nat.reduceEqDiff, Nat.reduceLeDiff, Nat.reduceAdd, Nat.reduceMul, Nat.reduceSub, Nat.reduceLT, Int.reduceEq, Int.reduceLT, Int.reduceLE, Int.reduceNeg, Int.reduceAdd, Int.reduceSub, hh, outAV]
      rw [show ((momRaw (t.getD noTerm) pu a).length) = (msortI (momRaw (t.getD noTerm) pu a)).length from (msortI_length _).symm]
      refine (compactR_c G _ i (msortI (momRaw (t.getD noTerm) pu a)) (by rw [msortI_length]; omega) _ hu_same).x fun r H3 n3 ⟨e1, jr, e2⟩ => ?_
      subst e1 e2
      simp -dsimp -implicitDefEqProofs (disch := omega) only [↓wpre, push_cast, reduceCtorEq, ↓reduceIte, Nat.reduceEqDiff, Nat.reduceLeDiff, Nat.reduceAdd, Nat.reduceMul, Nat.reduceSub, Nat.reduceLT, Int.reduceEq, Int.reduceLT, Int.reduceLE, Int.reduceNeg, Int.reduceAdd, Int.reduceSub, hh, outAV]
      refine (deleteI_c G _ i (Lib.compact (msortI (momRaw (t.getD noTerm) pu a))) jr (by have := compact_len (msortI (momRaw (t.getD noTerm) pu a)); rw [msortI_length] at this; omega) 93 (fun x => decide (4321440 ≤ x)) (fun H2 x => end_c G H2 x) hu_same _).x fun r H4 n4 ⟨e3, jr', e4⟩ => ?_
      subst e3 e4
      simp -dsimp -implicitDefEqProofs (disch := omega) only [↓wpre, push_cast, reduceCtorEq, ↓reduceIte, Nat.reduceEqDiff, Nat.reduceLeDiff, Nat.reduceAdd, Nat.reduceMul, Nat.reduceSub, Nat.reduceLT, Int.reduceEq, Int.reduceLT, Int.reduceLE, Int.reduceNeg, Int.reduceAdd, Int.reduceSub, hh, outAV]
      have hi : H i = none := by
        cases hx : H i with
        | none => rfl
        | some o => exact absurd (hq.2 i o hx) (by omega)
      refine fin_intro (Sub.refl _) (.inr ⟨i, jr', rfl, hu_same, ?_, hi, ?_⟩)
      · exact (((hq.hu h2).hu h2).hu h2).1
      · exact hne2 (by simp)
  | cons s b =>
    simp only [List.length_cons] at hl
    have hlt : (a.length : Int) < a.length + (b.length + 1) := by omega
    have hsb := hb s (by simp)
    have hdn : ∀ X o, dropO (hu X n1 o) oid n1 = o := fun X o => by
      cases oid with
      | none => exact hu_same
      | some i => rw [dropO, hu_ne (by have := ho.2.2; omega), hu_same]
    simp -dsimp -implicitDefEqProofs (disch := omega) only [↓wpre, push_cast, reduceCtorEq, ↓reduceIte, Nat.reduceEqDiff, Nat.reduceLeDiff, Nat.reduceAdd, Nat.reduceMul, Nat.reduceSub, Nat.reduceLT, Int.reduceEq, Int.reduceLT, Int.reduceLE, Int.reduceNeg, Int.reduceAdd, Int.reduceSub, hh, hlt, even_stms', aidx_split]
    refine xapp_out (n0 := n) ((ho.hu (Nat.le_refl _) (Nat.le_refl _)).hu (Nat.le_refl _) (Nat.le_succ _)) (by simp) (by intro r hr; simp at hr; subst hr; exact ⟨rfl, rfl⟩) (by simp only [List.length_map]; omega) ?_
    simp -dsimp -implicitDefEqProofs (disch := omega) only [↓wpre, push_cast, reduceCtorEq, ↓reduceIte, Nat.reduceEqDiff, Nat.reduceLeDiff, Nat.reduceAdd, Nat.reduceMul, Nat.reduceSub, Nat.reduceLT, Int.reduceEq, Int.reduceLT, Int.reduceLE, Int.reduceNeg, Int.reduceAdd, Int.reduceSub, hh, hdn]
    have ho2 : ∀ o1 o2, OutIs n (hu (hu H' n1 o1) n1 o2) oid 3 1 ((momRaw (t.getD noTerm) pu a).map IC) (n1 + 1) := fun o1 o2 => (ho.hu (Nat.le_refl _) (Nat.le_refl _)).hu (Nat.le_refl _) (Nat.le_succ _)
    repeat' (first | ((first | with_reducible refine cnd_ndec (fun hc => ?_) (fun hc => ?_) | with_reducible refine cnd_dec (fun hc => ?_) (fun hc => ?_) | with_reducible refine cnd_nb (fun hc => ?_) (fun hc => ?_) | with_reducible refine cnd_intro (fun hc => ?_) (fun hc => ?_)) <;> (first | (exfalso; omega) | (try simp -dsimp -implicitDefEqProofs (disch := omega) only [↓wpre, push_cast, reduceCtorEq, ↓reduceIte, Nat.reduceEqDiff, Nat.reduceLeDiff, Nat.reduceAdd, Nat.reduceMul, Nat.reduceSub, Nat.reduceLT, Int.reduceEq, Int.reduceLT, Int.reduceLE, Int.reduceNeg, Int.reduceAdd, Int.reduceSub, hc, hh, hdn]))) | (with_reducible refine anyN_intro fun n' hn' => ?_; try simp -dsimp -implicitDefEqProofs (disch := omega) only [↓wpre, push_cast, reduceCtorEq, ↓reduceIte, Nat.reduceEqDiff, Nat.reduceLeDiff, Nat.reduceAdd, Nat.reduceMul, Nat.reduceSub, Nat.reduceLT, Int.reduceEq, Int.reduceLT, Int.reduceLE, Int.reduceNeg, Int.reduceAdd, Int.reduceSub, hh, hdn]) | fail)
    · have hm : momRaw (t.getD noTerm) pu (a ++ [s]) = momRaw (t.getD noTerm) pu a ++ [s.at', s.at' + (t.getD noTerm).wait + 1, s.at' + (t.getD noTerm).days * 1440] := by
        rw [momRaw_app, momOf, if_pos (by simp_all)]
      rw [outAV, xapp_os (rows := (momRaw (t.getD noTerm) pu a).map IC ++ [[AV.int s.at']]) (len := (momRaw (t.getD noTerm) pu a).length + 1) hu_same (by simp) (by intro r hr; simp at hr; rcases hr with rfl | rfl <;> exact ⟨rfl, rfl⟩) (by simp) (by simp only [List.length_cons, List.length_nil]; omega)]
      simp -dsimp -implicitDefEqProofs (disch := omega) only [↓wpre, push_cast, reduceCtorEq, ↓reduceIte, Nat.reduceEqDiff, Nat.reduceLeDiff, Nat.reduceAdd, Nat.reduceMul, Nat.reduceSub, Nat.reduceLT, Int.reduceEq, Int.reduceLT, Int.reduceLE, Int.reduceNeg, Int.reduceAdd, Int.reduceSub, hh]
      refine againJ (a ++ [s], b, some (n1 + 1 + 1)) (Nat.lt_succ_self _) ⟨by simp, ?_, (((Qt.dropO (ho2 _ _) ((hq.hu hn1).hu hn1)).hu (by omega)).hu (by omega)).hu (by omega), by omega, fun h => by simp at h, fun _ => by simp⟩ (by simp -dsimp -implicitDefEqProofs (disch := omega) only [↓wpre, push_cast, reduceCtorEq, ↓reduceIte, Nat.reduceEqDiff, Nat.reduceLeDiff, Nat.reduceAdd, Nat.reduceMul, Nat.reduceSub, Nat.reduceLT, Int.reduceEq, Int.reduceLT, Int.reduceLE, Int.reduceNeg, Int.reduceAdd, Int.reduceSub, hh]; simp [hm, outAV])
      dsimp only
      rw [hm, List.map_append]
      have e : (List.map IC (momRaw (t.getD noTerm) pu a) ++ List.map IC [s.at', s.at' + (t.getD noTerm).wait + 1, s.at' + (t.getD noTerm).days * 1440]) = (List.map IC (momRaw (t.getD noTerm) pu a) ++ [[AV.int s.at']] ++ [[AV.int (s.at' + (t.getD noTerm).wait + 1)], [AV.int (s.at' + (t.getD noTerm).days * 1440)]]) := by simp
      rw [e]
      exact OutIs.new (n0 := n) (n := n1 + 1 + 1) (by omega)
    all_goals
      have hm : momRaw (t.getD noTerm) pu (a ++ [s]) = momRaw (t.getD noTerm) pu a ++ [s.at'] := by
        rw [momRaw_app, momOf, if_neg (by simp_all)]
      refine againJ (a ++ [s], b, some (n1 + 1)) (Nat.lt_succ_self _) ⟨by simp, ?_, (Qt.dropO (ho2 _ _) ((hq.hu hn1).hu hn1)).hu (by omega), by omega, fun h => by simp at h, fun _ => by simp⟩ (by simp -dsimp -implicitDefEqProofs (disch := omega) only [↓wpre, push_cast, reduceCtorEq, ↓reduceIte, Nat.reduceEqDiff, Nat.reduceLeDiff, Nat.reduceAdd, Nat.reduceMul, Nat.reduceSub, Nat.reduceLT, Int.reduceEq, Int.reduceLT, Int.reduceLE, Int.reduceNeg, Int.reduceAdd, Int.reduceSub, hh]; simp [hm, outAV])
      dsimp only
      rw [hm, List.map_append]
      exact OutIs.new (n0 := n) (n := n1 + 1) (by omega)
theorem momL_nil (t : Term) (pu : T) : momL t pu [] = [] := by simp [momL, momRaw, msortI, Lib.compact, Lib.compactUpTo]
theorem moments_c (nz : Bool) (t : Option Term) (pu : T) (l : List Stm) (hl : l.length ≤ 19) (ht : 0 ≤ (t.getD noTerm).days ∧ (t.getD noTerm).days ≤ 2000 ∧ 0 ≤ (t.getD noTerm).wait ∧ (t.getD noTerm).wait ≤ 100000) (hb : ∀ s ∈ l, 0 ≤ s.at' ∧ s.at' ≤ 4321439) : AFn Tryz.prog G 53 [.agg (askedC t pu (.ls nz (l.map Stm.c)))] H (.ls (!l.isEmpty) ((momL (t.getD noTerm) pu l).map IC)) := by
  intro n
  refine ACalls.frz (moments_run G H nz t pu l hl ht hb n) ?_
  rintro r H1 n1 (⟨h0, rfl, rfl⟩ | ⟨i, jr, rfl, h1, h2, h3, h4⟩)
  · refine ⟨fun _ => none, H1, 0, fun _ _ h => (by cases h), Sub.refl _, fun _ _ h => (by cases h), ?_, rfl⟩
    subst h0
    rw [momL_nil]; rfl
  · generalize momL (t.getD noTerm) pu l = ms at h1 ⊢
    refine ⟨only i ⟨3, 1, ms.map IC ++ jr⟩, H, 3, only_sub h1, h2, fun j o hj => ?_, ?_, rfl⟩
    · unfold only at hj
      split at hj
      · rename_i e; subst e; exact h3
      · cases hj
    · have e : (ms.map IC ++ jr).take ms.length = ms.map IC := by
        rw [List.take_append_of_le_length (by simp), List.take_of_length_le (by simp)]
      have hp : ∀ r ∈ ms.map IC, plain r = true := fun r hr => by
        obtain ⟨s, _, rfl⟩ := List.mem_map.1 hr
        rfl
      have he : (!l.isEmpty) = true := by cases l with | nil => exact absurd rfl h4 | cons => rfl
      rw [he]
      simp only [frz, only, if_true, Nat.zero_add, List.length_append, List.length_map, Nat.le_add_right, List.drop_zero, e, rows_plain hp]
end Go.Proofs.YthcedgclhoggcaaGreatDoor
