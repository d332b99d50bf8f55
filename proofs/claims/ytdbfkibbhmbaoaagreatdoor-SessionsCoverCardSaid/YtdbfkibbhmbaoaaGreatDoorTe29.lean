/- Contracts of functions of the program: each computes what its model says; the conditions stand at each. -/
import Derived.Test.YtdbfkibbhmbaoaaGreatDoorTe28
set_option linter.unusedSimpArgs false
set_option linter.unusedVariables false
set_option maxRecDepth 20000
set_option pp.deepTerms false
set_option pp.deepTerms.threshold 5
namespace Go.Proofs.YtdbfkibbhmbaoaaGreatDoor
open Go Go.Ab Go.Pm Go.Cm Go.El Go.Em Go.Rm
variable (G : Nat → AV) (H : Nat → Option AObj)
theorem plain_ses (rs : List (List Evt)) : ∀ r ∈ rs.map (fun r => (sesOf r).c), plain r = true := by
  intro r hr
  obtain ⟨x, _, rfl⟩ := List.mem_map.1 hr
  rfl
theorem sessions_c (hU : GU G) (nz : Bool) (l : List Evt) (hg : Em.Good l) (gap : Int) (hgap : 1 ≤ gap ∧ gap ≤ 1440) (n : Nat) : ACalls Tryz.prog G 11 [.ls nz (l.map Evt.c), .int gap] H n fun r H' n' => ∃ (rs : List (List Evt)) (nzr : Bool), r = .tup [.ls nzr (rs.map fun r => (sesOf r).c), .int 0] ∧ Runs gap rs ∧ rs.flatten = l ∧ H' = H := by
  refine low_of G H fun hlow => ACalls.frz (sessions_run G H hU nz l hg gap hgap n) ?_
  rintro r H1 n1 ⟨rs, x, rfl, h1, h2, h3, h4⟩
  rcases h4 with ⟨rfl, rfl⟩ | ⟨o, rfl, h5, h6, h7⟩
  · exact ⟨noObj, H, 2, fun i o h => (by cases h), h3, fun i o h => (by cases h), [], false, rfl, h1, h2, rfl⟩
  · refine ⟨Ab.only o ⟨37, 4, rs.map fun r => (sesOf r).c⟩, H, 2, only_sub h5, h3, fun j x hj => ?_, rs, true, ?_, h1, h2, rfl⟩
    · unfold Ab.only at hj
      split at hj
      · rename_i e; subst e
        cases hx : H j with
        | none => rfl
        | some y => exact absurd (hlow j y hx) (by omega)
      · cases hj
    · have e1 : frz (Ab.only o ⟨37, 4, rs.map fun r => (sesOf r).c⟩) 1 (.os o 0 rs.length) = .ls true (rs.map fun r => (sesOf r).c) := frz_os_plain (plain_ses rs) (by simp)
      show AV.tup [frz _ 1 _, frz _ 1 _] = _
      rw [e1, frz_lit]
theorem even_ses (rs : List (List Evt)) : Even 4 (rs.map fun r => (sesOf r).c) = True := eq_true fun r hr => by
  obtain ⟨x, _, rfl⟩ := List.mem_map.1 hr
  exact ⟨rfl, rfl⟩
set_option maxHeartbeats 3200000 in
theorem sessionsCover_c (hU : GU G) (nz : Bool) (l : List Int) (n : Nat) : ACalls Tryz.prog G 3 [LL nz l] H n fun r H' n' => r = .bool true := by
  refine ACalls.start mix F3 (by simp) fun hlow => ?_
  simp -dsimp -implicitDefEqProofs (disch := omega) only [↓wpre, push_cast, reduceCtorEq, ↓reduceIte, Nat.reduceEqDiff, Nat.reduceLeDiff, Nat.reduceAdd, Nat.reduceLT, Int.reduceEq, Int.reduceLT, Int.reduceLE, Int.reduceNeg, Int.reduceAdd, c3]
  refine (range_c G _ nz l 0 1 14 n hu_same (by omega) (by omega)).x fun r a1 n1 hn1 h1 h2 h3 => ?_
  obtain ⟨many, rfl, hm⟩ := h3
  simp -dsimp -implicitDefEqProofs (disch := omega) only [↓wpre, push_cast, reduceCtorEq, ↓reduceIte, Nat.reduceEqDiff, Nat.reduceLeDiff, Nat.reduceAdd, Nat.reduceLT, Int.reduceEq, Int.reduceLT, Int.reduceLE, Int.reduceNeg, Int.reduceAdd, hu_hu]
  refine (rightEvents_c G _ hU nz l a1 many n hu_same (by omega) hm).x fun r a2 n2 hn2 k1 k2 k3 => ?_
  obtain ⟨es, rfl, hg, hlo, hfew⟩ := k3
  simp -dsimp -implicitDefEqProofs (disch := omega) only [↓wpre, push_cast, reduceCtorEq, ↓reduceIte, Nat.reduceEqDiff, Nat.reduceLeDiff, Nat.reduceAdd, Nat.reduceLT, Int.reduceEq, Int.reduceLT, Int.reduceLE, Int.reduceNeg, Int.reduceAdd, hu_hu]
  refine (pick_c G _ nz true l a2 n hu_same (by omega) [1, 5, 30, 100, 1440] (by simp) (by simp)).x fun r a3 n3 hn3 k1' k2' k3 => ?_
  obtain ⟨gap, rfl, hgap⟩ := k3
  simp only [List.mem_cons, List.not_mem_nil, or_false] at hgap
  simp -dsimp -implicitDefEqProofs (disch := omega) only [↓wpre, push_cast, reduceCtorEq, ↓reduceIte, Nat.reduceEqDiff, Nat.reduceLeDiff, Nat.reduceAdd, Nat.reduceLT, Int.reduceEq, Int.reduceLT, Int.reduceLE, Int.reduceNeg, Int.reduceAdd, hu_hu]
  refine (sessions_c G _ hU true es hg gap (by omega) _).le.x fun r H4 n4 ⟨⟨rs, nzr, hr, hruns, hfl, hH⟩, hn4⟩ => ?_
  subst hr hH
  simp -dsimp -implicitDefEqProofs (disch := omega) only [↓wpre, push_cast, reduceCtorEq, ↓reduceIte, Nat.reduceEqDiff, Nat.reduceLeDiff, Nat.reduceAdd, Nat.reduceLT, Int.reduceEq, Int.reduceLT, Int.reduceLE, Int.reduceNeg, Int.reduceAdd, hu_hu]
  refine xw_loopJ (σ := List (List Evt) × List (List Evt)) (fun t => [(4, .ls true (es.map Evt.c)), (5, .int gap), (6, .ls nzr (rs.map fun r => (sesOf r).c)), (8, .int t.1.flatten.length), (32, .ls nzr (rs.map fun r => (sesOf r).c)), (33, .int rs.length), (34, .int t.1.length)]) (fun t H' n' => rs = t.1 ++ t.2) (fun t => t.2.length) ([], rs) rfl (by simp -dsimp -implicitDefEqProofs (disch := omega) only [↓wpre, push_cast, reduceCtorEq, ↓reduceIte, Nat.reduceEqDiff, Nat.reduceLeDiff, Nat.reduceAdd, Nat.reduceLT, Int.reduceEq, Int.reduceLT, Int.reduceLE, Int.reduceNeg, Int.reduceAdd, List.flatten_nil]) ?_
  rintro ⟨a, b⟩ fr H' n5 hab hh
  simp only [has_nil, has_cons, and_true] at hh hab
  cases b with
  | nil =>
    rw [List.append_nil] at hab
    subst hab
    have hlt : ¬ (rs.length : Int) < rs.length := by omega
    rw [hfl] at hh
    simp -dsimp -implicitDefEqProofs (disch := omega) only [↓wpre, push_cast, reduceCtorEq, ↓reduceIte, Nat.reduceEqDiff, Nat.reduceLeDiff, Nat.reduceAdd, Nat.reduceLT, Int.reduceEq, Int.reduceLT, Int.reduceLE, Int.reduceNeg, Int.reduceAdd, hh, hlt]
    refine (happenings_c G _ hU _).x fun r H6 n6 ⟨hr, _⟩ => ?_
    subst hr
    simp -dsimp -implicitDefEqProofs (disch := omega) only [↓wpre, push_cast, reduceCtorEq, ↓reduceIte, Nat.reduceEqDiff, Nat.reduceLeDiff, Nat.reduceAdd, Nat.reduceLT, Int.reduceEq, Int.reduceLT, Int.reduceLE, Int.reduceNeg, Int.reduceAdd, hu_hu]
    exact fin_intro (Sub.refl _) rfl
  | cons r b =>
    have hrn : r ≠ [] := hruns.ne r (by rw [hab]; simp)
    have hx : rs[a.length]? = some r := by rw [hab]; simp
    have hlt : (a.length : Int) < rs.length := by rw [hab]; simp only [List.length_append, List.length_cons]; omega
    have hes : es = a.flatten ++ (r ++ b.flatten) := by rw [← hfl, hab]; simp
    obtain ⟨q1, q2⟩ := run_ends hrn a.flatten b.flatten
    rw [← hes] at q1 q2
    have hlen := len_run hes hrn hg
    have hrl := List.length_pos_iff.2 hrn
    have hel : es.length = a.flatten.length + (r.length + b.flatten.length) := by rw [hes]; simp
    have g1 := hg.at (List.mem_of_getElem? q1)
    have g2 := hg.at (List.mem_of_getElem? q2)
    have hbusy := fun most => busy_run (most := most) hes hrn hg.order
    have htold : ∀ a' r', a = a' ++ [r'] → gap < (r.headD noE).at' - (r'.getLastD noE).at' := fun a' r' e => hruns.told a' r' r b (by rw [hab, e]; simp)
    generalize hs : sesOf r = s at hlen hbusy
    have s1 : s.from' = (r.headD noE).at' := by rw [← hs]; rfl
    have s2 : s.to' = (r.getLastD noE).at' + 1 := by rw [← hs]; rfl
    have s3 : s.many = r.length := by rw [← hs]; rfl
    have s4 : s.first = (r.headD noE).id := by rw [← hs]; rfl
    generalize r.headD noE = e1 at q1 g1 s1 s4 htold
    generalize r.getLastD noE = e2 at q2 g2 s2
    have hx' : aidx H' 4 (.ls nzr (rs.map fun r => (sesOf r).c)) (.lit (.int .i64 a.length)) = some (.pp s.c) := by rw [← hs]; exact aidx_at (c := fun r => (sesOf r).c) rfl hx
    have c1 : ¬ s.many < 1 := by omega
    have c2 : ¬ (es.length : Int) < a.flatten.length + s.many := by omega
    have c3 : (a.flatten.length : Int) + s.many - 1 = ((a.flatten.length + r.length - 1 : Nat) : Int) := by omega
    have c4 : (a.flatten.length : Int) < es.length := by omega
    simp -dsimp -implicitDefEqProofs (disch := omega) only [↓wpre, push_cast, reduceCtorEq, ↓reduceIte, Nat.reduceEqDiff, Nat.reduceLeDiff, Nat.reduceAdd, Nat.reduceLT, Int.reduceEq, Int.reduceLT, Int.reduceLE, Int.reduceNeg, Int.reduceAdd, hh, hlt, even_ses, hx', c1, c2, even_evts, aidx_at rfl q1, s4, s1]
    have hal : a.length ≤ 100 := by
      have h1 := len_flat _ hruns.ne
      rw [hfl] at h1
      omega
    rcases last_of a with ha | ⟨a', p, ha⟩
    case' inl =>
      have c5 : ¬ (0 : Int) < a.length := by rw [ha]; simp
      refine anyN_intro fun n6 hn6 => ?_
      simp -dsimp -implicitDefEqProofs (disch := omega) only [↓wpre, push_cast, reduceCtorEq, ↓reduceIte, Nat.reduceEqDiff, Nat.reduceLeDiff, Nat.reduceAdd, Nat.reduceLT, Int.reduceEq, Int.reduceLT, Int.reduceLE, Int.reduceNeg, Int.reduceAdd, hh, c3, c5, even_evts, aidx_at _ q2, s2]
      refine anyN_intro fun n7 hn7 => ?_
      simp -dsimp -implicitDefEqProofs (disch := omega) only [↓wpre, push_cast, reduceCtorEq, ↓reduceIte, Nat.reduceEqDiff, Nat.reduceLeDiff, Nat.reduceAdd, Nat.reduceLT, Int.reduceEq, Int.reduceLT, Int.reduceLE, Int.reduceNeg, Int.reduceAdd, hh]
    case' inr =>
      have c5 : (0 : Int) < a.length := by rw [ha]; simp only [List.length_append, List.length_cons, List.length_nil]; omega
      have hp : rs[a.length - 1]? = some p := by rw [hab, ha]; simp
      have hpx : ∀ H' : Nat → Option AObj, aidx H' 4 (.ls nzr (rs.map fun r => (sesOf r).c)) (.lit (.int .i64 ((a.length : Int) - 1))) = some (.pp (sesOf p).c) := fun H' => aidx_at (c := fun r => (sesOf r).c) (by omega) hp
      have hpn : p ≠ [] := hruns.ne p (by rw [hab, ha]; simp)
      have ht := htold a' p ha
      have hep : 0 ≤ (p.getLastD noE).at' ∧ (p.getLastD noE).at' ≤ 4321439 := by
        have := run_ends hpn a'.flatten ([] : List Evt)
        have hm : p.getLastD noE ∈ es := by
          rw [hes, ha]
          have h0 := this.2
          have h1 := List.mem_of_getElem? h0
          simp only [List.flatten_append, List.flatten_cons, List.flatten_nil, List.append_nil, List.mem_append] at h1 ⊢
          exact .inl h1
        exact hg.at hm
      have hs' : (sesOf p).to' = (p.getLastD noE).at' + 1 := rfl
      generalize sesOf p = sp at hpx hs'
      generalize (p.getLastD noE).at' = tp at ht hs' hep
      have c6 : ¬ e1.at' - tp ≤ gap := by omega
      have c7 : tp + 1 - 1 = tp := by omega
      refine anyN_intro fun n6 hn6 => ?_
      simp -dsimp -implicitDefEqProofs (disch := omega) only [↓wpre, push_cast, reduceCtorEq, ↓reduceIte, Nat.reduceEqDiff, Nat.reduceLeDiff, Nat.reduceAdd, Nat.reduceLT, Int.reduceEq, Int.reduceLT, Int.reduceLE, Int.reduceNeg, Int.reduceAdd, hh, c3, c5, even_evts, aidx_at _ q2, s2, even_ses, hpx, hs', c7, s1, c6]
      refine anyN_intro fun n7 hn7 => ?_
      simp -dsimp -implicitDefEqProofs (disch := omega) only [↓wpre, push_cast, reduceCtorEq, ↓reduceIte, Nat.reduceEqDiff, Nat.reduceLeDiff, Nat.reduceAdd, Nat.reduceLT, Int.reduceEq, Int.reduceLT, Int.reduceLE, Int.reduceNeg, Int.reduceAdd, hh]
    all_goals
      refine (busiest_run G _ hU true es hg _ (by omega) _).x fun r' H7 n8 ⟨x, most, hr, hbt, hsub⟩ => ?_
      subst hr
      have c8 : ¬ most < s.many := by
        have := hbusy most (by rw [s1, s2] at *; exact hbt)
        omega
      have ho7 := hsub n5 _ hu_same
      simp -dsimp -implicitDefEqProofs (disch := omega) only [↓wpre, push_cast, reduceCtorEq, ↓reduceIte, Nat.reduceEqDiff, Nat.reduceLeDiff, Nat.reduceAdd, Nat.reduceLT, Int.reduceEq, Int.reduceLT, Int.reduceLE, Int.reduceNeg, Int.reduceAdd, hh, ho7, c8]
      refine againJ (a ++ [r], b) (Nat.lt_succ_self _) (by rw [hab]; simp) ?_
      simp only [List.flatten_append, List.flatten_cons, List.flatten_nil, List.append_nil]
      simp -dsimp -implicitDefEqProofs (disch := omega) only [↓wpre, push_cast, reduceCtorEq, ↓reduceIte, Nat.reduceEqDiff, Nat.reduceLeDiff, Nat.reduceAdd, Nat.reduceLT, Int.reduceEq, Int.reduceLT, Int.reduceLE, Int.reduceNeg, Int.reduceAdd, hh, s3]
end Go.Proofs.YtdbfkibbhmbaoaaGreatDoor

