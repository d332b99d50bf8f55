/- Contracts of functions of the program: each computes what its model says; the conditions stand at each. -/
import Derived.Test.YthcedgclhoggcaaGreatDoorTw10
set_option linter.unusedSimpArgs false
set_option linter.unusedVariables false
set_option maxRecDepth 20000
set_option pp.deepTerms false
set_option pp.deepTerms.threshold 3
namespace Go.Proofs.YthcedgclhoggcaaGreatDoor
open Go Go.Ab Go.Pm Go.Cm
variable (G : Nat → AV) (H : Nat → Option AObj)
structure RightS (p : List Purpose) (s : Stm) : Prop where
  at' : 0 ≤ s.at' ∧ s.at' < 4000
  id : s.id ∈ pool
  channel : 1 ≤ s.channel ∧ s.channel ≤ 4
  what : 1 ≤ s.what ∧ s.what ≤ 5
  region : s.region = ⟨#[101, 117]⟩ ∨ s.region = ⟨#[117, 115]⟩
  of : s.what ≤ 3 → p ≠ [] → ∃ x ∈ p, s.purpose = x.name
  none : 3 < s.what → s.purpose = ⟨#[]⟩
structure RightL (p : List Purpose) (l : List Stm) : Prop where
  each : ∀ s ∈ l, RightS p s ∧ 1 ≤ s.no ∧ s.no ≤ 1000
  rise : l.Pairwise fun a b => a.no < b.no
set_option maxHeartbeats 1600000 in
theorem rightStatements_run (hG : GOk G) (nz nzp : Bool) (p : List Purpose) (hp : p.length ≤ 1000) (l : List Int) (a many : Int) (i : Nat) (hi : H i = some (strm (LL nz l) a)) (ha : 0 ≤ a ∧ a ≤ 1099511625000) (hm : 0 ≤ many ∧ many ≤ 100) (n : Nat) : ACalls Tryz.prog G 10 [.op i 0 0, .ls nzp (p.map Purpose.c), .int many] H n fun r H' n' => ∃ a' lst, a ≤ a' ∧ a' ≤ a + 8 * many ∧ RightL p lst ∧ (lst.length : Int) = many ∧ Sub (hu H i (some (strm (LL nz l) a'))) H' ∧ ((lst = [] ∧ r = .ls false []) ∨ ∃ o, r = .os o 0 lst.length ∧ H' o = some ⟨43, 8, lst.map Stm.c⟩ ∧ n ≤ o ∧ lst ≠ []) := by
  refine ACalls.start mix F10 (by simp) fun hlow => ?_
  have hq := Qs.refl hi hlow
  have hin := hq.2.2
  simp -dsimp -implicitDefEqProofs (disch := omega) only [↓wpre, push_cast, reduceCtorEq, ↓reduceIte, Nat.reduceEqDiff, Nat.reduceLeDiff, Nat.reduceAdd, Nat.reduceLT, Int.reduceEq, Int.reduceLT, Int.reduceLE, Int.reduceNeg, Int.reduceAdd, c10]
  refine xw_loopJ (σ := List Stm × Int × Option Nat × Int) (fun t => [(0, .op i 0 0), (1, .ls nzp (p.map Purpose.c)), (7, outAV t.2.2.1 t.1.length), (8, .int t.2.1), (10, .int many), (11, .int t.1.length)]) (fun t H' n' => RightL p t.1 ∧ (∀ s ∈ t.1, s.no ≤ t.2.1) ∧ (0 ≤ t.2.1 ∧ t.2.1 ≤ 2 * t.1.length) ∧ (t.1.length : Int) ≤ many ∧ OutIs n H' t.2.2.1 43 8 (t.1.map Stm.c) n' ∧ (t.2.2.1 ≠ none → t.1 ≠ []) ∧ Qs H H' i n ∧ H' i = some (strm (LL nz l) t.2.2.2) ∧ n ≤ n' ∧ a ≤ t.2.2.2 ∧ t.2.2.2 ≤ a + 8 * t.1.length) (fun t => many.toNat - t.1.length) ([], 0, none, a) ⟨⟨by simp, .nil⟩, by simp, by simp, by simp; omega, rfl, fun h => (h rfl).elim, hq, hi, Nat.le_refl _, by simp, by simp⟩ (by simp -dsimp -implicitDefEqProofs (disch := omega) only [↓wpre, push_cast, reduceCtorEq, ↓reduceIte, Nat.reduceEqDiff, Nat.reduceLeDiff, Nat.reduceAdd, Nat.reduceLT, Int.reduceEq, Int.reduceLT, Int.reduceLE, Int.reduceNeg, Int.reduceAdd, outAV]) ?_
  clear hq
  rintro ⟨d, no, oid, a1⟩ fr H' n1 ⟨hr, hno, hnb, hle, ho, hne, hq, hs, hn1, ha1, ha2⟩ hh
  simp only [has_nil, has_cons, and_true] at hh hr hno hnb hle ho hne hs ha1 ha2
  by_cases hlt : (d.length : Int) < many
  · simp -dsimp -implicitDefEqProofs (disch := omega) only [↓wpre, push_cast, reduceCtorEq, ↓reduceIte, Nat.reduceEqDiff, Nat.reduceLeDiff, Nat.reduceAdd, Nat.reduceLT, Int.reduceEq, Int.reduceLT, Int.reduceLE, Int.reduceNeg, Int.reduceAdd, hh, hlt]
    refine (pick_c G _ nz true l a1 i (by simp -dsimp -implicitDefEqProofs (disch := omega) only [↓wpre, push_cast, reduceCtorEq, ↓reduceIte, Nat.reduceEqDiff, Nat.reduceLeDiff, Nat.reduceAdd, Nat.reduceLT, Int.reduceEq, Int.reduceLT, Int.reduceLE, Int.reduceNeg, Int.reduceAdd, hs]) ⟨by omega, by omega⟩ [1, 1, 2] (by simp) (by simp)).x fun r a2 n2 hn2 k1 k2 k3 => ?_
    obtain ⟨x1, rfl, hx1⟩ := k3
    simp only [List.mem_cons, List.not_mem_nil, or_false] at hx1
    simp -dsimp -implicitDefEqProofs (disch := omega) only [↓wpre, push_cast, reduceCtorEq, ↓reduceIte, Nat.reduceEqDiff, Nat.reduceLeDiff, Nat.reduceAdd, Nat.reduceLT, Int.reduceEq, Int.reduceLT, Int.reduceLE, Int.reduceNeg, Int.reduceAdd, hh, hs]
    refine (next_c G _ nz l a2 4000 i (by simp -dsimp -implicitDefEqProofs (disch := omega) only [↓wpre, push_cast, reduceCtorEq, ↓reduceIte, Nat.reduceEqDiff, Nat.reduceLeDiff, Nat.reduceAdd, Nat.reduceLT, Int.reduceEq, Int.reduceLT, Int.reduceLE, Int.reduceNeg, Int.reduceAdd, hs]) ⟨by omega, by omega⟩ (by omega)).x fun r a3 n3 hn3 k3 k4 k => ?_
    obtain ⟨x2, rfl, hx2⟩ := k
    simp -dsimp -implicitDefEqProofs (disch := omega) only [↓wpre, push_cast, reduceCtorEq, ↓reduceIte, Nat.reduceEqDiff, Nat.reduceLeDiff, Nat.reduceAdd, Nat.reduceLT, Int.reduceEq, Int.reduceLT, Int.reduceLE, Int.reduceNeg, Int.reduceAdd, hh, hs, hu_hu]
    refine (pick_c G _ nz true l a3 i (by simp -dsimp -implicitDefEqProofs (disch := omega) only [↓wpre, push_cast, reduceCtorEq, ↓reduceIte, Nat.reduceEqDiff, Nat.reduceLeDiff, Nat.reduceAdd, Nat.reduceLT, Int.reduceEq, Int.reduceLT, Int.reduceLE, Int.reduceNeg, Int.reduceAdd, hs]) ⟨by omega, by omega⟩ [0, 10, 10, 20, 50, 100, 1450, 2000, 3000, x2] (by simp) (by simp)).x fun r a4 n4 hn4 k5 k6 k => ?_
    obtain ⟨x3, rfl, hx3⟩ := k
    simp only [List.mem_cons, List.not_mem_nil, or_false] at hx3
    simp -dsimp -implicitDefEqProofs (disch := omega) only [↓wpre, push_cast, reduceCtorEq, ↓reduceIte, Nat.reduceEqDiff, Nat.reduceLeDiff, Nat.reduceAdd, Nat.reduceLT, Int.reduceEq, Int.reduceLT, Int.reduceLE, Int.reduceNeg, Int.reduceAdd, hh, hs, hu_hu]
    refine (few_c G _ hG nz l a4 i (by simp -dsimp -implicitDefEqProofs (disch := omega) only [↓wpre, push_cast, reduceCtorEq, ↓reduceIte, Nat.reduceEqDiff, Nat.reduceLeDiff, Nat.reduceAdd, Nat.reduceLT, Int.reduceEq, Int.reduceLT, Int.reduceLE, Int.reduceNeg, Int.reduceAdd, hs]) ⟨by omega, by omega⟩).x fun r a5 n5 hn5 k7 k8 k => ?_
    obtain ⟨x, hx, rfl⟩ := k
    simp -dsimp -implicitDefEqProofs (disch := omega) only [↓wpre, push_cast, reduceCtorEq, ↓reduceIte, Nat.reduceEqDiff, Nat.reduceLeDiff, Nat.reduceAdd, Nat.reduceLT, Int.reduceEq, Int.reduceLT, Int.reduceLE, Int.reduceNeg, Int.reduceAdd, hh, hs, hu_hu]
    refine (pick_c G _ nz true l a5 i (by simp -dsimp -implicitDefEqProofs (disch := omega) only [↓wpre, push_cast, reduceCtorEq, ↓reduceIte, Nat.reduceEqDiff, Nat.reduceLeDiff, Nat.reduceAdd, Nat.reduceLT, Int.reduceEq, Int.reduceLT, Int.reduceLE, Int.reduceNeg, Int.reduceAdd, hs]) ⟨by omega, by omega⟩ [1, 1, 1, 2, 3, 4] (by simp) (by simp)).x fun r a6 n6 hn6 k9 k10 k => ?_
    obtain ⟨x4, rfl, hx4⟩ := k
    simp only [List.mem_cons, List.not_mem_nil, or_false] at hx4
    simp -dsimp -implicitDefEqProofs (disch := omega) only [↓wpre, push_cast, reduceCtorEq, ↓reduceIte, Nat.reduceEqDiff, Nat.reduceLeDiff, Nat.reduceAdd, Nat.reduceLT, Int.reduceEq, Int.reduceLT, Int.reduceLE, Int.reduceNeg, Int.reduceAdd, hh, hs, hu_hu]
    refine (pick_c G _ nz true l a6 i (by simp -dsimp -implicitDefEqProofs (disch := omega) only [↓wpre, push_cast, reduceCtorEq, ↓reduceIte, Nat.reduceEqDiff, Nat.reduceLeDiff, Nat.reduceAdd, Nat.reduceLT, Int.reduceEq, Int.reduceLT, Int.reduceLE, Int.reduceNeg, Int.reduceAdd, hs]) ⟨by omega, by omega⟩ [1, 1, 1, 2, 2, 3, 4, 5] (by simp) (by simp)).x fun r a7 n7 hn7 k11 k12 k => ?_
    obtain ⟨x5, rfl, hx5⟩ := k
    simp only [List.mem_cons, List.not_mem_nil, or_false] at hx5
    simp -dsimp -implicitDefEqProofs (disch := omega) only [↓wpre, push_cast, reduceCtorEq, ↓reduceIte, Nat.reduceEqDiff, Nat.reduceLeDiff, Nat.reduceAdd, Nat.reduceLT, Int.reduceEq, Int.reduceLT, Int.reduceLE, Int.reduceNeg, Int.reduceAdd, hh, hs, hu_hu]
    refine (one_c G _ nz true l a7 i (by simp -dsimp -implicitDefEqProofs (disch := omega) only [↓wpre, push_cast, reduceCtorEq, ↓reduceIte, Nat.reduceEqDiff, Nat.reduceLeDiff, Nat.reduceAdd, Nat.reduceLT, Int.reduceEq, Int.reduceLT, Int.reduceLE, Int.reduceNeg, Int.reduceAdd, hs]) ⟨by omega, by omega⟩ [⟨#[101, 117]⟩, ⟨#[117, 115]⟩] (by simp) (by simp)).x fun r a8 n8 hn8 k13 k14 k => ?_
    obtain ⟨x6, rfl, hx6⟩ := k
    simp only [List.mem_cons, List.not_mem_nil, or_false] at hx6
    simp -dsimp -implicitDefEqProofs (disch := omega) only [↓wpre, push_cast, reduceCtorEq, ↓reduceIte, Nat.reduceEqDiff, Nat.reduceLeDiff, Nat.reduceAdd, Nat.reduceLT, Int.reduceEq, Int.reduceLT, Int.reduceLE, Int.reduceNeg, Int.reduceAdd, hh, hs, hu_hu]
    repeat' (first | ((first | with_reducible refine cnd_ndec (fun hc => ?_) (fun hc => ?_) | with_reducible refine cnd_dec (fun hc => ?_) (fun hc => ?_) | with_reducible refine cnd_nb (fun hc => ?_) (fun hc => ?_) | with_reducible refine cnd_intro (fun hc => ?_) (fun hc => ?_)) <;> (first | (exfalso; omega) | (try simp -dsimp -implicitDefEqProofs (disch := omega) only [↓wpre, push_cast, reduceCtorEq, ↓reduceIte, Nat.reduceEqDiff, Nat.reduceLeDiff, Nat.reduceAdd, Nat.reduceLT, Int.reduceEq, Int.reduceLT, Int.reduceLE, Int.reduceNeg, Int.reduceAdd, hc, hh]))) | (with_reducible refine anyN_intro fun n' hn' => ?_; try simp -dsimp -implicitDefEqProofs (disch := omega) only [↓wpre, push_cast, reduceCtorEq, ↓reduceIte, Nat.reduceEqDiff, Nat.reduceLeDiff, Nat.reduceAdd, Nat.reduceLT, Int.reduceEq, Int.reduceLT, Int.reduceLE, Int.reduceNeg, Int.reduceAdd, hh]) | fail)
    case' pos.refine_1.refine_1 =>
      have hpl : 0 < p.length := by omega
      refine (next_c G _ nz l a8 _ i (by simp -dsimp -implicitDefEqProofs (disch := omega) only [↓wpre, push_cast, reduceCtorEq, ↓reduceIte, Nat.reduceEqDiff, Nat.reduceLeDiff, Nat.reduceAdd, Nat.reduceLT, Int.reduceEq, Int.reduceLT, Int.reduceLE, Int.reduceNeg, Int.reduceAdd, hs]) ⟨by omega, by omega⟩ ⟨by omega, by omega⟩).x fun r a9 n9 hn9 k15 k16 k => ?_
      obtain ⟨j, rfl, hj⟩ := k
      obtain ⟨j, rfl⟩ : ∃ m : Nat, j = m := ⟨j.toNat, by omega⟩
      have hpx := List.getElem?_eq_getElem (l := p) (i := j) (by omega)
      obtain ⟨st, hst⟩ : ∃ st : Stm, st = ⟨no + x1, x3, x, (p[j]'(by omega)).name, x6, x4, x5⟩ := ⟨_, rfl⟩
      have hR : RightS p st := by
       rw [hst]
       exact ⟨by dsimp only; omega, hx, by dsimp only; omega, by dsimp only; omega, hx6, fun _ _ => ⟨_, List.getElem_mem _, rfl⟩, fun h => by dsimp only at h; omega⟩
      simp -dsimp -implicitDefEqProofs (disch := omega) only [↓wpre, push_cast, reduceCtorEq, ↓reduceIte, Nat.reduceEqDiff, Nat.reduceLeDiff, Nat.reduceAdd, Nat.reduceLT, Int.reduceEq, Int.reduceLT, Int.reduceLE, Int.reduceNeg, Int.reduceAdd, hh, hs, hu_hu, even_purposes', aidx_at _ hpx]
    case' pos.refine_1.refine_2 =>
      have hpl : p.length = 0 := by omega
      have hpe := List.length_eq_zero_iff.1 hpl
      obtain ⟨st, hst⟩ : ∃ st : Stm, st = ⟨no + x1, x3, x, ⟨#[]⟩, x6, x4, x5⟩ := ⟨_, rfl⟩
      have hR : RightS p st := by
       rw [hst]
       exact ⟨by dsimp only; omega, hx, by dsimp only; omega, by dsimp only; omega, hx6, fun _ h => (h hpe).elim, fun _ => rfl⟩
      obtain ⟨a9, ha9⟩ : ∃ a9, a9 = a8 := ⟨a8, rfl⟩
      subst ha9
      generalize hn9' : n8 + 1 = n9
      have hn9 : n8 + 1 ≤ n9 := by omega
    case' pos.refine_2 =>
      obtain ⟨st, hst⟩ : ∃ st : Stm, st = ⟨no + x1, x3, x, ⟨#[]⟩, x6, x4, x5⟩ := ⟨_, rfl⟩
      have hR : RightS p st := by
       rw [hst]
       exact ⟨by dsimp only; omega, hx, by dsimp only; omega, by dsimp only; omega, hx6, fun h => by dsimp only at h; omega, fun _ => rfl⟩
      obtain ⟨a9, ha9⟩ : ∃ a9, a9 = a8 := ⟨a8, rfl⟩
      subst ha9
      generalize hn9' : n8 + 1 = n9
      have hn9 : n8 + 1 ≤ n9 := by omega
    all_goals
      refine xapp_out (n0 := n) (rows := d.map Stm.c) (by (refine OutIs.mono (n := n1) ?_ (by omega); repeat (first | exact ho | refine OutIs.put ?_ (by omega) | refine OutIs.far ?_ (by omega)))) (by simp) (by intro r hr; simp at hr; subst hr; exact ⟨rfl, rfl⟩) (by simp only [List.length_map]; omega) ?_
      simp -dsimp -implicitDefEqProofs (disch := omega) only [↓wpre, push_cast, reduceCtorEq, ↓reduceIte, Nat.reduceEqDiff, Nat.reduceLeDiff, Nat.reduceAdd, Nat.reduceLT, Int.reduceEq, Int.reduceLT, Int.reduceLE, Int.reduceNeg, Int.reduceAdd, hh]
      have hsn : st.no = no + x1 := by rw [hst]
      refine againJ (d ++ [st], no + x1, some n9, a9) (by simp only [List.length_append, List.length_cons, List.length_nil]; omega) ⟨⟨?_, ?_⟩, ?_, by simp only [List.length_append, List.length_cons, List.length_nil]; omega, by simp only [List.length_append, List.length_cons, List.length_nil]; omega, ?_, fun _ => by simp, ?_, ?_, by omega, by dsimp only; omega, by simp only [List.length_append, List.length_cons, List.length_nil]; omega⟩ (by simp -dsimp -implicitDefEqProofs (disch := omega) only [↓wpre, push_cast, reduceCtorEq, ↓reduceIte, Nat.reduceEqDiff, Nat.reduceLeDiff, Nat.reduceAdd, Nat.reduceLT, Int.reduceEq, Int.reduceLT, Int.reduceLE, Int.reduceNeg, Int.reduceAdd, hh]; try simp [outAV])
      · intro s hs'
        rcases List.mem_append.1 hs' with h | h
        · exact hr.each s h
        · simp only [List.mem_singleton] at h
          subst h
          exact ⟨hR, by omega, by omega⟩
      · dsimp only
        rw [List.pairwise_append]
        refine ⟨hr.rise, List.pairwise_singleton _ _, fun x hx y hy => ?_⟩
        simp only [List.mem_singleton] at hy
        subst hy
        have := hno x hx
        omega
      · intro s hs'
        rcases List.mem_append.1 hs' with h | h
        · have := hno s h
          dsimp only
          omega
        · simp only [List.mem_singleton] at h
          subst h
          dsimp only
          omega
      · dsimp only
        rw [List.map_append, hst]
        exact OutIs.new (n0 := n) (n := n9) (by omega)
      · exact (Qs.dropO (E := 43) (sz := 8) (rows := d.map Stm.c) (m := n9) (by (refine OutIs.mono (n := n1) ?_ (by omega); repeat (first | exact ho | refine OutIs.put ?_ (by omega) | refine OutIs.far ?_ (by omega)))) (Nat.le_refl _) (by (repeat (first | exact hq | refine Qs.put ?_ | refine Qs.new ?_ (by omega))))).new (by omega)
      · dsimp only
        rw [hu_ne (by omega), dropO_ne (n := n9) (E := 43) (sz := 8) (rows := d.map Stm.c) (by (refine OutIs.mono (n := n1) ?_ (by omega); repeat (first | exact ho | refine OutIs.put ?_ (by omega) | refine OutIs.far ?_ (by omega)))) hin]
        simp -dsimp -implicitDefEqProofs (disch := omega) only [↓wpre, push_cast, reduceCtorEq, ↓reduceIte, Nat.reduceEqDiff, Nat.reduceLeDiff, Nat.reduceAdd, Nat.reduceLT, Int.reduceEq, Int.reduceLT, Int.reduceLE, Int.reduceNeg, Int.reduceAdd, hs]
  · simp -dsimp -implicitDefEqProofs (disch := omega) only [↓wpre, push_cast, reduceCtorEq, ↓reduceIte, Nat.reduceEqDiff, Nat.reduceLeDiff, Nat.reduceAdd, Nat.reduceLT, Int.reduceEq, Int.reduceLT, Int.reduceLE, Int.reduceNeg, Int.reduceAdd, hh, hlt]
    refine fin_intro (Sub.refl _) ⟨a1, d, by omega, by omega, hr, by omega, Qs.sub hq hs, ?_⟩
    cases oid with
    | none =>
      have : d.map Stm.c = [] := ho
      exact .inl ⟨by simpa using this, rfl⟩
    | some o => exact .inr ⟨o, rfl, ho.1, ho.2.1, hne (by simp)⟩
end Go.Proofs.YthcedgclhoggcaaGreatDoor

