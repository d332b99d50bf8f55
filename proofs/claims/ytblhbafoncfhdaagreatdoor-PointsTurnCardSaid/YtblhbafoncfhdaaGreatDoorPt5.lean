/- Contracts of functions of the program: each computes what its model says; the conditions stand at each. -/
import Derived.Test.YtblhbafoncfhdaaGreatDoorTc3
import Derived.Test.YtblhbafoncfhdaaGreatDoorPt4
set_option linter.unusedSimpArgs false
set_option linter.unusedVariables false
set_option maxRecDepth 20000
set_option pp.deepTerms false
set_option pp.deepTerms.threshold 3
namespace Go.Proofs.YtblhbafoncfhdaaGreatDoor
open Go Go.Ab Go.Pm Go.Cm Go.El Go.Rm Go.Pp Go.Uf
variable (G : Nat → AV) (H : Nat → Option AObj)









theorem fld_drop (k : Int) (h0 : 0 ≤ k) (h1 : k < 6) : ∃ (x : T) (rest : List AV), (fldNames.map AV.str).drop k.toNat = .str x :: rest ∧ x.size ≤ 100 := by
  have : k = 0 ∨ k = 1 ∨ k = 2 ∨ k = 3 ∨ k = 4 ∨ k = 5 := by omega
  rcases this with rfl | rfl | rfl | rfl | rfl | rfl
  · exact ⟨_, _, rfl, by decide⟩
  · exact ⟨_, _, rfl, by decide⟩
  · exact ⟨_, _, rfl, by decide⟩
  · exact ⟨_, _, rfl, by decide⟩
  · exact ⟨_, _, rfl, by decide⟩
  · exact ⟨_, _, rfl, by decide⟩
set_option maxHeartbeats 6400000 in
theorem measures_run (hG : GOk G) (nz : Bool) (l : List Int) (a : Int) (i : Nat) (hi : H i = some (strm (LL nz l) a)) (ha : 0 ≤ a ∧ a ≤ 1099511625000) (n : Nat) : ACalls Tryz.prog G 11 [.op i 0 0] H n fun r H' n' => ∃ a' d, a ≤ a' ∧ a' ≤ a + 50 ∧ (∀ m ∈ d, m.name.size ≤ 100) ∧ d.length ≤ 3 ∧ Ab.Sub (hu H i (some (strm (LL nz l) a'))) H' ∧ ((d = [] ∧ r = .ls false []) ∨ ∃ o, r = .os o 0 d.length ∧ H' o = some ⟨119, 4, d.map Mea.c⟩ ∧ n ≤ o ∧ d ≠ []) := by
  refine ACalls.start mix F11 (by simp) fun hlow => ?_
  have hq := Qs.refl hi hlow
  have hin := hq.2.2
  simp -dsimp -implicitDefEqProofs (disch := omega) only [↓wpre, push_cast, reduceCtorEq, ↓reduceIte, Nat.reduceEqDiff, Nat.reduceLeDiff, Nat.reduceAdd, Nat.reduceLT, Int.reduceEq, Int.reduceLT, Int.reduceLE, Int.reduceNeg, Int.reduceAdd, c11]
  refine (pick_c G _ nz true l a i (by simp -dsimp -implicitDefEqProofs (disch := omega) only [↓wpre, push_cast, reduceCtorEq, ↓reduceIte, Nat.reduceEqDiff, Nat.reduceLeDiff, Nat.reduceAdd, Nat.reduceLT, Int.reduceEq, Int.reduceLT, Int.reduceLE, Int.reduceNeg, Int.reduceAdd, hi]) ⟨by omega, by omega⟩ [1, 1, 2, 3] (by simp) (by simp)).x fun r a1 n1 hn1 k1 k2 k3 => ?_
  obtain ⟨k, rfl, hk⟩ := k3
  have hk3 : 1 ≤ k ∧ k ≤ 3 := by simp at hk; omega
  simp -dsimp -implicitDefEqProofs (disch := omega) only [↓wpre, push_cast, reduceCtorEq, ↓reduceIte, Nat.reduceEqDiff, Nat.reduceLeDiff, Nat.reduceAdd, Nat.reduceLT, Int.reduceEq, Int.reduceLT, Int.reduceLE, Int.reduceNeg, Int.reduceAdd, hi]
  refine xw_loopJ (σ := List Mea × Option Nat × Int) (fun t => [(0, .op i 0 0), (3, outAV t.2.1 t.1.length), (8, .int k), (9, .int t.1.length)]) (fun t H' n' => (∀ m ∈ t.1, m.name.size ≤ 100) ∧ (t.1.length : Int) ≤ k ∧ OutIs n H' t.2.1 119 4 (t.1.map Mea.c) n' ∧ (t.2.1 ≠ none → t.1 ≠ []) ∧ Qs H H' i n ∧ H' i = some (strm (LL nz l) t.2.2) ∧ n ≤ n' ∧ a ≤ t.2.2 ∧ t.2.2 ≤ a + 1 + 4 * (t.1.length : Int)) (fun t => 3 - t.1.length) ([], none, a1) ⟨by simp, by simp; omega, rfl, fun h => (h rfl).elim, (by (repeat (first | exact hq | refine Qs.put ?_ | refine Qs.new ?_ (by omega)))), hu_same, by omega, by omega, by simp; omega⟩ (by simp -dsimp -implicitDefEqProofs (disch := omega) only [↓wpre, push_cast, reduceCtorEq, ↓reduceIte, Nat.reduceEqDiff, Nat.reduceLeDiff, Nat.reduceAdd, Nat.reduceLT, Int.reduceEq, Int.reduceLT, Int.reduceLE, Int.reduceNeg, Int.reduceAdd, outAV]; try rfl) ?_
  clear hq
  rintro ⟨d, oid, a2⟩ fr H2 n2 ⟨hd, hdk, ho, hne, hq, hs, hn2, ha1, ha2⟩ hh
  simp only [has_nil, has_cons, and_true] at hh hd hdk ho hne hs ha1 ha2
  have hal : alen (outAV oid d.length) = some (.int d.length) := by
    cases oid with
    | none =>
      have h : d.map Mea.c = [] := ho
      have h : d = [] := by simpa using h
      subst h; rfl
    | some o => rfl
  by_cases hlt : (d.length : Int) < k
  · simp -dsimp -implicitDefEqProofs (disch := omega) only [↓wpre, push_cast, reduceCtorEq, ↓reduceIte, Nat.reduceEqDiff, Nat.reduceLeDiff, Nat.reduceAdd, Nat.reduceLT, Int.reduceEq, Int.reduceLT, Int.reduceLE, Int.reduceNeg, Int.reduceAdd, hh, hlt]
    refine xw_freg noH (of_eq_true (sub_noH _)) ?_
    simp -dsimp -implicitDefEqProofs (disch := omega) only [↓wpre, push_cast, reduceCtorEq, ↓reduceIte, Nat.reduceEqDiff, Nat.reduceLeDiff, Nat.reduceAdd, Nat.reduceLT, Int.reduceEq, Int.reduceLT, Int.reduceLE, Int.reduceNeg, Int.reduceAdd, hh, List.map_cons, List.map_nil]
    refine xsp_intro ?_ ?_
    all_goals
      refine (next_c G _ nz l a2 6 i (by simp -dsimp -implicitDefEqProofs (disch := omega) only [↓wpre, push_cast, reduceCtorEq, ↓reduceIte, Nat.reduceEqDiff, Nat.reduceLeDiff, Nat.reduceAdd, Nat.reduceLT, Int.reduceEq, Int.reduceLT, Int.reduceLE, Int.reduceNeg, Int.reduceAdd, hs]) ⟨by omega, by omega⟩ (by omega)).x fun r a3 n3 hn3 k1 k2 k3 => ?_
      obtain ⟨w, rfl, hw⟩ := k3
      obtain ⟨x, rest, hx, hxs⟩ := fld_drop w hw.1 hw.2
      simp -dsimp -implicitDefEqProofs (disch := omega) only [↓wpre, push_cast, reduceCtorEq, ↓reduceIte, Nat.reduceEqDiff, Nat.reduceLeDiff, Nat.reduceAdd, Nat.reduceLT, Int.reduceEq, Int.reduceLT, Int.reduceLE, Int.reduceNeg, Int.reduceAdd, hs, hh, hG.fields, hx, hw, Nat.mul_one, List.map_cons, List.map_nil]
      try refine xsp_intro ?_ ?_
    all_goals
      refine (range_c G _ nz l a3 1 3 i (by simp -dsimp -implicitDefEqProofs (disch := omega) only [↓wpre, push_cast, reduceCtorEq, ↓reduceIte, Nat.reduceEqDiff, Nat.reduceLeDiff, Nat.reduceAdd, Nat.reduceLT, Int.reduceEq, Int.reduceLT, Int.reduceLE, Int.reduceNeg, Int.reduceAdd, hs]) ⟨by omega, by omega⟩ (by omega)).x fun r a4 n4 hn4 k1' k2' k3 => ?_
      obtain ⟨how, rfl, hhow⟩ := k3
      simp -dsimp -implicitDefEqProofs (disch := omega) only [↓wpre, push_cast, reduceCtorEq, ↓reduceIte, Nat.reduceEqDiff, Nat.reduceLeDiff, Nat.reduceAdd, Nat.reduceLT, Int.reduceEq, Int.reduceLT, Int.reduceLE, Int.reduceNeg, Int.reduceAdd, hs, hh, hu_hu, hG.fields, hx, hw, Nat.mul_one, List.map_cons, List.map_nil]
      try refine xsp_intro ?_ ?_
    all_goals
      refine (pick_c G _ nz true l a4 i (by first | exact hu_same | simp -dsimp -implicitDefEqProofs (disch := omega) only [↓wpre, push_cast, reduceCtorEq, ↓reduceIte, Nat.reduceEqDiff, Nat.reduceLeDiff, Nat.reduceAdd, Nat.reduceLT, Int.reduceEq, Int.reduceLT, Int.reduceLE, Int.reduceNeg, Int.reduceAdd, hs]) ⟨by omega, by omega⟩ [1, 5, 10, -3] (by simp) (by simp)).x fun r a5 n5 hn5 m1 m2 m3 => ?_
      obtain ⟨pp, rfl, hpp⟩ := m3
      simp -dsimp -implicitDefEqProofs (disch := omega) only [↓wpre, push_cast, reduceCtorEq, ↓reduceIte, Nat.reduceEqDiff, Nat.reduceLeDiff, Nat.reduceAdd, Nat.reduceLT, Int.reduceEq, Int.reduceLT, Int.reduceLE, Int.reduceNeg, Int.reduceAdd, hs, hh, hu_hu, hG.fields, hx, hw, Nat.mul_one, List.map_cons, List.map_nil]
      (first | with_reducible refine cnd_ndec (fun hc => ?_) (fun hc => ?_) | with_reducible refine cnd_dec (fun hc => ?_) (fun hc => ?_) | with_reducible refine cnd_nb (fun hc => ?_) (fun hc => ?_) | with_reducible refine cnd_intro (fun hc => ?_) (fun hc => ?_)) <;> (first | (exfalso; omega) | (try simp -dsimp -implicitDefEqProofs (disch := omega) only [↓wpre, push_cast, reduceCtorEq, ↓reduceIte, Nat.reduceEqDiff, Nat.reduceLeDiff, Nat.reduceAdd, Nat.reduceLT, Int.reduceEq, Int.reduceLT, Int.reduceLE, Int.reduceNeg, Int.reduceAdd, hc, hh, hs]))
    all_goals
      have hsm : ∀ y : Mea, y.name.size ≤ 100 → ∀ m ∈ d ++ [y], m.name.size ≤ 100 := fun y hy m hm => by
        rcases List.mem_append.1 hm with h | h
        · exact hd m h
        · simp only [List.mem_singleton] at h
          subst h; exact hy
      first
        | (refine (pick_c G _ nz true l a5 i (by first | exact hu_same | simp -dsimp -implicitDefEqProofs (disch := omega) only [↓wpre, push_cast, reduceCtorEq, ↓reduceIte, Nat.reduceEqDiff, Nat.reduceLeDiff, Nat.reduceAdd, Nat.reduceLT, Int.reduceEq, Int.reduceLT, Int.reduceLE, Int.reduceNeg, Int.reduceAdd, hs]) ⟨by omega, by omega⟩ [1, 2, 3, 20] (by simp) (by simp)).x fun r a6 n6 hn6 q1 q2 q3 => ?_
           obtain ⟨ff, rfl, hff⟩ := q3
           simp -dsimp -implicitDefEqProofs (disch := omega) only [↓wpre, push_cast, reduceCtorEq, ↓reduceIte, Nat.reduceEqDiff, Nat.reduceLeDiff, Nat.reduceAdd, Nat.reduceLT, Int.reduceEq, Int.reduceLT, Int.reduceLE, Int.reduceNeg, Int.reduceAdd, hs, hh, hu_hu]
           refine xapp_out (n0 := n) (rows := d.map Mea.c) (by (refine OutIs.mono (n := n2) ?_ (by omega); repeat (first | exact ho | refine OutIs.put ?_ (by omega) | refine OutIs.far ?_ (by omega)))) (by simp) (by intro r hr; simp at hr; subst hr; exact ⟨rfl, rfl⟩) (by simp only [List.length_map]; omega) ?_
           simp -dsimp -implicitDefEqProofs (disch := omega) only [↓wpre, push_cast, reduceCtorEq, ↓reduceIte, Nat.reduceEqDiff, Nat.reduceLeDiff, Nat.reduceAdd, Nat.reduceLT, Int.reduceEq, Int.reduceLT, Int.reduceLE, Int.reduceNeg, Int.reduceAdd, hh]
           refine againJ (d ++ [⟨x, how, ff, pp⟩], some (n6), a6) (by simp; omega) ⟨hsm _ hxs, by simp; omega, by dsimp only; rw [List.map_append]; exact OutIs.new (n0 := n) (by omega), fun _ => by simp, (Qs.dropO (E := 119) (sz := 4) (rows := d.map Mea.c) (m := n6) (by (refine OutIs.mono (n := n2) ?_ (by omega); repeat (first | exact ho | refine OutIs.put ?_ (by omega) | refine OutIs.far ?_ (by omega)))) (Nat.le_refl _) (by (repeat (first | exact hq | refine Qs.put ?_ | refine Qs.new ?_ (by omega))))).new (by omega), ?_, by omega, by dsimp only; omega, by simp; omega⟩ (by simp -dsimp -implicitDefEqProofs (disch := omega) only [↓wpre, push_cast, reduceCtorEq, ↓reduceIte, Nat.reduceEqDiff, Nat.reduceLeDiff, Nat.reduceAdd, Nat.reduceLT, Int.reduceEq, Int.reduceLT, Int.reduceLE, Int.reduceNeg, Int.reduceAdd, hh]; (try simp [outAV]))
           rw [hu_ne (by omega), dropO_ne (n := n6) (E := 119) (sz := 4) (rows := d.map Mea.c) (by (refine OutIs.mono (n := n2) ?_ (by omega); repeat (first | exact ho | refine OutIs.put ?_ (by omega) | refine OutIs.far ?_ (by omega)))) hin]
           simp -dsimp -implicitDefEqProofs (disch := omega) only [↓wpre, push_cast, reduceCtorEq, ↓reduceIte, Nat.reduceEqDiff, Nat.reduceLeDiff, Nat.reduceAdd, Nat.reduceLT, Int.reduceEq, Int.reduceLT, Int.reduceLE, Int.reduceNeg, Int.reduceAdd, hs])
        | (refine xapp_out (n0 := n) (rows := d.map Mea.c) (by (refine OutIs.mono (n := n2) ?_ (by omega); repeat (first | exact ho | refine OutIs.put ?_ (by omega) | refine OutIs.far ?_ (by omega)))) (by simp) (by intro r hr; simp at hr; subst hr; exact ⟨rfl, rfl⟩) (by simp only [List.length_map]; omega) ?_
           simp -dsimp -implicitDefEqProofs (disch := omega) only [↓wpre, push_cast, reduceCtorEq, ↓reduceIte, Nat.reduceEqDiff, Nat.reduceLeDiff, Nat.reduceAdd, Nat.reduceLT, Int.reduceEq, Int.reduceLT, Int.reduceLE, Int.reduceNeg, Int.reduceAdd, hh]
           refine againJ (d ++ [⟨x, 1, 0, pp⟩], some (n5), a5) (by simp; omega) ⟨hsm _ hxs, by simp; omega, by dsimp only; rw [List.map_append]; exact OutIs.new (n0 := n) (by omega), fun _ => by simp, (Qs.dropO (E := 119) (sz := 4) (rows := d.map Mea.c) (m := n5) (by (refine OutIs.mono (n := n2) ?_ (by omega); repeat (first | exact ho | refine OutIs.put ?_ (by omega) | refine OutIs.far ?_ (by omega)))) (Nat.le_refl _) (by (repeat (first | exact hq | refine Qs.put ?_ | refine Qs.new ?_ (by omega))))).new (by omega), ?_, by omega, by dsimp only; omega, by simp; omega⟩ (by simp -dsimp -implicitDefEqProofs (disch := omega) only [↓wpre, push_cast, reduceCtorEq, ↓reduceIte, Nat.reduceEqDiff, Nat.reduceLeDiff, Nat.reduceAdd, Nat.reduceLT, Int.reduceEq, Int.reduceLT, Int.reduceLE, Int.reduceNeg, Int.reduceAdd, hh]; (try simp [outAV]))
           rw [hu_ne (by omega), dropO_ne (n := n5) (E := 119) (sz := 4) (rows := d.map Mea.c) (by (refine OutIs.mono (n := n2) ?_ (by omega); repeat (first | exact ho | refine OutIs.put ?_ (by omega) | refine OutIs.far ?_ (by omega)))) hin]
           simp -dsimp -implicitDefEqProofs (disch := omega) only [↓wpre, push_cast, reduceCtorEq, ↓reduceIte, Nat.reduceEqDiff, Nat.reduceLeDiff, Nat.reduceAdd, Nat.reduceLT, Int.reduceEq, Int.reduceLT, Int.reduceLE, Int.reduceNeg, Int.reduceAdd, hs])
        | (refine xapp_out (n0 := n) (rows := d.map Mea.c) (by (refine OutIs.mono (n := n2) ?_ (by omega); repeat (first | exact ho | refine OutIs.put ?_ (by omega) | refine OutIs.far ?_ (by omega)))) (by simp) (by intro r hr; simp at hr; subst hr; exact ⟨rfl, rfl⟩) (by simp only [List.length_map]; omega) ?_
           simp -dsimp -implicitDefEqProofs (disch := omega) only [↓wpre, push_cast, reduceCtorEq, ↓reduceIte, Nat.reduceEqDiff, Nat.reduceLeDiff, Nat.reduceAdd, Nat.reduceLT, Int.reduceEq, Int.reduceLT, Int.reduceLE, Int.reduceNeg, Int.reduceAdd, hh]
           refine againJ (d ++ [⟨x, 1, 0, pp⟩], some (n5 + 1), a5) (by simp; omega) ⟨hsm _ hxs, by simp; omega, by dsimp only; rw [List.map_append]; exact OutIs.new (n0 := n) (by omega), fun _ => by simp, (Qs.dropO (E := 119) (sz := 4) (rows := d.map Mea.c) (m := n5 + 1) (by (refine OutIs.mono (n := n2) ?_ (by omega); repeat (first | exact ho | refine OutIs.put ?_ (by omega) | refine OutIs.far ?_ (by omega)))) (Nat.le_refl _) (by (repeat (first | exact hq | refine Qs.put ?_ | refine Qs.new ?_ (by omega))))).new (by omega), ?_, by omega, by dsimp only; omega, by simp; omega⟩ (by simp -dsimp -implicitDefEqProofs (disch := omega) only [↓wpre, push_cast, reduceCtorEq, ↓reduceIte, Nat.reduceEqDiff, Nat.reduceLeDiff, Nat.reduceAdd, Nat.reduceLT, Int.reduceEq, Int.reduceLT, Int.reduceLE, Int.reduceNeg, Int.reduceAdd, hh]; (try simp [outAV]))
           rw [hu_ne (by omega), dropO_ne (n := n5 + 1) (E := 119) (sz := 4) (rows := d.map Mea.c) (by (refine OutIs.mono (n := n2) ?_ (by omega); repeat (first | exact ho | refine OutIs.put ?_ (by omega) | refine OutIs.far ?_ (by omega)))) hin]
           simp -dsimp -implicitDefEqProofs (disch := omega) only [↓wpre, push_cast, reduceCtorEq, ↓reduceIte, Nat.reduceEqDiff, Nat.reduceLeDiff, Nat.reduceAdd, Nat.reduceLT, Int.reduceEq, Int.reduceLT, Int.reduceLE, Int.reduceNeg, Int.reduceAdd, hs])
  · simp -dsimp -implicitDefEqProofs (disch := omega) only [↓wpre, push_cast, reduceCtorEq, ↓reduceIte, Nat.reduceEqDiff, Nat.reduceLeDiff, Nat.reduceAdd, Nat.reduceLT, Int.reduceEq, Int.reduceLT, Int.reduceLE, Int.reduceNeg, Int.reduceAdd, hh, hlt]
    refine (flip_c G _ nz l a2 15 i (by simp -dsimp -implicitDefEqProofs (disch := omega) only [↓wpre, push_cast, reduceCtorEq, ↓reduceIte, Nat.reduceEqDiff, Nat.reduceLeDiff, Nat.reduceAdd, Nat.reduceLT, Int.reduceEq, Int.reduceLT, Int.reduceLE, Int.reduceNeg, Int.reduceAdd, hs]) ⟨by omega, by omega⟩ (by omega)).x fun r a3 n3 hn3 k1 k2 k3 => ?_
    obtain ⟨b, rfl⟩ := k3
    simp -dsimp -implicitDefEqProofs (disch := omega) only [↓wpre, push_cast, reduceCtorEq, ↓reduceIte, Nat.reduceEqDiff, Nat.reduceLeDiff, Nat.reduceAdd, Nat.reduceLT, Int.reduceEq, Int.reduceLT, Int.reduceLE, Int.reduceNeg, Int.reduceAdd, hh, hs]
    (first | with_reducible refine cnd_ndec (fun hc => ?_) (fun hc => ?_) | with_reducible refine cnd_dec (fun hc => ?_) (fun hc => ?_) | with_reducible refine cnd_nb (fun hc => ?_) (fun hc => ?_) | with_reducible refine cnd_intro (fun hc => ?_) (fun hc => ?_)) <;> (first | (exfalso; omega) | (try simp -dsimp -implicitDefEqProofs (disch := omega) only [↓wpre, push_cast, reduceCtorEq, ↓reduceIte, Nat.reduceEqDiff, Nat.reduceLeDiff, Nat.reduceAdd, Nat.reduceLT, Int.reduceEq, Int.reduceLT, Int.reduceLE, Int.reduceNeg, Int.reduceAdd, hc, hh]))
    · have hdl : 1 ≤ d.length := by omega
      obtain ⟨o, rfl⟩ : ∃ o, oid = some o := by
        cases oid with
        | none =>
          have h : d.map Mea.c = [] := ho
          have h : d = [] := by simpa using h
          subst h; simp at hdl
        | some o => exact ⟨o, rfl⟩
      obtain ⟨y, ys, rfl⟩ : ∃ y ys, d = y :: ys := by
        cases d with
        | nil => simp at hdl
        | cons y ys => exact ⟨y, ys, rfl⟩
      have hout : ∀ x, outAV (some o) x = .os o 0 x := fun _ => rfl
      obtain ⟨ho1, ho2, ho3⟩ := ho
      have hd0 : (0 : Int) < ((y :: ys).length : Nat) := by omega
      have hd0' : 0 < (y :: ys).length := by omega
      simp -dsimp -implicitDefEqProofs (disch := omega) only [↓wpre, push_cast, reduceCtorEq, ↓reduceIte, Nat.reduceEqDiff, Nat.reduceLeDiff, Nat.reduceAdd, Nat.reduceLT, Int.reduceEq, Int.reduceLT, Int.reduceLE, Int.reduceNeg, Int.reduceAdd, hh, hs, hout, ho1, hd0, hd0', Int.toNat_zero]
      refine (next_c G _ nz l a3 4 i (by simp -dsimp -implicitDefEqProofs (disch := omega) only [↓wpre, push_cast, reduceCtorEq, ↓reduceIte, Nat.reduceEqDiff, Nat.reduceLeDiff, Nat.reduceAdd, Nat.reduceLT, Int.reduceEq, Int.reduceLT, Int.reduceLE, Int.reduceNeg, Int.reduceAdd, hs]) ⟨by omega, by omega⟩ (by omega)).x fun r a4 n4 hn4 k1' k2' k3 => ?_
      obtain ⟨w, rfl, hw⟩ := k3
      simp -dsimp -implicitDefEqProofs (disch := omega) only [↓wpre, push_cast, reduceCtorEq, ↓reduceIte, Nat.reduceEqDiff, Nat.reduceLeDiff, Nat.reduceAdd, Nat.reduceLT, Int.reduceEq, Int.reduceLT, Int.reduceLE, Int.reduceNeg, Int.reduceAdd, hh, hs, hu_hu]
      have fin2 : ∀ (a9 : Int) (z : Mea) (HF : Nat → Option AObj) (n9 : Nat), HF o = some ⟨119, 4, z.c :: ys.map Mea.c⟩ → Qs H HF i n → HF i = some (strm (LL nz l) a9) → a ≤ a9 → a9 ≤ a + 50 → z.name.size ≤ 100 → ∃ a' d, a ≤ a' ∧ a' ≤ a + 50 ∧ (∀ m ∈ d, m.name.size ≤ 100) ∧ d.length ≤ 3 ∧ Ab.Sub (hu H i (some (strm (LL nz l) a'))) HF ∧ ((d = [] ∧ AV.os o 0 (y :: ys).length = .ls false []) ∨ ∃ o', AV.os o 0 (y :: ys).length = .os o' 0 d.length ∧ HF o' = some ⟨119, 4, d.map Mea.c⟩ ∧ n ≤ o' ∧ d ≠ []) := by
        intro a9 z HF n9 h1 h2 h3 h4 h5 h6
        refine ⟨a9, z :: ys, h4, h5, ?_, ?_, Qs.sub (n := n) h2 h3, .inr ⟨o, rfl, h1, ho2, by simp⟩⟩
        · intro m hm
          rcases List.mem_cons.1 hm with rfl | hm
          · exact h6
          · exact hd m (by simp [hm])
        · have : (y :: ys).length ≤ 3 := by omega
          simpa using this
      have hoi : o ≠ i := by omega
      by_cases e0 : w = 0
      · simp -dsimp -implicitDefEqProofs (disch := omega) only [↓wpre, push_cast, reduceCtorEq, ↓reduceIte, Nat.reduceEqDiff, Nat.reduceLeDiff, Nat.reduceAdd, Nat.reduceLT, Int.reduceEq, Int.reduceLT, Int.reduceLE, Int.reduceNeg, Int.reduceAdd, e0, hh, hs]
        refine (one_c G _ nz true l a4 i (by simp -dsimp -implicitDefEqProofs (disch := omega) only [↓wpre, push_cast, reduceCtorEq, ↓reduceIte, Nat.reduceEqDiff, Nat.reduceLeDiff, Nat.reduceAdd, Nat.reduceLT, Int.reduceEq, Int.reduceLT, Int.reduceLE, Int.reduceNeg, Int.reduceAdd, hs]) ⟨by omega, by omega⟩ [⟨#[]⟩, ⟨#[65]⟩] (by simp) (by simp)).x fun r a6 n6 hn6 q1 q2 q3 => ?_
        obtain ⟨z, rfl, hz⟩ := q3
        have hzs : z.size ≤ 100 := by
          simp only [List.mem_cons, List.not_mem_nil, or_false] at hz
          rcases hz with rfl | rfl <;> decide
        simp -dsimp -implicitDefEqProofs (disch := omega) only [↓wpre, push_cast, reduceCtorEq, ↓reduceIte, Nat.reduceEqDiff, Nat.reduceLeDiff, Nat.reduceAdd, Nat.reduceLT, Int.reduceEq, Int.reduceLT, Int.reduceLE, Int.reduceNeg, Int.reduceAdd, hh, hs, ho1, hout, hu_hu, List.map_cons, List.getElem?_cons_zero, List.set_cons_zero]
        exact fin_intro (Ab.Sub.refl _) (fin2 a6 ⟨z, y.how, y.far, y.pts⟩ _ n6 hu_same (by (repeat (first | exact hq | refine Qs.put ?_ | refine Qs.new ?_ (by omega)))) (by simp -dsimp -implicitDefEqProofs (disch := omega) only [↓wpre, push_cast, reduceCtorEq, ↓reduceIte, Nat.reduceEqDiff, Nat.reduceLeDiff, Nat.reduceAdd, Nat.reduceLT, Int.reduceEq, Int.reduceLT, Int.reduceLE, Int.reduceNeg, Int.reduceAdd, hs]) (by omega) (by omega) hzs)
      by_cases e1 : w = 1
      · simp -dsimp -implicitDefEqProofs (disch := omega) only [↓wpre, push_cast, reduceCtorEq, ↓reduceIte, Nat.reduceEqDiff, Nat.reduceLeDiff, Nat.reduceAdd, Nat.reduceLT, Int.reduceEq, Int.reduceLT, Int.reduceLE, Int.reduceNeg, Int.reduceAdd, e0, e1, hh, hs]
        refine (odd_c G _ nz l a4 1 3 i (by simp -dsimp -implicitDefEqProofs (disch := omega) only [↓wpre, push_cast, reduceCtorEq, ↓reduceIte, Nat.reduceEqDiff, Nat.reduceLeDiff, Nat.reduceAdd, Nat.reduceLT, Int.reduceEq, Int.reduceLT, Int.reduceLE, Int.reduceNeg, Int.reduceAdd, hs]) ⟨by omega, by omega⟩ (by omega)).x fun r a6 n6 hn6 q1 q2 q3 => ?_
        obtain ⟨z1, rfl, hz1⟩ := q3
        simp -dsimp -implicitDefEqProofs (disch := omega) only [↓wpre, push_cast, reduceCtorEq, ↓reduceIte, Nat.reduceEqDiff, Nat.reduceLeDiff, Nat.reduceAdd, Nat.reduceLT, Int.reduceEq, Int.reduceLT, Int.reduceLE, Int.reduceNeg, Int.reduceAdd, hh, hs, hu_hu]
        refine (odd_c G _ nz l a6 0 20 i (by first | exact hu_same | simp -dsimp -implicitDefEqProofs (disch := omega) only [↓wpre, push_cast, reduceCtorEq, ↓reduceIte, Nat.reduceEqDiff, Nat.reduceLeDiff, Nat.reduceAdd, Nat.reduceLT, Int.reduceEq, Int.reduceLT, Int.reduceLE, Int.reduceNeg, Int.reduceAdd, hs]) ⟨by omega, by omega⟩ (by omega)).x fun r a7 n7 hn7 q1' q2' q3 => ?_
        obtain ⟨z2, rfl, hz2⟩ := q3
        simp -dsimp -implicitDefEqProofs (disch := omega) only [↓wpre, push_cast, reduceCtorEq, ↓reduceIte, Nat.reduceEqDiff, Nat.reduceLeDiff, Nat.reduceAdd, Nat.reduceLT, Int.reduceEq, Int.reduceLT, Int.reduceLE, Int.reduceNeg, Int.reduceAdd, hh, hs, ho1, hout, hu_hu, List.map_cons, List.getElem?_cons_zero, List.set_cons_zero]
        exact fin_intro (Ab.Sub.refl _) (fin2 a7 ⟨y.name, z1, z2, y.pts⟩ _ n7 hu_same (by (repeat (first | exact hq | refine Qs.put ?_ | refine Qs.new ?_ (by omega)))) (by simp -dsimp -implicitDefEqProofs (disch := omega) only [↓wpre, push_cast, reduceCtorEq, ↓reduceIte, Nat.reduceEqDiff, Nat.reduceLeDiff, Nat.reduceAdd, Nat.reduceLT, Int.reduceEq, Int.reduceLT, Int.reduceLE, Int.reduceNeg, Int.reduceAdd, hs]) (by omega) (by omega) (hd y (by simp)))
      by_cases e2 : w = 2
      · simp -dsimp -implicitDefEqProofs (disch := omega) only [↓wpre, push_cast, reduceCtorEq, ↓reduceIte, Nat.reduceEqDiff, Nat.reduceLeDiff, Nat.reduceAdd, Nat.reduceLT, Int.reduceEq, Int.reduceLT, Int.reduceLE, Int.reduceNeg, Int.reduceAdd, e0, e1, e2, hh, hs]
        refine (odd_c G _ nz l a4 (-1000) 1000 i (by simp -dsimp -implicitDefEqProofs (disch := omega) only [↓wpre, push_cast, reduceCtorEq, ↓reduceIte, Nat.reduceEqDiff, Nat.reduceLeDiff, Nat.reduceAdd, Nat.reduceLT, Int.reduceEq, Int.reduceLT, Int.reduceLE, Int.reduceNeg, Int.reduceAdd, hs]) ⟨by omega, by omega⟩ (by omega)).x fun r a6 n6 hn6 q1 q2 q3 => ?_
        obtain ⟨z1, rfl, hz1⟩ := q3
        simp -dsimp -implicitDefEqProofs (disch := omega) only [↓wpre, push_cast, reduceCtorEq, ↓reduceIte, Nat.reduceEqDiff, Nat.reduceLeDiff, Nat.reduceAdd, Nat.reduceLT, Int.reduceEq, Int.reduceLT, Int.reduceLE, Int.reduceNeg, Int.reduceAdd, hh, hs, ho1, hout, hu_hu, List.map_cons, List.getElem?_cons_zero, List.set_cons_zero]
        exact fin_intro (Ab.Sub.refl _) (fin2 a6 ⟨y.name, y.how, y.far, z1⟩ _ n6 hu_same (by (repeat (first | exact hq | refine Qs.put ?_ | refine Qs.new ?_ (by omega)))) (by simp -dsimp -implicitDefEqProofs (disch := omega) only [↓wpre, push_cast, reduceCtorEq, ↓reduceIte, Nat.reduceEqDiff, Nat.reduceLeDiff, Nat.reduceAdd, Nat.reduceLT, Int.reduceEq, Int.reduceLT, Int.reduceLE, Int.reduceNeg, Int.reduceAdd, hs]) (by omega) (by omega) (hd y (by simp)))
      · simp -dsimp -implicitDefEqProofs (disch := omega) only [↓wpre, push_cast, reduceCtorEq, ↓reduceIte, Nat.reduceEqDiff, Nat.reduceLeDiff, Nat.reduceAdd, Nat.reduceLT, Int.reduceEq, Int.reduceLT, Int.reduceLE, Int.reduceNeg, Int.reduceAdd, e0, e1, e2, hh, hs, hu_hu]
        refine fin_intro (Ab.Sub.refl _) ⟨a4, [], by omega, by omega, by simp, by simp, Qs.sub (n := n) (by (repeat (first | exact hq | refine Qs.put ?_ | refine Qs.new ?_ (by omega)))) (by simp -dsimp -implicitDefEqProofs (disch := omega) only [↓wpre, push_cast, reduceCtorEq, ↓reduceIte, Nat.reduceEqDiff, Nat.reduceLeDiff, Nat.reduceAdd, Nat.reduceLT, Int.reduceEq, Int.reduceLT, Int.reduceLE, Int.reduceNeg, Int.reduceAdd, hs]), .inl ⟨rfl, rfl⟩⟩
    · refine fin_intro (Ab.Sub.refl _) ⟨a3, d, by omega, by omega, hd, by omega, Qs.sub (n := n) (by (repeat (first | exact hq | refine Qs.put ?_ | refine Qs.new ?_ (by omega)))) (by simp -dsimp -implicitDefEqProofs (disch := omega) only [↓wpre, push_cast, reduceCtorEq, ↓reduceIte, Nat.reduceEqDiff, Nat.reduceLeDiff, Nat.reduceAdd, Nat.reduceLT, Int.reduceEq, Int.reduceLT, Int.reduceLE, Int.reduceNeg, Int.reduceAdd, hs]), ?_⟩
      cases oid with
      | none =>
        have : d.map Mea.c = [] := ho
        exact .inl ⟨by simpa using this, rfl⟩
      | some o => exact .inr ⟨o, rfl, by rw [hu_ne (by have := ho.2.1; have := hq.2.2; omega)]; exact ho.1, ho.2.1, hne (by simp)⟩
end Go.Proofs.YtblhbafoncfhdaaGreatDoor

