/- Contracts of functions of the program: each computes what its model says; the conditions stand at each. -/
import Derived.Test.YtblhbafoncfhdaaGreatDoorMk1
set_option linter.unusedSimpArgs false
set_option linter.unusedVariables false
set_option maxRecDepth 20000
set_option pp.deepTerms false
set_option pp.deepTerms.threshold 3
namespace Go.Proofs.YtblhbafoncfhdaaGreatDoor
open Go Go.Ab Go.Pm Go.Cm Go.El Go.Rm Go.Pp Go.Uf
variable (G : Nat → AV) (H : Nat → Option AObj)












theorem plain_idn (l : List Idn) : ∀ r ∈ l.map Idn.c, plain r = true := fun r hr => by
  obtain ⟨s, _, rfl⟩ := List.mem_map.1 hr; rfl
set_option maxHeartbeats 6400000 in
theorem ids_run (hG : GOk G) (hP : G 1 = .pp poolC) (nz : Bool) (l : List Int) (a many : Int) (i : Nat) (hi : H i = some (strm (LL nz l) a)) (ha : 0 ≤ a ∧ a ≤ 1099511625000) (hm : 0 ≤ many ∧ many ≤ 3) (n : Nat) : ACalls Tryz.prog G 146 [.op i 0 0, .int many] H n fun r H' n' => ∃ a' d, a ≤ a' ∧ a' ≤ a + 50 ∧ (∀ x ∈ d, x.text.size ≤ 1000) ∧ d.length ≤ 3 ∧ Ab.Sub (hu H i (some (strm (LL nz l) a'))) H' ∧ ((d = [] ∧ r = .ls false []) ∨ ∃ o, r = .os o 0 d.length ∧ H' o = some ⟨55, 2, d.map Idn.c⟩ ∧ n ≤ o ∧ d ≠ []) := by
  refine ACalls.start mix F146 (by simp) fun hlow => ?_
  have hq := Qs.refl hi hlow
  have hin := hq.2.2
  simp -dsimp -implicitDefEqProofs (disch := omega) only [↓wpre, push_cast, seval, c146]
  refine xw_loopJ (σ := List Idn × Option Nat × Int × Nat) (fun t => [(0, .op i 0 0), (5, outAV t.2.1 t.1.length), (7, .int many), (8, .int t.2.2.2)]) (fun t H' n' => (∀ x ∈ t.1, x.text.size ≤ 1000) ∧ t.1.length ≤ t.2.2.2 ∧ (t.2.2.2 : Int) ≤ many ∧ OutIs n H' t.2.1 55 2 (t.1.map Idn.c) n' ∧ (t.2.1 ≠ none → t.1 ≠ []) ∧ Qs H H' i n ∧ H' i = some (strm (LL nz l) t.2.2.1) ∧ n ≤ n' ∧ a ≤ t.2.2.1 ∧ t.2.2.1 ≤ a + 10 * (t.2.2.2 : Int)) (fun t => 3 - t.2.2.2) ([], none, a, 0) ⟨by simp, by simp, by simp; omega, rfl, fun h => (h rfl).elim, hq, hi, by omega, Int.le_refl _, by simp⟩ (by simp -dsimp -implicitDefEqProofs (disch := omega) only [↓wpre, push_cast, seval, outAV]; try rfl) ?_
  clear hq
  rintro ⟨d, oid, a2, j⟩ fr H2 n2 ⟨hd, hdj, hjm, ho, hne, hq, hs, hn2, ha1, ha2⟩ hh
  simp only [has_nil, has_cons, and_true] at hh hd hdj hjm ho hne hs ha1 ha2
  have hal : alen (outAV oid d.length) = some (.int d.length) := by
    cases oid with
    | none =>
      have h : d.map Idn.c = [] := ho
      have h : d = [] := by simpa using h
      subst h; rfl
    | some o => rfl
  by_cases hlt : (j : Int) < many
  · simp -dsimp -implicitDefEqProofs (disch := omega) only [↓wpre, push_cast, seval, hh, hlt]
    refine (id_c G _ hG hP nz l a2 i (by simp -dsimp -implicitDefEqProofs (disch := omega) only [↓wpre, push_cast, seval, hs]) ⟨by omega, by omega⟩).x fun r a3 n3 hn3 k1 k2 k3 => ?_
    obtain ⟨x, rfl, hx⟩ := k3
    simp -dsimp -implicitDefEqProofs (disch := omega) only [↓wpre, push_cast, seval, hh, hs]
    have hcon : ∀ (H3 : Nat → Option AObj) (n9 : Nat) (R : AV → (Nat → Option AObj) → Nat → Prop) (u : Wit R), (∀ o, oid = some o → H3 o = some ⟨55, 2, d.map Idn.c⟩) → (∀ n', n9 ≤ n' → R (.bool (decide (x ∈ d))) H3 n') → xcall Tryz.prog G R u 23 [outAV oid d.length, .agg x.c] H3 n9 := by
      intro H3 n9 R u h3 hR
      cases oid with
      | none =>
        have h : d.map Idn.c = [] := ho
        have h : d = [] := by simpa using h
        subst h
        exact AFn.x (containsId_c G _ false [] x (by simp)) hR
      | some o =>
        have h4 := h3 o rfl
        refine AFn.borrow (Ab.only o ⟨55, 2, d.map Idn.c⟩) 1 (only_sub h4) ?_ rfl hR
        have e : ([outAV (some o) d.length, AV.agg x.c] : List AV).map (frz (Ab.only o ⟨55, 2, d.map Idn.c⟩) 1) = [.ls true (d.map Idn.c), .agg x.c] := by
          rw [List.map_cons, List.map_cons, List.map_nil]
          have e1 : frz (Ab.only o ⟨55, 2, d.map Idn.c⟩) 1 (outAV (some o) d.length) = .ls true (d.map Idn.c) := frz_os_plain (plain_idn _) (by simp)
          rw [e1]
          rfl
        rw [e]
        exact containsId_c G _ true d x (by omega)
    refine hcon _ _ _ _ ?_ ?_
    · intro o e
      rw [e] at ho
      have h1 := ho.1
      have h2 := ho.2.1
      have h3 := ho.2.2
      simp -dsimp -implicitDefEqProofs (disch := omega) only [↓wpre, push_cast, seval, h1]
    intro n4 hn4
    by_cases hc : x ∈ d
    · simp -dsimp -implicitDefEqProofs (disch := omega) only [↓wpre, push_cast, seval, hh, hc, decide_true]
      refine againJ (d, oid, a3, j + 1) (by dsimp only; omega) ⟨hd, by dsimp only; omega, by dsimp only; omega, ?_, hne, ?_, ?_, by omega, by dsimp only; omega, by dsimp only; omega⟩ (by simp -dsimp -implicitDefEqProofs (disch := omega) only [↓wpre, push_cast, seval, hh]; all_goals (try simp only [AV.lit.injEq, Value.int.injEq, Value.bool.injEq, true_and, and_true]); all_goals (try (repeat' apply And.intro)); all_goals (first | rfl | omega | simp_all | skip))
      · (refine OutIs.mono (n := n2) ?_ (by omega); repeat (first | exact ho | refine OutIs.put ?_ (by omega) | refine OutIs.far ?_ (by omega)))
      · (repeat (first | exact hq | refine Qs.put ?_ | refine Qs.new ?_ (by omega)))
      · simp -dsimp -implicitDefEqProofs (disch := omega) only [↓wpre, push_cast, seval, hs]
    · simp -dsimp -implicitDefEqProofs (disch := omega) only [↓wpre, push_cast, seval, hh, hc, decide_false]
      refine xapp_out (n0 := n) (rows := d.map Idn.c) (by (refine OutIs.mono (n := n2) ?_ (by omega); repeat (first | exact ho | refine OutIs.put ?_ (by omega) | refine OutIs.far ?_ (by omega)))) (by simp) (by intro r hr; simp at hr; subst hr; exact ⟨rfl, rfl⟩) (by simp only [List.length_map]; omega) ?_
      simp -dsimp -implicitDefEqProofs (disch := omega) only [↓wpre, push_cast, seval, hh]
      refine againJ (d ++ [x], some n4, a3, j + 1) (by dsimp only; omega) ⟨?_, by simp; omega, by dsimp only; omega, by dsimp only; rw [List.map_append]; exact OutIs.new (n0 := n) (by omega), fun _ => by simp, (Qs.dropO (E := 55) (sz := 2) (rows := d.map Idn.c) (m := n4) (by (refine OutIs.mono (n := n2) ?_ (by omega); repeat (first | exact ho | refine OutIs.put ?_ (by omega) | refine OutIs.far ?_ (by omega)))) (Nat.le_refl _) (by (repeat (first | exact hq | refine Qs.put ?_ | refine Qs.new ?_ (by omega))))).new (by omega), ?_, by omega, by dsimp only; omega, by dsimp only; omega⟩ (by simp -dsimp -implicitDefEqProofs (disch := omega) only [↓wpre, push_cast, seval, hh]; (try simp [outAV]))
      · intro y hy
        rcases List.mem_append.1 hy with hy | hy
        · exact hd y hy
        · simp only [List.mem_singleton] at hy
          subst hy; omega
      · dsimp only
        rw [hu_ne (by omega), dropO_ne (n := n4) (E := 55) (sz := 2) (rows := d.map Idn.c) (by (refine OutIs.mono (n := n2) ?_ (by omega); repeat (first | exact ho | refine OutIs.put ?_ (by omega) | refine OutIs.far ?_ (by omega)))) hin]
        simp -dsimp -implicitDefEqProofs (disch := omega) only [↓wpre, push_cast, seval, hs]
  · simp -dsimp -implicitDefEqProofs (disch := omega) only [↓wpre, push_cast, seval, hh, hlt]
    cases oid with
    | none =>
      have h : d.map Idn.c = [] := ho
      have h : d = [] := by simpa using h
      subst h
      have h01 : ¬ (1 : Int) < 0 := by omega
      have hout : ∀ x, outAV none x = .ls false [] := fun _ => rfl
      simp -dsimp -implicitDefEqProofs (disch := omega) only [↓wpre, push_cast, seval, hout]
      refine AFn.x (sortNil_c G _) fun n3 hn3 => ?_
      simp -dsimp -implicitDefEqProofs (disch := omega) only [↓wpre, push_cast, seval, hh, hout, h01]
      exact fin_intro (Ab.Sub.refl _) ⟨a2, [], by omega, by omega, by simp, by simp, Qs.sub (n := n) hq hs, .inl ⟨rfl, rfl⟩⟩
    | some o =>
      have hout : ∀ x, outAV (some o) x = .os o 0 x := fun _ => rfl
      obtain ⟨ho1, ho2, ho3⟩ := ho
      have hoi : o ≠ i := by omega
      have hdn : d ≠ [] := hne (by simp)
      simp -dsimp -implicitDefEqProofs (disch := omega) only [↓wpre, push_cast, seval, hout]
      refine ACalls.x (ACalls.lowp (sortO_c G _ d [] o (by rw [List.append_nil]; exact ho1) (by omega) _)) fun r1 H3 n3 ⟨⟨e1, l', hso, hsl, e2⟩, hn3, _⟩ => ?_
      subst e1 e2
      rw [List.append_nil]
      have hl's : ∀ x ∈ l', x.text.size ≤ 1000 := fun x hx => hd x (hso.perm.mem_iff.1 hx)
      have hl'n : l' ≠ [] := fun e => hdn (by rw [e] at hsl; exact List.length_eq_zero_iff.1 hsl.symm)
      have hfin : ∀ (a9 : Int) (m : List Idn) (HF : Nat → Option AObj) (n9 : Nat), HF o = some ⟨55, 2, m.map Idn.c⟩ → Qs H HF i n → HF i = some (strm (LL nz l) a9) → a ≤ a9 → a9 ≤ a + 50 → (∀ x ∈ m, x.text.size ≤ 1000) → m.length = d.length → ∃ a' d', a ≤ a' ∧ a' ≤ a + 50 ∧ (∀ x ∈ d', x.text.size ≤ 1000) ∧ d'.length ≤ 3 ∧ Ab.Sub (hu H i (some (strm (LL nz l) a'))) HF ∧ ((d' = [] ∧ AV.os o 0 d.length = .ls false []) ∨ ∃ o', AV.os o 0 d.length = .os o' 0 d'.length ∧ HF o' = some ⟨55, 2, d'.map Idn.c⟩ ∧ n ≤ o' ∧ d' ≠ []) := by
        intro a9 m HF n9 h1 h2 h3 h4 h5 h6 h7
        exact ⟨a9, m, h4, h5, h6, by omega, Qs.sub (n := n) h2 h3, .inr ⟨o, by rw [h7], h1, ho2, fun e => hdn (by rw [e] at h7; exact List.length_eq_zero_iff.1 h7.symm)⟩⟩
      by_cases h1 : (1 : Int) < d.length
      · simp -dsimp -implicitDefEqProofs (disch := omega) only [↓wpre, push_cast, seval, hh, hout, h1]
        refine (flip_c G _ nz l a2 60 i (by simp -dsimp -implicitDefEqProofs (disch := omega) only [↓wpre, push_cast, seval, hs]) ⟨by omega, by omega⟩ (by omega)).x fun r a3 n4 hn4 k1 k2 k3 => ?_
        obtain ⟨b, rfl⟩ := k3
        simp -dsimp -implicitDefEqProofs (disch := omega) only [↓wpre, push_cast, seval, hh, hout, hs]
        (first | with_reducible refine cnd_ndec (fun hc => ?_) (fun hc => ?_) | with_reducible refine cnd_dec (fun hc => ?_) (fun hc => ?_) | with_reducible refine cnd_nb (fun hc => ?_) (fun hc => ?_) | with_reducible refine cnd_intro (fun hc => ?_) (fun hc => ?_)) <;> (first | (exfalso; omega) | (try simp -dsimp -implicitDefEqProofs (disch := omega) only [↓wpre, push_cast, seval, hc, hh]))
        · rw [← hsl]
          refine ACalls.x (ACalls.lowp (reverse_c G _ o l' (by omega) (by rw [hu_ne hoi, hu_same]) _)) fun r1 H4 n5 ⟨⟨e1, l2, hl2, hl2m, e2⟩, hn5, _⟩ => ?_
          subst e1 e2
          simp -dsimp -implicitDefEqProofs (disch := omega) only [↓wpre, push_cast, seval, hh, hout]
          try rw [hsl]
          refine fin_intro (Ab.Sub.refl _) (hfin a3 l2 _ n5 hu_same (by (repeat (first | exact hq | refine Qs.put ?_ | refine Qs.new ?_ (by omega)))) (by simp -dsimp -implicitDefEqProofs (disch := omega) only [↓wpre, push_cast, seval, hs]) (by omega) (by omega) (fun x hx => hl's x (hl2m x hx)) (by omega))
        · refine fin_intro (Ab.Sub.refl _) (hfin a3 l' _ n4 (by rw [hu_ne hoi, hu_same]) (by (repeat (first | exact hq | refine Qs.put ?_ | refine Qs.new ?_ (by omega)))) (by simp -dsimp -implicitDefEqProofs (disch := omega) only [↓wpre, push_cast, seval, hs]) (by omega) (by omega) hl's hsl)
      · simp -dsimp -implicitDefEqProofs (disch := omega) only [↓wpre, push_cast, seval, hh, hout, h1]
        refine fin_intro (Ab.Sub.refl _) (hfin a2 l' _ n3 hu_same (by (repeat (first | exact hq | refine Qs.put ?_ | refine Qs.new ?_ (by omega)))) (by simp -dsimp -implicitDefEqProofs (disch := omega) only [↓wpre, push_cast, seval, hs]) (by omega) (by omega) hl's hsl)
theorem ids_c (hG : GOk G) (hP : G 1 = .pp poolC) (nz : Bool) (l : List Int) (a many : Int) (i : Nat) (hi : H i = some (strm (LL nz l) a)) (ha : 0 ≤ a ∧ a ≤ 1099511625000) (hm : 0 ≤ many ∧ many ≤ 3) : SC G H 146 [.op i 0 0, .int many] i (LL nz l) a 50 fun r => ∃ (b : Bool) (d : List Idn), r = .ls b (d.map Idn.c) ∧ (∀ x ∈ d, x.text.size ≤ 1000) ∧ d.length ≤ 3 := by
  intro n
  refine low_of G H fun hlow => ACalls.frz (ids_run G H hG hP nz l a many i hi ha hm n) ?_
  have hin := hlow i _ hi
  rintro r H1 n1 ⟨a', d, h1, h2, h3, h3', h4, ⟨h5, rfl⟩ | ⟨o, rfl, h5, h6, h7⟩⟩
  · exact ⟨fun _ => none, hu H i (some (strm (LL nz l) a')), 0, fun _ _ h => (by cases h), h4, fun _ _ h => (by cases h), a', h1, h2, rfl, false, d, by rw [h5]; rfl, h3, by omega⟩
  · refine ⟨Ab.only o ⟨55, 2, d.map Idn.c⟩, hu H i (some (strm (LL nz l) a')), 1, only_sub h5, h4, fun j x hj => ?_, a', h1, h2, rfl, true, d, ?_, h3, by omega⟩
    · unfold Ab.only at hj
      split at hj
      · rename_i e; subst e
        rw [hu_ne (by omega)]
        cases hx : H j with
        | none => rfl
        | some y => exact absurd (hlow j y hx) (by omega)
      · cases hj
    · rw [frz_os_plain (plain_idn _) (by simp)]
end Go.Proofs.YtblhbafoncfhdaaGreatDoor

