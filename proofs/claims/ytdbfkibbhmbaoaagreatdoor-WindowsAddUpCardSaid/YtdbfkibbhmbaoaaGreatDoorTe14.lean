/- Contracts of functions of the program: each computes what its model says; the conditions stand at each. -/
import Derived.Test.YtdbfkibbhmbaoaaGreatDoorTe13
set_option linter.unusedSimpArgs false
set_option linter.unusedVariables false
set_option maxRecDepth 20000
set_option pp.deepTerms false
set_option pp.deepTerms.threshold 3
namespace Go.Proofs.YtdbfkibbhmbaoaaGreatDoor
open Go Go.Ab Go.Pm Go.Cm Go.El Go.Em
variable (G : Nat → AV) (H : Nat → Option AObj)
/-- Events as they are made, without the bound. -/
structure Mk (es : List Evt) : Prop where
  each : ∀ e ∈ es, SmallE e ∧ (∀ f ∈ e.fs, f.val.text ∈ texts) ∧ (e.id.size = 3 → ∃ j, j < es.length ∧ e.id = eid j)
  ids : es.Pairwise fun a b => a.id.size = 3 → b.id.size = 3 → a.id ≠ b.id
theorem Mk.snoc {es : List Evt} {e : Evt} (h : Mk es) (hl : es.length < 14) (he : EvtOk (eid es.length) e) : Mk (es ++ [e]) := by
  refine ⟨fun x hx => ?_, ?_⟩
  · rcases List.mem_append.1 hx with hx | hx
    · obtain ⟨h1, h2, h3⟩ := h.each x hx
      refine ⟨h1, h2, fun h4 => ?_⟩
      obtain ⟨j, h5, h6⟩ := h3 h4
      exact ⟨j, by simp; omega, h6⟩
    · simp only [List.mem_singleton] at hx
      subst hx
      refine ⟨he.small, he.texts, fun h4 => ⟨es.length, by simp, ?_⟩⟩
      exact he.id.resolve_right (fun h5 => h5 h4)
  · rw [List.pairwise_append]
    refine ⟨h.ids, List.pairwise_singleton _ _, fun x hx y hy h1 h2 e1 => ?_⟩
    simp only [List.mem_singleton] at hy
    subst hy
    obtain ⟨j, h5, h6⟩ := (h.each x hx).2.2 h1
    have h7 := he.id.resolve_right (fun h5 => h5 h2)
    have := eid_ne j (by omega) es.length hl (by rw [← h6, e1, h7])
    omega
theorem Mk.made {es l : List Evt} (h : Mk es) (hp : l.Perm es) (hl : es.length ≤ 14) : Made l :=
  ⟨by rw [hp.length_eq]; exact hl, (hp.pairwise_iff (fun {a b} h x y e => h y x e.symm)).2 h.ids, fun e he => (h.each e (hp.mem_iff.1 he)).1, fun e he => (h.each e (hp.mem_iff.1 he)).2.1⟩
set_option maxHeartbeats 3200000 in
theorem events_run (hG : GOk G) (nz : Bool) (l : List Int) (a many : Int) (i : Nat) (hi : H i = some (strm (LL nz l) a)) (ha : 0 ≤ a ∧ a ≤ 1099511620000) (hm : 0 ≤ many ∧ many ≤ 14) (n : Nat) : ACalls Tryz.prog G 42 [.op i 0 0, .int many] H n fun r H' n' => ∃ a' es, a ≤ a' ∧ a' ≤ a + 1200 ∧ Made es ∧ (es.length : Int) = many ∧ Sub (hu H i (some (strm (LL nz l) a'))) H' ∧ ((es = [] ∧ r = .ls false []) ∨ ∃ o, r = .os o 0 es.length ∧ H' o = some ⟨42, 6, es.map Evt.c⟩ ∧ n ≤ o ∧ es ≠ []) := by
  refine ACalls.start mix F42 (by simp) fun hlow => ?_
  have hq := Qs.refl hi hlow
  have hin := hq.2.2
  simp -dsimp -implicitDefEqProofs (disch := omega) only [↓wpre, push_cast, reduceCtorEq, ↓reduceIte, Nat.reduceEqDiff, Nat.reduceLeDiff, Nat.reduceAdd, Nat.reduceLT, Int.reduceEq, Int.reduceLT, Int.reduceLE, Int.reduceNeg, Int.reduceAdd, c42]
  refine (pick_c G _ nz true l a i (by first | exact hi | simp -dsimp -implicitDefEqProofs (disch := omega) only [↓wpre, push_cast, reduceCtorEq, ↓reduceIte, Nat.reduceEqDiff, Nat.reduceLeDiff, Nat.reduceAdd, Nat.reduceLT, Int.reduceEq, Int.reduceLT, Int.reduceLE, Int.reduceNeg, Int.reduceAdd, hi]) ⟨by omega, by omega⟩ [0, 0, 5, 1000] (by simp) (by simp)).x fun r a0 n0 hn0 b1 b2 b3 => ?_
  obtain ⟨at0, rfl, hat0⟩ := b3
  simp only [List.mem_cons, List.not_mem_nil, or_false] at hat0
  simp -dsimp -implicitDefEqProofs (disch := omega) only [↓wpre, push_cast, reduceCtorEq, ↓reduceIte, Nat.reduceEqDiff, Nat.reduceLeDiff, Nat.reduceAdd, Nat.reduceLT, Int.reduceEq, Int.reduceLT, Int.reduceLE, Int.reduceNeg, Int.reduceAdd, hi]
  refine xw_loopJ (σ := List Evt × Int × Option Nat × Int) (fun t => [(0, .op i 0 0), (1, .int many), (5, outAV t.2.2.1 t.1.length), (6, .int t.2.1), (11, .int many), (12, .int t.1.length)]) (fun t H' n' => Mk t.1 ∧ (t.1.length : Int) ≤ many ∧ (0 ≤ t.2.1 ∧ t.2.1 ≤ 1000 + 1440 * t.1.length) ∧ OutIs n H' t.2.2.1 42 6 (t.1.map Evt.c) n' ∧ (t.2.2.1 ≠ none → t.1 ≠ []) ∧ Qs H H' i n ∧ H' i = some (strm (LL nz l) t.2.2.2) ∧ n ≤ n' ∧ a ≤ t.2.2.2 ∧ t.2.2.2 ≤ a + 1 + 71 * t.1.length) (fun t => many.toNat - t.1.length) ([], at0, none, a0) ⟨⟨by simp, .nil⟩, by simp; omega, by simp; omega, rfl, fun h => (h rfl).elim, by (repeat (first | exact hq | refine Qs.put ?_ | refine Qs.new ?_ (by omega))), by first | exact hu_same | simp -dsimp -implicitDefEqProofs (disch := omega) only [↓wpre, push_cast, reduceCtorEq, ↓reduceIte, Nat.reduceEqDiff, Nat.reduceLeDiff, Nat.reduceAdd, Nat.reduceLT, Int.reduceEq, Int.reduceLT, Int.reduceLE, Int.reduceNeg, Int.reduceAdd, hi], by omega, by dsimp only; omega, by simp; omega⟩ (by simp -dsimp -implicitDefEqProofs (disch := omega) only [↓wpre, push_cast, reduceCtorEq, ↓reduceIte, Nat.reduceEqDiff, Nat.reduceLeDiff, Nat.reduceAdd, Nat.reduceLT, Int.reduceEq, Int.reduceLT, Int.reduceLE, Int.reduceNeg, Int.reduceAdd, outAV]) ?_
  clear hq
  rintro ⟨es, at1, oid, a1⟩ fr H' n1 ⟨hmk, hle, hat, ho, hne, hq, hs, hn1, ha1, ha2⟩ hh
  simp only [has_nil, has_cons, and_true] at hh hmk hle hat ho hne hs ha1 ha2
  by_cases hlt : (es.length : Int) < many
  · simp -dsimp -implicitDefEqProofs (disch := omega) only [↓wpre, push_cast, reduceCtorEq, ↓reduceIte, Nat.reduceEqDiff, Nat.reduceLeDiff, Nat.reduceAdd, Nat.reduceLT, Int.reduceEq, Int.reduceLT, Int.reduceLE, Int.reduceNeg, Int.reduceAdd, hh, hlt]
    refine (pick_c G _ nz true l a1 i (by first | exact hs | simp -dsimp -implicitDefEqProofs (disch := omega) only [↓wpre, push_cast, reduceCtorEq, ↓reduceIte, Nat.reduceEqDiff, Nat.reduceLeDiff, Nat.reduceAdd, Nat.reduceLT, Int.reduceEq, Int.reduceLT, Int.reduceLE, Int.reduceNeg, Int.reduceAdd, hs]) ⟨by omega, by omega⟩ [0, 0, 1, 5, 10, 30, 100, 1000, 1440] (by simp) (by simp)).x fun r a2 n2 hn2 k1 k2 k3 => ?_
    obtain ⟨x1, rfl, hx1⟩ := k3
    simp only [List.mem_cons, List.not_mem_nil, or_false] at hx1
    have hx2 : 0 ≤ x1 ∧ x1 ≤ 1440 := by omega
    clear hx1
    simp -dsimp -implicitDefEqProofs (disch := omega) only [↓wpre, push_cast, reduceCtorEq, ↓reduceIte, Nat.reduceEqDiff, Nat.reduceLeDiff, Nat.reduceAdd, Nat.reduceLT, Int.reduceEq, Int.reduceLT, Int.reduceLE, Int.reduceNeg, Int.reduceAdd, hh, hs]
    refine (eventId_c G _ es.length (by omega)).x fun n3 hn3 => ?_
    simp -dsimp -implicitDefEqProofs (disch := omega) only [↓wpre, push_cast, reduceCtorEq, ↓reduceIte, Nat.reduceEqDiff, Nat.reduceLeDiff, Nat.reduceAdd, Nat.reduceLT, Int.reduceEq, Int.reduceLT, Int.reduceLE, Int.reduceNeg, Int.reduceAdd, hh, hs]
    refine (event_c G _ hG nz l a2 (eid es.length) (at1 + x1) (eid_size _ (by omega)) i (by first | exact hu_same | simp -dsimp -implicitDefEqProofs (disch := omega) only [↓wpre, push_cast, reduceCtorEq, ↓reduceIte, Nat.reduceEqDiff, Nat.reduceLeDiff, Nat.reduceAdd, Nat.reduceLT, Int.reduceEq, Int.reduceLT, Int.reduceLE, Int.reduceNeg, Int.reduceAdd, hs]) ⟨by omega, by omega⟩).x fun r a3 n4 hn4 k4 k5 k6 => ?_
    obtain ⟨e, rfl, he⟩ := k6
    simp -dsimp -implicitDefEqProofs (disch := omega) only [↓wpre, push_cast, reduceCtorEq, ↓reduceIte, Nat.reduceEqDiff, Nat.reduceLeDiff, Nat.reduceAdd, Nat.reduceLT, Int.reduceEq, Int.reduceLT, Int.reduceLE, Int.reduceNeg, Int.reduceAdd, hh, hs, hu_hu]
    refine xapp_out (n0 := n) (rows := es.map Evt.c) (by (refine OutIs.mono (n := n1) ?_ (by omega); repeat (first | exact ho | refine OutIs.put ?_ (by omega) | refine OutIs.far ?_ (by omega)))) (by simp) (by intro r hr; simp at hr; subst hr; exact ⟨rfl, rfl⟩) (by simp only [List.length_map]; omega) ?_
    simp -dsimp -implicitDefEqProofs (disch := omega) only [↓wpre, push_cast, reduceCtorEq, ↓reduceIte, Nat.reduceEqDiff, Nat.reduceLeDiff, Nat.reduceAdd, Nat.reduceLT, Int.reduceEq, Int.reduceLT, Int.reduceLE, Int.reduceNeg, Int.reduceAdd, hh]
    refine againJ (es ++ [e], at1 + x1, some n4, a3) (by simp only [List.length_append, List.length_cons, List.length_nil]; omega) ⟨hmk.snoc (by omega) he, by simp only [List.length_append, List.length_cons, List.length_nil]; omega, by simp only [List.length_append, List.length_cons, List.length_nil]; omega, ?_, fun _ => by simp, ?_, ?_, by omega, by dsimp only; omega, by simp only [List.length_append, List.length_cons, List.length_nil]; omega⟩ (by simp -dsimp -implicitDefEqProofs (disch := omega) only [↓wpre, push_cast, reduceCtorEq, ↓reduceIte, Nat.reduceEqDiff, Nat.reduceLeDiff, Nat.reduceAdd, Nat.reduceLT, Int.reduceEq, Int.reduceLT, Int.reduceLE, Int.reduceNeg, Int.reduceAdd, hh]; try simp [outAV])
    · dsimp only
      rw [List.map_append]
      exact OutIs.new (n0 := n) (n := n4) (by omega)
    · exact (Qs.dropO (E := 42) (sz := 6) (rows := es.map Evt.c) (m := n4) (by (refine OutIs.mono (n := n1) ?_ (by omega); repeat (first | exact ho | refine OutIs.put ?_ (by omega) | refine OutIs.far ?_ (by omega)))) (Nat.le_refl _) (by (repeat (first | exact hq | refine Qs.put ?_ | refine Qs.new ?_ (by omega))))).new (by omega)
    · dsimp only
      rw [hu_ne (by omega), dropO_ne (n := n4) (E := 42) (sz := 6) (rows := es.map Evt.c) (by (refine OutIs.mono (n := n1) ?_ (by omega); repeat (first | exact ho | refine OutIs.put ?_ (by omega) | refine OutIs.far ?_ (by omega)))) hin]
      simp -dsimp -implicitDefEqProofs (disch := omega) only [↓wpre, push_cast, reduceCtorEq, ↓reduceIte, Nat.reduceEqDiff, Nat.reduceLeDiff, Nat.reduceAdd, Nat.reduceLT, Int.reduceEq, Int.reduceLT, Int.reduceLE, Int.reduceNeg, Int.reduceAdd, hs]
  · simp -dsimp -implicitDefEqProofs (disch := omega) only [↓wpre, push_cast, reduceCtorEq, ↓reduceIte, Nat.reduceEqDiff, Nat.reduceLeDiff, Nat.reduceAdd, Nat.reduceLT, Int.reduceEq, Int.reduceLT, Int.reduceLE, Int.reduceNeg, Int.reduceAdd, hh, hlt]
    have hlen : (es.length : Int) = many := by omega
    have hend : ∀ a', (es = [] ∧ outAV oid es.length = .ls false []) ∨ ∃ o, outAV oid es.length = .os o 0 es.length ∧ hu H' i (some (strm (LL nz l) a')) o = some ⟨42, 6, es.map Evt.c⟩ ∧ n ≤ o ∧ es ≠ [] := fun a' => by
      cases oid with
      | none =>
        have : es.map Evt.c = [] := ho
        exact .inl ⟨by simpa using this, rfl⟩
      | some o => exact .inr ⟨o, rfl, by rw [hu_ne (by have := ho.2.1; have := hq.2.2; omega)]; exact ho.1, ho.2.1, hne (by simp)⟩
    by_cases h1 : (1 : Int) < many
    · simp -dsimp -implicitDefEqProofs (disch := omega) only [↓wpre, push_cast, reduceCtorEq, ↓reduceIte, Nat.reduceEqDiff, Nat.reduceLeDiff, Nat.reduceAdd, Nat.reduceLT, Int.reduceEq, Int.reduceLT, Int.reduceLE, Int.reduceNeg, Int.reduceAdd, hh, h1]
      refine (flip_c G _ nz l a1 60 i (by first | exact hs | simp -dsimp -implicitDefEqProofs (disch := omega) only [↓wpre, push_cast, reduceCtorEq, ↓reduceIte, Nat.reduceEqDiff, Nat.reduceLeDiff, Nat.reduceAdd, Nat.reduceLT, Int.reduceEq, Int.reduceLT, Int.reduceLE, Int.reduceNeg, Int.reduceAdd, hs]) ⟨by omega, by omega⟩ (by omega)).x fun r a2 n2 hn2 k1 k2 k3 => ?_
      obtain ⟨b, rfl⟩ := k3
      simp -dsimp -implicitDefEqProofs (disch := omega) only [↓wpre, push_cast, reduceCtorEq, ↓reduceIte, Nat.reduceEqDiff, Nat.reduceLeDiff, Nat.reduceAdd, Nat.reduceLT, Int.reduceEq, Int.reduceLT, Int.reduceLE, Int.reduceNeg, Int.reduceAdd, hh, hs]
      (first | with_reducible refine cnd_ndec (fun hc => ?_) (fun hc => ?_) | with_reducible refine cnd_dec (fun hc => ?_) (fun hc => ?_) | with_reducible refine cnd_nb (fun hc => ?_) (fun hc => ?_) | with_reducible refine cnd_intro (fun hc => ?_) (fun hc => ?_)) <;> (first | (exfalso; omega) | (try simp -dsimp -implicitDefEqProofs (disch := omega) only [↓wpre, push_cast, reduceCtorEq, ↓reduceIte, Nat.reduceEqDiff, Nat.reduceLeDiff, Nat.reduceAdd, Nat.reduceLT, Int.reduceEq, Int.reduceLT, Int.reduceLE, Int.reduceNeg, Int.reduceAdd, hc, hh]))
      · obtain ⟨o, hoa, hoo, hno, hne'⟩ := (hend a2).resolve_left (fun h => by have := h.1; subst this; simp at hlen; omega)
        obtain ⟨e0, e1, rest, rfl⟩ : ∃ e0 e1 rest, es = e0 :: e1 :: rest := by
          match es, hlen with
          | [], h => exact absurd h (by simp; omega)
          | [x], h => exact absurd h (by simp; omega)
          | x :: y :: r, _ => exact ⟨x, y, r, rfl⟩
        rw [hoa] at hh
        have hoa' : outAV oid (rest.length + 1 + 1) = .os o 0 (rest.length + 1 + 1) := hoa
        obtain ⟨R, hR⟩ : ∃ R, R = e0.c :: e1.c :: rest.map Evt.c := ⟨_, rfl⟩
        have hoo' : hu H' i (some (strm (LL nz l) a2)) o = some ⟨42, 6, R⟩ := by rw [hR]; exact hoo
        have hg0 : R[0]? = some e0.c := by rw [hR]; rfl
        have hg1 : R[1]? = some e1.c := by rw [hR]; rfl
        have t0 : Int.toNat 0 = 0 := rfl
        have t1 : Int.toNat 1 = 1 := rfl
        simp -dsimp -implicitDefEqProofs (disch := omega) only [↓wpre, push_cast, reduceCtorEq, ↓reduceIte, Nat.reduceEqDiff, Nat.reduceLeDiff, Nat.reduceAdd, Nat.reduceLT, Int.reduceEq, Int.reduceLT, Int.reduceLE, Int.reduceNeg, Int.reduceAdd, hh, hoa', hoo', hg0, hg1, t0, t1, Nat.zero_add]
        have hs1 : ∀ v, (R.set 0 v)[1]? = some e1.c := fun v => by rw [hR]; rfl
        simp -dsimp -implicitDefEqProofs (disch := omega) only [↓wpre, push_cast, reduceCtorEq, ↓reduceIte, Nat.reduceEqDiff, Nat.reduceLeDiff, Nat.reduceAdd, Nat.reduceLT, Int.reduceEq, Int.reduceLT, Int.reduceLE, Int.reduceNeg, Int.reduceAdd, hs1, hu_hu]
        refine anyN_intro fun n3 hn3 => ?_
        simp -dsimp -implicitDefEqProofs (disch := omega) only [↓wpre, push_cast, reduceCtorEq, ↓reduceIte, Nat.reduceEqDiff, Nat.reduceLeDiff, Nat.reduceAdd, Nat.reduceLT, Int.reduceEq, Int.reduceLT, Int.reduceLE, Int.reduceNeg, Int.reduceAdd, hh, hoa']
        have hset : (R.set 0 e1.c).set 1 e0.c = (e1 :: e0 :: rest).map Evt.c := by rw [hR]; rfl
        have hlo : o < n2 := by
          cases oid with
          | none => cases hoa
          | some o' =>
            have : o' = o := by injection hoa
            subst this
            have := ho.2.2
            omega
        refine fin_intro (H' := hu (hu H' i (some (strm (LL nz l) a2))) o (some ⟨42, 6, (R.set 0 e1.c).set 1 e0.c⟩)) ?_ ⟨a2, e1 :: e0 :: rest, by omega, by omega, hmk.made (.swap _ _ _) (by omega), by simpa using hlen, ?_, .inr ⟨o, by simp, by rw [hset]; exact hu_same, hno, by simp⟩⟩
        · rw [hu_hu]; exact Sub.refl _
        · exact Qs.sub (n := n) (by (repeat (first | exact hq | refine Qs.put ?_ | refine Qs.new ?_ (by omega)))) (by rw [hu_ne (by have := hq.2.2; omega)]; exact hu_same)
      · refine fin_intro (Sub.refl _) ⟨a2, es, by omega, by omega, hmk.made (.refl _) (by omega), hlen, Qs.sub (n := n) (by (repeat (first | exact hq | refine Qs.put ?_ | refine Qs.new ?_ (by omega)))) (by first | exact hu_same | simp -dsimp -implicitDefEqProofs (disch := omega) only [↓wpre, push_cast, reduceCtorEq, ↓reduceIte, Nat.reduceEqDiff, Nat.reduceLeDiff, Nat.reduceAdd, Nat.reduceLT, Int.reduceEq, Int.reduceLT, Int.reduceLE, Int.reduceNeg, Int.reduceAdd, hs]), hend a2⟩
    · simp -dsimp -implicitDefEqProofs (disch := omega) only [↓wpre, push_cast, reduceCtorEq, ↓reduceIte, Nat.reduceEqDiff, Nat.reduceLeDiff, Nat.reduceAdd, Nat.reduceLT, Int.reduceEq, Int.reduceLT, Int.reduceLE, Int.reduceNeg, Int.reduceAdd, hh, h1]
      have hself : hu H' i (some (strm (LL nz l) a1)) = H' := hu_self H' hs
      refine fin_intro (Sub.refl _) ⟨a1, es, by omega, by omega, hmk.made (.refl _) (by omega), hlen, Qs.sub hq hs, by rw [← hself]; exact hend a1⟩
end Go.Proofs.YtdbfkibbhmbaoaaGreatDoor

