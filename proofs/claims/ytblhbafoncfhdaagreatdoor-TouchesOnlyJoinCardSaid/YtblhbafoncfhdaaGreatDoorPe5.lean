/- Contracts of functions of the program: each computes what its model says; the conditions stand at each. -/
import Derived.Test.YtblhbafoncfhdaaGreatDoorPe4
set_option linter.unusedSimpArgs false
set_option linter.unusedVariables false
set_option maxRecDepth 20000
set_option pp.deepTerms false
set_option pp.deepTerms.threshold 3
namespace Go.Proofs.YtblhbafoncfhdaaGreatDoor
open Go Go.Ab Go.Pm Go.Cm Go.El Go.Rm Go.Pp Go.Uf
variable (G : Nat → AV) (H : Nat → Option AObj)



theorem aent_at {H : Nat → Option AObj} {j i len E sz k : Nat} {rows : List (List AV)} {idxs : List Nat} {x y : AV} (h : H j = some ⟨i, len, itRows (k : Int) idxs⟩) (h1 : H i = some ⟨E, sz, rows⟩) (hl : rows.length = len) (hk : rows[k]? = some [x, y]) : aent H (.oit j) = some (.tup [x, y]) := by
  simp only [aent, h, itRows, h1]
  rw [if_pos ⟨hl, by omega⟩]
  simp [hk]
theorem idn_dec (x y : Idn) : (decide (x.kind = y.kind) && decide (x.text = y.text)) = decide (x = y) := by
  obtain ⟨a, b⟩ := x
  obtain ⟨a', b'⟩ := y
  simp
def outP : Option Idn → AV
  | none => .lit (.pointer none)
  | some x => .pp x.c
/-- Which ids join, but for one. -/
def JJ (o : Option Idn) (r : Rls) (l : List Tch) : Idn → Bool := fun y => joins r l y && !decide (o = some y)
theorem JJ_none (r : Rls) (l : List Tch) : JJ none r l = joins r l := funext fun y => by simp [JJ]
theorem fill_set (i k : Nat) : (List.range i ++ List.replicate (k + 1) 0).set i i = List.range (i + 1) ++ List.replicate k 0 := by
  rw [List.set_append_right _ _ (by simp)]
  simp [List.range_succ, List.replicate_succ]
theorem sl_tail (i len k : Nat) (h : len = k + 1) : ∃ sv, asl (.os i 0 len) (some (.int 1)) none = some sv ∧ alen sv = some (.int k) ∧ (0 < k → sv = .os i 1 k) := by
  subst h
  have e : asl (.os i 0 (k + 1)) (some (.int 1)) none = aslOz i 0 (k + 1) (abound (k + 1) 0 (some (.int 1))) := by rw [asl_os]; rfl
  have e2 : abound (k + 1) 0 (some (.int 1)) = some 1 := by simp [abound]; omega
  rw [e, e2]
  by_cases hk : 0 < k
  · rw [aslOz_pos (by omega) (by omega)]
    exact ⟨_, rfl, rfl, fun _ => by simp⟩
  · have : k = 0 := by omega
    subst this
    exact ⟨_, rfl, rfl, fun h => absurd h hk⟩
theorem filter_lt {l : List Nat} {k : Nat} (h : k ∈ l) : (l.filter (· != k)).length < l.length := by
  rw [← List.countP_eq_length_filter]
  have h1 := List.countP_le_length (p := fun x => x != k) (l := l)
  rcases Nat.lt_or_ge (List.countP (fun x => x != k) l) l.length with h2 | h2
  · exact h2
  · have := List.countP_eq_length.1 (Nat.le_antisymm h1 h2) k h
    simp at this
set_option maxHeartbeats 6400000 in
theorem parts_c {g m : Nat} {r : Rls} {nz : Bool} {l : List Tch} {K : List Idn} {ob : Idn → Nat} {N : Nat} (h : Grp H g m r nz l K ob N) (o : Option Idn) (n : Nat) (hN : N ≤ n) : ACalls Tryz.prog G 106 [.op g 0 0, outP o] H n fun v H' n' => ∃ p ro, Parts (tie (JJ o r l) l) l.length p ∧ v = .os ro 0 l.length ∧ H' ro = some ⟨3, 1, nats p⟩ ∧ n ≤ ro ∧ ro < n' ∧ Sub H H' := by
  have hrow := h.row
  have hfew := h.few
  have hgn := h.lt
  have hmn := h.hv.low.1
  generalize hov : outP o = ov
  refine ACalls.start mix F106 (by simp) fun hlow => ?_
  have hq := Qt.refl hlow
  simp -dsimp -implicitDefEqProofs (disch := omega) only [↓wpre, push_cast, seval, c106, hrow]
  rw [xmake_int (by omega) (by omega) (by omega) (by omega)]
  simp -dsimp -implicitDefEqProofs (disch := omega) only [↓wpre, push_cast, seval, Int.toNat_natCast]
  refine xw_loopJ (σ := Nat) (fun i => [(0, .op g 0 0), (1, ov), (5, .op (n + 1) 0 0), (22, .int l.length), (23, .int i)]) (fun i H' n' => i ≤ l.length ∧ H' n = some ⟨3, 1, nats (List.range i ++ List.replicate (l.length - i) 0)⟩ ∧ H' (n + 1) = some ⟨22, 1, [[.os n 0 l.length]]⟩ ∧ Qt H H' n ∧ n + 2 ≤ n') (fun i => l.length - i) 0 ⟨by omega, ?_, ?_, ?_, by omega⟩ (by simp -dsimp -implicitDefEqProofs (disch := omega) only [↓wpre, push_cast, seval]) ?_
  · rw [hu_ne (by omega), hu_ne (by omega), hu_same]
    simp [nats]
  · exact hu_same
  · exact Qt.mono (n := n) (by repeat (first | exact hq | refine Qt.hu ?_ (by omega))) (by omega)
  clear hq
  rintro i fr H1 n1 ⟨hi, hr, hb, hq, hn1⟩ hh
  simp only [has_nil, has_cons, and_true] at hh hi hr hb
  by_cases hlt : (i : Int) < l.length
  · have hi0 : (0 : Int) ≤ i := by omega
    have hin : i < l.length := by omega
    obtain ⟨k, hk⟩ : ∃ k, l.length - i = k + 1 := ⟨l.length - i - 1, by omega⟩
    rw [hk] at hr
    have hget : (nats (List.range i ++ List.replicate (k + 1) 0))[i]? = some [AV.int (0 : Nat)] := by simp [nats]
    have hset := nats_set (List.range i ++ List.replicate (k + 1) 0) i i
    rw [fill_set] at hset
    simp -dsimp -implicitDefEqProofs (disch := omega) only [↓wpre, push_cast, seval, hh, hlt, hb, hr, hi0, hin, hget, hset, Int.toNat_natCast]
    refine againJ (i + 1) (by omega) ⟨by omega, ?_, ?_, ?_, by omega⟩ (by simp -dsimp -implicitDefEqProofs (disch := omega) only [↓wpre, push_cast, seval, hh]; all_goals (try simp only [AV.lit.injEq, Value.int.injEq, Value.bool.injEq, true_and, and_true]); all_goals (try (repeat' apply And.intro)); all_goals (first | rfl | omega | simp_all | skip))
    · rw [hu_same, show l.length - (i + 1) = k from by omega]
    · simp -dsimp -implicitDefEqProofs (disch := omega) only [↓wpre, push_cast, seval, hb]
    · exact Qt.mono (n := n) (by repeat (first | exact hq | refine Qt.hu ?_ (by omega))) (by omega)
  · have hil : i = l.length := by omega
    subst hil
    have hr : H1 n = some ⟨3, 1, nats (List.range l.length)⟩ := by rw [hr]; simp
    have hrow1 := hq.1 _ _ hrow
    have h1 := h.sub hq.1
    have hm1 := h1.hv.map
    generalize hR : (K.map fun x => [AV.agg x.c, AV.os (ob x) 0 (occ l x).length]) = R at hm1
    have hRl : R.length = K.length := by rw [← hR]; simp
    have hRk : ∀ k x y, R[k]? = some [x, y] → ∃ z, K[k]? = some z ∧ x = AV.agg z.c ∧ y = AV.os (ob z) 0 (occ l z).length := fun k x y hk => by
      rw [← hR, List.getElem?_map] at hk
      cases hz : K[k]? with
      | none => rw [hz] at hk; cases hk
      | some z =>
        rw [hz] at hk
        simp only [Option.map_some, Option.some.injEq, List.cons.injEq, and_true] at hk
        exact ⟨z, hz, hk.1.symm, hk.2.symm⟩
    simp -dsimp -implicitDefEqProofs (disch := omega) only [↓wpre, push_cast, seval, hh, hlt, hrow1]
    refine xrng_om hm1 rfl ?_
    simp -dsimp -implicitDefEqProofs (disch := omega) only [↓wpre, push_cast, seval, hh]
    refine xw_loopJ (σ := List Nat × List Nat × Int) (fun t => [(0, .op g 0 0), (1, ov), (5, .op (n + 1) 0 0), (7, .fn (.func 171) [.op (n + 1) 0 0]), (36, .oit n1)]) (fun t H' n' => H' n1 = some ⟨m, K.length, itRows t.2.2 t.2.1⟩ ∧ Mg (JJ o r l) l t.1 ∧ (∀ i x, K[i]? = some x → i ∉ t.2.1 → JJ o r l x = true → Gone l t.1 x) ∧ H' n = some ⟨3, 1, nats t.1⟩ ∧ H' (n + 1) = some ⟨22, 1, [[.os n 0 l.length]]⟩ ∧ Qt H H' n ∧ n1 + 1 ≤ n') (fun t => t.2.1.length) (List.range l.length, List.range R.length, -1) ⟨by rw [hu_same, hRl], Mg.start _ _, ?_, ?_, ?_, ?_, by omega⟩ (by simp -dsimp -implicitDefEqProofs (disch := omega) only [↓wpre, push_cast, seval, hh]) ?_
    · intro i x hi hno
      exact absurd (by rw [hRl]; exact List.mem_range.2 (List.getElem?_eq_some_iff.1 hi).1) hno
    · simp -dsimp -implicitDefEqProofs (disch := omega) only [↓wpre, push_cast, seval, hr]
    · simp -dsimp -implicitDefEqProofs (disch := omega) only [↓wpre, push_cast, seval, hb]
    · exact Qt.mono (n := n) (by repeat (first | exact hq | refine Qt.hu ?_ (by omega))) (by omega)
    clear hh hr hb hrow1 h1 hm1 hq hi hlt
    rintro ⟨p, idxs, k0⟩ fr H2 n2 ⟨hit, hmg, hgone, hr, hb, hq, hn2⟩ hh
    simp only [has_nil, has_cons, and_true] at hh hit hmg hgone hr hb
    have h1 := h.sub hq.1
    have hm1 := h1.hv.map
    rw [hR] at hm1
    simp -dsimp -implicitDefEqProofs (disch := omega) only [↓wpre, push_cast, seval, hh]
    refine xnxt_oit hit hm1 hRl ?_ ?_
    · rintro rfl
      have hgall : ∀ x, JJ o r l x = true → Gone l p x := fun x hx => by
        by_cases hxK : x ∈ K
        · obtain ⟨i, hi⟩ := List.mem_iff_getElem?.1 hxK
          exact hgone i x hi (by simp) hx
        · exact gone_none (Classical.byContradiction fun h0 => hxK ((h.hv.all x).1 h0))
      have hpl := hmg.len
      simp -dsimp -implicitDefEqProofs (disch := omega) only [↓wpre, push_cast, seval, hh, hb]
      refine xw_loopJ (σ := List Nat × Nat) (fun t => [(5, .op (n + 1) 0 0), (7, .fn (.func 171) [.op (n + 1) 0 0]), (82, .int l.length), (83, .int t.2)]) (fun t H' n' => Like p t.1 ∧ (∀ j, j < t.2 → par t.1 j = rp p j) ∧ t.2 ≤ l.length ∧ H' n = some ⟨3, 1, nats t.1⟩ ∧ H' (n + 1) = some ⟨22, 1, [[.os n 0 l.length]]⟩ ∧ Qt H H' n ∧ n1 + 1 ≤ n') (fun t => l.length - t.2) (p, 0) ⟨.refl hmg.down, fun j hj => (by omega), by omega, hr, hb, hq, by omega⟩ (by simp -dsimp -implicitDefEqProofs (disch := omega) only [↓wpre, push_cast, seval, hh]) ?_
      clear hit hr hb hq h1 hm1 hh
      rintro ⟨q, i⟩ fr H4 n4 ⟨hL, hfl, hil, hr, hb, hq, hn4⟩ hh
      simp only [has_nil, has_cons, and_true] at hh hL hfl hil hr hb
      have hql := hL.len
      by_cases hlt2 : (i : Int) < l.length
      · have hi2 : i < q.length := by omega
        have hi0 : (0 : Int) ≤ i := by omega
        have hib : i < l.length := by omega
        simp -dsimp -implicitDefEqProofs (disch := omega) only [↓wpre, push_cast, seval, hh, hlt2]
        refine xw_nreg (Ab.only (n + 1) ⟨22, 1, [[.os n 0 l.length]]⟩) (only_sub hb) ?_
        have hon : Ab.only (n + 1) ⟨22, 1, [[.os n 0 l.length]]⟩ (n + 1) = some ⟨22, 1, [[.os n 0 l.length]]⟩ := if_pos rfl
        have hso : Ab.Sub (Ab.only (n + 1) ⟨22, 1, [[.os n 0 l.length]]⟩) H4 = True := eq_true (only_sub hb)
        have hgi := nats_get hi2
        simp -dsimp -implicitDefEqProofs (disch := omega) only [↓wpre, push_cast, seval, hh, hon, hso, hi0, hib, hlt2, Int.toNat_natCast]
        refine ACalls.x (find_c G _ (n + 1) n q hL.down l.length (by omega) (by omega) hb hr i (by omega) _) fun r1 H5 n5 ⟨q1, hL1, e1, e2, hn5⟩ => ?_
        subst e1 e2
        have hl1 := hL1.len
        have hso1 : ∀ x, Ab.Sub (Ab.only (n + 1) ⟨22, 1, [[.os n 0 l.length]]⟩) (hu H4 n x) = True := fun x => eq_true (only_sub (by rw [hu_ne (by omega)]; exact hb))
        have gi := nats_get (p := q1) (i := i) (by omega)
        have si := nats_set q1 i (rp q i)
        simp -dsimp -implicitDefEqProofs (disch := omega) only [↓wpre, push_cast, seval, hh, hon, hso1, hi0, hib, hlt2, gi, si, hu_hu, Int.toNat_natCast]
        have hL2 : Like q (q1.set i (rp q i)) := by
          have h3 := Like.root hL1.down (i := i) (by omega)
          rw [hL1.same] at h3
          exact hL1.trans h3
        refine againJ (q1.set i (rp q i), i + 1) (by omega) ⟨hL.trans hL2, ?_, by omega, hu_same, ?_, ?_, by omega⟩ (by simp -dsimp -implicitDefEqProofs (disch := omega) only [↓wpre, push_cast, seval, hh]; all_goals (try simp only [AV.lit.injEq, Value.int.injEq, Value.bool.injEq, true_and, and_true]); all_goals (try (repeat' apply And.intro)); all_goals (first | rfl | omega | simp_all | skip))
        · intro j hj
          dsimp only at hj ⊢
          by_cases hji : j = i
          · subst hji
            rw [par_set q1 _ _ _ (by omega), if_pos rfl, hL.same]
          · have h5 := hfl j (by omega)
            rw [hL2.flat j (by rw [h5, hL.same]), h5]
        · simp -dsimp -implicitDefEqProofs (disch := omega) only [↓wpre, push_cast, seval, hb]
        · exact Qt.mono (n := n) (by repeat (first | exact hq | refine Qt.hu ?_ (by omega))) (by omega)
      · have hie : i = l.length := by omega
        simp -dsimp -implicitDefEqProofs (disch := omega) only [↓wpre, push_cast, seval, hh, hlt2, hb]
        refine fin_intro (Sub.refl _) ⟨q, n, hmg.parts hgall (by omega) (fun j hj => hfl j (by omega)), rfl, hr, Nat.le_refl _, by omega, hq.1⟩
    · intro k hk x y hxy
      obtain ⟨z, hz, rfl, rfl⟩ := hRk k x y hxy
      have hent : aent (hu H2 n1 (some ⟨m, K.length, itRows k (idxs.filter (· != k))⟩)) (.oit n1) = some (.tup [.agg z.c, .os (ob z) 0 (occ l z).length]) := aent_at (k := k) hu_same (by rw [hu_ne (by omega)]; exact hm1) hRl hxy
      simp -dsimp -implicitDefEqProofs (disch := omega) only [↓wpre, push_cast, seval, hh, hent]
      refine xw_nreg noH (of_eq_true (sub_noH _)) ?_
      simp -dsimp -implicitDefEqProofs (disch := omega) only [↓wpre, push_cast, seval, hh]
      refine AFn.x (joins_c G _ (h.sub ?hs) z) fun n3 hn3 => ?_
      case hs => exact (Qt.mono (n := n) (by repeat (first | exact hq | refine Qt.hu ?_ (by omega))) (Nat.le_refl _)).1
      have hskip : JJ o r l z = false → ∀ i x, K[i]? = some x → i ∉ idxs.filter (· != k) → JJ o r l x = true → Gone l p x := by
        intro hJ i x hi hno hx
        by_cases hik : i = k
        · subst hik
          rw [hz] at hi
          cases hi
          rw [hJ] at hx; cases hx
        · exact hgone i x hi (fun hm => hno (List.mem_filter.2 ⟨hm, by simpa using hik⟩)) hx
      have hlt := filter_lt hk
      by_cases hJ : JJ o r l z = true
      · have hj : joins r l z = true := by simp [JJ] at hJ; exact hJ.1
        have hoz : ¬ o = some z := by simp [JJ] at hJ; exact hJ.2
        have hoo : ov = .lit (.pointer none) ∨ ∃ x0 : Idn, ov = .pp x0.c ∧ ¬ x0 = z := by
          cases o with
          | none => exact .inl hov.symm
          | some x0 => exact .inr ⟨x0, hov.symm, by simpa using hoz⟩
        rcases hoo with ho1 | ⟨x0, ho1, ho2⟩
        case' inl => simp -dsimp -implicitDefEqProofs (disch := omega) only [↓wpre, push_cast, seval, hh, hj, ho1]
        case' inr =>
          have hd : (decide (x0.kind = z.kind) && decide (x0.text = z.text)) = false := by rw [idn_dec]; simpa using ho2
          simp -dsimp -implicitDefEqProofs (disch := omega) only [↓wpre, push_cast, seval, hh, hj, ho1, hd]
        all_goals
          have hzK : z ∈ K := List.mem_of_getElem? hz
          have hob := h1.hv.obj z hzK
          have hol := h.hv.low.2 z hzK
          obtain ⟨a, rest, hocc⟩ : ∃ a rest, occ l z = a :: rest := by
            cases ho : occ l z with
            | nil => exact absurd ho ((h.hv.all z).2 hzK)
            | cons a rest => exact ⟨a, rest, rfl⟩
          have hol2 := occ_len l z
          have hall : ∀ i ∈ occ l z, Has l i z := fun i hi => mem_occ.1 hi
          have hlen : (occ l z).length = rest.length + 1 := by rw [hocc]; rfl
          obtain ⟨sv, hsv, hsl, hsp⟩ := sl_tail (ob z) (occ l z).length rest.length hlen
          have hcut : ∀ H3, CutOk (hu (hu (hu H2 n1 H3) n2 (some ⟨55, 2, [[.int 0, .str ⟨#[]⟩]]⟩)) n2 (some ⟨55, 2, [[.int z.kind, .str z.text]]⟩)) 1 (.os (ob z) 0 (occ l z).length) = True := fun H3 => eq_true ⟨_, by rw [hu_ne (by omega), hu_ne (by omega), hu_ne (by omega)]; exact hob, rfl⟩
          simp -dsimp -implicitDefEqProofs (disch := omega) only [↓wpre, push_cast, seval, hh, hcut, hsv, hsl]
          refine xw_loopJ (σ := List Nat × Nat) (fun t => [(0, .op g 0 0), (1, ov), (5, .op (n + 1) 0 0), (7, .fn (.func 171) [.op (n + 1) 0 0]), (9, .os (ob z) 0 (occ l z).length), (36, .oit n1), (58, sv), (59, .int rest.length), (60, .int t.2)]) (fun t H' n' => H' n1 = some ⟨m, K.length, itRows k (idxs.filter (· != k))⟩ ∧ Mg (JJ o r l) l t.1 ∧ (∀ i x, K[i]? = some x → i ∉ idxs.filter (· != k) → i ≠ k → JJ o r l x = true → Gone l t.1 x) ∧ (∀ b ∈ rest.take t.2, rp t.1 b = rp t.1 a) ∧ t.2 ≤ rest.length ∧ H' n = some ⟨3, 1, nats t.1⟩ ∧ H' (n + 1) = some ⟨22, 1, [[.os n 0 l.length]]⟩ ∧ Qt H H' n ∧ n1 + 1 ≤ n') (fun t => rest.length - t.2) (p, 0) ⟨?_, hmg, ?_, ?_, by omega, ?_, ?_, ?_, by omega⟩ (by simp -dsimp -implicitDefEqProofs (disch := omega) only [↓wpre, push_cast, seval, hh, ho1]) ?_
          · simp -dsimp -implicitDefEqProofs (disch := omega) only [↓wpre, push_cast, seval]
          · intro i x hi hno hik hx
            exact hgone i x hi (fun hm => hno (List.mem_filter.2 ⟨hm, by simpa using hik⟩)) hx
          · intro b hb; simp at hb
          · simp -dsimp -implicitDefEqProofs (disch := omega) only [↓wpre, push_cast, seval, hr]
          · simp -dsimp -implicitDefEqProofs (disch := omega) only [↓wpre, push_cast, seval, hb]
          · exact Qt.mono (n := n) (by repeat (first | exact hq | refine Qt.hu ?_ (by omega))) (by omega)
          clear hit hmg hgone hr hb hq h1 hm1 hob hent hskip hh
          rintro ⟨p, j⟩ fr H4 n4 ⟨hit, hmg, hgone, hone, hjl, hr, hb, hq, hn4⟩ hh
          simp only [has_nil, has_cons, and_true] at hh hit hmg hgone hone hjl hr hb
          have h1 := h.sub hq.1
          have hob := h1.hv.obj z hzK
          by_cases hlt2 : (j : Int) < rest.length
          · have hjr : j < rest.length := by omega
            obtain ⟨b, hb0⟩ : ∃ b, rest[j]? = some b := ⟨_, List.getElem?_eq_getElem hjr⟩
            have hsv2 := hsp (by omega)
            have hbo : b ∈ occ l z := by rw [hocc]; exact List.mem_cons_of_mem _ (List.mem_of_getElem? hb0)
            have hao : a ∈ occ l z := by rw [hocc]; exact List.mem_cons_self
            have hba := hall b hbo
            have haa := hall a hao
            have hbl := has_lt hba
            have hal := has_lt haa
            have ga : (nats (occ l z))[0]? = some [AV.int (a : Nat)] := by rw [hocc]; rfl
            have gb : (nats (occ l z))[1 + j]? = some [AV.int (b : Nat)] := by
              rw [hocc, nats, List.getElem?_map, show 1 + j = j + 1 from by omega, List.getElem?_cons_succ, hb0]; rfl
            have hj0 : (0 : Int) ≤ j := by omega
            have hl0 : (0 : Int) < (occ l z).length := by omega
            have hl0' : 0 < (occ l z).length := by omega
            have ht1 : ((1 : Int) + (j : Int)).toNat = 1 + j := by omega
            have ht2 : ((j : Int) + 1).toNat = 1 + j := by omega
            simp -dsimp -implicitDefEqProofs (disch := omega) only [↓wpre, push_cast, seval, hh, hsv2, hlt2, hob, ga, gb, hj0, hl0, hl0', ht1, ht2, Int.toNat_zero, Int.toNat_natCast]
            have hpl := hmg.len
            refine ACalls.x (find_c G _ (n + 1) n p hmg.down l.length hpl.symm (by omega) hb hr a (by omega) _) fun r1 H5 n5 ⟨q1, hL1, e1, e2, hn5⟩ => ?_
            subst e1 e2
            simp -dsimp -implicitDefEqProofs (disch := omega) only [↓wpre, push_cast, seval, hh]
            have hl1 := hL1.len
            refine ACalls.x (find_c G _ (n + 1) n q1 hL1.down l.length (by omega) (by omega) (by rw [hu_ne (by omega)]; exact hb) hu_same b (by omega) _) fun r2 H6 n6 ⟨q2, hL2, e1, e2, hn6⟩ => ?_
            subst e1 e2
            have hl2 := hL2.len
            rw [hL1.same]
            have hL := hL1.trans hL2
            have hmg2 := hmg.like hL
            have hmx : (max (rp p a) (rp p b) : Nat) < l.length := by
              have h1 := rp_lt (p := p) (i := a) (by omega)
              have h2 := rp_lt (p := p) (i := b) (by omega)
              omega
            have em1 : max ((rp p a : Nat) : Int) (rp p b : Nat) = ((max (rp p a) (rp p b) : Nat) : Int) := by omega
            have em2 : min ((rp p a : Nat) : Int) (rp p b : Nat) = ((min (rp p a) (rp p b) : Nat) : Int) := by omega
            generalize hM : max (rp p a) (rp p b) = M at hmx em1
            generalize hW : min (rp p a) (rp p b) = W at em2
            have hM0 : (0 : Int) ≤ (M : Nat) := by omega
            have hMl : ((M : Nat) : Int) < l.length := by omega
            have gM := nats_get (p := q2) (i := M) (by omega)
            have sM := nats_set q2 M W
            simp -dsimp -implicitDefEqProofs (disch := omega) only [↓wpre, push_cast, seval, hh, hb, em1, em2, hM0, hMl, hmx, gM, sM, hu_hu, Int.toNat_natCast]
            have hun : q2.set M W = un q2 (rp q2 a) (rp q2 b) := by unfold un; rw [hL.same, hL.same, hM, hW]
            have qa : a < q2.length := by omega
            have qb : b < q2.length := by omega
            refine againJ (q2.set M W, j + 1) (by omega) ⟨?_, ?_, ?_, ?_, by omega, hu_same, ?_, ?_, by omega⟩ (by simp -dsimp -implicitDefEqProofs (disch := omega) only [↓wpre, push_cast, seval, hh]; all_goals (try simp only [AV.lit.injEq, Value.int.injEq, Value.bool.injEq, true_and, and_true]); all_goals (try (repeat' apply And.intro)); all_goals (first | rfl | omega | simp_all | skip))
            · simp -dsimp -implicitDefEqProofs (disch := omega) only [↓wpre, push_cast, seval, hit]
            · dsimp only; rw [hun]; exact hmg2.un hJ haa hba
            · intro i x hi hno hik hx
              dsimp only
              rw [hun]
              exact ((hgone i x hi hno hik hx).like hL).un hL.down qa qb
            · intro c hc
              dsimp only
              rw [hun]
              have hc' : c ∈ rest.take j ∨ c = b := by
                dsimp only at hc
                rw [List.take_add_one, hb0] at hc
                simpa using hc
              rcases hc' with hc' | rfl
              · rw [rp_un hL.down qa qb, rp_un hL.down qa qb, hL.same c, hone c hc', hL.same a]
              · exact (un_same hL.down qa qb).symm
            · simp -dsimp -implicitDefEqProofs (disch := omega) only [↓wpre, push_cast, seval, hb]
            · exact Qt.mono (n := n) (by repeat (first | exact hq | refine Qt.hu ?_ (by omega))) (by omega)
          · have hje : j = rest.length := by omega
            simp -dsimp -implicitDefEqProofs (disch := omega) only [↓wpre, push_cast, seval, hh, hlt2]
            refine againJ (p, idxs.filter (· != k), (k : Int)) hlt ⟨hit, hmg, ?_, hr, hb, hq, by omega⟩ (by simp -dsimp -implicitDefEqProofs (disch := omega) only [↓wpre, push_cast, seval, hh]; all_goals (try simp only [AV.lit.injEq, Value.int.injEq, Value.bool.injEq, true_and, and_true]); all_goals (try (repeat' apply And.intro)); all_goals (first | rfl | omega | simp_all | skip))
            intro i x hi hno hx
            by_cases hik : i = k
            · subst hik
              rw [hz] at hi
              cases hi
              refine gone_all hocc fun b hb => hone b ?_
              rw [hje, List.take_length]
              exact hb
            · exact hgone i x hi hno hik hx
      · have hJ' : JJ o r l z = false := by simpa using hJ
        by_cases hj : joins r l z = true
        · have hoz : o = some z := by simpa [JJ, hj] using hJ'
          have ho1 : ov = .pp z.c := by rw [← hov, hoz]; rfl
          have hd : (decide (z.kind = z.kind) && decide (z.text = z.text)) = true := by simp
          simp -dsimp -implicitDefEqProofs (disch := omega) only [↓wpre, push_cast, seval, hh, hj, ho1, hd]
          refine againJ (p, idxs.filter (· != k), (k : Int)) hlt ⟨?_, hmg, hskip hJ', ?_, ?_, ?_, by omega⟩ (by simp -dsimp -implicitDefEqProofs (disch := omega) only [↓wpre, push_cast, seval, hh]; all_goals (try simp only [AV.lit.injEq, Value.int.injEq, Value.bool.injEq, true_and, and_true]); all_goals (try (repeat' apply And.intro)); all_goals (first | rfl | omega | simp_all | skip))
          · simp -dsimp -implicitDefEqProofs (disch := omega) only [↓wpre, push_cast, seval]
          · simp -dsimp -implicitDefEqProofs (disch := omega) only [↓wpre, push_cast, seval, hr]
          · simp -dsimp -implicitDefEqProofs (disch := omega) only [↓wpre, push_cast, seval, hb]
          · exact Qt.mono (n := n) (by repeat (first | exact hq | refine Qt.hu ?_ (by omega))) (by omega)
        · simp -dsimp -implicitDefEqProofs (disch := omega) only [↓wpre, push_cast, seval, hh, hj]
          refine againJ (p, idxs.filter (· != k), (k : Int)) hlt ⟨?_, hmg, hskip hJ', ?_, ?_, ?_, by omega⟩ (by simp -dsimp -implicitDefEqProofs (disch := omega) only [↓wpre, push_cast, seval, hh]; all_goals (try simp only [AV.lit.injEq, Value.int.injEq, Value.bool.injEq, true_and, and_true]); all_goals (try (repeat' apply And.intro)); all_goals (first | rfl | omega | simp_all | skip))
          · simp -dsimp -implicitDefEqProofs (disch := omega) only [↓wpre, push_cast, seval]
          · simp -dsimp -implicitDefEqProofs (disch := omega) only [↓wpre, push_cast, seval, hr]
          · simp -dsimp -implicitDefEqProofs (disch := omega) only [↓wpre, push_cast, seval, hb]
          · exact Qt.mono (n := n) (by repeat (first | exact hq | refine Qt.hu ?_ (by omega))) (by omega)
end Go.Proofs.YtblhbafoncfhdaaGreatDoor

