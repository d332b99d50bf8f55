/- Contracts of functions of the program: each computes what its model says; the conditions stand at each. -/
import Derived.Test.YtblhbafoncfhdaaGreatDoorTc3
import Derived.Test.YtblhbafoncfhdaaGreatDoorP1
import Derived.Test.YtblhbafoncfhdaaGreatDoorB2
import Derived.Test.YtblhbafoncfhdaaGreatDoorMk6
import Derived.Test.YtblhbafoncfhdaaGreatDoorM2
import Derived.Test.YtblhbafoncfhdaaGreatDoorL1
set_option linter.unusedSimpArgs false
set_option linter.unusedVariables false
set_option maxRecDepth 20000
namespace Go.Proofs.YtblhbafoncfhdaaGreatDoor
open Go Go.Ab Go.Pm Go.Cm Go.El Go.Rm Go.Pp Go.Uf
variable (G : Nat → AV) (H : Nat → Option AObj)
theorem Grp.mono {H : Nat → Option AObj} {g m : Nat} {r : Rls} {nz : Bool} {l : List Tch} {K : List Idn} {ob : Idn → Nat} {N N' : Nat} (h : Grp H g m r nz l K ob N) (hn : N ≤ N') : Grp H g m r nz l K ob N' := ⟨h.row, h.hv.mono hn, by have := h.lt; omega, h.ok, h.few⟩
theorem Grp.skip {H H2 : Nat → Option AObj} {g m : Nat} {r : Rls} {nz : Bool} {l : List Tch} {K : List Idn} {ob : Idn → Nat} {N i : Nat} {o : AObj} (h : Grp H g m r nz l K ob N) (hi : H i = some o) (hE : o.E ≠ 152 ∧ o.E ≠ 300 ∧ o.E ≠ 3) (hk : ∀ j x, j < N → j ≠ i → H j = some x → H2 j = some x) : Grp H2 g m r nz l K ob N := by
  have ne : ∀ j (x : AObj), j < N → H j = some x → x.E = 152 ∨ x.E = 300 ∨ x.E = 3 → H2 j = some x := fun j x hl hj hx => hk j x hl (fun e => by
    subst e
    rw [hi] at hj
    cases hj
    obtain ⟨h1, h2, h3⟩ := hE
    rcases hx with hx | hx | hx
    · exact h1 hx
    · exact h2 hx
    · exact h3 hx) hj
  exact ⟨ne _ _ h.lt h.row (.inl rfl), ⟨ne _ _ h.hv.low.1 h.hv.map (.inr (.inl rfl)), fun x hx => ne _ _ (h.hv.low.2 x hx) (h.hv.obj x hx) (.inr (.inr rfl)), h.hv.keys, h.hv.all, h.hv.inj, h.hv.low⟩, h.lt, h.ok, h.few⟩
theorem Mf.far {H H2 : Nat → Option AObj} {l : List Tch} {p : List Nat} {nm : Nat → Nat → Nat} {D S : List Nat} {n : Nat} (h : Mf H l p nm D S n) (hk : ∀ j x, n ≤ j → H j = some x → H2 j = some x) : Mf H2 l p nm D S n :=
  ⟨h.all, fun k hk' => hk _ _ (h.low k hk' 0 (by omega)) (h.t k hk'), fun k hk' => by obtain ⟨jr, hj⟩ := h.jD k hk'; exact ⟨jr, hk _ _ (h.low k (by simp [hk']) 1 (by omega)) hj⟩, fun k hk' => hk _ _ (h.low k (by simp [hk']) 1 (by omega)) (h.jS k hk'), fun k hk' => hk _ _ (h.low k hk' 2 (by omega)) (h.a k hk'), h.inj, h.low⟩
theorem Mf.lower {H : Nat → Option AObj} {l : List Tch} {p : List Nat} {nm : Nat → Nat → Nat} {D S : List Nat} {n n' : Nat} (h : Mf H l p nm D S n) (hn : n' ≤ n) : Mf H l p nm D S n' := ⟨h.all, h.t, h.jD, h.jS, h.a, h.inj, fun k hk c hc => by have := h.low k hk c hc; omega⟩
set_option maxHeartbeats 3200000 in
theorem keyed_run {m0 : Int} {cs : List AV} (hG : G 4 = .pp (.lit (.int .i64 m0) :: cs)) (hU : GU G) (r : Rls) (hr : RulesOk r) (nz : Bool) (l : List Tch) (h : TouchesOk l) (key : Idn) (hk : checkId key.kind key.text = 0) (hks : key.text.size ≤ 1000) (hex : ∃ q ∈ personsOf r l, q.key = key) (n : Nat) :
    ACalls Tryz.prog G 103 [.agg r.c, .ls nz (l.map Tch.c), .agg key.c] H n fun v H' n' => ∃ p nm g m K ob a k b, Parts (tie (joins r l) l) l.length p ∧ roots p l.length = a ++ k :: b ∧ (∀ j ∈ a, Pp.keyOf (joins r l) (tAt l j) ≠ key) ∧ Pp.keyOf (joins r l) (tAt l k) = key ∧ v = .tup [.op g 0 0, .agg (rowF (joins r l) l p l.length nm k), .int 0] ∧ Grp H' g m r nz l K ob n' ∧ Mf H' l p nm (roots p l.length) [] (n + 1) ∧ Ab.Sub H H' := by
  refine ACalls.start mix F103 (by simp) fun hlow => ?_
  simp (disch := omega) only [↓wpre, push_cast, seval, c103]
  refine AFn.x (checkBoth_ok G _ hG hU r hr nz l h) fun n1 hn1 => ?_
  simp (disch := omega) only [↓wpre, push_cast, seval]
  refine AFn.x (checkId_c G _ hG key.kind key.text (by omega)) fun n2 hn2 => ?_
  simp (disch := omega) only [↓wpre, push_cast, seval, hk]
  refine ACalls.x (ACalls.lowp (newGroup_c G _ r nz l h n2)) fun v H1 n3 ⟨⟨g, m, K, ob, e1, hg, hv, hs, hlt⟩, hn3, _⟩ => ?_
  subst e1
  simp (disch := omega) only [↓wpre, push_cast, seval]
  have hgrp : Grp H1 g m r nz l K ob n3 := ⟨hg, hv, hlt, rulesFew hr, h.few⟩
  refine ACalls.x (ACalls.lowp (members_run G _ hgrp h n3 (Nat.le_refl _))) fun v H2 n4 ⟨⟨p, oid, nm, hp, e1, ho, hmf, hs2⟩, hn4, hl4⟩ => ?_
  subst e1
  have hzero : H2 n = some ⟨147, 5, [[.int 0, .str ⟨#[]⟩, .ls false [], .ls false [], .ls false []]]⟩ := hs2 _ _ (hs _ _ hu_same)
  have hRn : (roots p l.length).length ≤ l.length := by
    have h2 := List.length_filter_le (fun j => decide (par p j = j)) (List.range l.length)
    simpa [roots] using h2
  have hex2 : ∃ k ∈ roots p l.length, Pp.keyOf (joins r l) (tAt l k) = key := by
    obtain ⟨q, hq, e⟩ := hex
    unfold personsOf persFrom at hq
    rw [rootOf_eq hp] at hq
    obtain ⟨k, hk1, rfl⟩ := List.mem_map.1 hq
    exact ⟨k, hk1, e⟩
  have hfew := h.few
  generalize hR : roots p l.length = R at hRn hex2 ho hmf ⊢
  have hal : alen (outAV oid R.length) = some (.int R.length) := by
    cases oid with
    | none =>
      have h1 : R.map (rowF (joins r l) l p l.length nm) = [] := ho
      have h1 : R = [] := by simpa using h1
      rw [h1]; rfl
    | some o => rfl
  simp (disch := omega) only [↓wpre, push_cast, seval, hal]
  refine xw_loopJ (σ := List Nat × List Nat) (fun t => [(5, .pp key.c), (7, .op n 0 0), (11, .op g 0 0), (31, outAV oid R.length), (32, .int R.length), (33, .int t.1.length)]) (fun t H' n' => R = t.1 ++ t.2 ∧ (∀ j ∈ t.1, Pp.keyOf (joins r l) (tAt l j) ≠ key) ∧ Qt H2 H' n4 ∧ n4 ≤ n') (fun t => t.2.length) ([], R) ⟨rfl, fun j hj => (by cases hj), .refl hl4, Nat.le_refl _⟩ (by simp (disch := omega) only [↓wpre, push_cast, seval]; try rfl) ?_
  rintro ⟨D, S⟩ fr H' n5 ⟨hab, hno, hq, hn5⟩ hh
  simp only [has_nil, has_cons, and_true] at hh hab hno
  have hll : R.length = D.length + S.length := by rw [hab]; simp
  cases S with
  | nil =>
    exfalso
    obtain ⟨k, hk1, hk2⟩ := hex2
    exact hno k (by rw [hab] at hk1; simpa using hk1) hk2
  | cons x S =>
    have hlt : (D.length : Int) < R.length := by rw [hll]; simp only [List.length_cons]; omega
    obtain ⟨o, rfl⟩ : ∃ o, oid = some o := by
      cases oid with
      | none =>
        have h1 : R.map (rowF (joins r l) l p l.length nm) = [] := ho
        rw [hab] at h1; simp at h1
      | some o => exact ⟨o, rfl⟩
    have ho1 : H' o = some ⟨147, 5, R.map (rowF (joins r l) l p l.length nm)⟩ := hq.1 _ _ ho
    have hz1 := hq.1 _ _ hzero
    have hD0 : (0 : Int) ≤ D.length := by omega
    have hDn : D.length < R.length := by omega
    have gG : (R.map (rowF (joins r l) l p l.length nm))[D.length]? = some [.int (Pp.keyOf (joins r l) (tAt l x)).kind, .str (Pp.keyOf (joins r l) (tAt l x)).text, .os (nm x 0) 0 (ofRoot p l.length x).length, .os (nm x 1) 0 (setOf (il l p l.length x)).length, .os (nm x 2) 0 (ofRoot p l.length x).length] := by
      rw [hab]; simp [rowF]
    have hout : outAV (some o) R.length = .os o 0 R.length := rfl
    have hd := idn_dec (Pp.keyOf (joins r l) (tAt l x)) key
    by_cases hkx : Pp.keyOf (joins r l) (tAt l x) = key
    · have hd1 := hd.trans (decide_eq_true hkx)
      simp (disch := omega) only [↓wpre, push_cast, seval, hh, hlt, hout, ho1, hD0, hDn, gG, hd1, hz1, Int.toNat_natCast]
      refine anyN_intro fun n6 hn6 => ?_
      simp (disch := omega) only [↓wpre, push_cast, seval, hh]
      have hnn : n < n5 := by omega
      refine fin_intro (Sub.refl _) ⟨p, nm, g, m, K, ob, D, x, S, hp, by rw [hR]; exact hab, hno, hkx, by simp [rowF], ?_, ?_, ?_⟩
      · have hg9 : Grp H' g m r nz l K ob n3 := (hgrp.sub hs2).sub hq.1
        refine Grp.mono (hg9.skip hz1 (by decide) fun j y hl hj hy => ?_) (by omega)
        rw [hu_ne hj]
        repeat rw [hu_ne (by omega)]
        exact hy
      · rw [hR]
        refine Mf.lower (n := n3) (Mf.far hmf fun j y hj hy => ?_) (by omega)
        have := hl4 j y hy
        repeat rw [hu_ne (by omega)]
        exact hq.1 _ _ hy
      · intro j y hy
        have := hlow j y hy
        repeat rw [hu_ne (by omega)]
        exact hq.1 _ _ (hs2 _ _ (hs _ _ (by rw [hu_ne (by omega)]; exact hy)))
    · have hd1 := hd.trans (decide_eq_false hkx)
      simp (disch := omega) only [↓wpre, push_cast, seval, hh, hlt, hout, ho1, hD0, hDn, gG, hd1, Int.toNat_natCast]
      refine againJ (D ++ [x], S) (Nat.lt_succ_self _) ⟨by rw [hab]; simp, fun j hj => ?_, by exact Qt.mono (n := n4) (by repeat (first | exact hq | refine Qt.hu ?_ (by omega))) (by omega), by omega⟩ (by simp (disch := omega) only [↓wpre, push_cast, seval, hh, hout]; all_goals (try simp only [AV.lit.injEq, Value.int.injEq, Value.bool.injEq, true_and, and_true]); all_goals (try (repeat' apply And.intro)); all_goals (first | rfl | omega | simp_all | skip))
      rcases List.mem_append.1 hj with hj | hj
      · exact hno j hj
      · simp only [List.mem_singleton] at hj; subst hj; exact hkx
/-! slices.Max, slices.Clone and slices.SortFunc for lists of a group. -/
theorem maxOf_snoc (d : List Nat) (x : Nat) : maxOf (d ++ [x]) = max (maxOf d) x := by simp [maxOf]
set_option maxHeartbeats 1600000 in
theorem maxN_c (nz : Bool) (q : List Nat) (hl : q.length ≤ 1000000) (h0 : 0 < q.length) : AFn Tryz.prog G 105 [.ls nz (nats q)] H (.int (maxOf q : Nat)) := by
  refine AFn.start mix F105 (by simp) fun k hlow => ?_
  have hlen : (nats q).length = q.length := nats_len q
  obtain ⟨y, s0, rfl⟩ : ∃ y s, q = y :: s := by
    cases q with
    | nil => simp at h0
    | cons y s => exact ⟨y, s, rfl⟩
  have h1 : ¬ ((y :: s0).length : Int) < 1 := by simp only [List.length_cons]; omega
  have e0 : (0 : Int) = ((0 : Nat) : Int) := rfl
  have hget : (nats (y :: s0))[0]? = some [AV.int (y : Nat)] := rfl
  have hm0 : maxOf [y] = y := by simp [maxOf]
  have hev := even_nats (y :: s0)
  generalize hq : y :: s0 = q at *
  have hidx : ∀ H : Nat → Option AObj, aidx H 1 (.ls nz (nats q)) (.int 0) = some (.pp [AV.int (y : Nat)]) := fun H => by
    simp only [aidx]
    rw [if_pos (by decide)]
    simp [hget]
  simp (disch := omega) only [↓wpre, push_cast, seval, c105, hlen, h1, hev, hidx]
  refine xw_loopJ (σ := List Nat × List Nat) (fun t => [(0, .ls nz (nats q)), (3, .int (maxOf t.1 : Nat)), (4, .int t.1.length)]) (fun t H' n' => q = t.1 ++ t.2 ∧ 0 < t.1.length ∧ Qt H H' k) (fun t => t.2.length) ([y], s0) ⟨hq.symm, by simp, .refl hlow⟩ (by simp (disch := omega) only [↓wpre, push_cast, seval, hm0]; try rfl) ?_
  rintro ⟨d, s⟩ fr H' n1 ⟨hab, hd, hqt⟩ hh
  simp only [has_nil, has_cons, and_true] at hh hab hd
  have hll : q.length = d.length + s.length := by rw [hab]; simp
  cases s with
  | nil =>
    have hlt : ¬ (d.length : Int) < q.length := by rw [hll]; simp
    have hdq : d = q := by rw [hab]; simp
    simp (disch := omega) only [↓wpre, push_cast, seval, hh, hlen, hlt]
    rw [hdq]
    exact ⟨rfl, hqt.1⟩
  | cons x s =>
    have hlt : (d.length : Int) < q.length := by rw [hll]; simp only [List.length_cons]; omega
    have hx : (nats q)[d.length]? = some [AV.int (x : Nat)] := by rw [hab]; simp [nats]
    have hix : ∀ H : Nat → Option AObj, aidx H 1 (.ls nz (nats q)) (.int d.length) = some (.pp [AV.int (x : Nat)]) := fun H => by
      simp only [aidx]
      rw [if_pos (by omega)]
      simp [hx]
    have em : max ((maxOf d : Nat) : Int) (x : Nat) = ((maxOf (d ++ [x]) : Nat) : Int) := by rw [maxOf_snoc]; omega
    simp (disch := omega) only [↓wpre, push_cast, seval, hh, hlen, hlt, hev, hix, em]
    refine againJ (d ++ [x], s) (Nat.lt_succ_self _) ⟨by rw [hab]; simp, by simp, hqt⟩ (by simp (disch := omega) only [↓wpre, push_cast, seval, hh]; all_goals (try simp only [AV.lit.injEq, Value.int.injEq, Value.bool.injEq, true_and, and_true]); all_goals (try (repeat' apply And.intro)); all_goals (first | rfl | omega | simp_all | skip))
set_option maxHeartbeats 1600000 in
theorem cloneL_c (nz : Bool) (d : List Idn) (hnz : nz = false → d = []) (hl : d.length ≤ 1000000) (n : Nat) : ACalls Tryz.prog G 34 [.ls nz (d.map Idn.c)] H n fun r H' n' => ∃ oid', r = outAV oid' d.length ∧ OutIs n H' oid' 55 2 (d.map Idn.c) n' ∧ Ab.Sub H H' := by
  refine ACalls.start mix F34 (by simp) fun hlow => ?_
  have hq := Qt.refl hlow
  cases nz with
  | false =>
    have h0 := hnz rfl
    subst h0
    simp (disch := omega) only [↓wpre, push_cast, seval, c34]
    exact fin_intro (Ab.Sub.refl _) ⟨none, rfl, rfl, Ab.Sub.refl _⟩
  | true =>
    simp (disch := omega) only [↓wpre, push_cast, seval, c34]
    cases d with
    | nil =>
      rw [List.map_nil, xapp_zero rfl]
      simp (disch := omega) only [↓wpre, push_cast, seval]
      refine fin_intro (Ab.Sub.refl _) ⟨some n, rfl, ⟨hu_same, Nat.le_refl _, by omega⟩, by exact (Qt.mono (n := n) (by repeat (first | exact hq | refine Qt.hu ?_ (by omega))) (Nat.le_refl _)).1⟩
    | cons x d =>
      rw [xapp_src (ho := hu_same) (by simp) rfl (by have := even_ids (x :: d); simpa using this) (by simp) (by simp at hl ⊢; omega)]
      simp (disch := omega) only [↓wpre, push_cast, seval]
      refine fin_intro (Ab.Sub.refl _) ⟨some (n + 1), by simp [outAV], ⟨?_, by omega, by omega⟩, ((hq.1.hu hlow (Nat.le_refl _)).hu hlow (Nat.le_refl _)).hu hlow (by omega)⟩
      rw [hu_same]
      try simp
theorem sortA_c (wid : Option Nat) (W : List Idn) (n0 n : Nat) (ho : OutIs n0 H wid 55 2 (W.map Idn.c) n) (hl : W.length ≤ 1000000) : ACalls Tryz.prog G 35 [outAV wid W.length, .fn (.func 36) []] H n fun r H' n' => r = .tup [] ∧ ∃ W', SortedI W W' ∧ W'.length = W.length ∧ OutIs n0 H' wid 55 2 (W'.map Idn.c) n ∧ ∀ j, wid ≠ some j → H' j = H j := by
  cases wid with
  | none =>
    have h0 : W.map Idn.c = [] := ho
    have h0 : W = [] := by simpa using h0
    subst h0
    exact (sortNilG_c G H (.fn (.func 36) []) n).mono fun r H' n' ⟨h1, h2⟩ => ⟨h1, [], ⟨List.Perm.refl _, .nil⟩, rfl, rfl, fun j _ => by rw [h2]⟩
  | some o =>
    exact (sortI_c G H W [] o (by rw [List.append_nil]; exact ho.1) hl n).mono fun r H' n' ⟨h1, W', h2, h3, h4⟩ => ⟨h1, W', h2, h3, ⟨by rw [h4, hu_same, List.append_nil], ho.2.1, ho.2.2⟩, fun j hj => by rw [h4]; exact hu_ne (fun e => hj (by rw [e]))⟩
theorem ACalls.give1 {f : FuncId} {args args' : List AV} {n : Nat} {R : AV → (Nat → Option AObj) → Nat → Prop} {i : Nat} {o : AObj} (hi : H i = some o) (k : Nat) (ha : args.map (frz (Ab.only i o) k) = args') (h : ACalls Tryz.prog G f args' (hu H i none) n R) : ACalls Tryz.prog G f args H n R :=
  ACalls.give (Ab.only i o) k (hu H i none) (only_sub hi) (fun j x hj => by
    unfold Ab.only at hj
    split at hj
    · rename_i e; rw [e]; exact hu_same
    · cases hj) (fun j x hj => by
    by_cases e : j = i
    · rw [e, hu_same] at hj; cases hj
    · rw [hu_ne e] at hj
      exact ⟨x, hj, rfl, rfl, .inl rfl⟩) ha h
theorem e152 : (152 : TypeId) ≠ 300 ∧ (152 : TypeId) ≠ 3 := by decide
abbrev zT : List AV := [.int 0, .int 0, .str ⟨#[]⟩, .ls false [], .ls false []]
theorem Hv.skip {H H2 : Nat → Option AObj} {m : Nat} {f : Idn → List Nat} {K : List Idn} {ob : Idn → Nat} {N i : Nat} {o : AObj} (h : Hv H m f K ob N) (hi : H i = some o) (hE : o.E ≠ 300 ∧ o.E ≠ 3) (hk : ∀ j x, j < N → j ≠ i → H j = some x → H2 j = some x) : Hv H2 m f K ob N := by
  have ne : ∀ j (x : AObj), j < N → H j = some x → x.E = 300 ∨ x.E = 3 → H2 j = some x := fun j x hl hj hx => hk j x hl (fun e => by
    subst e
    rw [hi] at hj
    cases hj
    rcases hx with hx | hx
    · exact hE.1 hx
    · exact hE.2 hx) hj
  exact ⟨ne _ _ h.low.1 h.map (.inl rfl), fun x hx => ne _ _ (h.low.2 x hx) (h.obj x hx) (.inr rfl), h.keys, h.all, h.inj, h.low⟩
theorem frS_nil {D : Nat → Option AObj} {kk : Nat} {fr : Nat → AV} : frS D kk [] fr = fr := funext fun _ => rfl
theorem setOf_len : ∀ l : List Idn, (setOf l).length ≤ l.length
  | [] => Nat.le_refl _
  | x :: l => by
    have h1 := setOf_len l
    have h2 : ∀ m : List Idn, (insId x m).length ≤ m.length + 1 := fun m => by
      induction m with
      | nil => simp [insId]
      | cons y m ih =>
        unfold insId
        split
        · simp
        · split
          · simp
          · simp only [List.length_cons]; omega
    have h3 := h2 (setOf l)
    show (insId x (setOf l)).length ≤ _
    rw [List.length_cons]; omega
theorem frz1_id {D : Nat → Option AObj} (rows : List (List AV)) : rows.map (List.map (frz D 0)) = rows := frz0_map rows
theorem frz0_cells {D : Nat → Option AObj} (cs : List AV) : cs.map (frz D 0) = cs := by
  have : frz D 0 = id := funext fun v => by simp [frz]
  rw [this]; simp
theorem frz1_os {D : Nat → Option AObj} {i len : Nat} {o : AObj} (h : D i = some o) (hl : len = o.rows.length) : frz D 1 (.os i 0 len) = .ls true o.rows := by
  subst hl
  simp only [frz, h]
  rw [if_pos (by omega), List.drop_zero, List.take_length]
  congr 1
  exact frz1_id (D := D) _
theorem frz1_agg {D : Nat → Option AObj} (cs : List AV) : frz D 1 (.agg cs) = .agg cs := by
  show AV.agg (cs.map (frz D 0)) = _
  rw [frz0_cells]
theorem frz1_ls {D : Nat → Option AObj} (nz : Bool) (rows : List (List AV)) : frz D 1 (.ls nz rows) = .ls nz rows := by
  show AV.ls nz (rows.map (List.map (frz D 0))) = _
  rw [frz1_id]
theorem frz_out {wid : Option Nat} {W : List Idn} {H6 : Nat → Option AObj} {n0 n : Nat} (h : OutIs n0 H6 wid 55 2 (W.map Idn.c) n) : frz (fun j => if wid = some j then H6 j else none) 1 (outAV wid W.length) = .ls wid.isSome (W.map Idn.c) := by
  cases wid with
  | none =>
    have h0 : W.map Idn.c = [] := h
    rw [h0]; rfl
  | some o =>
    exact frz1_os (o := ⟨55, 2, W.map Idn.c⟩) (by simp [h.1]) (by simp)
theorem own_fill {l : List Tch} {C : List Nat} {j i : Nat} (hj : C[j]? = some i) : ((C.take j).map (fun i => (tAt l i).c) ++ List.replicate (C.length - j) zT).set j (tAt l i).c = (C.take (j + 1)).map (fun i => (tAt l i).c) ++ List.replicate (C.length - (j + 1)) zT := by
  have hl := (List.getElem?_eq_some_iff.1 hj).1
  obtain ⟨k, hk⟩ : ∃ k, C.length - j = k + 1 := ⟨C.length - j - 1, by omega⟩
  have e : ((C.take j).map fun i => (tAt l i).c).length = j := by simp; omega
  rw [hk, List.replicate_succ, List.set_append_right _ _ (by omega), e, Nat.sub_self, List.set_cons_zero, List.take_add_one, hj, show C.length - (j + 1) = k from by omega]
  simp
theorem own_zero {l : List Tch} {C : List Nat} {j : Nat} (hj : j < C.length) : ((C.take j).map (fun i => (tAt l i).c) ++ List.replicate (C.length - j) zT)[j]? = some zT := by
  have e : ((C.take j).map fun i => (tAt l i).c).length = j := by simp; omega
  rw [List.getElem?_append_right (by omega), e, Nat.sub_self, List.getElem?_replicate, if_pos (by omega)]
set_option maxHeartbeats 12800000 in
theorem cuts_run {m0 : Int} {cs : List AV} (hG : G 4 = .pp (.lit (.int .i64 m0) :: cs)) (hU : GU G) (r : Rls) (hr : RulesOk r) (hnz : r.nzw = false → r.weak = []) (nz : Bool) (l : List Tch) (h : TouchesOk l) (key : Idn) (hk : checkId key.kind key.text = 0) (hks : key.text.size ≤ 1000) (hex : ∃ q ∈ personsOf r l, q.key = key) (n : Nat) :
    ACalls Tryz.prog G 33 [.agg r.c, .ls nz (l.map Tch.c), .agg key.c] H n fun v H' n' => ∃ p a k b cid, Parts (tie (joins r l) l) l.length p ∧ roots p l.length = a ++ k :: b ∧ (∀ j ∈ a, Pp.keyOf (joins r l) (tAt l j) ≠ key) ∧ Pp.keyOf (joins r l) (tAt l k) = key ∧ v = .tup [outAV cid (cutsOf r l p k).length, .int 0] ∧ OutIs n H' cid 55 2 ((cutsOf r l p k).map Idn.c) n' ∧ (cid ≠ none → cutsOf r l p k ≠ []) ∧ Ab.Sub H H' := by
  refine ACalls.start mix F33 (by simp) fun hlow => ?_
  simp (disch := omega) only [↓wpre, push_cast, seval, c33]
  refine ACalls.x (ACalls.lowp (keyed_run G _ hG hU r hr nz l h key hk hks hex n)) fun v H1 n1 ⟨⟨p, nm, g, m, K, ob, a, k, b, hp, hab, hno, hkk, e1, hgrp, hmf, hs1⟩, hn1, hl1⟩ => ?_
  simp only [rowF] at e1
  subst e1
  have hkr : k ∈ roots p l.length := by rw [hab]; simp
  obtain ⟨jr, hids⟩ := hmf.jD k hkr
  have hC := hmf.a k (by simp [hkr])
  have hkC : k ∈ ofRoot p l.length k := mem_ofRoot.2 (mem_roots.1 hkr)
  have hCl := ofRoot_len p l.length k
  have hC0 := List.length_pos_of_mem hkC
  have hlfew := h.few
  have hownk := ownOk h p k
  have hownl := ownOf_len l p k
  have hwf := hr.wfew
  have hidl : (setOf (il l p l.length k)).length ≤ 20000 := by
    have h1 := setOf_len (il l p l.length k)
    have h2 := il_len (fun t ht => (h.each t ht).few) p l.length k
    omega
  have hrf := rulesFew hr
  have hown0 : (ownOf l p k).map Tch.c = (ofRoot p l.length k).map fun i => (tAt l i).c := by simp [ownOf]
  have hcuts : ∀ d nz W, Rises W → (∀ x, x ∈ W ↔ x ∈ innerW r l (setOf (il l p l.length k))) → d = setOf (il l p l.length k) → (d.filter fun x => cutB (innerR r (ownOf l p k) nz W) (ownOf l p k) x) = cutsOf r l p k := fun d nz W h1 h2 h3 => by
    subst h3
    unfold cutsOf
    refine List.filter_congr fun x hx => ?_
    exact cutB_same h1 (innerW_rises _ _ _) h2 x
  have hix := hl1 _ _ hids
  have hcx := hl1 _ _ hC
  have hCm : ∀ i ∈ ofRoot p l.length k, i < l.length := fun i hi => (mem_ofRoot.1 hi).1
  generalize nm k 0 = tx
  generalize nm k 1 = ix at hids hix ⊢
  generalize nm k 2 = cx at hC hcx ⊢
  clear hmf
  generalize hownE : ownOf l p k = own at hownk hownl hown0 hcuts
  generalize hidE : setOf (il l p l.length k) = ids at hids hidl hcuts ⊢
  generalize hCE : ofRoot p l.length k = C at hC hCl hC0 hown0 hownl hCm ⊢
  simp (disch := omega) only [↓wpre, push_cast, seval]
  rw [xmake_int (by omega) (by omega) (by omega) (by omega)]
  simp (disch := omega) only [↓wpre, push_cast, seval, Int.toNat_natCast]
  have hq := Qt.refl hl1
  refine xw_loopJ (σ := Nat) (fun j => [(1, .ls nz (l.map Tch.c)), (3, .pp r.c), (8, .op g 0 0), (9, .op n1 0 0), (11, .os (n1 + 1) 0 C.length), (36, .os cx 0 C.length), (37, .int C.length), (38, .int j)]) (fun j H' n' => j ≤ C.length ∧ H' (n1 + 1) = some ⟨53, 5, (C.take j).map (fun i => (tAt l i).c) ++ List.replicate (C.length - j) zT⟩ ∧ H' n1 = some ⟨147, 5, [[.int (Pp.keyOf (joins r l) (tAt l k)).kind, .str (Pp.keyOf (joins r l) (tAt l k)).text, .os tx 0 C.length, .os ix 0 ids.length, .os cx 0 C.length]]⟩ ∧ Qt H1 H' n1 ∧ n1 + 2 ≤ n') (fun j => C.length - j) 0 ⟨Nat.zero_le _, by rw [hu_same]; simp, by rw [hu_ne (by omega), hu_same], by exact Qt.mono (n := n1) (by repeat (first | exact hq | refine Qt.hu ?_ (by omega))) (by omega), by omega⟩ (by simp (disch := omega) only [↓wpre, push_cast, seval]; try rfl) ?_
  clear hq
  rintro j fr H' n2 ⟨hj, hown, hb, hq, hn2⟩ hh
  simp only [has_nil, has_cons, and_true] at hh hj hown hb
  by_cases hlt : (j : Int) < C.length
  · have hjl : j < C.length := by omega
    have hj0 : (0 : Int) ≤ j := by omega
    have hC1 := hq.1 _ _ hC
    obtain ⟨i, hi⟩ : ∃ i, C[j]? = some i := ⟨_, List.getElem?_eq_getElem hjl⟩
    have hil := hCm i (List.mem_of_getElem? hi)
    have hx : l[i]? = some (tAt l i) := by rw [tAt_get (List.getElem?_eq_getElem hil)]; exact List.getElem?_eq_getElem hil
    have gC : (nats C)[j]? = some [AV.int (i : Nat)] := by rw [nats, List.getElem?_map, hi]; rfl
    have gO := own_zero (l := l) hjl
    have gS := own_fill (l := l) hi
    simp (disch := omega) only [↓wpre, push_cast, seval, hh, hlt, hC1, gC, hj0, hjl, even_tch, aidx_at rfl hx, hown, gO, gS, Int.toNat_natCast]
    refine againJ (j + 1) (by omega) ⟨by omega, by rw [hu_same], by simp (disch := omega) only [↓wpre, push_cast, seval, hb], by exact Qt.mono (n := n1) (by repeat (first | exact hq | refine Qt.hu ?_ (by omega))) (by omega), by omega⟩ (by simp (disch := omega) only [↓wpre, push_cast, seval, hh]; all_goals (try simp only [AV.lit.injEq, Value.int.injEq, Value.bool.injEq, true_and, and_true]); all_goals (try (repeat' apply And.intro)); all_goals (first | rfl | omega | simp_all | skip))
  have hjC : j = C.length := by omega
  subst hjC
  have hown : H' (n1 + 1) = some ⟨53, 5, own.map Tch.c⟩ := by rw [hown, hown0]; simp
  simp (disch := omega) only [↓wpre, push_cast, seval, hh, hlt]
  have hga : [AV.agg r.c, AV.os (n1 + 1) 0 C.length].map (frz (Ab.only (n1 + 1) ⟨53, 5, own.map Tch.c⟩) 1) = [.agg r.c, .ls true (own.map Tch.c)] := by
    rw [List.map_cons, List.map_cons, List.map_nil, frz1_agg, frz1_os (o := ⟨53, 5, own.map Tch.c⟩) (if_pos rfl) (by simp; omega)]
  refine ACalls.x (ACalls.lowp (ACalls.give1 G _ hown 1 hga (newGroup_w G _ r true own hownk n2))) fun v H3 n3 ⟨⟨g2, m2, K2, ob2, e1, hg2, hv2, hs2, hg2n, hge, hgm, hgo⟩, hn3, hl3⟩ => ?_
  subst e1
  have hq3 : Qt H1 H3 n1 := ⟨fun j y hy => hs2 _ _ (by rw [hu_ne (by have := hq.2 j y hy; omega)]; exact hq.1 _ _ hy), hq.2⟩
  have hb3 := hs2 _ _ (show hu H' (n1 + 1) none n1 = _ by rw [hu_ne (by omega)]; exact hb)
  clear hq hb hown
  simp (disch := omega) only [↓wpre, push_cast, seval, hh, hg2]
  refine ACalls.x (ACalls.lowp (cloneL_c G _ r.nzw r.weak hnz (by omega) n3)) fun v H4 n4 ⟨⟨wid, e1, hw0, hs4⟩, hn4, hl4⟩ => ?_
  subst e1
  have hg4 := hs4 _ _ hu_same
  have hk4 : ∀ j y, j ≠ g2 → H3 j = some y → H4 j = some y := fun j y hj hy => hs4 _ _ (by rw [hu_ne hj]; exact hy)
  have hb4 := hk4 n1 _ (by omega) hb3
  have hq4 : Qt H1 H4 n1 := ⟨fun j y hy => hk4 j y (by have := hq3.2 j y hy; omega) (hq3.1 _ _ hy), hq3.2⟩
  have hmx : max (C.length : Int) 2 = ((max own.length 2 : Nat) : Int) := by omega
  rw [hmx] at hg4
  have hWf := wkOf_len r l
  simp (disch := omega) only [↓wpre, push_cast, seval, hh, hg4, hb4, hmx]
  refine xw_loopJ (σ := List Idn × List Idn × Option Nat) (fun t => [(3, .pp r.c), (8, .op g 0 0), (9, .op n1 0 0), (14, .op g2 0 0), (70, .os ix 0 ids.length), (71, .int ids.length), (72, .int t.1.length)]) (fun t H' n' => ids = t.1 ++ t.2.1 ∧ H' g2 = some ⟨152, 6, [[.ls r.nzk (r.kinds.map fun x => [AV.int x]), .int ((max own.length 2 : Nat) : Int), outAV t.2.2 (wkOf r l t.1).length, .ls r.nzs (r.srv.map Srv.c), .ls true (own.map Tch.c), .om m2]]⟩ ∧ OutIs n3 H' t.2.2 55 2 ((wkOf r l t.1).map Idn.c) n' ∧ Hv H' m2 (occ own) K2 ob2 n3 ∧ H' n1 = some ⟨147, 5, [[.int (Pp.keyOf (joins r l) (tAt l k)).kind, .str (Pp.keyOf (joins r l) (tAt l k)).text, .os tx 0 C.length, .os ix 0 ids.length, .os cx 0 C.length]]⟩ ∧ Qt H1 H' n1 ∧ n4 ≤ n') (fun t => t.2.1.length) ([], ids, wid) ⟨rfl, by rw [hu_same, wkOf_nil], OutIs.put (by rw [wkOf_nil]; exact hw0) hg2n, Hv.skip hv2 hg2 e152 fun j y _ hj hy => by rw [hu_ne hj]; exact hk4 j y hj hy, by rw [hu_ne (by omega)]; exact hb4, by exact Qt.hu hq4 (by omega), Nat.le_refl _⟩ (by simp (disch := omega) only [↓wpre, push_cast, seval, hh]; try rfl) ?_
  clear hh hg4 hb4 hq4 hw0 hk4 hs4 hl4 hb3 hq3
  rintro ⟨d, s, wid⟩ fr H' n5 ⟨hds, hg5, hw5, hv5, hb5, hq, hn5⟩ hh
  simp only [has_nil, has_cons, and_true] at hh hds hg5 hw5 hv5 hb5
  have hll : ids.length = d.length + s.length := by rw [hds]; simp
  have hwne : ∀ j, j < n3 → wid ≠ some j := fun j hj e => by rw [e] at hw5; have := hw5.2.1; omega
  have hWd := hWf d
  cases s with
  | cons x s =>
    have hlt : (d.length : Int) < ids.length := by rw [hll]; simp only [List.length_cons]; omega
    have hd0 : (0 : Int) ≤ d.length := by omega
    have hdl : d.length < ids.length := by omega
    have hid1 := hq.1 _ _ hids
    have gx : (ids.map Idn.c ++ jr)[d.length]? = some x.c := by rw [hds]; simp
    have hgr := (hgrp.sub hq.1).row
    have hm := (hgrp.sub hq.1).hv.map
    have hlen : ∃ v, lookRes false (.ls false []) (mget (K.map fun x => [AV.agg x.c, AV.os (ob x) 0 (occ l x).length]) (.agg x.c)) = v ∧ alen v = some (.int (occ l x).length) := by
      by_cases hx : x ∈ K
      · rw [hgrp.hv.look hx]; exact ⟨_, rfl, rfl⟩
      · have : occ l x = [] := Classical.byContradiction fun h0 => hx ((hgrp.hv.all x).1 h0)
        rw [hgrp.hv.lookN hx, this]; exact ⟨_, rfl, rfl⟩
    obtain ⟨v, hlv, hal⟩ := hlen
    have hgn := hgrp.lt
    have hmn := hgrp.hv.low.1
    simp (disch := omega) only [↓wpre, push_cast, seval, hh, hlt, hid1, gx, hd0, hdl, Int.toNat_natCast]
    refine xw_nreg noH (of_eq_true (sub_noH _)) ?_
    simp (disch := omega) only [↓wpre, push_cast, seval, hh, hgr, hm, hlv, hal]
    by_cases hbig : r.most < ((occ l x).length : Int)
    · have hbs := wkOf_big hbig d
      simp (disch := omega) only [↓wpre, push_cast, seval, hbig]
      refine xw_nreg noH (of_eq_true (sub_noH _)) ?_
      simp (disch := omega) only [↓wpre, push_cast, seval, hh, hg5]
      refine xapp_outN (n0 := n3) (rows := (wkOf r l d).map Idn.c) (keepO hw5 (fun o ho => by
        rw [ho] at hw5
        have := hw5.2.2
        repeat rw [hu_ne (by omega)]) (by omega)) (by simp) (by intro r hr; simp at hr; subst hr; exact ⟨rfl, rfl⟩) (by simp only [List.length_map]; omega) fun HN hN hNj => ?_
      have hk5 : ∀ j y, j < n5 → wid ≠ some j → H' j = some y → HN j = some y := fun j y h1 h2 hy => by
        rw [hNj j (by omega) h2]
        repeat rw [hu_ne (by omega)]
        exact hy
      have hNg := hk5 g2 _ (by omega) (hwne g2 hg2n) hg5
      simp (disch := omega) only [↓wpre, push_cast, seval, hh, hNg]
      refine againJ (d ++ [x], s, some (n5 + 1)) (Nat.lt_succ_self _) ⟨by rw [hds]; simp, by rw [hu_same, hbs]; simp [outAV], ⟨?_, by omega, by omega⟩, ?_, ?_, ?_, by omega⟩ (by simp (disch := omega) only [↓wpre, push_cast, seval, hh]; all_goals (try simp only [AV.lit.injEq, Value.int.injEq, Value.bool.injEq, true_and, and_true]); all_goals (try (repeat' apply And.intro)); all_goals (first | rfl | omega | simp_all | skip))
      · rw [hu_ne (by omega), hN, hbs]; simp
      · exact Hv.skip hv5 hg5 e152 fun j y h1 h2 hy => by rw [hu_ne h2]; exact hk5 j y (by omega) (hwne j h1) hy
      · rw [hu_ne (by omega)]; exact hk5 n1 _ (by omega) (hwne n1 (by omega)) hb5
      · refine Qt.hu ⟨fun j y hy => ?_, hq.2⟩ (by omega)
        have := hq.2 j y hy
        exact hk5 j y (by omega) (hwne j (by omega)) (hq.1 _ _ hy)
    · have hbs := wkOf_small hbig d
      simp (disch := omega) only [↓wpre, push_cast, seval, hh, hbig]
      refine againJ (d ++ [x], s, wid) (Nat.lt_succ_self _) ⟨by rw [hds]; simp, ?_, ?_, ?_, ?_, by exact Qt.mono (n := n1) (by repeat (first | exact hq | refine Qt.hu ?_ (by omega))) (by omega), by omega⟩ (by simp (disch := omega) only [↓wpre, push_cast, seval, hh]; all_goals (try simp only [AV.lit.injEq, Value.int.injEq, Value.bool.injEq, true_and, and_true]); all_goals (try (repeat' apply And.intro)); all_goals (first | rfl | omega | simp_all | skip))
      · dsimp only; rw [hbs, ← hg5]; repeat rw [hu_ne (by omega)]
      · dsimp only; rw [hbs]
        exact keepO hw5 (fun o ho => by
          rw [ho] at hw5
          have := hw5.2.2
          repeat rw [hu_ne (by omega)]) (by omega)
      · refine Hv.skip hv5 hg5 e152 fun j y h1 h2 hy => ?_
        repeat rw [hu_ne (by omega)]
        exact hy
      · rw [← hb5]; repeat rw [hu_ne (by omega)]
  | nil =>
    have hlt : ¬ (d.length : Int) < ids.length := by rw [hll]; simp
    have hdi : d = ids := by rw [hds]; simp
    subst hdi
    simp (disch := omega) only [↓wpre, push_cast, seval, hh, hlt, hg5]
    refine ACalls.x (ACalls.lowp (sortA_c G _ wid (wkOf r l d) n3 n5 hw5 (by omega))) fun v H6 n6 ⟨⟨e1, W, hsrt, hWl, hw6, hk6⟩, hn6, hl6⟩ => ?_
    subst e1
    have hg6 : H6 g2 = _ := (hk6 g2 (hwne g2 hg2n)).trans hg5
    have hb6 : H6 n1 = _ := (hk6 n1 (hwne n1 (by omega))).trans hb5
    have hv6 : Hv H6 m2 (occ own) K2 ob2 n3 := hv5.keep fun j hj => hk6 j (hwne j hj)
    have hq6 : Qt H1 H6 n1 := ⟨fun j y hy => by have := hq.2 j y hy; rw [hk6 j (hwne j (by omega))]; exact hq.1 _ _ hy, hq.2⟩
    simp (disch := omega) only [↓wpre, push_cast, seval, hh, hb6]
    have hid6 := hq6.1 _ _ hids
    have hWm : ∀ x, x ∈ W ↔ x ∈ innerW r l d := fun x => by
      rw [hsrt.perm.mem_iff, mem_wkOf]
    rw [← hWl] at hg6
    have hct := hcuts d wid.isSome W hsrt.sorted hWm rfl
    have hgz : (fun j => if j = g2 then some (⟨152, 6, [grpRow (innerR r own wid.isSome W) true own m2]⟩ : AObj) else if wid = some j then none else H6 j) g2 = some ⟨152, 6, [grpRow (innerR r own wid.isSome W) true own m2]⟩ := if_pos rfl
    have hkz : ∀ j y, j ≠ g2 → wid ≠ some j → H6 j = some y → (fun j => if j = g2 then some (⟨152, 6, [grpRow (innerR r own wid.isSome W) true own m2]⟩ : AObj) else if wid = some j then none else H6 j) j = some y := fun j y h1 h2 hy => by
      show (if j = g2 then _ else if wid = some j then none else H6 j) = _
      rw [if_neg h1, if_neg h2]; exact hy
    have hlz : Low (fun j => if j = g2 then some (⟨152, 6, [grpRow (innerR r own wid.isSome W) true own m2]⟩ : AObj) else if wid = some j then none else H6 j) n6 := fun j y hy => by
      by_cases e : j = g2
      · omega
      · by_cases e2 : wid = some j
        · simp only [if_neg e, if_pos e2] at hy; cases hy
        · simp only [if_neg e, if_neg e2] at hy; exact hl6 j y hy
    have hback : ∀ j y, j ≠ g2 → (fun j => if j = g2 then some (⟨152, 6, [grpRow (innerR r own wid.isSome W) true own m2]⟩ : AObj) else if wid = some j then none else H6 j) j = some y → wid ≠ some j ∧ H6 j = some y := fun j y h1 hy => by
      by_cases e2 : wid = some j
      · simp only [if_neg h1, if_pos e2] at hy; cases hy
      · simp only [if_neg h1, if_neg e2] at hy; exact ⟨e2, hy⟩
    generalize hHz : (fun j => if j = g2 then some (⟨152, 6, [grpRow (innerR r own wid.isSome W) true own m2]⟩ : AObj) else if wid = some j then none else H6 j) = Hz at hgz hkz hlz hback
    have hvz : Hv Hz m2 (occ own) K2 ob2 n3 := Hv.skip hv6 hg6 e152 fun j y h1 h2 hy => hkz j y h2 (hwne j h1) hy
    have hgrp2 : Grp Hz g2 m2 (innerR r own wid.isSome W) true own K2 ob2 n3 := ⟨hgz, hvz, hg2n, ⟨hrf.k, by show W.length ≤ _; omega⟩, hownk.few⟩
    have hidz : Hz ix = some ⟨55, 2, d.map Idn.c ++ jr⟩ := hkz _ _ (by omega) (hwne ix (by omega)) hid6
    have hsz : Ab.Sub H1 Hz := fun j y hy => by
      have := hl1 j y hy
      exact hkz j y (by omega) (hwne j (by omega)) (hq6.1 _ _ hy)
    clear hids hds hll hWd hlt
    refine xw_loopZ (σ := List Idn × List Idn × Option Nat) (fun t => [(14, .op g2 0 0), (17, outAV t.2.2 (t.1.filter fun x => cutB (innerR r own wid.isSome W) own x).length), (107, .os ix 0 d.length), (108, .int d.length), (109, .int t.1.length)]) (fun t H' n' => d = t.1 ++ t.2.1 ∧ OutIs n6 H' t.2.2 55 2 ((t.1.filter fun x => cutB (innerR r own wid.isSome W) own x).map Idn.c) n' ∧ (t.2.2 ≠ none → (t.1.filter fun x => cutB (innerR r own wid.isSome W) own x) ≠ []) ∧ Qt Hz H' n6 ∧ n6 ≤ n') (fun t => t.2.1.length) ([], d, none) (fun j => if wid = some j then H6 j else none) 1 [] Hz ?_ ?_ ?_ ⟨rfl, rfl, fun h => absurd rfl h, .refl hlz, Nat.le_refl _⟩ ?_ ?_
    · intro j y hy
      try dsimp only at hy
      split at hy
      · exact hy
      · cases hy
    · intro j y hy
      try dsimp only at hy
      split at hy
      · rename_i e
        by_cases e1 : j = g2
        · exact absurd (by rw [← e1]; exact e) (hwne g2 hg2n)
        · cases hz : Hz j with
          | none => rfl
          | some y => exact absurd e (hback j y e1 hz).1
      · cases hy
    · intro j y hy
      by_cases e1 : j = g2
      · subst e1
        rw [hgz] at hy
        cases hy
        refine ⟨_, hg6, rfl, rfl, .inr ?_⟩
        simp only [List.map_cons, List.map_nil, frz_out hw6, frz1_ls, frz_lit, innerR]
        rfl
      · exact ⟨y, (hback j y e1 hy).2, rfl, rfl, .inl rfl⟩
    · rw [frS_nil]
      simp (disch := omega) only [↓wpre, push_cast, seval, hh]
      try rfl
    clear hq hq6 hg6 hb6 hv6 hg5 hb5 hv5 hw5
    rintro ⟨d1, s, cid⟩ fr H' n7 ⟨hds, ho, hne, hq, hn7⟩ hh
    simp only [has_nil, has_cons, and_true] at hh hds ho hne
    have hll : d.length = d1.length + s.length := by rw [hds]; simp
    have hfl : (d1.filter fun x => cutB (innerR r own wid.isSome W) own x).length ≤ d1.length := List.length_filter_le _ _
    cases s with
    | nil =>
      have hlt : ¬ (d1.length : Int) < d.length := by rw [hll]; simp
      have hdi : d1 = d := by rw [hds]; simp
      subst hdi
      rw [hct] at hh ho hne
      simp (disch := omega) only [↓wpre, push_cast, seval, hh, hlt]
      refine fin_intro (Ab.Sub.refl _) ⟨p, a, k, b, cid, hp, hab, hno, hkk, rfl, ?_, hne, (hs1.trans hsz).trans hq.1⟩
      exact outW ho (by omega)
    | cons x s =>
      have hlt : (d1.length : Int) < d.length := by rw [hll]; simp only [List.length_cons]; omega
      have hd0 : (0 : Int) ≤ d1.length := by omega
      have hdl : d1.length < d.length := by omega
      have hid1 := hq.1 _ _ hidz
      have gx : (d.map Idn.c ++ jr)[d1.length]? = some x.c := by rw [hds]; simp
      have hg7 := hgrp2.sub hq.1
      generalize hr3 : innerR r own wid.isSome W = r3 at *
      have hgr := hg7.row
      have hm := hg7.hv.map
      have hlen : ∃ v, lookRes false (.ls false []) (mget (K2.map fun x => [AV.agg x.c, AV.os (ob2 x) 0 (occ own x).length]) (.agg x.c)) = v ∧ alen v = some (.int (occ own x).length) := by
        by_cases hx : x ∈ K2
        · rw [hg7.hv.look hx]; exact ⟨_, rfl, rfl⟩
        · have : occ own x = [] := Classical.byContradiction fun h0 => hx ((hg7.hv.all x).1 h0)
          rw [hg7.hv.lookN hx, this]; exact ⟨_, rfl, rfl⟩
      obtain ⟨v, hlv, hal⟩ := hlen
      have hcf : ∀ b, cutB r3 own x = b → (d1 ++ [x]).filter (fun x => cutB r3 own x) = d1.filter (fun x => cutB r3 own x) ++ if b then [x] else [] := fun b hb => by
        rw [List.filter_append]
        congr 1
        rw [List.filter_cons, hb]
        cases b <;> rfl
      have hm2 := hgrp2.hv.low.1
      simp (disch := omega) only [↓wpre, push_cast, seval, hh, hlt, hid1, gx, hd0, hdl, Int.toNat_natCast]
      refine xw_nreg noH (of_eq_true (sub_noH _)) ?_
      simp (disch := omega) only [↓wpre, push_cast, seval, hh]
      have hgk : ∀ Hx : Nat → Option AObj, (∀ j, j < n7 → Hx j = H' j) → Grp Hx g2 m2 r3 true own K2 ob2 n3 := fun Hx hx => hg7.keep fun j hj => hx j (by omega)
      have hqk : ∀ Hx : Nat → Option AObj, (∀ j y, j < n7 → cid ≠ some j → H' j = some y → Hx j = some y) → Qt Hz Hx n6 := fun Hx hx => ⟨fun j y hy => hx j y (by have := hq.2 j y hy; omega) (fun e => by rw [e] at ho; have := ho.2.1; have := hq.2 j y hy; omega) (hq.1 _ _ hy), hq.2⟩
      have hok : ∀ (Hx : Nat → Option AObj) (n' : Nat), (∀ j, j < n7 → Hx j = H' j) → n7 ≤ n' → OutIs n6 Hx cid 55 2 ((d1.filter fun x => cutB r3 own x).map Idn.c) n' := fun Hx n' hx hn' => keepO ho (fun o e => by rw [e] at ho; exact hx o ho.2.2) hn'
      refine AFn.x (joins_c G _ (hgk _ fun j hj => by repeat rw [hu_ne (by omega)]) x) fun n8 hn8 => ?_
      by_cases hj : joins r3 own x = true
      · by_cases h2 : ((occ own x).length : Int) < 2
        · have hcb : cutB r3 own x = false := by
            unfold cutB
            rw [decide_eq_false (by omega : ¬ (2 : Int) ≤ ((occ own x).length : Int))]
            simp
          have hcf1 := hcf false hcb
          simp only [Bool.false_eq_true, if_false, List.append_nil] at hcf1
          simp (disch := omega) only [↓wpre, push_cast, seval, hh, hj, hgr, hm, hlv, hal, h2]
          refine againJ (d1 ++ [x], s, cid) (Nat.lt_succ_self _) ⟨by rw [hds]; simp, ?_, ?_, ?_, by omega⟩ (by dsimp only; rw [hcf1]; simp (disch := omega) only [↓wpre, push_cast, seval, hh]; all_goals (try simp only [AV.lit.injEq, Value.int.injEq, Value.bool.injEq, true_and, and_true]); all_goals (try (repeat' apply And.intro)); all_goals (first | rfl | omega | simp_all | skip))
          · dsimp only; rw [hcf1]; exact hok _ _ (fun j hj => by repeat rw [hu_ne (by omega)]) (by omega)
          · dsimp only; rw [hcf1]; exact hne
          · exact hqk _ fun j y h1 _ hy => by
              repeat rw [hu_ne (by omega)]
              exact hy
        · simp (disch := omega) only [↓wpre, push_cast, seval, hh, hj, hgr, hm, hlv, hal, h2]
          refine ACalls.x (ACalls.lowp (parts_g G _ (hgk _ fun j hj => by repeat rw [hu_ne (by omega)]) (some x) (.op n7 0 0) (.inr ⟨n7, rfl, by first | exact hu_same | simp (disch := omega) only [↓wpre, push_cast, seval]⟩) n8 (by omega))) fun v H8 n9 ⟨⟨q, ro, hpq, e1, hro, hro1, hro2, hs8⟩, hn9, hl9⟩ => ?_
          subst e1
          simp (disch := omega) only [↓wpre, push_cast, seval, hh]
          have hql : q.length = own.length := hpq.len
          have hqr : rootOf (butId r3 own x) own = q := rootOf_eq (J := butId r3 own x) hpq
          have hfz : [AV.os ro 0 own.length].map (frz (Ab.only ro ⟨3, 1, nats q⟩) 1) = [.ls true (nats q)] := by
            rw [List.map_cons, List.map_nil, frz1_os (o := ⟨3, 1, nats q⟩) (if_pos rfl) (by simp [nats]; omega)]
          refine ACalls.x (AFn.borrow (v := .int (maxOf q : Nat)) (Ab.only ro ⟨3, 1, nats q⟩) 1 (only_sub hro) (by rw [hfz]; exact maxN_c G noObj true q (by omega) (by omega)) rfl (R := fun v H' n' => v = .int (maxOf q : Nat) ∧ H' = H8 ∧ n9 ≤ n') fun n' hn' => ⟨rfl, rfl, hn'⟩) fun v H9 n10 ⟨e1, e2, hn10⟩ => ?_
          subst e1 e2
          have hx8 := hs8 n7 _ (by first | exact hu_same | simp (disch := omega) only [↓wpre, push_cast, seval])
          have hk8 : ∀ j y, j < n7 → H' j = some y → H9 j = some y := fun j y h1 hy => hs8 _ _ (by
            repeat rw [hu_ne (by omega)]
            exact hy)
          by_cases hmx : (0 : Int) < ((maxOf q : Nat) : Int)
          · have hcb : cutB r3 own x = true := by
              unfold cutB
              rw [hj, hqr, decide_eq_true hmx, decide_eq_true (by omega : (2 : Int) ≤ ((occ own x).length : Int))]
              rfl
            have hcf1 := hcf true hcb
            simp only [if_true] at hcf1
            simp (disch := omega) only [↓wpre, push_cast, seval, hh, hmx, hx8]
            refine xapp_outN (n0 := n6) (rows := (d1.filter fun x => cutB r3 own x).map Idn.c) (keepO ho (fun o e => by
              rw [e] at ho
              rw [hk8 o _ ho.2.2 ho.1]
              exact ho.1.symm) (by omega)) (by simp) (by intro r hr; simp at hr; subst hr; exact ⟨rfl, rfl⟩) (by simp only [List.length_map]; omega) fun HN hN hNj => ?_
            simp (disch := omega) only [↓wpre, push_cast, seval, hh]
            refine againJ (d1 ++ [x], s, some n10) (Nat.lt_succ_self _) ⟨by rw [hds]; simp, ⟨?_, by omega, by omega⟩, ?_, ?_, by omega⟩ (by dsimp only; rw [hcf1]; simp (disch := omega) only [↓wpre, push_cast, seval, hh]; all_goals (try simp only [AV.lit.injEq, Value.int.injEq, Value.bool.injEq, true_and, and_true]); all_goals (try (repeat' apply And.intro)); all_goals (first | rfl | omega | simp_all | skip))
            · dsimp only; rw [hcf1, hN, List.map_append]; rfl
            · intro _; dsimp only; rw [hcf1]; simp
            · exact hqk _ fun j y h1 h2 hy => by
                rw [hNj j (by omega) h2]
                exact hk8 j y h1 hy
          · have hcb : cutB r3 own x = false := by
              unfold cutB
              rw [hqr, decide_eq_false hmx]
              simp
            have hcf1 := hcf false hcb
            simp only [Bool.false_eq_true, if_false, List.append_nil] at hcf1
            simp (disch := omega) only [↓wpre, push_cast, seval, hh, hmx]
            refine againJ (d1 ++ [x], s, cid) (Nat.lt_succ_self _) ⟨by rw [hds]; simp, ?_, ?_, ?_, by omega⟩ (by dsimp only; rw [hcf1]; simp (disch := omega) only [↓wpre, push_cast, seval, hh]; all_goals (try simp only [AV.lit.injEq, Value.int.injEq, Value.bool.injEq, true_and, and_true]); all_goals (try (repeat' apply And.intro)); all_goals (first | rfl | omega | simp_all | skip))
            · dsimp only; rw [hcf1]
              exact keepO ho (fun o e => by
                rw [e] at ho
                rw [hk8 o _ ho.2.2 ho.1]
                exact ho.1.symm) (by omega)
            · dsimp only; rw [hcf1]; exact hne
            · exact hqk _ fun j y h1 _ hy => hk8 j y h1 hy
      · have hj' : joins r3 own x = false := by simpa using hj
        have hcb : cutB r3 own x = false := by
          unfold cutB
          rw [hj']
          rfl
        have hcf1 := hcf false hcb
        simp only [Bool.false_eq_true, if_false, List.append_nil] at hcf1
        simp (disch := omega) only [↓wpre, push_cast, seval, hh, hj']
        refine againJ (d1 ++ [x], s, cid) (Nat.lt_succ_self _) ⟨by rw [hds]; simp, ?_, ?_, ?_, by omega⟩ (by dsimp only; rw [hcf1]; simp (disch := omega) only [↓wpre, push_cast, seval, hh]; all_goals (try simp only [AV.lit.injEq, Value.int.injEq, Value.bool.injEq, true_and, and_true]); all_goals (try (repeat' apply And.intro)); all_goals (first | rfl | omega | simp_all | skip))
        · dsimp only; rw [hcf1]; exact hok _ _ (fun j hj => by repeat rw [hu_ne (by omega)]) (by omega)
        · dsimp only; rw [hcf1]; exact hne
        · exact hqk _ fun j y h1 _ hy => by
            repeat rw [hu_ne (by omega)]
            exact hy
theorem equalI_c (nz nz' : Bool) (l m : List Int) (hl : l.length ≤ 100000) (hm : m.length ≤ 100000) : AFn Tryz.prog G 39 [.ls nz (l.map fun x => [AV.int x]), .ls nz' (m.map fun x => [AV.int x])] H (.bool (decide (l = m))) := by
  refine AFn.start mix F39 (by simp) fun k hlow => ?_
  by_cases hlen : (l.length : Int) = m.length
  · simp (disch := omega) only [↓wpre, push_cast, seval, c39, hlen]
    generalize hb : decide (l = m) = bb
    refine xw_loopJ (σ := List Int × List Int × List Int × List Int) (fun t => [(0, .ls nz (l.map fun x => [AV.int x])), (1, .ls nz' (m.map fun x => [AV.int x])), (12, .int m.length), (13, .int t.1.length)]) (fun t H' n' => l = t.1 ++ t.2.1 ∧ m = t.2.2.1 ++ t.2.2.2 ∧ t.1.length = t.2.2.1.length ∧ decide (t.2.1 = t.2.2.2) = bb ∧ Qt H H' k ∧ k ≤ n') (fun t => t.2.1.length) ([], l, [], m) ⟨rfl, rfl, rfl, hb, .refl hlow, Nat.le_refl _⟩ (by simp (disch := omega) only [↓wpre, push_cast, seval]) ?_
    rintro ⟨d, r, d', r'⟩ fr H' n1 ⟨hab, hab', hdl, hf, hq, hn⟩ hh
    simp only [has_nil, has_cons, and_true] at hh hab hab' hdl hf
    have hll : l.length = d.length + r.length := by rw [hab]; simp
    have hll' : m.length = d'.length + r'.length := by rw [hab']; simp
    cases r with
    | nil =>
      have hlt : ¬ (d.length : Int) < m.length := by simp at hll; omega
      have hr' : r' = [] := by
        cases r' with
        | nil => rfl
        | cons y ys => simp at hll hll'; omega
      subst hr'
      simp (disch := omega) only [↓wpre, push_cast, seval, hh, hlt]
      exact ⟨by simpa using hf, hq.1⟩
    | cons x r =>
      obtain ⟨y, r', rfl⟩ : ∃ y ys, r' = y :: ys := by
        cases r' with
        | nil => simp at hll hll'; omega
        | cons y ys => exact ⟨y, ys, rfl⟩
      have hlt : (d.length : Int) < m.length := by simp at hll; omega
      have hx : l[d.length]? = some x := by rw [hab]; simp
      have hy : m[d.length]? = some y := by rw [hab', hdl]; simp
      simp (disch := omega) only [↓wpre, push_cast, seval, hh, hlt, even_ints', aidx_at rfl hx, aidx_at rfl hy]
      refine anyN_intro fun n2 hn2 => ?_
      simp (disch := omega) only [↓wpre, push_cast, seval, hh]
      (first | with_reducible refine cnd_ndec (fun hc => ?_) (fun hc => ?_) | with_reducible refine cnd_dec (fun hc => ?_) (fun hc => ?_) | with_reducible refine cnd_nb (fun hc => ?_) (fun hc => ?_) | with_reducible refine cnd_intro (fun hc => ?_) (fun hc => ?_)) <;> (first | (exfalso; omega) | (try simp (disch := omega) only [↓wpre, push_cast, seval, hc, hh]))
      · have hne : decide (x :: r = y :: r') = false := by simp [hc]
        rw [hne] at hf
        exact ⟨by rw [← hf], hq.1⟩
      · refine againJ (d ++ [x], r, d' ++ [y], r') (Nat.lt_succ_self _) ⟨by rw [hab]; simp, by rw [hab']; simp, by simp [hdl], by rw [← hf]; simp [hc], by exact Qt.mono (n := k) (by repeat (first | exact hq | refine Qt.hu ?_ (by omega))) (by omega), by omega⟩ (by simp (disch := omega) only [↓wpre, push_cast, seval, hh]; all_goals (try simp only [AV.lit.injEq, Value.int.injEq, Value.bool.injEq, true_and, and_true]); all_goals (try (repeat' apply And.intro)); all_goals (first | rfl | omega | simp_all | skip))
  · have hne : decide (l = m) = false := by
      simp only [decide_eq_false_iff_not]
      rintro rfl
      exact hlen rfl
    rw [hne]
    simp (disch := omega) only [↓wpre, push_cast, seval, c39, hlen]
/-! slices.IndexFunc and slices.ContainsFunc of persons, by whatever is asked of one. -/
theorem indexP_g (nz : Bool) (l : List Per) (f : FuncId) (cv : AV) (q : Per → Bool) (hl : l.length ≤ 1000000) (hf : ∀ H', Ab.Sub H H' → ∀ y ∈ l, AFn Tryz.prog G f [.agg y.c, cv] H' (.bool (q y))) : AFn Tryz.prog G 28 [.ls nz (l.map Per.c), .fn (.func f) [cv]] H (.int (idxP q 0 l)) := by
  refine AFn.start mix F28 (by simp) fun k hlow => ?_
  simp (disch := omega) only [↓wpre, push_cast, seval, c28]
  refine xw_loopJ (σ := List Per × List Per) (fun t => [(0, .ls nz (l.map Per.c)), (1, .fn (.func f) [cv]), (7, .int l.length), (8, .int t.1.length)]) (fun t H' n' => l = t.1 ++ t.2 ∧ idxP q t.1.length t.2 = idxP q 0 l ∧ Qt H H' k ∧ k ≤ n') (fun t => t.2.length) ([], l) ⟨rfl, rfl, .refl hlow, Nat.le_refl _⟩ (by simp (disch := omega) only [↓wpre, push_cast, seval]) ?_
  rintro ⟨d, r⟩ fr H' n1 ⟨hab, hi, hq, hn⟩ hh
  simp only [has_nil, has_cons, and_true] at hh hab hi
  have hll : l.length = d.length + r.length := by rw [hab]; simp
  cases r with
  | nil =>
    have hlt : ¬ (d.length : Int) < l.length := by rw [hll]; simp
    rw [← hi]
    simp (disch := omega) only [↓wpre, push_cast, seval, hh, hlt, idxP]
    first | (exact (Qt.mono (n := k) (by repeat (first | exact hq | refine Qt.hu ?_ (by omega))) (Nat.le_refl _)).1) | exact ⟨rfl, hq.1⟩
  | cons y r =>
    have hlt : (d.length : Int) < l.length := by rw [hll]; simp only [List.length_cons]; omega
    have hx : l[d.length]? = some y := by rw [hab]; simp
    have hi2 : idxP q d.length (y :: r) = if q y then (d.length : Int) else idxP q (d.length + 1) r := rfl
    rw [hi2] at hi
    have hcall := hf H' hq.1 y (by rw [hab]; simp)
    simp (disch := omega) only [↓wpre, push_cast, seval, hh, hlt, even_per, aidx_at rfl hx, List.cons_append, List.nil_append]
    refine AFn.x hcall fun n2 hn2 => ?_
    by_cases hc : q y = true
    · rw [if_pos hc] at hi
      simp (disch := omega) only [↓wpre, push_cast, seval, hh, hc]
      first | exact ⟨by rw [hi], hq.1⟩ | (rw [← hi]; exact ⟨rfl, hq.1⟩)
    · have hc' : q y = false := by simpa using hc
      rw [if_neg hc] at hi
      simp (disch := omega) only [↓wpre, push_cast, seval, hh, hc']
      refine againJ (d ++ [y], r) (Nat.lt_succ_self _) ⟨by rw [hab]; simp, by rw [List.length_append]; exact hi, by exact Qt.mono (n := k) (by repeat (first | exact hq | refine Qt.hu ?_ (by omega))) (by omega), by omega⟩ (by simp (disch := omega) only [↓wpre, push_cast, seval, hh]; all_goals (try simp only [AV.lit.injEq, Value.int.injEq, Value.bool.injEq, true_and, and_true]); all_goals (try (repeat' apply And.intro)); all_goals (first | rfl | omega | simp_all | skip))
theorem containsP_g (nz : Bool) (l : List Per) (f : FuncId) (cv : AV) (q : Per → Bool) (hl : l.length ≤ 1000000) (hf : ∀ H', Ab.Sub H H' → ∀ y ∈ l, AFn Tryz.prog G f [.agg y.c, cv] H' (.bool (q y))) : AFn Tryz.prog G 31 [.ls nz (l.map Per.c), .fn (.func f) [cv]] H (.bool (l.any q)) := by
  refine AFn.start mix F31 (by simp) fun k hlow => ?_
  simp (disch := omega) only [↓wpre, push_cast, seval, c31]
  refine AFn.x (indexP_g G _ nz l f cv q hl hf) fun n1 hn1 => ?_
  simp (disch := omega) only [↓wpre, push_cast, seval, idxP_ge]
  try rfl
theorem idxP_at (q : Per → Bool) : ∀ (l : List Per) (i : Nat), l.any q = true → ∃ j y, idxP q i l = ((i + j : Nat) : Int) ∧ l[j]? = some y ∧ q y = true
  | [], i, h => by simp at h
  | y :: r, i, h => by
    rw [idxP]
    by_cases hy : q y = true
    · exact ⟨0, y, by rw [if_pos hy]; simp, rfl, hy⟩
    · rw [if_neg hy]
      rw [List.any_cons] at h
      obtain ⟨j, z, h1, h2, h3⟩ := idxP_at q r (i + 1) (by simpa [hy] using h)
      exact ⟨j + 1, z, by rw [h1]; congr 1; omega, by simpa using h2, h3⟩
theorem pp1_c (y : Per) (u : Tch) (i : Nat) (hi : H i = some ⟨53, 5, [u.c]⟩) (hl : y.tch.length ≤ 1000000) : AFn Tryz.prog G 29 [.agg y.c, .op i 0 0] H (.bool (decide (u.no ∈ y.tch))) := by
  refine AFn.start mix F29 (by simp) fun k hlow => ?_
  simp (disch := omega) only [↓wpre, push_cast, seval, c29, hi]
  refine AFn.x (containsI_c G _ true y.tch u.no hl) fun n1 hn1 => ?_
  simp (disch := omega) only [↓wpre, push_cast, seval]
theorem pp2_c (y x : Per) (i : Nat) (hi : H i = some ⟨64, 4, [x.c]⟩) : AFn Tryz.prog G 32 [.agg y.c, .op i 0 0] H (.bool (decide (y.key = x.key))) := by
  have hd := idn_dec y.key x.key
  refine AFn.start mix F32 (by simp) fun k hlow => ?_
  simp (disch := omega) only [↓wpre, push_cast, seval, c32, hi, hd]
theorem pp3_c (y x : Per) (i : Nat) (hi : H i = some ⟨64, 4, [x.c]⟩) (hl : y.tch.length ≤ 100000) (hl2 : x.tch.length ≤ 100000) : AFn Tryz.prog G 38 [.agg y.c, .op i 0 0] H (.bool (decide (y.tch = x.tch))) := by
  refine AFn.start mix F38 (by simp) fun k hlow => ?_
  simp (disch := omega) only [↓wpre, push_cast, seval, c38, hi]
  refine AFn.x (equalI_c G _ true true y.tch x.tch hl hl2) fun n1 hn1 => ?_
  simp (disch := omega) only [↓wpre, push_cast, seval]
/-! Cuts, handed back as what is only read. -/
def idsV (l : List Idn) : AV := .ls (decide (l ≠ [])) (l.map Idn.c)
theorem first_uniq {f : Nat → Idn} {key : Idn} : ∀ {a b a' b' : List Nat} {k k' : Nat}, a ++ k :: b = a' ++ k' :: b' → (∀ j ∈ a, f j ≠ key) → f k = key → (∀ j ∈ a', f j ≠ key) → f k' = key → k = k'
  | [], b, [], b', k, k', h, _, _, _, _ => by simp at h; exact h.1
  | [], b, x :: a', b', k, k', h, _, h2, h3, _ => by
    simp only [List.nil_append, List.cons_append, List.cons.injEq] at h
    exact absurd (by rw [← h.1]; exact h2) (h3 x (by simp))
  | x :: a, b, [], b', k, k', h, h1, _, _, h4 => by
    simp only [List.nil_append, List.cons_append, List.cons.injEq] at h
    exact absurd (by rw [h.1]; exact h4) (h1 x (by simp))
  | x :: a, b, y :: a', b', k, k', h, h1, h2, h3, h4 => by
    simp only [List.cons_append, List.cons.injEq] at h
    exact first_uniq h.2 (fun j hj => h1 j (by simp [hj])) h2 (fun j hj => h3 j (by simp [hj])) h4
theorem keyOf_mem (J : Idn → Bool) {t : Tch} (h : t.ids ≠ []) : Pp.keyOf J t ∈ t.ids := by
  unfold Pp.keyOf
  cases hf : t.ids.find? J with
  | some x => exact List.mem_of_find?_eq_some hf
  | none =>
    cases hi : t.ids with
    | nil => exact absurd hi h
    | cons x r => simp
theorem tAt_mem {l : List Tch} {i : Nat} (h : i < l.length) : tAt l i ∈ l := by rw [tAt_get (List.getElem?_eq_getElem h)]; exact List.getElem_mem h
theorem frz_oids {D : Nat → Option AObj} {cid : Option Nat} {l : List Idn} (h : ∀ o, cid = some o → D o = some ⟨55, 2, l.map Idn.c⟩) (h0 : cid = none → l = []) (hne : cid ≠ none → l ≠ []) : frz D 1 (outAV cid l.length) = idsV l := by
  cases cid with
  | none => rw [h0 rfl]; rfl
  | some o =>
    refine (frz1_os (h o rfl) (by simp)).trans ?_
    rw [idsV, decide_eq_true (hne (by simp))]
theorem cuts_c {m0 : Int} {cs : List AV} (hG : G 4 = .pp (.lit (.int .i64 m0) :: cs)) (hU : GU G) (r : Rls) (hr : RulesOk r) (hnz : r.nzw = false → r.weak = []) (nz : Bool) (l : List Tch) (h : TouchesOk l) (a : List Nat) (k : Nat) (b : List Nat) (hR : roots (rootOf (joins r l) l) l.length = a ++ k :: b) (hno : ∀ j ∈ a, Pp.keyOf (joins r l) (tAt l j) ≠ Pp.keyOf (joins r l) (tAt l k)) :
    AFn Tryz.prog G 33 [.agg r.c, .ls nz (l.map Tch.c), .agg (Pp.keyOf (joins r l) (tAt l k)).c] H (.tup [idsV (cutsOf r l (rootOf (joins r l) l) k), .int 0]) := by
  have hkr : k ∈ roots (rootOf (joins r l) l) l.length := by rw [hR]; simp
  have hkl := (mem_roots.1 hkr).1
  have hto := h.each _ (tAt_mem hkl)
  have hkm := keyOf_mem (joins r l) hto.some
  intro n
  refine low_of G H fun hlow => ?_
  refine ACalls.frz (cuts_run G H hG hU r hr hnz nz l h _ (hto.ids.each _ hkm) (hto.ids.small _ hkm) ⟨perOf (joins r l) l (rootOf (joins r l) l) k, List.mem_map.2 ⟨k, hkr, rfl⟩, rfl⟩ n) ?_
  rintro v H1 n1 ⟨p, a', k', b', cid, hp, hab, hno', hk', rfl, ho, hne, hs⟩
  have hpe := rootOf_eq hp
  subst hpe
  have hkk : k' = k := first_uniq (hab.symm.trans hR) hno' hk' hno rfl
  subst hkk
  have hD : ∀ j, n ≤ j → (fun j => if n ≤ j then H1 j else none) j = H1 j := fun j hj => if_pos hj
  refine ⟨fun j => if n ≤ j then H1 j else none, H, 2, fun j o hj => ?_, hs, fun j o hj => ?_, ?_, rfl⟩
  · dsimp only at hj
    split at hj
    · exact hj
    · cases hj
  · dsimp only at hj
    split at hj
    · rename_i hn
      cases hH : H j with
      | none => rfl
      | some x => exact absurd (hlow j x hH) (by omega)
    · cases hj
  · have e1 := frz_oids (D := fun j => if n ≤ j then H1 j else none) (cid := cid) (l := cutsOf r l (rootOf (joins r l) l) k') (fun o e => by
      subst e
      exact (hD o ho.2.1).trans ho.1) (fun e => by
      subst e
      have h0 : (cutsOf r l (rootOf (joins r l) l) k').map Idn.c = [] := ho
      simpa using h0) hne
    show AV.tup [frz _ 1 (outAV cid _), frz _ 1 (.int 0)] = _
    rw [e1, frz_lit]
theorem xw_gen {P : Program} {G : Nat → AV} {Q : AExit → St → Prop} {w : Wit Q} {c : ACode} {fr : Nat → AV} {n : Nat} {H : Nat → Option AObj} (F : (Nat → Option AObj) → Prop) (hF : F H) (k : ∀ H', F H' → xw P G Q w c ⟨fr, H', n⟩) : xw P G Q w c ⟨fr, H, n⟩ := k H hF
theorem frz1_take {D : Nat → Option AObj} {i len : Nat} {o : AObj} (h : D i = some o) (hl : len ≤ o.rows.length) : frz D 1 (.os i 0 len) = .ls true (o.rows.take len) := by
  simp only [frz, h]
  rw [if_pos (by omega), List.drop_zero]
  congr 1
  exact frz1_id (D := D) _
theorem tch_frz1 {D : Nat → Option AObj} (l : List Tch) : (l.map Tch.c).map (List.map (frz D 1)) = l.map Tch.c := by
  rw [List.map_map]
  refine List.map_congr_left fun t _ => ?_
  show [frz D 1 (.int t.no), frz D 1 (.int t.at'), frz D 1 (.str t.src), frz D 1 (.ls t.nzi _), frz D 1 (.ls t.nzf _)] = _
  rw [frz_lit, frz_lit, frz_lit, frz1_ls, frz1_ls]
theorem sortL_c (l : List Idn) (len : Nat) (hlen : len = l.length) (o : Nat) (ho : H o = some ⟨55, 2, l.map Idn.c⟩) (hl : l.length ≤ 1000000) (n : Nat) : ACalls Tryz.prog G 35 [.os o 0 len, .fn (.func 36) []] H n fun r H' n' => r = .tup [] ∧ ∃ l', SortedI l l' ∧ l'.length = len ∧ H' = hu H o (some ⟨55, 2, l'.map Idn.c⟩) := by
  subst hlen
  refine (sortI_c G H l [] o (by rw [List.append_nil]; exact ho) hl n).mono fun r H' n' ⟨h1, l', h2, h3, h4⟩ => ⟨h1, l', h2, h3, by rw [h4, List.append_nil]⟩
theorem compactL_c (l : List Idn) (len : Nat) (hlen : l.length = len) (o : Nat) (ho : H o = some ⟨55, 2, l.map Idn.c⟩) (hl : l.length ≤ 1000000) (n : Nat) : ACalls Tryz.prog G 37 [.os o 0 len] H n fun r H' n' => r = .os o 0 (cptT l).length ∧ ∃ jr, H' = hu H o (some ⟨55, 2, (cptT l).map Idn.c ++ jr⟩) := by
  subst hlen
  exact compactI_c G H o l hl ho n
set_option maxHeartbeats 12800000 in
theorem personsPart_c (hU : GU G) (hP : G 1 = .pp poolC) (nz : Bool) (l : List Int) (n : Nat) : ACalls Tryz.prog G 6 [LL nz l] H n fun r H' n' => r = .bool true := by
  obtain ⟨m4, cs4, hG4⟩ := hU.ok.maxLen
  refine ACalls.start mix F6 (by simp) fun hlow => ?_
  simp (disch := omega) only [↓wpre, push_cast, seval, c6]
  refine (rightRulesW_c G _ hU hP nz l 0 n hu_same (by omega)).x fun r a1 n1 hn1 h1 h2 h3 => ?_
  obtain ⟨q, rfl, hq, hqw, hqz⟩ := h3
  simp (disch := omega) only [↓wpre, push_cast, seval, hu_hu]
  refine (range_c G _ nz l a1 1 9 n hu_same (by omega) (by omega)).x fun r a2 n2 hn2 k1 k2 k3 => ?_
  obtain ⟨many, rfl, hmany⟩ := k3
  simp (disch := omega) only [↓wpre, push_cast, seval, hu_hu]
  refine (rightTouches_c G _ hU hP nz l a2 many n hu_same (by omega) (by omega)).x fun r a3 n3 hn3 k1' k2' k3 => ?_
  obtain ⟨bt, ts, rfl, hts, htl⟩ := k3
  have hrise : Rise ts := hts.rise
  simp (disch := omega) only [↓wpre, push_cast, seval, hu_hu]
  refine AFn.x (allPersons_c G _ hG4 hU q hq bt ts hts) fun n4 hn4 => ?_
  have htot := tot_all q ts
  have hpl := pers_len q ts
  have htl2 := tch_len q ts
  have hspl : ∀ d x s, personsOf q ts = d ++ x :: s → _ := fun d x s h => pers_split (r := q) (l := ts) h
  have hhas : ∀ u ∈ ts, _ := fun u hu => pers_has (r := q) hrise hu
  have hidsu : ∀ u ∈ ts, ∀ y ∈ personsOf q ts, u.no ∈ y.tch → _ := fun u hu y hy hn => pers_ids (r := q) hrise hu hy hn
  have htle : ∀ d x s, personsOf q ts = d ++ x :: s → tot d + x.tch.length ≤ tot (personsOf q ts) := fun d x s h => by
    have : ∀ a b : List Per, tot (a ++ b) = tot a + tot b := fun a b => by
      induction a with
      | nil => simp [tot]
      | cons y a ih => show y.tch.length + tot (a ++ b) = y.tch.length + tot a + tot b; omega
    rw [h, this]
    show _ ≤ tot d + (x.tch.length + tot s)
    omega
  generalize hPP : personsOf q ts = PP at *
  generalize hnzp : decide (PP ≠ []) = nzp
  have hpv : persV PP = .ls nzp (PP.map Per.c) := by rw [persV_eq, hnzp]
  simp (disch := omega) only [↓wpre, push_cast, seval, hpv]
  refine xw_loopJ (σ := List Per × List Per) (fun u => [(4, .op n3 0 0), (5, .ls bt (ts.map Tch.c)), (6, .ls nzp (PP.map Per.c)), (8, .int (tot u.1 : Nat)), (43, .ls nzp (PP.map Per.c)), (44, .int PP.length), (45, .int u.1.length)]) (fun u H' n' => PP = u.1 ++ u.2 ∧ H' n3 = some ⟨44, 4, [q.c]⟩ ∧ n3 < n') (fun u => u.2.length) ([], PP) ⟨rfl, hu_same, by omega⟩ (by simp (disch := omega) only [↓wpre, push_cast, seval]; try rfl) ?_
  rintro ⟨d, s⟩ fr H' n5 ⟨hab, hq3, hn5⟩ hh
  simp only [has_nil, has_cons, and_true] at hh hab hq3
  have hll : PP.length = d.length + s.length := by rw [hab]; simp
  cases s with
  | cons x s =>
    have hlt : (d.length : Int) < PP.length := by rw [hll]; simp only [List.length_cons]; omega
    have hx : PP[d.length]? = some x := by rw [hab]; simp
    have ht1 := htle d x s hab
    have ht2 := tot_snoc x d
    simp (disch := omega) only [↓wpre, push_cast, seval, hh, hlt, even_per, aidx_at rfl hx]
    refine againJ (d ++ [x], s) (Nat.lt_succ_self _) ⟨by rw [hab]; simp, by simp (disch := omega) only [↓wpre, push_cast, seval, hq3], by omega⟩ (by simp (disch := omega) only [↓wpre, push_cast, seval, hh, ht2]; all_goals (try simp only [AV.lit.injEq, Value.int.injEq, Value.bool.injEq, true_and, and_true]); all_goals (try (repeat' apply And.intro)); all_goals (first | rfl | omega | simp_all | skip))
  | nil =>
  have hlt : ¬ (d.length : Int) < PP.length := by rw [hll]; simp
  have hdP : d = PP := by rw [hab]; simp
  rw [hdP, htot] at hh
  simp (disch := omega) only [↓wpre, push_cast, seval, hh, hlt]
  clear hlt hll hab hdP
  refine xw_loopJ (σ := List Tch × List Tch) (fun u => [(4, .op n3 0 0), (5, .ls bt (ts.map Tch.c)), (6, .ls nzp (PP.map Per.c)), (8, .int ts.length), (55, .ls bt (ts.map Tch.c)), (56, .int ts.length), (57, .int u.1.length)]) (fun u H' n' => ts = u.1 ++ u.2 ∧ H' n3 = some ⟨44, 4, [q.c]⟩ ∧ n3 < n') (fun u => u.2.length) ([], ts) ⟨rfl, hq3, hn5⟩ (by simp (disch := omega) only [↓wpre, push_cast, seval, hh]; try rfl) ?_
  clear hh hq3 hn5
  rintro ⟨d, s⟩ fr H' n5 ⟨hab, hq3, hn5⟩ hh
  simp only [has_nil, has_cons, and_true] at hh hab hq3
  have hll : ts.length = d.length + s.length := by rw [hab]; simp
  cases s with
  | cons u s =>
    have hlt : (d.length : Int) < ts.length := by rw [hll]; simp only [List.length_cons]; omega
    have hx : ts[d.length]? = some u := by rw [hab]; simp
    have hum := List.mem_of_getElem? hx
    have huo := hts.each u hum
    have huf := huo.few
    obtain ⟨j, y, hj1, hj2, hj3⟩ := idxP_at _ PP 0 (hhas u hum)
    have hym := List.mem_of_getElem? hj2
    have hyi := hidsu u hum y hym (by simpa using hj3)
    have hyl : y.ids.length ≤ 1000000 := by
      obtain ⟨k, hk, rfl⟩ := List.mem_map.1 (by rw [← hPP] at hym; exact hym)
      have h1 := setOf_len (il ts (rootOf (joins q ts) ts) ts.length k)
      have h2 := il_len (fun t ht => (hts.each t ht).few) (rootOf (joins q ts) ts) ts.length k
      have h3 := hts.few
      show (setOf (il ts (rootOf (joins q ts) ts) ts.length k)).length ≤ _
      omega
    rw [Nat.zero_add] at hj1
    have hjn : ¬ (j : Int) < 0 := by omega
    simp (disch := omega) only [↓wpre, push_cast, seval, hh, hlt, even_tch, aidx_at rfl hx]
    refine AFn.x (indexP_g G _ nzp PP 29 (.op n5 0 0) (fun y => decide (u.no ∈ y.tch)) (by omega) fun H2 hs y hy => pp1_c G H2 y u n5 (hs _ _ hu_same) (by have := htl2 y hy; omega)) fun n6 hn6 => ?_
    simp (disch := omega) only [↓wpre, push_cast, seval, hh, hj1, hjn]
    refine xw_loopJ (σ := List Idn × List Idn) (fun v => [(4, .op n3 0 0), (5, .ls bt (ts.map Tch.c)), (6, .ls nzp (PP.map Per.c)), (8, .int ts.length), (13, .int j), (55, .ls bt (ts.map Tch.c)), (56, .int ts.length), (57, .int d.length), (67, .ls u.nzi (u.ids.map Idn.c)), (68, .int u.ids.length), (69, .int v.1.length)]) (fun v H' n' => u.ids = v.1 ++ v.2 ∧ H' n3 = some ⟨44, 4, [q.c]⟩ ∧ n3 < n') (fun v => v.2.length) ([], u.ids) ⟨rfl, by simp (disch := omega) only [↓wpre, push_cast, seval, hq3], by omega⟩ (by simp (disch := omega) only [↓wpre, push_cast, seval, hh]; try rfl) ?_
    clear hh hq3 hn5
    rintro ⟨d2, s2⟩ fr H' n5 ⟨hab2, hq3, hn5⟩ hh
    simp only [has_nil, has_cons, and_true] at hh hab2 hq3
    have hll2 : u.ids.length = d2.length + s2.length := by rw [hab2]; simp
    cases s2 with
    | nil =>
      have hlt2 : ¬ (d2.length : Int) < u.ids.length := by rw [hll2]; simp
      simp (disch := omega) only [↓wpre, push_cast, seval, hh, hlt2]
      refine againJ (d ++ [u], s) (Nat.lt_succ_self _) ⟨by rw [hab]; simp, hq3, hn5⟩ (by simp (disch := omega) only [↓wpre, push_cast, seval, hh]; all_goals (try simp only [AV.lit.injEq, Value.int.injEq, Value.bool.injEq, true_and, and_true]); all_goals (try (repeat' apply And.intro)); all_goals (first | rfl | omega | simp_all | skip))
    | cons id s2 =>
      have hlt2 : (d2.length : Int) < u.ids.length := by rw [hll2]; simp only [List.length_cons]; omega
      have hid : u.ids[d2.length]? = some id := by rw [hab2]; simp
      have hin := hyi id (List.mem_of_getElem? hid)
      simp (disch := omega) only [↓wpre, push_cast, seval, hh, hlt2, even_ids, aidx_at rfl hid]
      refine xw_nreg noH (of_eq_true (sub_noH _)) ?_
      simp (disch := omega) only [↓wpre, push_cast, seval, hh, even_per, aidx_at rfl hj2]
      refine AFn.x (containsId_c G _ true y.ids id hyl) fun n7 hn7 => ?_
      simp (disch := omega) only [↓wpre, push_cast, seval, hh, hin, decide_true]
      refine againJ (d2 ++ [id], s2) (Nat.lt_succ_self _) ⟨by rw [hab2]; simp, by simp (disch := omega) only [↓wpre, push_cast, seval, hq3], by omega⟩ (by simp (disch := omega) only [↓wpre, push_cast, seval, hh]; all_goals (try simp only [AV.lit.injEq, Value.int.injEq, Value.bool.injEq, true_and, and_true]); all_goals (try (repeat' apply And.intro)); all_goals (first | rfl | omega | simp_all | skip))
  | nil =>
  have hlt : ¬ (d.length : Int) < ts.length := by rw [hll]; simp
  simp (disch := omega) only [↓wpre, push_cast, seval, hh, hlt]
  clear hlt hll hab
  refine xw_loopJ (σ := List Per × List Per) (fun u => [(4, .op n3 0 0), (5, .ls bt (ts.map Tch.c)), (6, .ls nzp (PP.map Per.c)), (87, .ls nzp (PP.map Per.c)), (88, .int PP.length), (89, .int u.1.length)]) (fun u H' n' => PP = u.1 ++ u.2 ∧ H' n3 = some ⟨44, 4, [q.c]⟩ ∧ n3 < n') (fun u => u.2.length) ([], PP) ⟨rfl, hq3, hn5⟩ (by simp (disch := omega) only [↓wpre, push_cast, seval, hh]; try rfl) ?_
  clear hh hq3 hn5
  rintro ⟨d, s⟩ fr H' n5 ⟨hab, hq3, hn5⟩ hh
  simp only [has_nil, has_cons, and_true] at hh hab hq3
  have hll : PP.length = d.length + s.length := by rw [hab]; simp
  cases s with
  | nil =>
    have hlt : ¬ (d.length : Int) < PP.length := by rw [hll]; simp
    simp (disch := omega) only [↓wpre, push_cast, seval, hh, hlt]
    refine AFn.x (people_c G _ hU) fun n8 hn8 => ?_
    simp (disch := omega) only [↓wpre, push_cast, seval]
    try exact fin_intro (Ab.Sub.refl _) rfl
  | cons x s =>
  have hlt : (d.length : Int) < PP.length := by rw [hll]; simp only [List.length_cons]; omega
  have hx : PP[d.length]? = some x := by rw [hab]; simp
  have hxm := List.mem_of_getElem? hx
  have hxt := htl2 x hxm
  have hrows : ∀ k, (PP.map Per.c).take k = (PP.take k).map Per.c := fun k => List.map_take.symm
  have htk : PP.take d.length = d := by rw [hab]; simp
  have hd0 : (0 : Int) ≤ d.length := by omega
  have hdl : d.length ≤ PP.length := by omega
  obtain ⟨ra, k, rb, hR, hdr, hxr⟩ := hspl d x s hab
  simp (disch := omega) only [↓wpre, push_cast, seval, hh, hlt, even_per, aidx_at rfl hx, hrows, htk, hd0, hdl, Int.toNat_natCast]
  refine AFn.x (containsP_g G _ nzp d 32 (.op n5 0 0) (fun y => decide (y.key = x.key)) (by omega) fun H2 hs y hy => pp2_c G H2 y x n5 (hs _ _ hu_same)) fun n6 hn6 => ?_
  by_cases hdup : (d.any fun y => decide (y.key = x.key)) = true
  · simp (disch := omega) only [↓wpre, push_cast, seval, hh, hdup]
    refine againJ (d ++ [x], s) (Nat.lt_succ_self _) ⟨by rw [hab]; simp, by simp (disch := omega) only [↓wpre, push_cast, seval, hq3], by omega⟩ (by simp (disch := omega) only [↓wpre, push_cast, seval, hh]; all_goals (try simp only [AV.lit.injEq, Value.int.injEq, Value.bool.injEq, true_and, and_true]); all_goals (try (repeat' apply And.intro)); all_goals (first | rfl | omega | simp_all | skip))
  have hdup' : (d.any fun y => decide (y.key = x.key)) = false := by simpa using hdup
  have hno : ∀ j ∈ ra, Pp.keyOf (joins q ts) (tAt ts j) ≠ Pp.keyOf (joins q ts) (tAt ts k) := fun j hj e => by
    refine hdup (List.any_eq_true.2 ⟨perOf (joins q ts) ts (rootOf (joins q ts) ts) j, by rw [hdr]; exact List.mem_map_of_mem hj, ?_⟩)
    rw [decide_eq_true_eq, hxr]
    exact e
  have hkr : k ∈ roots (rootOf (joins q ts) ts) ts.length := by rw [hR]; simp
  have hcutc : ∀ H', AFn Tryz.prog G 33 [.agg q.c, .ls bt (ts.map Tch.c), .agg x.key.c] H' (.tup [idsV (cutsOf q ts (rootOf (joins q ts) ts) k), .int 0]) := fun H' => by
    have h9 := cuts_c G H' hG4 hU q hq hqz bt ts hts ra k rb hR hno
    rw [hxr]
    exact h9
  have hlaw : ∀ id ∈ x.ids, ((personsOf (weakR q true id) ts).any fun y => decide (y.tch = x.tch)) = !decide (id ∈ cutsOf q ts (rootOf (joins q ts) ts) k) := fun id hid => by
    rw [hxr] at hid ⊢
    exact cut_any hrise hq.weak.asc hkr hid
  have hidok : ∀ id ∈ x.ids, checkId id.kind id.text = 0 ∧ id.text.size ≤ 1000 := fun id hid => by
    rw [hxr] at hid
    exact pers_okId hts hid
  have hxl : x.ids.length ≤ 20000 := by
    rw [hxr]
    have h1 := setOf_len (il ts (rootOf (joins q ts) ts) ts.length k)
    have h2 := il_len (fun t ht => (hts.each t ht).few) (rootOf (joins q ts) ts) ts.length k
    have h3 := hts.few
    show (setOf (il ts (rootOf (joins q ts) ts) ts.length k)).length ≤ _
    omega
  have hcl : (cutsOf q ts (rootOf (joins q ts) ts) k).length ≤ 20000 := by
    have h1 := List.length_filter_le (fun z => cutB (innerR q (ownOf ts (rootOf (joins q ts) ts) k) true (innerW q ts (setOf (il ts (rootOf (joins q ts) ts) ts.length k)))) (ownOf ts (rootOf (joins q ts) ts) k) z) (setOf (il ts (rootOf (joins q ts) ts) ts.length k))
    have h2 : (setOf (il ts (rootOf (joins q ts) ts) ts.length k)).length ≤ 20000 := by
      have h3 := hxl
      rw [hxr] at h3
      exact h3
    unfold cutsOf
    omega
  generalize cutsOf q ts (rootOf (joins q ts) ts) k = CUTS at *
  generalize hnzc : decide (CUTS ≠ []) = nzc
  have hcv : idsV CUTS = .ls nzc (CUTS.map Idn.c) := by rw [idsV, hnzc]
  simp (disch := omega) only [↓wpre, push_cast, seval, hh, hdup', hq3]
  refine AFn.x (hcutc _) fun n7 hn7 => ?_
  simp (disch := omega) only [↓wpre, push_cast, seval, hh, hcv]
  refine xw_loopJ (σ := List Idn × List Idn) (fun v => [(4, .op n3 0 0), (5, .ls bt (ts.map Tch.c)), (6, .ls nzp (PP.map Per.c)), (17, .op n5 0 0), (18, .ls nzc (CUTS.map Idn.c)), (87, .ls nzp (PP.map Per.c)), (88, .int PP.length), (89, .int d.length), (110, .ls true (x.ids.map Idn.c)), (111, .int x.ids.length), (112, .int v.1.length)]) (fun v H' n' => x.ids = v.1 ++ v.2 ∧ H' n3 = some ⟨44, 4, [q.c]⟩ ∧ H' n5 = some ⟨64, 4, [x.c]⟩ ∧ n5 < n') (fun v => v.2.length) ([], x.ids) ⟨rfl, by simp (disch := omega) only [↓wpre, push_cast, seval, hq3], by first | exact hu_same | simp (disch := omega) only [↓wpre, push_cast, seval], by omega⟩ (by simp (disch := omega) only [↓wpre, push_cast, seval, hh]; try rfl) ?_
  clear hh hq3
  rintro ⟨d2, s2⟩ fr H' n8 ⟨hab2, hq3, hx5, hn8⟩ hh
  simp only [has_nil, has_cons, and_true] at hh hab2 hq3 hx5
  have hll2 : x.ids.length = d2.length + s2.length := by rw [hab2]; simp
  cases s2 with
  | nil =>
    have hlt2 : ¬ (d2.length : Int) < x.ids.length := by rw [hll2]; simp
    simp (disch := omega) only [↓wpre, push_cast, seval, hh, hlt2]
    refine againJ (d ++ [x], s) (Nat.lt_succ_self _) ⟨by rw [hab]; simp, hq3, by omega⟩ (by simp (disch := omega) only [↓wpre, push_cast, seval, hh]; all_goals (try simp only [AV.lit.injEq, Value.int.injEq, Value.bool.injEq, true_and, and_true]); all_goals (try (repeat' apply And.intro)); all_goals (first | rfl | omega | simp_all | skip))
  | cons id s2 =>
  have hlt2 : (d2.length : Int) < x.ids.length := by rw [hll2]; simp only [List.length_cons]; omega
  have hid : x.ids[d2.length]? = some id := by rw [hab2]; simp
  have hidm := List.mem_of_getElem? hid
  have hlw := hlaw id hidm
  obtain ⟨hio1, hio2⟩ := hidok id hidm
  have hS0 := setOf_len (q.weak ++ [id])
  have hS1 : (q.weak ++ [id]).length = q.weak.length + 1 := by simp
  have hok2 := weak_ok hq (by omega) hio1 hio2 true (by omega)
  simp (disch := omega) only [↓wpre, push_cast, seval, hh, hlt2, even_ids, aidx_at rfl hid, hq3]
  refine xw_gen (fun HB => HB n8 = some ⟨55, 2, [id.c]⟩ ∧ HB (n8 + 1) = some ⟨44, 4, [q.c]⟩ ∧ HB n3 = some ⟨44, 4, [q.c]⟩ ∧ HB n5 = some ⟨64, 4, [x.c]⟩) ⟨by simp (disch := omega) only [↓wpre, push_cast, seval], by simp (disch := omega) only [↓wpre, push_cast, seval], by simp (disch := omega) only [↓wpre, push_cast, seval, hq3], by simp (disch := omega) only [↓wpre, push_cast, seval, hx5]⟩ fun HB ⟨f21, f22, f3, f5⟩ => ?_
  have hon : Ab.only n8 ⟨55, 2, [id.c]⟩ n8 = some ⟨55, 2, [id.c]⟩ := if_pos rfl
  have hso : Ab.Sub (Ab.only n8 ⟨55, 2, [id.c]⟩) HB = True := eq_true (only_sub f21)
  refine xw_nreg (Ab.only n8 ⟨55, 2, [id.c]⟩) (only_sub f21) ?_
  simp (disch := omega) only [↓wpre, push_cast, seval, hh, f3, hon, hso]
  refine ACalls.x (ACalls.lowp (cloneL_c G _ q.nzw q.weak hqz (by omega) (n8 + 1 + 1))) fun v H4 n9 ⟨⟨wid, e1, hw0, hs4⟩, hn9, hl4⟩ => ?_
  subst e1
  have hso4 : Ab.Sub (Ab.only n8 ⟨55, 2, [id.c]⟩) H4 = True := eq_true (only_sub (hs4 _ _ f21))
  simp (disch := omega) only [↓wpre, push_cast, seval, hh, hso4]
  refine xapp_outN (n0 := n8 + 1 + 1) (rows := q.weak.map Idn.c) hw0 (by simp) (by intro r hr; simp at hr; subst hr; exact ⟨rfl, rfl⟩) (by simp only [List.length_map]; omega) fun HN hN hNj => ?_
  have hkN : ∀ j y, j < n8 + 1 + 1 → HB j = some y → HN j = some y := fun j y h1 hy => by
    rw [hNj j (by omega) (fun e => by rw [e] at hw0; have := hw0.2.1; omega)]
    exact hs4 _ _ hy
  have hsoN : Ab.Sub (Ab.only n8 ⟨55, 2, [id.c]⟩) HN = True := eq_true (only_sub (hkN _ _ (by omega) f21))
  have g22 := hkN _ _ (by omega) f22
  have hsoN2 : ∀ z, Ab.Sub (Ab.only n8 ⟨55, 2, [id.c]⟩) (hu HN (n8 + 1) z) = True := fun z => eq_true (only_sub (by rw [hu_ne (by omega)]; exact hkN _ _ (by omega) f21))
  simp (disch := omega) only [↓wpre, push_cast, seval, hh, hsoN, g22, hsoN2]
  refine ACalls.x (ACalls.lowp (sortL_c G _ (q.weak ++ [id]) _ (by simp) n9 (by rw [hu_ne (by omega), hN]; simp) (by omega) _)) fun v H5 n10 ⟨⟨e1, W, hsrt, hWl, e2⟩, hn10, hl5⟩ => ?_
  subst e1 e2
  simp (disch := omega) only [↓wpre, push_cast, seval, hh]
  refine ACalls.x (ACalls.lowp (compactL_c G _ W _ hWl n9 hu_same (by omega) _)) fun v H6 n11 ⟨⟨e1, jr, e2⟩, hn11, hl6⟩ => ?_
  subst e1 e2
  rw [cptT_set hsrt]
  simp (disch := omega) only [↓wpre, push_cast, seval, hh, hu_hu]
  have hga : [AV.agg [AV.ls q.nzk (q.kinds.map fun x => [AV.int x]), AV.int q.most, AV.os n9 0 (setOf (q.weak ++ [id])).length, AV.ls q.nzs (q.srv.map Srv.c)], AV.ls bt (ts.map Tch.c)].map (frz (Ab.only n9 ⟨55, 2, (setOf (q.weak ++ [id])).map Idn.c ++ jr⟩) 2) = [.agg (weakR q true id).c, .ls bt (ts.map Tch.c)] := by
    show [AV.agg [frz _ 1 (.ls _ _), frz _ 1 (.int _), frz _ 1 (.os _ _ _), frz _ 1 (.ls _ _)], AV.ls bt ((ts.map Tch.c).map (List.map (frz _ 1)))] = _
    rw [frz1_ls, frz_lit, frz1_take (o := ⟨55, 2, (setOf (q.weak ++ [id])).map Idn.c ++ jr⟩) (if_pos rfl) (by simp), frz1_ls, tch_frz1]
    simp [weakR]
  have hql2 := pers_len (weakR q true id) ts
  have hqt2 := tch_len (weakR q true id) ts
  refine ACalls.x (ACalls.lowp (ACalls.give1 G _ (show hu (hu (hu HN (n8 + 1) _) n9 (some _)) (n8 + 1) _ n9 = some _ by rw [hu_ne (by omega), hu_same]) 2 hga (allPersons_c G _ hG4 hU (weakR q true id) hok2 bt ts hts n11))) fun v H7 n12 ⟨⟨e1, e2⟩, hn12, hl7⟩ => ?_
  subst e1 e2
  generalize personsOf (weakR q true id) ts = QQ at *
  generalize hnzq : decide (QQ ≠ []) = nzq
  have hpv2 : persV QQ = .ls nzq (QQ.map Per.c) := by rw [persV_eq, hnzq]
  have hN5 := hkN _ _ (by omega) f5
  have hN21 := hkN _ _ (by omega) f21
  have hN3 := hkN _ _ (by omega) f3
  simp (disch := omega) only [↓wpre, push_cast, seval, hh, hpv2]
  refine AFn.x (containsP_g G _ nzq QQ 38 (.op n5 0 0) (fun y => decide (y.tch = x.tch)) (by omega) fun H2 hs y hy => pp3_c G H2 y x n5 (hs _ _ (by rw [hu_ne (by omega), hu_ne (by omega), hu_ne (by omega), hu_ne (by omega)]; exact hN5)) (by have := hqt2 y hy; have := hts.few; omega) (by have := hts.few; omega)) fun n13 hn13 => ?_
  by_cases hc : id ∈ CUTS
  · rw [decide_eq_true hc] at hlw
    have hlw : (QQ.any fun y => decide (y.tch = x.tch)) = false := hlw
    simp (disch := omega) only [↓wpre, push_cast, seval, hh, hlw, hN21]
    refine AFn.x (containsId_c G _ nzc CUTS id (by omega)) fun n14 hn14 => ?_
    have hb1 : (false == true) = false := rfl
    simp (disch := omega) only [↓wpre, push_cast, seval, hh, hc, decide_true, hb1]
    refine againJ (d2 ++ [id], s2) (Nat.lt_succ_self _) ⟨by rw [hab2]; simp, by simp (disch := omega) only [↓wpre, push_cast, seval, hN3], by simp (disch := omega) only [↓wpre, push_cast, seval, hN5], by omega⟩ (by simp (disch := omega) only [↓wpre, push_cast, seval, hh]; all_goals (try simp only [AV.lit.injEq, Value.int.injEq, Value.bool.injEq, true_and, and_true]); all_goals (try (repeat' apply And.intro)); all_goals (first | rfl | omega | simp_all | skip))
  · rw [decide_eq_false hc] at hlw
    have hlw : (QQ.any fun y => decide (y.tch = x.tch)) = true := hlw
    simp (disch := omega) only [↓wpre, push_cast, seval, hh, hlw, hN21]
    refine AFn.x (containsId_c G _ nzc CUTS id (by omega)) fun n14 hn14 => ?_
    have hb1 : (true == false) = false := rfl
    simp (disch := omega) only [↓wpre, push_cast, seval, hh, hc, decide_false, hb1]
    refine againJ (d2 ++ [id], s2) (Nat.lt_succ_self _) ⟨by rw [hab2]; simp, by simp (disch := omega) only [↓wpre, push_cast, seval, hN3], by simp (disch := omega) only [↓wpre, push_cast, seval, hN5], by omega⟩ (by simp (disch := omega) only [↓wpre, push_cast, seval, hh]; all_goals (try simp only [AV.lit.injEq, Value.int.injEq, Value.bool.injEq, true_and, and_true]); all_goals (try (repeat' apply And.intro)); all_goals (first | rfl | omega | simp_all | skip))
end Go.Proofs.YtblhbafoncfhdaaGreatDoor
