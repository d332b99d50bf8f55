/- Contracts of functions of the program: each computes what its model says; the conditions stand at each. -/
import Derived.Test.YtblhbafoncfhdaaGreatDoorP1
import Derived.Test.YtblhbafoncfhdaaGreatDoorA5
import Derived.Test.YtblhbafoncfhdaaGreatDoorPe2
set_option linter.unusedSimpArgs false
set_option linter.unusedVariables false
set_option maxRecDepth 20000
set_option pp.deepTerms false
set_option pp.deepTerms.threshold 3
namespace Go.Proofs.YtblhbafoncfhdaaGreatDoor
open Go Go.Ab Go.Pm Go.Cm Go.El Go.Rm Go.Pp Go.Uf
variable (G : Nat → AV) (H : Nat → Option AObj)

abbrev grpRow (r : Rls) (nz : Bool) (l : List Tch) (m : Nat) : List AV := [.ls r.nzk (r.kinds.map fun x => [AV.int x]), .int r.most, .ls r.nzw (r.weak.map Idn.c), .ls r.nzs (r.srv.map Srv.c), .ls nz (l.map Tch.c), .om m]
theorem nats_get {p : List Nat} {i : Nat} (h : i < p.length) : (nats p)[i]? = some [AV.int (par p i : Nat)] := by
  rw [nats, List.getElem?_map, row_par h]; rfl
theorem nats_set (p : List Nat) (i v : Nat) : (nats p).set i [AV.int (v : Nat)] = nats (p.set i v) := by rw [nats, nats, List.map_set]
theorem rp_par_par {p q : List Nat} (h : Like p q) (k : Nat) : rp p (par q (par q k)) = rp p k := by
  rw [← h.same, ← h.same, rp_par h.down, rp_par h.down]
set_option maxHeartbeats 1600000 in
theorem find_c (b ro : Nat) (p : List Nat) (hd : Down p) (len : Nat) (hlen : len = p.length) (hp : p.length ≤ 100000) (hb : H b = some ⟨22, 1, [[.os ro 0 len]]⟩) (hr : H ro = some ⟨3, 1, nats p⟩) (i : Nat) (hi : i < p.length) (n : Nat) : ACalls Tryz.prog G 171 [.int i, .op b 0 0] H n fun v H' n' => ∃ q, Like p q ∧ v = .int (rp p i) ∧ H' = hu H ro (some ⟨3, 1, nats q⟩) ∧ n ≤ n' := by
  have hne : b ≠ ro := by
    rintro rfl
    rw [hb] at hr
    simp at hr
  refine ACalls.start mix F171 (by simp) fun hlow => ?_
  simp -dsimp -implicitDefEqProofs (disch := omega) only [↓wpre, push_cast, seval, c171]
  refine xw_loopJ (σ := List Nat × Nat) (fun t => [(0, .int t.2), (1, .op b 0 0)]) (fun t H' n' => Like p t.1 ∧ rp p t.2 = rp p i ∧ t.2 < p.length ∧ H' = hu H ro (some ⟨3, 1, nats t.1⟩) ∧ n ≤ n') (fun t => t.2) (p, i) ⟨.refl hd, rfl, hi, (hu_self H hr).symm, Nat.le_refl _⟩ (by simp -dsimp -implicitDefEqProofs (disch := omega) only [↓wpre, push_cast, seval]) ?_
  rintro ⟨q, k⟩ fr H' n1 ⟨hl, hrk, hk, rfl, hnn⟩ hh
  simp only [has_nil, has_cons, and_true] at hh hl hrk hk
  have hkq : k < q.length := by rw [hl.len]; exact hk
  have g1 := nats_get hkq
  have hkl : (k : Int) < len := by omega
  have hk0 : (0 : Int) ≤ k := by omega
  have hkn : k < len := by omega
  simp -dsimp -implicitDefEqProofs (disch := omega) only [↓wpre, push_cast, seval, hh, hb, hne, hkl, hk0, hkn, g1, Int.toNat_natCast]
  (first | with_reducible refine cnd_ndec (fun hc => ?_) (fun hc => ?_) | with_reducible refine cnd_dec (fun hc => ?_) (fun hc => ?_) | with_reducible refine cnd_nb (fun hc => ?_) (fun hc => ?_) | with_reducible refine cnd_intro (fun hc => ?_) (fun hc => ?_)) <;> (first | (exfalso; omega) | (try simp -dsimp -implicitDefEqProofs (disch := omega) only [↓wpre, push_cast, seval, hc, hh]))
  · have hc' : par q k ≠ k := fun e => hc (by rw [e])
    have hle := hl.down k
    have hle2 := hl.down (par q k)
    have hlt2 := rp_par_lt hl.down hc'
    have hpq : par q k < q.length := by omega
    have g2 := nats_get hpq
    have hpl : ((par q k : Nat) : Int) < len := by omega
    have hp0 : (0 : Int) ≤ (par q k : Nat) := by omega
    have hpn : par q k < len := by omega
    have hs := nats_set q k (par q (par q k))
    have hkq2 : k < (q.set k (par q (par q k))).length := by simpa using hkq
    have g3 : (nats (q.set k (par q (par q k))))[k]? = some [AV.int (par q (par q k) : Nat)] := by rw [nats_get hkq2, par_set q k _ k hkq, if_pos rfl]
    simp -dsimp -implicitDefEqProofs (disch := omega) only [↓wpre, push_cast, seval, hh, hb, hne, hkl, hk0, hkn, g1, g2, hpl, hp0, hpn, hs, Int.toNat_natCast]
    refine anyN_intro fun n2 hn2 => ?_
    simp -dsimp -implicitDefEqProofs (disch := omega) only [↓wpre, push_cast, seval, hh, hb, hne, hkl, hk0, hkn, g3, hs, Int.toNat_natCast, hu_hu]
    have hL := Like.half hl.down hkq
    refine againJ (q.set k (par q (par q k)), par q (par q k)) (by dsimp only; omega) ⟨hl.trans hL, ?_, by dsimp only; omega, rfl, by omega⟩ (by simp -dsimp -implicitDefEqProofs (disch := omega) only [↓wpre, push_cast, seval, hh])
    dsimp only
    rw [← hrk, rp_par_par hl]
  · have hc' : par q k = k := by omega
    refine fin_intro (Sub.refl _) ⟨q, hl, ?_, rfl, hnn⟩
    rw [← hrk, ← hl.same, rp_of_root hc']
theorem mwith_get {k z v : AV} {rows : List (List AV)} (h : Pairs rows) : (mwith rows k z)[midx rows k]? = some [k, (mget rows k).getD z] := (mwith_set (v := v) h).1
set_option maxHeartbeats 3200000 in
theorem newGroup_c (r : Rls) (nz : Bool) (l : List Tch) (h : TouchesOk l) (n : Nat) : ACalls Tryz.prog G 84 [.agg r.c, .ls nz (l.map Tch.c)] H n fun v H' n' => ∃ g m K ob, v = .op g 0 0 ∧ H' g = some ⟨152, 6, [grpRow r nz l m]⟩ ∧ Hv H' m (occ l) K ob n' ∧ Sub H H' ∧ g < n' := by
  have hfew := h.few
  refine ACalls.start mix F84 (by simp) fun hlow => ?_
  simp -dsimp -implicitDefEqProofs (disch := omega) only [↓wpre, push_cast, seval, c84]
  refine xw_loopJ (σ := List Tch × List Tch × List Idn × (Idn → Nat)) (fun t => [(5, .op (n + 1) 0 0), (15, .ls nz (l.map Tch.c)), (16, .int l.length), (17, .int t.1.length)]) (fun t H' n' => l = t.1 ++ t.2.1 ∧ Hv H' n (occ t.1) t.2.2.1 t.2.2.2 n' ∧ H' (n + 1) = some ⟨152, 6, [grpRow r nz l n]⟩ ∧ Qt H H' n ∧ n + 2 ≤ n' ∧ ∀ y ∈ t.2.2.1, n ≤ t.2.2.2 y) (fun t => t.2.1.length) ([], l, [], fun _ => 0) ⟨rfl, ⟨by rw [hu_ne (by omega)]; exact hu_same, fun x hx => (by cases hx), List.nodup_nil, fun x => by simp [occ, occFrom], fun x hx => (by cases hx), ⟨by omega, fun x hx => (by cases hx)⟩⟩, hu_same, (Qt.refl hlow |>.hu (by omega)).hu (by omega), by omega, fun y hy => (by cases hy)⟩ (by simp -dsimp -implicitDefEqProofs (disch := omega) only [↓wpre, push_cast, seval]) ?_
  rintro ⟨d, ts, K, ob⟩ fr H' n1 ⟨hab, hv, hg, hq, hn, hge⟩ hh
  simp only [has_nil, has_cons, and_true] at hh hab hv hg hge
  have hll : l.length = d.length + ts.length := by rw [hab]; simp
  cases ts with
  | nil =>
    have hlt : ¬ (d.length : Int) < l.length := by rw [hll]; simp
    simp -dsimp -implicitDefEqProofs (disch := omega) only [↓wpre, push_cast, seval, hh, hlt]
    have hdl : d = l := by rw [hab]; simp
    rw [hdl] at hv
    exact fin_intro (Sub.refl _) ⟨n + 1, n, K, ob, rfl, hg, hv, hq.1, by omega⟩
  | cons t ts =>
    have hlt : (d.length : Int) < l.length := by rw [hll]; simp only [List.length_cons]; omega
    have hx : l[d.length]? = some t := by rw [hab]; simp
    have hto := h.each t (by rw [hab]; simp)
    have hfi := hto.few
    have hnd : t.ids.Nodup := hto.ids.asc.nodup
    simp -dsimp -implicitDefEqProofs (disch := omega) only [↓wpre, push_cast, seval, hh, hlt, even_tch, aidx_at rfl hx]
    refine xw_loopJ (σ := List Idn × List Idn × List Idn × (Idn → Nat)) (fun u => [(5, .op (n + 1) 0 0), (6, .int d.length), (15, .ls nz (l.map Tch.c)), (16, .int l.length), (17, .int d.length), (23, .ls t.nzi (t.ids.map Idn.c)), (24, .int t.ids.length), (25, .int u.1.length)]) (fun u H2 n2 => t.ids = u.1 ++ u.2.1 ∧ Hv H2 n (occS d u.1) u.2.2.1 u.2.2.2 n2 ∧ H2 (n + 1) = some ⟨152, 6, [grpRow r nz l n]⟩ ∧ Qt H H2 n ∧ n + 2 ≤ n2 ∧ ∀ y ∈ u.2.2.1, n ≤ u.2.2.2 y) (fun u => u.2.1.length) ([], t.ids, K, ob) ⟨rfl, ?_, ?_, ?_, by omega, hge⟩ (by simp -dsimp -implicitDefEqProofs (disch := omega) only [↓wpre, push_cast, seval, hh]) ?_
    · exact Hv.mono (Hv.keep (hv.same (occS_nil d)) fun j hj => by rw [hu_ne (by omega), hu_ne (by omega)]) (by omega)
    · simp -dsimp -implicitDefEqProofs (disch := omega) only [↓wpre, push_cast, seval, hg]
    · exact Qt.mono (n := n) (by repeat (first | exact hq | refine Qt.hu ?_ (by omega))) (by omega)
    clear hh hv hg hq hge
    rintro ⟨e, s, K, ob⟩ fr H2 n2 ⟨hes, hv, hg, hq, hn2, hge⟩ hh
    simp only [has_nil, has_cons, and_true] at hh hes hv hg hge
    have hel : t.ids.length = e.length + s.length := by rw [hes]; simp
    cases s with
    | nil =>
      have hlt : ¬ (e.length : Int) < t.ids.length := by rw [hel]; simp
      simp -dsimp -implicitDefEqProofs (disch := omega) only [↓wpre, push_cast, seval, hh, hlt]
      have hee : e = t.ids := by rw [hes]; simp
      rw [hee] at hv
      refine againJ (d ++ [t], ts, K, ob) (Nat.lt_succ_self _) ⟨by rw [hab]; simp, hv.same fun x => (occS_all d t x).symm, hg, hq, hn2, hge⟩ (by simp -dsimp -implicitDefEqProofs (disch := omega) only [↓wpre, push_cast, seval, hh]; all_goals (try simp only [AV.lit.injEq, Value.int.injEq, Value.bool.injEq, true_and, and_true]); all_goals (try (repeat' apply And.intro)); all_goals (first | rfl | omega | simp_all | skip))
    | cons x s =>
      have hlt : (e.length : Int) < t.ids.length := by rw [hel]; simp only [List.length_cons]; omega
      have hx : t.ids[e.length]? = some x := by rw [hes]; simp
      have hxe : x ∉ e := by
        rw [hes] at hnd
        exact fun hm => (List.nodup_append.1 hnd).2.2 x hm x (by simp) rfl
      simp -dsimp -implicitDefEqProofs (disch := omega) only [↓wpre, push_cast, seval, hh, hlt, even_ids, aidx_at rfl hx]
      refine xw_nreg noH (of_eq_true (sub_noH _)) ?_
      simp -dsimp -implicitDefEqProofs (disch := omega) only [↓wpre, push_cast, seval, hh, hg]
      have hm := hv.map
      have hnn := hv.low.1
      by_cases hxK : x ∈ K
      · have hlk := hv.look hxK
        have hox := hv.obj x hxK
        have hol := hv.low.2 x hxK
        have hon := hv.ne hxK
        have hfl : (occS d e x).length ≤ 100000 := by have := occS_len d e x; omega
        have hog := hge x hxK
        generalize hR : (K.map fun x => [AV.agg x.c, AV.os (ob x) 0 (occS d e x).length]) = R at hm hlk
        have hP : Pairs R := by rw [← hR]; exact pairs_map (key := fun x : Idn => AV.agg x.c) (val := fun x => AV.os (ob x) 0 (occS d e x).length)
        have hgd : (mget R (.agg x.c)).getD (.ls false []) = .os (ob x) 0 (occS d e x).length := by rw [hlk]; rfl
        refine xment_om (rows := R) (by rw [hu_ne (by omega), hu_ne (by omega)]; exact hm) rfl rfl rfl ?_
        simp -dsimp -implicitDefEqProofs (disch := omega) only [↓wpre, push_cast, seval, hh, hgd]
        rw [xapp_os (rows := nats (occS d e x)) (by rw [hu_ne (by omega), hu_ne (by omega), hu_ne (by omega)]; exact hox) (nats_len _) (by intro r hr; simp at hr; subst hr; exact ⟨rfl, rfl⟩) (by simp) (by simp; omega)]
        simp -dsimp -implicitDefEqProofs (disch := omega) only [↓wpre, push_cast, seval, hh]
        refine xmest_om (key := .agg x.c) (old := .os (ob x) 0 (occS d e x).length) (rows := mwith R (.agg x.c) (.ls false [])) (by rw [hu_ne (by omega), hu_ne (by omega), hu_same]) rfl (by have h9 := mwith_get (k := .agg x.c) (z := .ls false []) (v := .any) hP; rwa [hgd] at h9) ?_
        rw [(mwith_set (v := .os (n2 + 1) 0 ((occS d e x).length + 1)) hP).2]
        simp -dsimp -implicitDefEqProofs (disch := omega) only [↓wpre, push_cast, seval, hh]
        refine againJ (e ++ [x], s, K, ob' ob x (n2 + 1)) (Nat.lt_succ_self _) ⟨by rw [hes]; simp, ?_, ?_, ?_, by omega, ob'_ge hge (by omega)⟩ (by simp -dsimp -implicitDefEqProofs (disch := omega) only [↓wpre, push_cast, seval, hh]; all_goals (try simp only [AV.lit.injEq, Value.int.injEq, Value.bool.injEq, true_and, and_true]); all_goals (try (repeat' apply And.intro)); all_goals (first | rfl | omega | simp_all | skip))
        · refine Hv.same (Hv.more (i := d.length) hv (show n2 ≤ n2 + 1 by omega) hxK ?_ ?_ ?_) fun y => occS_add hxe y
          · rw [hR]; exact hu_same
          · rw [hu_ne (by omega), hu_same]
          · intro j h1 h2 h3
            rw [hu_ne h2, hu_ne (by omega), hu_ne h3, hu_ne h2, hu_ne (by omega), hu_ne (by omega)]
        · have hgx : n + 1 ≠ ob x := by
            intro e
            rw [← e, hg] at hox
            simp at hox
          rw [hu_ne (by omega), hu_ne (by omega), hu_ne hgx, hu_ne (by omega), hu_ne (by omega), hu_ne (by omega)]
          exact hg
        · exact Qt.mono (n := n) (by repeat (first | exact hq | refine Qt.hu ?_ (by omega))) (by omega)
      · have hlk := hv.lookN hxK
        have hfx : occS d e x = [] := Classical.byContradiction fun h0 => hxK ((hv.all x).1 h0)
        generalize hR : (K.map fun x => [AV.agg x.c, AV.os (ob x) 0 (occS d e x).length]) = R at hm hlk
        have hP : Pairs R := by rw [← hR]; exact pairs_map (key := fun x : Idn => AV.agg x.c) (val := fun x => AV.os (ob x) 0 (occS d e x).length)
        have hgd : (mget R (.agg x.c)).getD (.ls false []) = .ls false [] := by rw [hlk]; rfl
        refine xment_om (rows := R) (by rw [hu_ne (by omega), hu_ne (by omega)]; exact hm) rfl rfl rfl ?_
        simp -dsimp -implicitDefEqProofs (disch := omega) only [↓wpre, push_cast, seval, hh, hgd]
        rw [xapp_first (by intro r hr; simp at hr; subst hr; exact ⟨rfl, rfl⟩) (by simp) (by simp)]
        simp -dsimp -implicitDefEqProofs (disch := omega) only [↓wpre, push_cast, seval, hh]
        refine xmest_om (key := .agg x.c) (old := .ls false []) (rows := mwith R (.agg x.c) (.ls false [])) (by rw [hu_ne (by omega), hu_same]) rfl (by have h9 := mwith_get (k := .agg x.c) (z := .ls false []) (v := .any) hP; rwa [hgd] at h9) ?_
        rw [(mwith_set (v := .os (n2 + 1) 0 1) hP).2]
        simp -dsimp -implicitDefEqProofs (disch := omega) only [↓wpre, push_cast, seval, hh]
        refine againJ (e ++ [x], s, K ++ [x], ob' ob x (n2 + 1)) (Nat.lt_succ_self _) ⟨by rw [hes]; simp, ?_, ?_, ?_, by omega, ?_⟩ (by simp -dsimp -implicitDefEqProofs (disch := omega) only [↓wpre, push_cast, seval, hh]; all_goals (try simp only [AV.lit.injEq, Value.int.injEq, Value.bool.injEq, true_and, and_true]); all_goals (try (repeat' apply And.intro)); all_goals (first | rfl | omega | simp_all | skip))
        · refine Hv.same (Hv.fresh (i := d.length) hv (show n2 ≤ n2 + 1 by omega) hxK ?_ ?_ ?_) fun y => occS_add hxe y
          · rw [hR]; exact hu_same
          · rw [hu_ne (by omega), hu_same]
          · intro j h1 h2
            rw [hu_ne h2, hu_ne (by omega), hu_ne h2, hu_ne (by omega), hu_ne (by omega)]
        · rw [hu_ne (by omega), hu_ne (by omega), hu_ne (by omega), hu_ne (by omega), hu_ne (by omega)]
          exact hg
        · exact Qt.mono (n := n) (by repeat (first | exact hq | refine Qt.hu ?_ (by omega))) (by omega)
        · intro y hy
          by_cases e1 : y = x
          · subst e1; dsimp only; rw [ob'_self]; omega
          · dsimp only; rw [ob'_ne e1]; exact hge y (by simpa [e1] using hy)
end Go.Proofs.YtblhbafoncfhdaaGreatDoor

