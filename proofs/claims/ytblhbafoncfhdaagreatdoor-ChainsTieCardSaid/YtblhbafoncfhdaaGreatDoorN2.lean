/- Contracts of functions of the program: each computes what its model says; the conditions stand at each. -/
import Derived.Test.YtblhbafoncfhdaaGreatDoorM2
import Derived.Test.YtblhbafoncfhdaaGreatDoorL1
import Derived.Test.YtblhbafoncfhdaaGreatDoorN1
set_option linter.unusedSimpArgs false
set_option linter.unusedVariables false
set_option maxRecDepth 20000
namespace Go.Proofs.YtblhbafoncfhdaaGreatDoor
open Go Go.Ab Go.Pm Go.Cm Go.El Go.Rm Go.Pp Go.Uf
variable (G : Nat → AV) (H : Nat → Option AObj)
/-! One chain from touch to touch. -/
set_option maxHeartbeats 6400000 in
theorem chain_run {m0 : Int} {cs : List AV} (hG : G 4 = .pp (.lit (.int .i64 m0) :: cs)) (hU : GU G) (r : Rls) (hr : RulesOk r) (nz : Bool) (l : List Tch) (h : TouchesOk l) (a b : Nat) (ha : a < l.length) (hb : b < l.length) (n : Nat) : ACalls Tryz.prog G 58 [.agg r.c, .ls nz (l.map Tch.c), .int (tAt l a).no, .int (tAt l b).no] H n fun v H' n' => Ab.Sub H H' ∧ ((¬ Conn (tie (joins r l) l) a b ∧ v = .tup [.ls false [], .int 16]) ∨ Conn (tie (joins r l) l) a b ∧ ∃ c o, Chn (joins r l) l a b c ∧ c.length ≤ l.length ∧ v = .tup [.os o 0 c.length, .int 0] ∧ n ≤ o ∧ H' o = some ⟨104, 3, c.map Lnk.c⟩) := by
 have hfew := h.few
 refine ACalls.start mix F58 (by simp) fun hlow => ?_
 simp (disch := omega) only [↓wpre, push_cast, seval, c58]
 refine AFn.x (checkBoth_ok G _ hG hU r hr nz l h) fun n1 hn1 => ?_
 simp (disch := omega) only [↓wpre, push_cast, seval]
 refine AFn.x (numbered_c G _ nz l h a ha) fun n2 hn2 => ?_
 simp (disch := omega) only [↓wpre, push_cast, seval]
 refine AFn.x (numbered_c G _ nz l h b hb) fun n3 hn3 => ?_
 simp (disch := omega) only [↓wpre, push_cast, seval]
 refine ACalls.x (ACalls.lowp (newGroup_c G _ r nz l h n3)) fun v H1 n4 ⟨⟨g, m, K, ob, e1, hg, hv, hs, hlt⟩, hn4, hl4⟩ => ?_
 subst e1
 have hgrp : Grp H1 g m r nz l K ob n4 := ⟨hg, hv, hlt, rulesFew hr, h.few⟩
 simp (disch := omega) only [↓wpre, push_cast, seval]
 refine ACalls.x (ACalls.lowp (far_c G _ hgrp h b hb n4 (Nat.le_refl _))) fun v H2 n5 ⟨⟨out, hbf, hcl, e1, e2⟩, hn5, hl5⟩ => ?_
 subst e1 e2
 have gA := ints_get (l := out) (i := a) (by rw [hbf.len]; exact ha)
 have hfin := hbf.fin hcl a
 have hix : ∀ i, i < l.length → ∀ H : Nat → Option AObj, aidx H 1 (.ls true (ints out)) (.int (i : Nat)) = some (.pp [AV.int (fAt out i)]) := fun i hi H => by
  have := ints_get (l := out) (i := i) (by rw [hbf.len]; exact hi)
  simp only [aidx]
  rw [if_pos (by omega)]
  simp [this]
 have hev : Even 1 (ints out) = True := eq_true (by intro r hr; simp [ints] at hr; obtain ⟨v, _, rfl⟩ := hr; exact ⟨rfl, rfl⟩)
 have hil : ∀ i, ((i : Nat) : Int) < l.length ↔ i < l.length := fun i => by omega
 by_cases hneg : fAt out a < 0
 ·simp (disch := omega) only [↓wpre, push_cast, seval, hev, hix a ha, hneg]
  exact fin_intro (Ab.Sub.refl _) ⟨hs, .inl ⟨fun hc => by have := hfin.2 hc; omega, rfl⟩⟩
 ·have hpos : 0 ≤ fAt out a := by omega
  have hhigh := hbf.high a
  simp (disch := omega) only [↓wpre, push_cast, seval, hev, hix a ha, hneg]
  refine xw_loopJ (σ := Nat × List Lnk × Nat) (fun t => [(1, .ls nz (l.map Tch.c)), (13, .int (b : Nat)), (15, .op g 0 0), (16, .ls true (ints out)), (17, .os t.2.2 0 t.2.1.length), (18, .int (t.1 : Nat))]) (fun t H' n' => t.1 < l.length ∧ Chn (joins r l) l a t.1 t.2.1 ∧ 0 ≤ fAt out t.1 ∧ t.2.1.length + fAt out t.1 = fAt out a + 1 ∧ OutIs n4 H' (some t.2.2) 104 3 (t.2.1.map Lnk.c) n' ∧ Qt H2 H' n4 ∧ n4 ≤ n') (fun t => (fAt out t.1).toNat) (a, [⟨(tAt l a).no, noId⟩], n5) ⟨ha, .one, hpos, by simp; omega, ⟨hu_same, by dsimp only; omega, by dsimp only; omega⟩, by exact Qt.hu (Qt.refl hl4) (by omega), by omega⟩ (by simp (disch := omega) only [↓wpre, push_cast, seval]; try rfl) ?_
  rintro ⟨at', c, o⟩ fr H3 n6 ⟨hal, hch, hp, hlen, ho, hq, hn6⟩ hh
  simp only [has_nil, has_cons, and_true] at hh hal hch hp hlen ho
  have hhi2 := hbf.high at'
  by_cases hab : at' = b
  ·subst hab
   have hz := hbf.zero
   have hho := ho.1
   have hlo := ho.2.1
   simp (disch := omega) only [↓wpre, push_cast, seval, hh]
   exact fin_intro (Ab.Sub.refl _) ⟨fun j y hy => hq.1 _ _ (hs _ _ hy), .inr ⟨hfin.1 hpos, c, o, hch, by omega, rfl, by omega, hho⟩⟩
  ·have hab' : ¬ (at' : Int) = b := by omega
   simp (disch := omega) only [↓wpre, push_cast, seval, hh, hab']
   refine ACalls.x (ACalls.lowp (nbs_c G _ (hgrp.sub hq.1) h at' hal n6 (by omega))) fun v H4 n7 ⟨⟨nb, nz', hnb, hnbl, e1, e2⟩, hn7, hl7⟩ => ?_
   subst e1 e2
   have hnl : (nats nb).length = nb.length := nats_len nb
   simp (disch := omega) only [↓wpre, push_cast, seval, hh, hnl]
   refine xw_loopJ (σ := List Nat × List Nat) (fun t => [(1, .ls nz (l.map Tch.c)), (13, .int (b : Nat)), (15, .op g 0 0), (16, .ls true (ints out)), (17, .os o 0 c.length), (18, .int (at' : Nat)), (67, .ls nz' (nats nb)), (68, .int nb.length), (69, .int t.1.length)]) (fun t H' n' => nb = t.1 ++ t.2 ∧ (∀ j ∈ t.1, fAt out j ≠ fAt out at' - 1) ∧ OutIs n4 H' (some o) 104 3 (c.map Lnk.c) n' ∧ Qt H2 H' n4 ∧ n4 ≤ n') (fun t => t.2.length) ([], nb) ⟨rfl, fun j hj => (by cases hj), keepO ho (fun _ _ => rfl) (by omega), hq, by omega⟩ (by simp (disch := omega) only [↓wpre, push_cast, seval, hh]; try rfl) ?_
   clear ho hq hh hn6 hn7 hl7
   rintro ⟨d, s⟩ fr H5 n8 ⟨hds, hdn, ho, hq, hn8⟩ hh
   simp only [has_nil, has_cons, and_true] at hh hds hdn ho
   have hll : nb.length = d.length + s.length := by rw [hds]; simp
   cases s with
   | nil =>
    have hdd : d = nb := by rw [hds]; simp
    obtain ⟨j, h1, h2, h3⟩ := hbf.up at' hab hp
    exact absurd h2 (hdn j (by rw [hdd]; exact (hnb j).2 h1))
   | cons i s =>
    have hlt : (d.length : Int) < nb.length := by rw [hll]; simp only [List.length_cons]; omega
    have hx : (nats nb)[d.length]? = some [AV.int (i : Nat)] := by rw [hds]; simp [nats]
    have hd0 : (0 : Int) ≤ d.length := by omega
    have hixn : ∀ H : Nat → Option AObj, aidx H 1 (.ls nz' (nats nb)) (.int d.length) = some (.pp [AV.int (i : Nat)]) := fun H => by
     simp only [aidx]
     rw [if_pos hd0]
     simp [hx]
    have hti := (hnb i).1 (by rw [hds]; simp)
    have hil : i < l.length := by
     obtain ⟨x, _, _, h3⟩ := hti
     exact has_lt h3
    have hevn := even_nats nb
    simp (disch := omega) only [↓wpre, push_cast, seval, hh, hlt, hixn, hevn]
    refine xw_nreg noH (of_eq_true (sub_noH _)) ?_
    simp (disch := omega) only [↓wpre, push_cast, seval, hh, hix i hil, hix at' hal, hev]
    by_cases he : fAt out i = fAt out at' - 1
    ·have hne : at' ≠ i := fun e => by subst e; omega
     obtain ⟨x, hx1, hx2, hx3, hx4⟩ := shrd_some h hti
     have hit : l[i]? = some (tAt l i) := by rw [tAt_get (List.getElem?_eq_getElem hil)]; exact List.getElem?_eq_getElem hil
     simp (disch := omega) only [↓wpre, push_cast, seval, hh, he]
     refine AFn.x (shared_c G _ (hgrp.sub hq.1) h at' i hal hil x hx1) fun n9 hn9 => ?_
     simp (disch := omega) only [↓wpre, push_cast, seval, hh]
     refine xw_nreg noH (of_eq_true (sub_noH _)) ?_
     simp (disch := omega) only [↓wpre, push_cast, seval, hh, even_tch, aidx_at rfl hit]
     have hge1 : 1 ≤ fAt out at' := by
      obtain ⟨j, _, h2, h3⟩ := hbf.up at' hab hp
      omega
     have hcl2 : c.length ≤ 2000 := by omega
     refine xapp_outN (n0 := n4) (rows := c.map Lnk.c) (r := Lnk.c ⟨(tAt l i).no, x⟩) (keepO ho (fun o' e => by
      have e : some o = some o' := e
      cases e
      have := ho.2.1
      have := ho.2.2
      repeat rw [hu_ne (by omega)]) (by omega)) (by simp) (by intro r hr; simp at hr; subst hr; exact ⟨rfl, rfl⟩) (by simp only [List.length_map]; omega) fun HN hN hNj => ?_
     simp (disch := omega) only [↓wpre, push_cast, seval, hh]
     refine againJ (i, c ++ [⟨(tAt l i).no, x⟩], n9 + 1) (by dsimp only; omega) ⟨hil, Chn.more hch hx2 hx3 hx4 hne, by dsimp only; omega, by dsimp only; simp; omega, ⟨by rw [hN]; simp, by dsimp only; omega, by dsimp only; omega⟩, Qt.far hq (fun j hj2 => ?_), by omega⟩ (by simp (disch := omega) only [↓wpre, push_cast, seval, hh]; all_goals (try simp only [AV.lit.injEq, Value.int.injEq, Value.bool.injEq, true_and, and_true]); all_goals (try (repeat' apply And.intro)); all_goals (first | rfl | omega | simp_all | skip))
     have hl2 := ho.2.1
     rw [hNj j (by omega) (fun e => by cases e; omega)]
     repeat rw [hu_ne (by omega)]
    ·simp (disch := omega) only [↓wpre, push_cast, seval, hh, he]
     refine againJ (d ++ [i], s) (Nat.lt_succ_self _) ⟨by rw [hds]; simp, fun j hj => ?_, ho, hq, by omega⟩ (by simp (disch := omega) only [↓wpre, push_cast, seval, hh]; all_goals (try simp only [AV.lit.injEq, Value.int.injEq, Value.bool.injEq, true_and, and_true]); all_goals (try (repeat' apply And.intro)); all_goals (first | rfl | omega | simp_all | skip))
     rcases List.mem_append.1 hj with hj | hj
     ·exact hdn j hj
     ·simp only [List.mem_singleton] at hj; subst hj; exact he
theorem chain_c {m0 : Int} {cs : List AV} (hG : G 4 = .pp (.lit (.int .i64 m0) :: cs)) (hU : GU G) (r : Rls) (hr : RulesOk r) (nz : Bool) (l : List Tch) (h : TouchesOk l) (a b : Nat) (ha : a < l.length) (hb : b < l.length) (n : Nat) : ACalls Tryz.prog G 58 [.agg r.c, .ls nz (l.map Tch.c), .int (tAt l a).no, .int (tAt l b).no] H n fun v H' n' => ((¬ Conn (tie (joins r l) l) a b ∧ v = .tup [.ls false [], .int 16]) ∨ Conn (tie (joins r l) l) a b ∧ ∃ c, Chn (joins r l) l a b c ∧ c.length ≤ l.length ∧ v = .tup [.ls true (c.map Lnk.c), .int 0]) ∧ H' = H := by
 refine frz_all G H 2 (chain_run G H hG hU r hr nz l h a b ha hb n) fun v H1 n1 ⟨hs, hv⟩ => ⟨hs, ?_, rfl⟩
 rcases hv with ⟨h1, rfl⟩ | ⟨h1, c, o, h2, h3, rfl, h4, h5⟩
 ·exact .inl ⟨h1, by
   show AV.tup [frz _ 1 (.ls false []), frz _ 1 (.int 16)] = _
   rw [frz_lit]
   rfl⟩
 ·refine .inr ⟨h1, c, h2, h3, ?_⟩
  show AV.tup [frz _ 1 (.os o 0 c.length), frz _ 1 (.int 0)] = _
  rw [frz_lit, frz1_os (o := ⟨104, 3, c.map Lnk.c⟩) ((if_pos h4).trans h5) (by simp)]
/-! The touch with a number, by slices.IndexFunc. -/
def idxT (q : Tch → Bool) : Nat → List Tch → Int
 | _, [] => -1
 | i, y :: r => if q y then (i : Int) else idxT q (i + 1) r
theorem idxT_at (q : Tch → Bool) (y : Tch) (hy : q y = true) (e : List Tch) : ∀ (d : List Tch) (i : Nat), (∀ x ∈ d, q x = false) → idxT q i (d ++ y :: e) = (i : Int) + d.length
 | [], i, _ => by simp [idxT, hy]
 | x :: d, i, h => by
  have h1 := h x (by simp)
  show (if q x then (i : Int) else idxT q (i + 1) (d ++ y :: e)) = _
  rw [h1, if_neg (by simp), idxT_at q y hy e d (i + 1) fun z hz => h z (by simp [hz]), List.length_cons]
  omega
theorem idxT_no {l : List Tch} (hr : Rise l) {u : Nat} (hu : u < l.length) : idxT (fun t => decide (t.no = (tAt l u).no)) 0 l = (u : Nat) := by
 have hg : l[u]? = some (tAt l u) := by rw [tAt_get (List.getElem?_eq_getElem hu)]; exact List.getElem?_eq_getElem hu
 have hs : l = l.take u ++ tAt l u :: l.drop (u + 1) := by
  have h1 := (List.take_append_drop u l).symm
  have h2 : l.drop u = tAt l u :: l.drop (u + 1) := by
   rw [tAt_get (List.getElem?_eq_getElem hu)]
   exact (List.getElem_cons_drop hu).symm
  rw [h2] at h1
  exact h1
 have h3 := idxT_at (fun t => decide (t.no = (tAt l u).no)) (tAt l u) (by simp) (l.drop (u + 1)) (l.take u) 0 fun x hx => by
  obtain ⟨i, hi⟩ := List.mem_iff_getElem?.1 hx
  obtain ⟨hi1, hi2⟩ := List.getElem?_eq_some_iff.1 hi
  rw [List.length_take] at hi1
  have h4 : l[i]? = some x := by rw [← hi, List.getElem?_take_of_lt (by omega)]
  have h5 : tAt l i = x := tAt_get h4
  have : x.no ≠ (tAt l u).no := fun e => by
   have := hr.inj (by omega : i < l.length) hu (by rw [h5]; exact e)
   omega
  simpa using this
 rw [← hs] at h3
 rw [h3, List.length_take]
 omega
theorem isNo_c (t : Tch) (no : Int) : AFn Tryz.prog G 56 [.agg t.c, .pp [.int no]] H (.bool (decide (t.no = no))) := by
 refine AFn.start mix F56 (by simp) fun k hlow => ?_
 simp (disch := omega) only [↓wpre, push_cast, seval, c56]
theorem indexT_c (nz : Bool) (l : List Tch) (no : Int) (hl : l.length ≤ 1000000) : AFn Tryz.prog G 55 [.ls nz (l.map Tch.c), .fn (.func 56) [.pp [.int no]]] H (.int (idxT (fun t => decide (t.no = no)) 0 l)) := by
 generalize hq0 : (fun t : Tch => decide (t.no = no)) = q
 have hqv : ∀ t, q t = decide (t.no = no) := fun t => by rw [← hq0]
 refine AFn.start mix F55 (by simp) fun k hlow => ?_
 simp (disch := omega) only [↓wpre, push_cast, seval, c55]
 refine xw_loopJ (σ := List Tch × List Tch) (fun t => [(0, .ls nz (l.map Tch.c)), (1, .fn (.func 56) [.pp [.int no]]), (7, .int l.length), (8, .int t.1.length)]) (fun t H' n' => l = t.1 ++ t.2 ∧ idxT q t.1.length t.2 = idxT q 0 l ∧ Qt H H' k ∧ k ≤ n') (fun t => t.2.length) ([], l) ⟨rfl, rfl, .refl hlow, Nat.le_refl _⟩ (by simp (disch := omega) only [↓wpre, push_cast, seval]) ?_
 rintro ⟨d, r⟩ fr H' n1 ⟨hab, hi, hq, hn⟩ hh
 simp only [has_nil, has_cons, and_true] at hh hab hi
 have hll : l.length = d.length + r.length := by rw [hab]; simp
 cases r with
 | nil =>
  have hlt : ¬ (d.length : Int) < l.length := by rw [hll]; simp
  rw [← hi]
  simp (disch := omega) only [↓wpre, push_cast, seval, hh, hlt, idxT]
  first | (exact (Qt.mono (n := k) (by repeat (first | exact hq | refine Qt.hu ?_ (by omega))) (Nat.le_refl _)).1) | exact ⟨rfl, hq.1⟩
 | cons y r =>
  have hlt : (d.length : Int) < l.length := by rw [hll]; simp only [List.length_cons]; omega
  have hx : l[d.length]? = some y := by rw [hab]; simp
  have hi2 : idxT q d.length (y :: r) = if q y then (d.length : Int) else idxT q (d.length + 1) r := rfl
  rw [hi2] at hi
  simp (disch := omega) only [↓wpre, push_cast, seval, hh, hlt, even_tch, aidx_at rfl hx]
  have hcall := isNo_c G H' y no
  rw [← hqv y] at hcall
  refine AFn.x hcall fun n2 hn2 => ?_
  by_cases hc : q y = true
  ·rw [if_pos hc] at hi
   simp (disch := omega) only [↓wpre, push_cast, seval, hh, hc]
   first | exact ⟨by rw [hi], hq.1⟩ | (rw [← hi]; exact ⟨rfl, hq.1⟩)
  ·have hc' : q y = false := by simpa using hc
   rw [if_neg hc] at hi
   simp (disch := omega) only [↓wpre, push_cast, seval, hh, hc']
   refine againJ (d ++ [y], r) (Nat.lt_succ_self _) ⟨by rw [hab]; simp, by rw [List.length_append]; exact hi, by exact Qt.mono (n := k) (by repeat (first | exact hq | refine Qt.hu ?_ (by omega))) (by omega), by omega⟩ (by simp (disch := omega) only [↓wpre, push_cast, seval, hh]; all_goals (try simp only [AV.lit.injEq, Value.int.injEq, Value.bool.injEq, true_and, and_true]); all_goals (try (repeat' apply And.intro)); all_goals (first | rfl | omega | simp_all | skip))
theorem touchNo_c (nz : Bool) (l : List Tch) (h : TouchesOk l) (oo : Nat) (ho : H oo = some ⟨46, 1, [[.ls nz (l.map Tch.c)]]⟩) (u : Nat) (hu : u < l.length) : AFn Tryz.prog G 54 [.int (tAt l u).no, .op oo 0 0] H (.agg (tAt l u).c) := by
 have hf := h.few
 have hg : l[u]? = some (tAt l u) := by rw [tAt_get (List.getElem?_eq_getElem hu)]; exact List.getElem?_eq_getElem hu
 have hix := idxT_no h.rise hu
 have hn : ¬ ((u : Nat) : Int) < 0 := by omega
 refine AFn.start mix F54 (by simp) fun k hlow => ?_
 have hok := hlow _ _ ho
 have hq := Qt.refl hlow
 simp (disch := omega) only [↓wpre, push_cast, seval, c54, ho]
 refine AFn.x (indexT_c G _ nz l (tAt l u).no (by omega)) fun n1 hn1 => ?_
 simp (disch := omega) only [↓wpre, push_cast, seval, hix, hn, ho, even_tch, aidx_at rfl hg]
 exact (Qt.mono (n := k) (by repeat (first | exact hq | refine Qt.hu ?_ (by omega))) (Nat.le_refl _)).1
theorem xw_gen2 {P : Program} {G : Nat → AV} {Q : AExit → St → Prop} {w : Wit Q} {c : ACode} {fr : Nat → AV} {n : Nat} {H : Nat → Option AObj} (F : (Nat → Option AObj) → Prop) (hF : F H) (k : ∀ H', F H' → xw P G Q w c ⟨fr, H', n⟩) : xw P G Q w c ⟨fr, H, n⟩ := k H hF
theorem joinIds_few {r : Rls} {l : List Tch} (h : TouchesOk l) : (joinIds r l).length ≤ 20000 := by
 have h0 : ∀ ll : List Tch, (∀ t ∈ ll, t.ids.length ≤ 10) → (ll.flatMap Tch.ids).length ≤ 10 * ll.length := fun ll => by
  induction ll with
  | nil => intro _; simp
  | cons t ll ih =>
   intro ht
   have h1 := ht t (by simp)
   have h2 := ih fun t' ht' => ht t' (by simp [ht'])
   simp only [List.flatMap_cons, List.length_append, List.length_cons]
   omega
 have h1 := h0 l fun t ht => (h.each t ht).few
 have h2 := h.few
 have h3 := setOf_len ((l.flatMap Tch.ids).filter fun x => joins r l x && decide (2 ≤ (occ l x).length))
 have h4 := List.length_filter_le (fun x => joins r l x && decide (2 ≤ (occ l x).length)) (l.flatMap Tch.ids)
 unfold joinIds
 omega
set_option maxHeartbeats 12800000 in
theorem chainsTie_c (hU : GU G) (hP : G 1 = .pp poolC) (nz : Bool) (l : List Int) (n : Nat) : ACalls Tryz.prog G 9 [LL nz l] H n fun r H' n' => r = .bool true := by
 obtain ⟨m4, cs4, hG4⟩ := hU.ok.maxLen
 refine ACalls.start mix F9 (by simp) fun hlow => ?_
 simp (disch := omega) only [↓wpre, push_cast, seval, c9]
 refine (rightRules_c G _ hU hP nz l 0 n hu_same (by omega)).x fun r a1 n1 hn1 h1 h2 h3 => ?_
 obtain ⟨q, rfl, hq⟩ := h3
 simp (disch := omega) only [↓wpre, push_cast, seval, hu_hu]
 refine (range_c G _ nz l a1 1 10 n hu_same (by omega) (by omega)).x fun r a2 n2 hn2 k1 k2 k3 => ?_
 obtain ⟨many, rfl, hmany⟩ := k3
 simp (disch := omega) only [↓wpre, push_cast, seval, hu_hu]
 refine (rightTouches_c G _ hU hP nz l a2 many n hu_same (by omega) (by omega)).x fun r a3 n3 hn3 k1' k2' k3 => ?_
 obtain ⟨bt, ts, rfl, hts, htl⟩ := k3
 have hrise : Rise ts := hts.rise
 simp (disch := omega) only [↓wpre, push_cast, seval, hu_hu]
 refine AFn.x (allPersons_c G _ hG4 hU q hq bt ts hts) fun n4 hn4 => ?_
 simp (disch := omega) only [↓wpre, push_cast, seval]
 refine AFn.x (joining_c G _ hG4 hU q hq bt ts hts) fun n5 hn5 => ?_
 simp (disch := omega) only [↓wpre, push_cast, seval]
 have hfew := hts.few
 have pl : (personsOf q ts).length ≤ 1000000 := by have := pers_len q ts; omega
 have ptl : ∀ p ∈ personsOf q ts, p.tch.length ≤ 1000000 := fun p hp => by have := tch_len q ts p hp; omega
 have htog : ∀ u v, u < ts.length → v < ts.length → (tog (personsOf q ts) (tAt ts u).no (tAt ts v).no = true ↔ Conn (tie (joins q ts) ts) u v) := fun u v h1 h2 => by
  have hp := rootOf_parts (parts_exist (T := tie (joins q ts) ts) tie_symm ts.length)
  exact (tog_iff hrise hp h1 h2).trans (hp.iff tie_symm h1 h2)
 have hjl := joinIds_few (r := q) hts
 generalize personsOf q ts = PP at *
 have hlaw : ∀ u v c, Chn (joins q ts) ts u v c → ∀ k, k + 1 < c.length → ∃ x y a b, c[k]? = some x ∧ c[k + 1]? = some y ∧ x.no = (tAt ts a).no ∧ y.no = (tAt ts b).no ∧ y.id ∈ joinIds q ts ∧ a < ts.length ∧ b < ts.length ∧ y.id ∈ (tAt ts a).ids ∧ y.id ∈ (tAt ts b).ids := fun u v c hc k hk => by
  obtain ⟨x, y, a, b, h1, h2, h3, h4, h5, h6, h7, h8⟩ := hc.link k hk
  exact ⟨x, y, a, b, h1, h2, h3, h4, mem_joinIds.2 ⟨h5, two_occ h6 h7 h8⟩, (has_tAt h6).1, (has_tAt h7).1, (has_tAt h6).2, (has_tAt h7).2⟩
 generalize joinIds q ts = JI at *
 generalize hnzj : decide (JI ≠ []) = nzj
 have hjv : idsV JI = .ls nzj (JI.map Idn.c) := by rw [idsV, hnzj]
 refine xw_loopJ (σ := Nat × Int) (fun t => [(3, .op n 0 0), (4, .op n3 0 0), (5, .op (n3 + 1) 0 0), (6, persV PP), (8, idsV JI), (10, .fn (.func 54) [.op (n3 + 1) 0 0]), (45, .int (t.1 : Nat))]) (fun t H' n' => t.1 ≤ 4 ∧ H' n = some (strm (LL nz l) t.2) ∧ 0 ≤ t.2 ∧ t.2 ≤ 1099511620000 + 2 * t.1 ∧ H' n3 = some ⟨44, 4, [q.c]⟩ ∧ H' (n3 + 1) = some ⟨46, 1, [[.ls bt (ts.map Tch.c)]]⟩ ∧ n3 + 1 < n') (fun t => 4 - t.1) (0, a3) ⟨by omega, by simp (disch := omega) only [↓wpre, push_cast, seval], by omega, by dsimp only; omega, by simp (disch := omega) only [↓wpre, push_cast, seval], by simp (disch := omega) only [↓wpre, push_cast, seval], by omega⟩ (by simp (disch := omega) only [↓wpre, push_cast, seval]; try rfl) ?_
 rintro ⟨i, a4⟩ fr H' n6 ⟨hi4, hst, ha0, ha1, hq3, ht3, hn6⟩ hh
 simp only [has_nil, has_cons, and_true] at hh hi4 hst ha0 ha1
 have hsub : ∀ HB : Nat → Option AObj, HB (n3 + 1) = some ⟨46, 1, [[.ls bt (ts.map Tch.c)]]⟩ → Ab.Sub (Ab.only (n3 + 1) ⟨46, 1, [[.ls bt (ts.map Tch.c)]]⟩) HB := fun HB h => only_sub h
 have hon : Ab.only (n3 + 1) ⟨46, 1, [[.ls bt (ts.map Tch.c)]]⟩ (n3 + 1) = some ⟨46, 1, [[.ls bt (ts.map Tch.c)]]⟩ := if_pos rfl
 by_cases hlt : i < 4
 ·have hlt' : (i : Int) < 4 := by omega
  by_cases h0 : ts.length = 0
  ·have hz : (ts.length : Int) = 0 := by omega
   simp (disch := omega) only [↓wpre, push_cast, seval, hh, hlt', ht3, hz]
   refine AFn.x (people_c G _ hU) fun n8 hn8 => ?_
   simp (disch := omega) only [↓wpre, push_cast, seval]
   try exact fin_intro (Ab.Sub.refl _) rfl
  ·have hz : ¬ (ts.length : Int) = 0 := by omega
   simp (disch := omega) only [↓wpre, push_cast, seval, hh, hlt', ht3, hz]
   refine xw_nreg (Ab.only (n3 + 1) ⟨46, 1, [[.ls bt (ts.map Tch.c)]]⟩) (hsub _ ht3) ?_
   have hso : Ab.Sub (Ab.only (n3 + 1) ⟨46, 1, [[.ls bt (ts.map Tch.c)]]⟩) H' = True := eq_true (hsub _ ht3)
   have hso2 : ∀ z, Ab.Sub (Ab.only (n3 + 1) ⟨46, 1, [[.ls bt (ts.map Tch.c)]]⟩) (hu H' n z) = True := fun z => eq_true (hsub _ (by rw [hu_ne (by omega)]; exact ht3))
   simp (disch := omega) only [↓wpre, push_cast, seval, hh, ht3, hon, hso]
   refine (next_c G _ nz l a4 ts.length n hst (by omega) (by omega)).x fun r a5 n7 hn7 j1 j2 j3 => ?_
   obtain ⟨u, rfl, hu0, hul⟩ := j3
   obtain ⟨u, rfl⟩ := Int.eq_ofNat_of_zero_le hu0
   have hul2 : u < ts.length := by omega
   have hgu : ts[u]? = some (tAt ts u) := by rw [tAt_get (List.getElem?_eq_getElem hul2)]; exact List.getElem?_eq_getElem hul2
   simp (disch := omega) only [↓wpre, push_cast, seval, hh, ht3, hon, hso2, even_tch, aidx_at rfl hgu, hu_hu]
   refine (next_c G _ nz l a5 ts.length n hu_same (by omega) (by omega)).x fun r a6 n8 hn8 j1' j2' j3 => ?_
   obtain ⟨v, rfl, hv0, hvl⟩ := j3
   obtain ⟨v, rfl⟩ := Int.eq_ofNat_of_zero_le hv0
   have hvl2 : v < ts.length := by omega
   have hgv : ts[v]? = some (tAt ts v) := by rw [tAt_get (List.getElem?_eq_getElem hvl2)]; exact List.getElem?_eq_getElem hvl2
   simp (disch := omega) only [↓wpre, push_cast, seval, hh, ht3, hon, hso2, even_tch, aidx_at rfl hgv, hu_hu, hq3]
   refine ACalls.x (ACalls.lowp (chain_c G _ hG4 hU q hq bt ts hts u v hul2 hvl2 n8)) fun r H7 n9 ⟨⟨hcase, e2⟩, hn9, hl9⟩ => ?_
   have htg := htog u v hul2 hvl2
   subst e2
   rcases hcase with ⟨hnc, rfl⟩ | ⟨hc, c, hch, hcl, rfl⟩
   ·have htf : tog PP (tAt ts u).no (tAt ts v).no = false := Bool.eq_false_iff.2 fun e => hnc (htg.1 e)
    simp (disch := omega) only [↓wpre, push_cast, seval, hh]
    refine AFn.x (together_c G _ PP _ _ pl ptl) fun n10 hn10 => ?_
    simp (disch := omega) only [↓wpre, push_cast, seval, hh, htf]
    refine againJ (i + 1, a6) (by dsimp only; omega) ⟨by dsimp only; omega, by exact hu_same, by dsimp only; omega, by dsimp only; omega, by rw [hu_ne (by omega)]; exact hq3, by rw [hu_ne (by omega)]; exact ht3, by omega⟩ (by simp (disch := omega) only [↓wpre, push_cast, seval, hh]; all_goals (try simp only [AV.lit.injEq, Value.int.injEq, Value.bool.injEq, true_and, and_true]); all_goals (try (repeat' apply And.intro)); all_goals (first | rfl | omega | simp_all | skip))
   ·have htt : tog PP (tAt ts u).no (tAt ts v).no = true := htg.2 hc
    simp (disch := omega) only [↓wpre, push_cast, seval, hh]
    refine AFn.x (together_c G _ PP _ _ pl ptl) fun n10 hn10 => ?_
    have hc0 : ¬ (c.length : Int) = 0 := by have := hch.pos; omega
    obtain ⟨x0, hx0, hx0n⟩ := hch.head
    obtain ⟨xl, hxl, hxln⟩ := hch.last
    obtain ⟨m, hm⟩ : ∃ m, c.length = m + 1 := ⟨c.length - 1, by have := hch.pos; omega⟩
    have hl1 : (c.length : Int) - 1 = (m : Int) := by omega
    rw [show c.length - 1 = m from by omega] at hxl
    have hevc : Even 3 (c.map Lnk.c) = True := eq_true (by intro r hr; obtain ⟨x, _, rfl⟩ := List.mem_map.1 hr; exact ⟨rfl, rfl⟩)
    have hixc : ∀ (k : Nat) (x : Lnk) (z : Int) (H : Nat → Option AObj), z = (k : Nat) → c[k]? = some x → aidx H 3 (.ls true (c.map Lnk.c)) (.int z) = some (.pp x.c) := fun k x z H hz h => aidx_at hz h
    simp (disch := omega) only [↓wpre, push_cast, seval, hh, htt, hc0, hevc, hixc 0 x0 0 _ rfl hx0, hl1, hixc _ xl _ _ rfl hxl, hx0n, hxln]
    refine xw_loopJ (σ := Nat) (fun t => [(3, .op n 0 0), (4, .op n3 0 0), (5, .op (n3 + 1) 0 0), (6, persV PP), (8, idsV JI), (10, .fn (.func 54) [.op (n3 + 1) 0 0]), (13, .ls true (c.map Lnk.c)), (15, .int ((t : Nat) + 1)), (45, .int (i : Nat))]) (fun t H' n' => t + 1 ≤ c.length ∧ H' n = some (strm (LL nz l) a6) ∧ H' n3 = some ⟨44, 4, [q.c]⟩ ∧ H' (n3 + 1) = some ⟨46, 1, [[.ls bt (ts.map Tch.c)]]⟩ ∧ n3 + 1 < n') (fun t => c.length - t) 0 ⟨by omega, by exact hu_same, by rw [hu_ne (by omega)]; exact hq3, by rw [hu_ne (by omega)]; exact ht3, by omega⟩ (by simp (disch := omega) only [↓wpre, push_cast, seval, hh]; try rfl) ?_
    clear hh hst hq3 ht3 hso hso2
    rintro k fr H' n11 ⟨hk, hst, hq3, ht3, hn11⟩ hh
    simp only [has_nil, has_cons, and_true] at hh hk
    by_cases hkl : k + 1 < c.length
    ·have hkl' : (k : Int) + 1 < c.length := by omega
     obtain ⟨x, y, a, b, g1, g2, g3, g4, g5, g6, g7, g8, g9⟩ := hlaw u v c hch k hkl
     have hk1 : (k : Int) + 1 - 1 = (k : Nat) := by omega
     simp (disch := omega) only [↓wpre, push_cast, seval, hh, hkl', hevc, hixc (k + 1) y ((k : Int) + 1) _ (by omega) g2]
     have hso : ∀ HB : Nat → Option AObj, HB n11 = some ⟨55, 2, [y.id.c]⟩ → Ab.Sub (Ab.only n11 ⟨55, 2, [y.id.c]⟩) HB = True := fun HB h => eq_true (only_sub h)
     have hon2 : Ab.only n11 ⟨55, 2, [y.id.c]⟩ n11 = some ⟨55, 2, [y.id.c]⟩ := if_pos rfl
     refine xw_gen2 (fun HB => HB n11 = some ⟨55, 2, [y.id.c]⟩ ∧ HB n = some (strm (LL nz l) a6) ∧ HB n3 = some ⟨44, 4, [q.c]⟩ ∧ HB (n3 + 1) = some ⟨46, 1, [[.ls bt (ts.map Tch.c)]]⟩) ⟨by simp (disch := omega) only [↓wpre, push_cast, seval], by rw [hu_ne (by omega), hu_ne (by omega)]; exact hst, by rw [hu_ne (by omega), hu_ne (by omega)]; exact hq3, by rw [hu_ne (by omega), hu_ne (by omega)]; exact ht3⟩ fun HB ⟨f1, f2, f3, f4⟩ => ?_
     have hsoB := hso HB f1
     refine xw_nreg (Ab.only n11 ⟨55, 2, [y.id.c]⟩) (only_sub f1) ?_
     simp (disch := omega) only [↓wpre, push_cast, seval, hh, f1, hjv, hon2, hsoB]
     refine AFn.x (containsId_c G _ nzj JI y.id (by omega)) fun n12 hn12 => ?_
     simp (disch := omega) only [↓wpre, push_cast, seval, hh, f1, hon2, hsoB, g5, decide_true, hk1, hevc, hixc k x _ _ rfl g1, g3, List.cons_append, List.nil_append]
     have fa := (hts.each _ (tAt_mem g6)).few
     have fb := (hts.each _ (tAt_mem g7)).few
     refine AFn.x (touchNo_c G _ bt ts hts (n3 + 1) f4 a g6) fun n13 hn13 => ?_
     simp (disch := omega) only [↓wpre, push_cast, seval, hh, f1, hon2, hsoB]
     refine AFn.x (containsId_c G _ (tAt ts a).nzi (tAt ts a).ids y.id (by omega)) fun n14 hn14 => ?_
     simp (disch := omega) only [↓wpre, push_cast, seval, hh, f1, hon2, hsoB, g8, decide_true, hk1, hevc, hixc (k + 1) y ((k : Int) + 1) _ (by omega) g2, g4, List.cons_append, List.nil_append]
     refine AFn.x (touchNo_c G _ bt ts hts (n3 + 1) f4 b g7) fun n15 hn15 => ?_
     simp (disch := omega) only [↓wpre, push_cast, seval, hh, f1, hon2, hsoB]
     refine AFn.x (containsId_c G _ (tAt ts b).nzi (tAt ts b).ids y.id (by omega)) fun n16 hn16 => ?_
     simp (disch := omega) only [↓wpre, push_cast, seval, hh, f1, hon2, hsoB, g9, decide_true]
     refine againJ (k + 1) (by omega) ⟨by omega, f2, f3, f4, by omega⟩ (by simp (disch := omega) only [↓wpre, push_cast, seval, hh]; all_goals (try simp only [AV.lit.injEq, Value.int.injEq, Value.bool.injEq, true_and, and_true]); all_goals (try (repeat' apply And.intro)); all_goals (first | rfl | omega | simp_all | skip))
    ·have hkl' : ¬ (k : Int) + 1 < c.length := by omega
     simp (disch := omega) only [↓wpre, push_cast, seval, hh, hkl']
     refine againJ (i + 1, a6) (by dsimp only; omega) ⟨by dsimp only; omega, hst, by dsimp only; omega, by dsimp only; omega, hq3, ht3, by omega⟩ (by simp (disch := omega) only [↓wpre, push_cast, seval, hh]; all_goals (try simp only [AV.lit.injEq, Value.int.injEq, Value.bool.injEq, true_and, and_true]); all_goals (try (repeat' apply And.intro)); all_goals (first | rfl | omega | simp_all | skip))
 ·have hlt' : ¬ (i : Int) < 4 := by omega
  simp (disch := omega) only [↓wpre, push_cast, seval, hh, hlt']
  refine AFn.x (people_c G _ hU) fun n8 hn8 => ?_
  simp (disch := omega) only [↓wpre, push_cast, seval]
  try exact fin_intro (Ab.Sub.refl _) rfl
end Go.Proofs.YtblhbafoncfhdaaGreatDoor
