/- Contracts of functions of the program: each computes what its model says; the conditions stand at each. -/
import Derived.Test.YtblhbafoncfhdaaGreatDoorP1
import Derived.Test.YtblhbafoncfhdaaGreatDoorA5
import Derived.Test.YtblhbafoncfhdaaGreatDoorPe4a
set_option linter.unusedSimpArgs false
set_option linter.unusedVariables false
set_option maxRecDepth 20000
namespace Go.Proofs.YtblhbafoncfhdaaGreatDoor
open Go Go.Ab Go.Pm Go.Cm Go.El Go.Rm Go.Pp Go.Uf
variable (G : Nat → AV) (H : Nat → Option AObj)
theorem xapp_outN {P : Program} {G : Nat → AV} {n0 n : Nat} {H : Nat → Option AObj} {fr : Nat → AV} {K : St → Prop} {u : Wit K} {d : Option Nat} {os : List AOper} {i : Option Nat} {E : TypeId} {sz bytes : Nat} {rows : List (List AV)} {nz : Bool} {r : List AV} {len : Nat} (h : OutIs n0 H i E sz rows n) (hl : len = rows.length) (hr : Even sz [r]) (hb : (rows.length + 1) * bytes ≤ 140737488355328)
  (k : ∀ HN, HN n = some ⟨E, sz, rows ++ [r]⟩ → (∀ j, j ≠ n → i ≠ some j → HN j = H j) → xops P G K u os ⟨Ab.put fr d (.os n 0 (rows.length + 1)), HN, n + 1⟩) : xapp P G K u os d E sz bytes fr H n (outAV i len) (.ls nz [r]) :=
 xapp_out h hl hr hb (k _ hu_same fun j h1 h2 => by
  rw [hu_ne h1]
  cases i with
  | none => rfl
  | some i => exact hu_ne fun e => h2 (by rw [e]))
theorem Qt.far {H H2 HN : Nat → Option AObj} {n : Nat} (hq : Qt H H2 n) (hk : ∀ j, j < n → HN j = H2 j) : Qt H HN n := ⟨fun i o hi => by rw [hk i (hq.2 i o hi)]; exact hq.1 i o hi, hq.2⟩
set_option maxHeartbeats 6400000 in
theorem members_run {g m : Nat} {r : Rls} {nz : Bool} {l : List Tch} {K : List Idn} {ob : Idn → Nat} {N : Nat} (h : Grp H g m r nz l K ob N) (hok : TouchesOk l) (n : Nat) (hN : N ≤ n) : ACalls Tryz.prog G 85 [.op g 0 0] H n fun v H' n' => ∃ p oid nm, Parts (tie (joins r l) l) l.length p ∧ v = outAV oid (roots p l.length).length ∧ Out2 H' oid ((roots p l.length).map (rowF (joins r l) l p l.length nm)) ∧ Mf H' l p nm (roots p l.length) [] n ∧ Sub H H' := by
 have hrow := h.row
 have hfew := h.few
 have hgn := h.lt
 have hmn := h.hv.low.1
 refine ACalls.start mix F85 (by simp) fun hlow => ?_
 simp (disch := omega) only [↓wpre, push_cast, seval, c85]
 have h0 := h.keep (H2 := hu H n (some ⟨432, 1, []⟩)) fun j hj => hu_ne (by omega)
 refine ACalls.x (parts_c G _ h0 none _ (by omega)) fun v H1 n1 ⟨p, ro, hp, e1, hro, hro1, hro2, hsub⟩ => ?_
 subst e1
 rw [JJ_none] at hp
 have hpl := hp.len
 simp (disch := omega) only [↓wpre, push_cast, seval]
 refine xw_loopJ (σ := Nat × Option Nat × (Nat → Nat → Nat)) (fun t => [(0, .op g 0 0), (3, .om n), (4, outAV t.2.1 (roots p t.1).length), (13, .os ro 0 l.length), (14, .int l.length), (15, .int t.1)]) (fun t H' n' => t.1 ≤ l.length ∧ H' n = some ⟨432, 1, placeRows (roots p t.1)⟩ ∧ OutIs n1 H' t.2.1 147 5 ((roots p t.1).map (rowM (joins r l) l p t.1 t.2.2)) n' ∧ Mb H' l p t.1 t.2.2 n1 n' ∧ H' ro = some ⟨3, 1, nats p⟩ ∧ Qt H H' n ∧ n1 ≤ n') (fun t => l.length - t.1) (0, none, fun _ _ => 0) ⟨by omega, ?_, rfl, ?_, hro, ?_, Nat.le_refl _⟩ (by simp (disch := omega) only [↓wpre, push_cast, seval, outAV]; try rfl) ?_
 ·exact hsub _ _ hu_same
 ·exact ⟨fun k hk => (by simp [roots] at hk), fun k hk => (by simp [roots] at hk), fun k hk => (by simp [roots] at hk), fun k hk => (by simp [roots] at hk), fun k hk => (by simp [roots] at hk)⟩
 ·exact ⟨fun i o hi => hsub _ _ (by rw [hu_ne (by have := hlow i _ hi; omega)]; exact hi), hlow⟩
 clear hro hsub h0
 rintro ⟨i, oid, nm⟩ fr H2 n2 ⟨hil, hpm, ho, hmb, hro, hq, hn2⟩ hh
 simp only [has_nil, has_cons, and_true] at hh hil hpm ho hmb hro
 by_cases hlt : (i : Int) < l.length
 ·have hi : i < l.length := by omega
  have hi0 : (0 : Int) ≤ i := by omega
  have hgi := nats_get (p := p) (i := i) (by omega)
  obtain ⟨t, ht⟩ : ∃ t, l[i]? = some t := ⟨_, List.getElem?_eq_getElem hi⟩
  have hrow2 := hq.1 _ _ hrow
  simp (disch := omega) only [↓wpre, push_cast, seval, hh, hlt, hi0, hi, hro, hgi, hpm, Int.toNat_natCast]
  have hto := hok.each t (List.mem_of_getElem? ht)
  have hal : alen (outAV oid (roots p i).length) = some (.int (roots p i).length) := by
   cases oid with
   | none =>
    have h1 : (roots p i).map (rowM (joins r l) l p i nm) = [] := ho
    have h1 : roots p i = [] := by simpa using h1
    rw [h1]; rfl
   | some o => rfl
  have hRl : (roots p i).length ≤ i := by
   have h2 := List.length_filter_le (fun j => decide (par p j = j)) (List.range i)
   simpa [roots] using h2
  have hoid : ∀ k ∈ roots p i, ∀ c, c < 3 → oid ≠ some (nm k c) := by
   intro k hk c hc e
   rw [e] at ho
   have h1 := ho.1
   have h2 : c = 0 ∨ c = 1 ∨ c = 2 := by omega
   rcases h2 with rfl | rfl | rfl
   ·rw [hmb.t k hk] at h1; simp at h1
   ·rw [hmb.j k hk] at h1; simp at h1
   ·rw [hmb.a k hk] at h1; simp at h1
  by_cases hnew : par p i = i
  ·have hnot : par p i ∉ roots p i := by rw [hnew]; exact root_new
   have hlk := place_none hnot
   have hput := place_put hnot
   simp (disch := omega) only [↓wpre, push_cast, seval, hh, hlk, hal, hput, hpm, hrow2, even_tch, aidx_at rfl ht]
   refine AFn.x (keyOf_c G _ (h.sub ?hs) t hto) fun n3 hn3 => ?_
   case hs => exact (Qt.mono (n := n) (by repeat (first | exact hq | refine Qt.hu ?_ (by omega))) (Nat.le_refl _)).1
   have hkey : Pp.keyOf (joins r l) t = Pp.keyOf (joins r l) (tAt l i) := by rw [tAt, ht]; rfl
   rw [hkey]
   simp (disch := omega) only [↓wpre, push_cast, seval, hh]
   refine xapp_outN (n0 := n1) (rows := (roots p i).map (rowM (joins r l) l p i nm)) (by (refine OutIs.mono (n := n2) ?_ (by omega); repeat (first | exact ho | refine OutIs.put ?_ (by omega) | refine OutIs.far ?_ (by omega)))) (by simp) (by intro r hr; simp at hr; subst hr; exact ⟨rfl, rfl⟩) (by simp; omega) fun HN hN hNj => ?_
   have hog : ∀ j, j < n1 → HN j = (hu H2 n (some ⟨432, 1, placeRows (roots p i ++ [par p i])⟩)) j := fun j hj => hNj j (by omega) fun e => by
    rw [e] at ho; have := ho.2.1; omega
   have hNg : HN g = some ⟨152, 6, [grpRow r nz l m]⟩ := by rw [hog g (by omega), hu_ne (by omega)]; exact hrow2
   have hR0 : (0 : Int) ≤ (roots p i).length := by omega
   have hR1 : ((roots p i).length : Int) < (roots p i).length + 1 := by omega
   have hR2 : (roots p i).length < (roots p i).length + 1 := by omega
   have gN : ∀ x, ((roots p i).map (rowM (joins r l) l p i nm) ++ [x])[(roots p i).length]? = some x := fun x => by
    rw [List.getElem?_append_right (by simp)]; simp
   simp (disch := omega) only [↓wpre, push_cast, seval, hh, hN, hR0, hR1, hR2, List.length_map, Int.toNat_natCast]
   refine xw_freg noH (of_eq_true (sub_noH _)) ?_
   simp (disch := omega) only [↓wpre, push_cast, seval, hh, hN, hNg, gN, even_tch, aidx_at rfl ht]
   have gS : ∀ x y, ((roots p i).map (rowM (joins r l) l p i nm) ++ [x]).set (roots p i).length y = (roots p i).map (rowM (joins r l) l p i nm) ++ [y] := fun x y => by
    rw [List.set_append_right _ _ (by simp)]; simp
   have evI : ∀ x : Int, Even 1 [[AV.int x]] := fun x r hr => by simp at hr; subst hr; exact ⟨rfl, rfl⟩
   refine xsp_intro ?_ ?_
   all_goals
    rw [xapp_first (evI _) (by simp) (by simp)]
    simp (disch := omega) only [↓wpre, push_cast, seval, hh, hN, gN, gS, List.map_cons, List.map_nil]
    rw [xapp_first (evI _) (by simp) (by simp)]
    simp (disch := omega) only [↓wpre, push_cast, seval, hh, hN, gN, gS, List.map_cons, List.map_nil]
    refine xw_nreg noH (of_eq_true (sub_noH _)) ?_
    simp (disch := omega) only [↓wpre, push_cast, seval, hh, hN, hNg, gN, even_tch, aidx_at rfl ht]
    obtain ⟨y, ys, hys⟩ : ∃ y ys, t.ids = y :: ys := by
     cases hi : t.ids with
     | nil => exact absurd hi hto.some
     | cons y ys => exact ⟨y, ys, rfl⟩
    have hidl := hto.few
    rw [hys] at hidl
    rw [hys]
    simp only [List.map_cons]
    rw [xapp_first (by intro r hr; obtain ⟨z, _, rfl⟩ := List.mem_map.1 (show r ∈ (y :: ys).map Idn.c from hr); exact ⟨rfl, rfl⟩) (by simp at hidl ⊢; omega) (by simp at hidl ⊢; omega)]
    simp (disch := omega) only [↓wpre, push_cast, seval, hh, hN, gN, gS, List.map_cons, List.map_nil]
    have hRs : roots p (i + 1) = roots p i ++ [par p i] := by rw [roots_succ, if_pos hnew, hnew]
    have hRl2 : (roots p (i + 1)).length = (roots p i).length + 1 := by rw [hRs]; simp
    have htA : tAt l i = t := by rw [tAt, ht]; rfl
    have hof : ofRoot p i (par p i) = [] := by rw [hnew]; exact ofRoot_none hp
    have htl : tl l p i (par p i) = [] := by unfold tl; rw [hof]; rfl
    have hilE : il l p i (par p i) = [] := by unfold il; rw [hof]; rfl
    have hidl2 : t.ids.length = ys.length + 1 := by rw [hys]; rfl
    have hrowE := rowM_at (J := joins r l) (l := l) (p := p) (i := i) (nm := nm) (x0 := n3 + 1) (x1 := n3 + 1 + 1 + 1) (x2 := n3 + 1 + 1)
    rw [hof, hilE, htA, hidl2, show tAt l (par p i) = tAt l i from by rw [hnew]] at hrowE
    simp only [List.length_nil, Nat.zero_add] at hrowE
    refine againJ (i + 1, some n3, nm' nm (par p i) (n3 + 1) (n3 + 1 + 1 + 1) (n3 + 1 + 1)) (by dsimp only; omega) ⟨by dsimp only; omega, ?_, ⟨?_, by omega, by omega⟩, ?_, ?_, ?_, by omega⟩ (by simp (disch := omega) only [↓wpre, push_cast, seval, hh, hRl2]; all_goals (try simp only [AV.lit.injEq, Value.int.injEq, Value.bool.injEq, true_and, and_true]); all_goals (try (repeat' apply And.intro)); all_goals (first | rfl | omega | simp_all | skip))
    ·rw [hu_ne (by omega), hu_ne (by omega), hu_ne (by omega), hu_ne (by omega), hu_ne (by omega), hu_ne (by omega), hog n (by omega), hu_same, hRs]
    ·rw [hu_same, ← rows_new hnew, hrowE]
    ·refine Mb.step hmb (N := n2) (by omega) (by omega) (by omega) (by omega) (by omega) (by omega) (by omega) (by omega) (by omega) (by omega) (by omega) ?_ ?_ ?_ ?_
     ·rw [hu_ne (by omega), hu_ne (by omega), hu_ne (by omega), hu_ne (by omega), hu_ne (by omega), hu_same, htl, htA]; rfl
     ·rw [hu_ne (by omega), hu_same, hilE, htA, hys]; rfl
     ·rw [hu_ne (by omega), hu_ne (by omega), hu_ne (by omega), hu_ne (by omega), hu_same, hof]; rfl
     ·intro k hk hne c hc
      have hlo := hmb.low k hk c hc
      rw [hu_ne (by omega), hu_ne (by omega), hu_ne (by omega), hu_ne (by omega), hu_ne (by omega), hu_ne (by omega), hNj _ (by omega) (hoid k hk c hc), hu_ne (by omega)]
    ·rw [hu_ne (by omega), hu_ne (by omega), hu_ne (by omega), hu_ne (by omega), hu_ne (by omega), hu_ne (by omega), hog ro (by omega), hu_ne (by omega)]
     exact hro
    ·refine Qt.far hq fun j hj => ?_
     rw [hu_ne (by omega), hu_ne (by omega), hu_ne (by omega), hu_ne (by omega), hu_ne (by omega), hu_ne (by omega), hog j (by omega), hu_ne (by omega)]
  ·have hmem := root_known hp hi hnew
   have hlk := place_at (roots_nodup p i) hmem
   have hidx := List.idxOf_lt_length_of_mem hmem
   obtain ⟨o, rfl⟩ : ∃ o, oid = some o := by
    cases oid with
    | none =>
     have h1 : (roots p i).map (rowM (joins r l) l p i nm) = [] := ho
     have h1 : roots p i = [] := by simpa using h1
     rw [h1] at hmem; cases hmem
    | some o => exact ⟨o, rfl⟩
   obtain ⟨ho1, ho2, ho3⟩ := ho
   have hrow0 := get_idx (rowM (joins r l) l p i nm) (par p i) hmem
   have hrk := fun x0 x1 x2 => rows_known (J := joins r l) (l := l) (p := p) (i := i) (nm := nm) (x0 := x0) (x1 := x1) (x2 := x2) hmem
   generalize hRw : (roots p i).map (rowM (joins r l) l p i nm) = Rw at ho1 hrow0 hrk
   have hRwl : Rw.length = (roots p i).length := by rw [← hRw]; simp
   generalize hk0 : (roots p i).idxOf (par p i) = k0 at hlk hidx hrow0 hrk
   have gG : ∀ y, (Rw.set k0 y)[k0]? = some y := fun y => List.getElem?_set_self (by omega)
   have gS : ∀ y y', (Rw.set k0 y).set k0 y' = Rw.set k0 y' := fun y y' => List.set_set ..
   unfold rowM at hrow0
   have hk00 : (0 : Int) ≤ k0 := by omega
   have hk01 : (k0 : Int) < (roots p i).length := by omega
   simp (disch := omega) only [↓wpre, push_cast, seval, hh, hlk, outAV, ho1, hk00, hk01, hidx, Int.toNat_natCast]
   refine xw_freg noH (of_eq_true (sub_noH _)) ?_
   simp (disch := omega) only [↓wpre, push_cast, seval, hh, ho1, hrow0, hrow2, even_tch, aidx_at rfl ht]
   have evI : ∀ x : Int, Even 1 [[AV.int x]] := fun x r hr => by simp at hr; subst hr; exact ⟨rfl, rfl⟩
   have mt := hmb.t _ hmem
   have mj := hmb.j _ hmem
   have ma := hmb.a _ hmem
   have lt0 := hmb.low _ hmem 0 (by omega)
   have lj0 := hmb.low _ hmem 1 (by omega)
   have la0 := hmb.low _ hmem 2 (by omega)
   have e01 : nm (par p i) 0 ≠ nm (par p i) 1 := fun e => absurd (hmb.inj _ hmem _ hmem 0 1 (by omega) (by omega) e).2 (by omega)
   have e02 : nm (par p i) 0 ≠ nm (par p i) 2 := fun e => absurd (hmb.inj _ hmem _ hmem 0 2 (by omega) (by omega) e).2 (by omega)
   have e12 : nm (par p i) 1 ≠ nm (par p i) 2 := fun e => absurd (hmb.inj _ hmem _ hmem 1 2 (by omega) (by omega) e).2 (by omega)
   have eo0 : o ≠ nm (par p i) 0 := fun e => hoid _ hmem 0 (by omega) (by rw [e])
   have eo1 : o ≠ nm (par p i) 1 := fun e => hoid _ hmem 1 (by omega) (by rw [e])
   have eo2 : o ≠ nm (par p i) 2 := fun e => hoid _ hmem 2 (by omega) (by rw [e])
   have hofl := ofRoot_len p i (par p i)
   have hill := il_len (fun t ht => (hok.each t ht).few) p i (par p i)
   have htll := tl_len l p i (par p i)
   refine xsp_intro ?_ ?_
   all_goals
    rw [xapp_os (rows := ints (tl l p i (par p i))) mt (by simp [ints, htll]) (evI _) (by simp) (by simp; omega)]
    simp (disch := omega) only [↓wpre, push_cast, seval, hh, ho1, hrow0, gG, gS, List.map_cons, List.map_nil]
    rw [xapp_os (rows := nats (ofRoot p i (par p i))) (by rw [hu_ne (by omega), hu_ne (by omega)]; exact ma) (by simp [nats]) (evI _) (by simp) (by simp; omega)]
    simp (disch := omega) only [↓wpre, push_cast, seval, hh, ho1, hrow0, gG, gS, List.map_cons, List.map_nil]
    refine xw_nreg noH (of_eq_true (sub_noH _)) ?_
    simp (disch := omega) only [↓wpre, push_cast, seval, hh, ho1, hrow0, hrow2, gG, gS, even_tch, aidx_at rfl ht]
    have hidl := hto.few
    have hidp : 0 < t.ids.length := List.length_pos_iff.2 hto.some
    rw [xapp_os (rows := (il l p i (par p i)).map Idn.c) (by rw [hu_ne (by omega), hu_ne (by omega), hu_ne (by omega), hu_ne (by omega), hu_ne (by omega), hu_ne (by omega)]; exact mj) (by simp) (by rw [even_ids]; trivial) (by simp; omega) (by simp; omega)]
    simp (disch := omega) only [↓wpre, push_cast, seval, hh, ho1, hrow0, hrow2, gG, gS]
    have hRs : roots p (i + 1) = roots p i := by rw [roots_succ, if_neg hnew, List.append_nil]
    have htA : tAt l i = t := by rw [tAt, ht]; rfl
    have hrowE := rowM_at (J := joins r l) (l := l) (p := p) (i := i) (nm := nm) (x0 := n2) (x1 := n2 + 1 + 1) (x2 := n2 + 1)
    have hrkE := hrk n2 (n2 + 1 + 1) (n2 + 1)
    rw [hrowE, htA] at hrkE
    refine againJ (i + 1, some o, nm' nm (par p i) n2 (n2 + 1 + 1) (n2 + 1)) (by dsimp only; omega) ⟨by dsimp only; omega, ?_, ⟨?_, by omega, by omega⟩, ?_, ?_, ?_, by omega⟩ (by simp (disch := omega) only [↓wpre, push_cast, seval, hh, hRs, outAV]; all_goals (try simp only [AV.lit.injEq, Value.int.injEq, Value.bool.injEq, true_and, and_true]); all_goals (try (repeat' apply And.intro)); all_goals (first | rfl | omega | simp_all | skip))
    ·rw [hRs]
     repeat rw [hu_ne (by omega)]
     exact hpm
    ·rw [hu_same, ← hrkE]
    ·refine Mb.step hmb (N := n2) (by omega) (by omega) (by omega) (by omega) (by omega) (by omega) (by omega) (by omega) (by omega) (by omega) (by omega) ?_ ?_ ?_ ?_
     ·repeat rw [hu_ne (by omega)]
      rw [hu_same, htA]
      simp [ints]
     ·repeat rw [hu_ne (by omega)]
      rw [hu_same, htA, List.map_append]
     ·repeat rw [hu_ne (by omega)]
      rw [hu_same]
      simp [nats]
     ·intro k hk hne c hc
      have hlo := hmb.low k hk c hc
      have d0 : nm k c ≠ nm (par p i) 0 := fun e => hne (hmb.inj _ hk _ hmem c 0 hc (by omega) e).1
      have d1 : nm k c ≠ nm (par p i) 1 := fun e => hne (hmb.inj _ hk _ hmem c 1 hc (by omega) e).1
      have d2 : nm k c ≠ nm (par p i) 2 := fun e => hne (hmb.inj _ hk _ hmem c 2 hc (by omega) e).1
      have d3 : nm k c ≠ o := fun e => hoid k hk c hc (by rw [e])
      repeat rw [hu_ne (by omega)]
    ·repeat rw [hu_ne (by omega)]
     exact hro
    ·refine Qt.far hq fun j hj => ?_
     repeat rw [hu_ne (by omega)]
 ·have hie : i = l.length := by omega
  subst hie
  have hal : alen (outAV oid (roots p l.length).length) = some (.int (roots p l.length).length) := by
   cases oid with
   | none =>
    have h1 : (roots p l.length).map (rowM (joins r l) l p l.length nm) = [] := ho
    have h1 : roots p l.length = [] := by simpa using h1
    rw [h1]; rfl
   | some o => rfl
  have ho2 : Out2 H2 oid (([] : List Nat).map (rowF (joins r l) l p l.length nm) ++ (roots p l.length).map (rowM (joins r l) l p l.length nm)) := by
   cases oid with
   | none => exact ho
   | some o => exact ho.1
  have hon : ∀ o, oid = some o → n ≤ o := by
   intro o e
   rw [e] at ho
   have := ho.2.1; omega
  have hmf := hmb.fin (show n ≤ n1 by omega)
  have hRn : (roots p l.length).length ≤ l.length := by
   have h2 := List.length_filter_le (fun j => decide (par p j = j)) (List.range l.length)
   simpa [roots] using h2
  simp (disch := omega) only [↓wpre, push_cast, seval, hh, hlt, hal]
  refine xw_loopJ (σ := List Nat × List Nat) (fun t => [(4, outAV oid (roots p l.length).length), (99, .int (roots p l.length).length), (100, .int t.1.length)]) (fun t H' n' => Mf H' l p nm t.1 t.2 n ∧ Out2 H' oid (t.1.map (rowF (joins r l) l p l.length nm) ++ t.2.map (rowM (joins r l) l p l.length nm)) ∧ Qt H H' n) (fun t => t.2.length) ([], roots p l.length) ⟨hmf, ho2, hq⟩ (by simp (disch := omega) only [↓wpre, push_cast, seval, hh]) ?_
  clear hh hpm ho hmb hro hq ho2 hmf hlt
  rintro ⟨D, S⟩ fr H2 n3 ⟨hmf, ho, hq⟩ hh
  simp only [has_nil, has_cons, and_true] at hh hmf ho
  have hDS : (roots p l.length).length = D.length + S.length := by rw [hmf.all]; simp
  cases S with
  | nil =>
   have hlt : ¬ (D.length : Int) < (roots p l.length).length := by rw [hDS]; simp
   simp (disch := omega) only [↓wpre, push_cast, seval, hh, hlt]
   have hDR : roots p l.length = D := by rw [hmf.all]; simp
   refine fin_intro (Sub.refl _) ⟨p, oid, nm, hp, rfl, ?_, ?_, hq.1⟩
   ·rw [hDR]; simpa using ho
   ·rw [hDR]; exact hmf
  | cons x S =>
   have hlt : (D.length : Int) < (roots p l.length).length := by rw [hDS]; simp only [List.length_cons]; omega
   obtain ⟨o, rfl⟩ : ∃ o, oid = some o := by
    cases oid with
    | none => exact absurd (show _ = [] from ho) (by simp)
    | some o => exact ⟨o, rfl⟩
   have ho1 : H2 o = some ⟨147, 5, D.map (rowF (joins r l) l p l.length nm) ++ (x :: S).map (rowM (joins r l) l p l.length nm)⟩ := ho
   have hDn : (D.length : Nat) < (roots p l.length).length := by omega
   have hD0 : (0 : Int) ≤ D.length := by omega
   have gG : (D.map (rowF (joins r l) l p l.length nm) ++ (x :: S).map (rowM (joins r l) l p l.length nm))[D.length]? = some [.int (Pp.keyOf (joins r l) (tAt l x)).kind, .str (Pp.keyOf (joins r l) (tAt l x)).text, .os (nm x 0) 0 (ofRoot p l.length x).length, .os (nm x 1) 0 (il l p l.length x).length, .os (nm x 2) 0 (ofRoot p l.length x).length] := by
    rw [List.getElem?_append_right (by simp)]; simp [rowM]
   have gS : ∀ y, (D.map (rowF (joins r l) l p l.length nm) ++ (x :: S).map (rowM (joins r l) l p l.length nm)).set D.length y = D.map (rowF (joins r l) l p l.length nm) ++ y :: S.map (rowM (joins r l) l p l.length nm) := fun y => by
    rw [List.set_append_right _ _ (by simp)]; simp
   simp (disch := omega) only [↓wpre, push_cast, seval, hh, hlt, outAV, ho1, hDn, hD0, gG, Int.toNat_natCast]
   have hxm : x ∈ D ++ x :: S := by simp
   have hjx := hmf.jS x (by simp)
   have hill := il_len (fun t ht => (hok.each t ht).few) p l.length x
   have lj0 := hmf.low x hxm 1 (by omega)
   have hoj : ∀ k ∈ D ++ x :: S, ∀ c, c < 3 → o ≠ nm k c := by
    intro k hk c hc e
    rw [e] at ho1
    have h2 : c = 0 ∨ c = 1 ∨ c = 2 := by omega
    rcases h2 with rfl | rfl | rfl
    ·rw [hmf.t k hk] at ho1; simp at ho1
    ·rcases List.mem_append.1 hk with hk | hk
     ·obtain ⟨jr, hj⟩ := hmf.jD k hk
      rw [hj] at ho1; simp at ho1
     ·rw [hmf.jS k hk] at ho1; simp at ho1
    ·rw [hmf.a k hk] at ho1; simp at ho1
   have eoj := hoj x hxm 1 (by omega)
   have hon2 := hon o rfl
   refine ACalls.x (sortI_c G _ (il l p l.length x) [] (nm x 1) (by rw [List.append_nil]; exact hjx) (by omega) _) fun r1 H3 n4 ⟨e1, l', hs, hsl, e2⟩ => ?_
   subst e1 e2
   rw [List.append_nil]
   simp (disch := omega) only [↓wpre, push_cast, seval, hh, outAV, ho1, hDn, hD0, hlt, gG, Int.toNat_natCast]
   rw [← hsl]
   refine ACalls.x (compactI_c G _ (nm x 1) l' (by omega) hu_same _) fun r1 H4 n5 ⟨e1, jr, e2⟩ => ?_
   subst e1 e2
   rw [cptT_set hs]
   simp (disch := omega) only [↓wpre, push_cast, seval, hh, outAV, ho1, hDn, hD0, hlt, gG, gS, Int.toNat_natCast]
   refine againJ (D ++ [x], S) (Nat.lt_succ_self _) ⟨hmf.next (jr := jr) ?_ ?_, ?_, ?_⟩ (by simp (disch := omega) only [↓wpre, push_cast, seval, hh, outAV]; all_goals (try simp only [AV.lit.injEq, Value.int.injEq, Value.bool.injEq, true_and, and_true]); all_goals (try (repeat' apply And.intro)); all_goals (first | rfl | omega | simp_all | skip))
   ·repeat rw [hu_ne (by omega)]
    rw [hu_same]
   ·intro k hk c hc hne
    have h1 := hoj k hk c hc
    have h2 : nm k c ≠ nm x 1 := fun e => hne (hmf.inj k hk x hxm c 1 hc (by omega) e)
    repeat rw [hu_ne (by omega)]
   ·show hu _ o _ o = _
    rw [hu_same]
    simp [rowF]
   ·exact Qt.mono (n := n) (by repeat (first | exact hq | refine Qt.hu ?_ (by omega))) (by omega)
def rowP (J : Idn → Bool) (l : List Tch) (p : List Nat) (i : Nat) (nm : Nat → Nat → Nat) (k : Nat) : List AV :=
 [.int (Pp.keyOf J (tAt l k)).kind, .str (Pp.keyOf J (tAt l k)).text, .os (nm k 0) 0 (ofRoot p i k).length, .os (nm k 1) 0 (setOf (il l p i k)).length]
set_option maxHeartbeats 3200000 in
theorem persons_run (J : Idn → Bool) (l : List Tch) (p : List Nat) (i : Nat) (nm : Nat → Nat → Nat) (R : List Nat) (oid : Option Nat) (hsrc : Out2 H oid (R.map (rowF J l p i nm))) (hR : R.length ≤ 100000) (n : Nat) : ACalls Tryz.prog G 83 [outAV oid R.length] H n fun v H' n' => ∃ pid, v = outAV pid R.length ∧ OutIs n H' pid 64 4 (R.map (rowP J l p i nm)) n' ∧ (pid ≠ none → R ≠ []) ∧ Sub H H' := by
 refine ACalls.start mix F83 (by simp) fun hlow => ?_
 have hal : alen (outAV oid R.length) = some (.int R.length) := by
  cases oid with
  | none =>
   have h1 : R.map (rowF J l p i nm) = [] := hsrc
   have h1 : R = [] := by simpa using h1
   rw [h1]; rfl
  | some o => rfl
 simp (disch := omega) only [↓wpre, push_cast, seval, c83, hal]
 refine xw_loopJ (σ := List Nat × List Nat × Option Nat) (fun t => [(3, outAV t.2.2 t.1.length), (6, outAV oid R.length), (7, .int R.length), (8, .int t.1.length)]) (fun t H' n' => R = t.1 ++ t.2.1 ∧ OutIs n H' t.2.2 64 4 (t.1.map (rowP J l p i nm)) n' ∧ (t.2.2 ≠ none → t.1 ≠ []) ∧ Qt H H' n ∧ n ≤ n') (fun t => t.2.1.length) ([], R, none) ⟨rfl, rfl, fun h => absurd rfl h, .refl hlow, Nat.le_refl _⟩ (by simp (disch := omega) only [↓wpre, push_cast, seval, outAV]; try rfl) ?_
 rintro ⟨D, S, pid⟩ fr H' n1 ⟨hab, ho, hne, hq, hn⟩ hh
 simp only [has_nil, has_cons, and_true] at hh hab ho hne
 have hll : R.length = D.length + S.length := by rw [hab]; simp
 cases S with
 | nil =>
  have hlt : ¬ (D.length : Int) < R.length := by rw [hll]; simp
  simp (disch := omega) only [↓wpre, push_cast, seval, hh, hlt]
  have hDR : D = R := by rw [hab]; simp
  rw [hDR] at ho hne
  exact fin_intro (Sub.refl _) ⟨pid, by rw [hDR], ho, hne, hq.1⟩
 | cons x S =>
  have hlt : (D.length : Int) < R.length := by rw [hll]; simp only [List.length_cons]; omega
  obtain ⟨o, rfl⟩ : ∃ o, oid = some o := by
   cases oid with
   | none =>
    have h1 : R.map (rowF J l p i nm) = [] := hsrc
    rw [hab] at h1; simp at h1
   | some o => exact ⟨o, rfl⟩
  have ho1 : H' o = some ⟨147, 5, R.map (rowF J l p i nm)⟩ := hq.1 _ _ hsrc
  have hD0 : (0 : Int) ≤ D.length := by omega
  have hDn : D.length < R.length := by omega
  have gG : (R.map (rowF J l p i nm))[D.length]? = some [.int (Pp.keyOf J (tAt l x)).kind, .str (Pp.keyOf J (tAt l x)).text, .os (nm x 0) 0 (ofRoot p i x).length, .os (nm x 1) 0 (setOf (il l p i x)).length, .os (nm x 2) 0 (ofRoot p i x).length] := by
   rw [hab]; simp [rowF]
  have hout : outAV (some o) R.length = .os o 0 R.length := rfl
  simp (disch := omega) only [↓wpre, push_cast, seval, hh, hlt, hout, ho1, hD0, hDn, gG, Int.toNat_natCast]
  refine xapp_out (n0 := n) (rows := D.map (rowP J l p i nm)) (by (refine OutIs.mono (n := n1) ?_ (by omega); repeat (first | exact ho | refine OutIs.put ?_ (by omega) | refine OutIs.far ?_ (by omega)))) (by simp) (by intro r hr; simp at hr; subst hr; exact ⟨rfl, rfl⟩) (by simp; omega) ?_
  simp (disch := omega) only [↓wpre, push_cast, seval, hh]
  refine againJ (D ++ [x], S, some (n1 + 1)) (Nat.lt_succ_self _) ⟨by rw [hab]; simp, ?_, fun _ => by simp, ?_, by omega⟩ (by simp (disch := omega) only [↓wpre, push_cast, seval, hh, hout]; try simp [outAV])
  ·dsimp only
   rw [List.map_append]
   exact OutIs.new (by omega)
  ·exact (Qt.dropO (E := 64) (sz := 4) (rows := D.map (rowP J l p i nm)) (n := n1 + 1) (by (refine OutIs.mono (n := n1) ?_ (by omega); repeat (first | exact ho | refine OutIs.put ?_ (by omega) | refine OutIs.far ?_ (by omega)))) (by exact Qt.mono (n := n) (by repeat (first | exact hq | refine Qt.hu ?_ (by omega))) (by omega))).hu (by omega)
set_option maxHeartbeats 1600000 in
theorem allPersons_run {m : Int} {cs : List AV} (hG : G 4 = .pp (.lit (.int .i64 m) :: cs)) (hU : GU G) (r : Rls) (hr : RulesOk r) (nz : Bool) (l : List Tch) (h : TouchesOk l) (n : Nat) : ACalls Tryz.prog G 22 [.agg r.c, .ls nz (l.map Tch.c)] H n fun v H' n' => ∃ p pid nm, Parts (tie (joins r l) l) l.length p ∧ v = .tup [outAV pid (roots p l.length).length, .int 0] ∧ OutIs n H' pid 64 4 ((roots p l.length).map (rowP (joins r l) l p l.length nm)) n' ∧ (pid ≠ none → roots p l.length ≠ []) ∧ Mf H' l p nm (roots p l.length) [] n ∧ Ab.Sub H H' := by
 refine ACalls.start mix F22 (by simp) fun hlow => ?_
 simp (disch := omega) only [↓wpre, push_cast, seval, c22]
 refine AFn.x (checkBoth_ok G _ hG hU r hr nz l h) fun n1 hn1 => ?_
 simp (disch := omega) only [↓wpre, push_cast, seval]
 refine ACalls.x (ACalls.lowp (newGroup_c G _ r nz l h n1)) fun v H1 n2 ⟨⟨g, m, K, ob, e1, hg, hv, hs, hlt⟩, hn2, _⟩ => ?_
 subst e1
 simp (disch := omega) only [↓wpre, push_cast, seval]
 refine ACalls.x (ACalls.lowp (members_run G _ (⟨hg, hv, hlt, rulesFew hr, h.few⟩ : Grp H1 g m r nz l K ob n2) h n2 (Nat.le_refl _))) fun v H2 n3 ⟨⟨p, oid, nm, hp, e1, ho, hmf, hs2⟩, hn3, _⟩ => ?_
 subst e1
 simp (disch := omega) only [↓wpre, push_cast, seval]
 have hRn : (roots p l.length).length ≤ l.length := by
  have h2 := List.length_filter_le (fun j => decide (par p j = j)) (List.range l.length)
  simpa [roots] using h2
 have hfew := h.few
 refine ACalls.x (persons_run G _ (joins r l) l p l.length nm _ oid ho (by omega) n3) fun v H3 n4 ⟨pid, e1, ho3, hne, hs3⟩ => ?_
 subst e1
 simp (disch := omega) only [↓wpre, push_cast, seval]
 refine fin_intro (Sub.refl _) ⟨p, pid, nm, hp, rfl, ?_, hne, ?_, (hs.trans hs2).trans hs3⟩
 ·cases pid with
  | none => exact ho3
  | some o => exact ⟨ho3.1, by have := ho3.2.1; omega, ho3.2.2⟩
 ·exact hmf.sub hs3 (by omega)
theorem frz0_map {D : Nat → Option AObj} (rows : List (List AV)) : rows.map (List.map (frz D 0)) = rows := by
 have : frz D 0 = id := funext fun v => by simp [frz]
 rw [this]; simp
def persV : List Per → AV
 | [] => .ls false []
 | p :: ps => .ls true ((p :: ps).map Per.c)
theorem rowP_frz {H1 D : Nat → Option AObj} {J : Idn → Bool} {l : List Tch} {p : List Nat} {nm : Nat → Nat → Nat} {R : List Nat} {n : Nat} (hmf : Mf H1 l p nm R [] n) (hD : ∀ j, n ≤ j → D j = H1 j) (k : Nat) (hk : k ∈ R) : (rowP J l p l.length nm k).map (frz D 1) = (perOf J l p k).c := by
 have hk' : k ∈ R ++ [] := by simpa using hk
 have h1 := hmf.t k hk'
 obtain ⟨jr, h2⟩ := hmf.jD k hk
 rw [← hD _ (hmf.low k hk' 0 (by omega))] at h1
 rw [← hD _ (hmf.low k hk' 1 (by omega))] at h2
 have e1 : frz D 1 (.os (nm k 0) 0 (ofRoot p l.length k).length) = .ls true (ints (tl l p l.length k)) := by
  simp only [frz, h1]
  rw [if_pos (by simp [ints, tl]), List.drop_zero, List.take_of_length_le (by simp [ints, tl])]
  congr 1
  exact frz0_map (D := D) _
 have e2 : frz D 1 (.os (nm k 1) 0 (setOf (il l p l.length k)).length) = .ls true ((setOf (il l p l.length k)).map Idn.c) := by
  simp only [frz, h2]
  rw [if_pos (by simp), List.drop_zero, List.take_append_of_le_length (by simp), List.take_of_length_le (by simp)]
  congr 1
  exact frz0_map (D := D) _
 unfold rowP
 simp only [List.map_cons, List.map_nil, e1, e2]
 rfl
theorem allPersons_c {m : Int} {cs : List AV} (hG : G 4 = .pp (.lit (.int .i64 m) :: cs)) (hU : GU G) (r : Rls) (hr : RulesOk r) (nz : Bool) (l : List Tch) (h : TouchesOk l) : AFn Tryz.prog G 22 [.agg r.c, .ls nz (l.map Tch.c)] H (.tup [persV (personsOf r l), .int 0]) := by
 intro n
 refine low_of G H fun hlow => ?_
 refine ACalls.frz (allPersons_run G H hG hU r hr nz l h n) ?_
 rintro v H1 n1 ⟨p, pid, nm, hp, rfl, ho, hne, hmf, hs⟩
 have hD : ∀ j, n ≤ j → (fun j => if n ≤ j then H1 j else none) j = H1 j := fun j hj => if_pos hj
 refine ⟨fun j => if n ≤ j then H1 j else none, H, 3, fun j o hj => ?_, hs, fun j o hj => ?_, ?_, rfl⟩
 ·dsimp only at hj
  split at hj
  ·exact hj
  ·cases hj
 ·dsimp only at hj
  split at hj
  ·rename_i hn
   cases hH : H j with
   | none => rfl
   | some x => exact absurd (hlow j x hH) (by omega)
  ·cases hj
 ·have hper : personsOf r l = (roots p l.length).map (perOf (joins r l) l p) := by
   unfold personsOf persFrom
   rw [rootOf_eq hp]
  have key : ∀ k ∈ roots p l.length, _ := fun k hk => rowP_frz (J := joins r l) hmf hD k hk
  rw [hper]
  cases pid with
  | none =>
   have h0 : (roots p l.length).map (rowP (joins r l) l p l.length nm) = [] := ho
   have h0 : roots p l.length = [] := by simpa using h0
   rw [h0]
   rfl
  | some o =>
   have ho1 := ho.1
   rw [← hD o ho.2.1] at ho1
   have hfr : frz (fun j => if n ≤ j then H1 j else none) 2 (.os o 0 (roots p l.length).length) = .ls true (((roots p l.length).map (perOf (joins r l) l p)).map Per.c) := by
    simp only [frz, ho1]
    rw [if_pos (by simp), List.drop_zero, List.take_of_length_le (by simp), List.map_map, List.map_map]
    congr 1
    exact List.map_congr_left fun k hk => key k hk
   show AV.tup [frz _ 2 (.os o 0 (roots p l.length).length), frz _ 2 (.int 0)] = _
   rw [hfr]
   have hn0 := hne (by simp)
   cases hR : roots p l.length with
   | nil => exact absurd hR hn0
   | cons a b => rfl
theorem even_per (l : List Per) : Even 4 (l.map Per.c) = True := eq_true fun r hr => by
 obtain ⟨s, _, rfl⟩ := List.mem_map.1 hr; exact ⟨rfl, rfl⟩
theorem people_c (hU : GU G) : AFn Tryz.prog G 15 [] H (.bool true) := by
 obtain ⟨m, cs, hG⟩ := hU.ok.maxLen
 obtain ⟨q, hq1, hq2⟩ : ∃ q, personsOf pr [pt 1, pt 2] = [q] ∧ q.key = px := by
  have h := people_one
  cases hp : personsOf pr [pt 1, pt 2] with
  | nil => rw [hp] at h; cases h
  | cons q qs =>
   rw [hp] at h
   simp only [List.map_cons, List.cons.injEq, List.map_eq_nil_iff] at h
   exact ⟨q, by rw [h.2], h.1⟩
 have hc := fun H => allPersons_c G H hG hU pr pr_ok true [pt 1, pt 2] pl_ok
 rw [hq1] at hc
 obtain ⟨⟨kk, kt⟩, qt, qi⟩ := q
 dsimp only at hq2
 rw [px, Idn.mk.injEq] at hq2
 obtain ⟨rfl, rfl⟩ := hq2
 refine AFn.start mix F15 (by simp) fun k hlow => ?_
 have hq := Qt.refl hlow
 simp (disch := omega) only [↓wpre, push_cast, seval, c15]
 refine AFn.x (hc _) fun n1 hn1 => ?_
 have e0 : (0 : Int) = ((0 : Nat) : Int) := rfl
 have hget : [(⟨⟨1, ⟨#[97, 64, 98, 46, 100, 101]⟩⟩, qt, qi⟩ : Per)][0]? = some ⟨⟨1, ⟨#[97, 64, 98, 46, 100, 101]⟩⟩, qt, qi⟩ := rfl
 simp (disch := omega) only [↓wpre, push_cast, seval, persV, even_per, aidx_at e0 hget]
 refine anyN_intro fun n2 hn2 => ?_
 simp (disch := omega) only [↓wpre, push_cast, seval]
 exact (Qt.mono (n := k) (by repeat (first | exact hq | refine Qt.hu ?_ (by omega))) (Nat.le_refl _)).1
end Go.Proofs.YtblhbafoncfhdaaGreatDoor
