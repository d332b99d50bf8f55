/- Contracts of functions of the program: each computes what its model says; the conditions stand at each. -/
import Derived.Test.YtblhbafoncfhdaaGreatDoorP1
import Derived.Test.YtblhbafoncfhdaaGreatDoorPe4a
set_option linter.unusedSimpArgs false
set_option linter.unusedVariables false
set_option maxRecDepth 20000
set_option pp.deepTerms false
set_option pp.deepTerms.threshold 3
namespace Go.Proofs.YtblhbafoncfhdaaGreatDoor
open Go Go.Ab Go.Pm Go.Cm Go.El Go.Rm Go.Pp Go.Uf
variable (G : Nat → AV) (H : Nat → Option AObj)




theorem xapp_outN {P : Program} {G : Nat → AV} {n0 n : Nat} {H : Nat → Option AObj} {fr : Nat → AV} {K : St → Prop} {u : Wit K} {d : Option Nat} {os : List AOper} {i : Option Nat} {E : TypeId} {sz bytes : Nat} {rows : List (List AV)} {nz : Bool} {r : List AV} {len : Nat} (h : OutIs n0 H i E sz rows n) (hl : len = rows.length) (hr : Even sz [r]) (hb : (rows.length + 1) * bytes ≤ 140737488355328)
    (k : ∀ HN, HN n = some ⟨E, sz, rows ++ [r]⟩ → (∀ j, j ≠ n → i ≠ some j → HN j = H j) → xops P G K u os ⟨Ab.put fr d (.os n 0 (rows.length + 1)), HN, n + 1⟩) : xapp P G K u os d E sz bytes fr H n (outAV i len) (.ls nz [r]) :=
  xapp_out h hl hr hb (k _ hu_same fun j h1 h2 => by
    rw [hu_ne h1]
    cases i with
    | none => rfl
    | some i => exact hu_ne fun e => h2 (by rw [e]))
theorem Qt.far {H H2 HN : Nat → Option AObj} {n : Nat} (hq : Qt H H2 n) (hk : ∀ j, j < n → HN j = H2 j) : Qt H HN n := ⟨fun i o hi => by rw [hk i (hq.2 i o hi)]; exact hq.1 i o hi, hq.2⟩
set_option maxHeartbeats 6400000 in
theorem members_run {g m : Nat} {r : Rls} {nz : Bool} {l : List Tch} {K : List Idn} {ob : Idn → Nat} {N : Nat} (h : Grp H g m r nz l K ob N) (hok : TouchesOk l) (n : Nat) (hN : N ≤ n) : ACalls Tryz.prog G 85 [.op g 0 0] H n fun v H' n' => ∃ p oid nm, Parts (tie (joins r l) l) l.length p ∧ v = outAV oid (roots p l.length).length ∧ Out2 H' oid ((roots p l.length).map (rowF (joins r l) l p l.length nm)) ∧ Mf H' l p nm (roots p l.length) [] n ∧ Sub H H' := by
  have hrow := h.row
  have hfew := h.few
  have hgn := h.lt
  have hmn := h.hv.low.1
  refine ACalls.start mix F85 (by simp) fun hlow => ?_
  simp -dsimp -implicitDefEqProofs (disch := omega) only [↓wpre, push_cast, seval, c85]
  have h0 := h.keep (H2 := hu H n (some ⟨432, 1, []⟩)) fun j hj => hu_ne (by omega)
  refine ACalls.x (parts_c G _ h0 none _ (by omega)) fun v H1 n1 ⟨p, ro, hp, e1, hro, hro1, hro2, hsub⟩ => ?_
  subst e1
  rw [JJ_none] at hp
  have hpl := hp.len
  simp -dsimp -implicitDefEqProofs (disch := omega) only [↓wpre, push_cast, seval]
  refine xw_loopJ (σ := Nat × Option Nat × (Nat → Nat → Nat)) (fun t => [(0, .op g 0 0), (3, .om n), (4, outAV t.2.1 (roots p t.1).length), (13, .os ro 0 l.length), (14, .int l.length), (15, .int t.1)]) (fun t H' n' => t.1 ≤ l.length ∧ H' n = some ⟨432, 1, placeRows (roots p t.1)⟩ ∧ OutIs n1 H' t.2.1 147 5 ((roots p t.1).map (rowM (joins r l) l p t.1 t.2.2)) n' ∧ Mb H' l p t.1 t.2.2 n1 n' ∧ H' ro = some ⟨3, 1, nats p⟩ ∧ Qt H H' n ∧ n1 ≤ n') (fun t => l.length - t.1) (0, none, fun _ _ => 0) ⟨by omega, ?_, rfl, ?_, hro, ?_, Nat.le_refl _⟩ (by simp -dsimp -implicitDefEqProofs (disch := omega) only [↓wpre, push_cast, seval, outAV]; try rfl) ?_
  · exact hsub _ _ hu_same
  · exact ⟨fun k hk => (by simp [roots] at hk), fun k hk => (by simp [roots] at hk), fun k hk => (by simp [roots] at hk), fun k hk => (by simp [roots] at hk), fun k hk => (by simp [roots] at hk)⟩
  · exact ⟨fun i o hi => hsub _ _ (by rw [hu_ne (by have := hlow i _ hi; omega)]; exact hi), hlow⟩
  clear hro hsub h0
  rintro ⟨i, oid, nm⟩ fr H2 n2 ⟨hil, hpm, ho, hmb, hro, hq, hn2⟩ hh
  simp only [has_nil, has_cons, and_true] at hh hil hpm ho hmb hro
  by_cases hlt : (i : Int) < l.length
  · have hi : i < l.length := by omega
    have hi0 : (0 : Int) ≤ i := by omega
    have hgi := nats_get (p := p) (i := i) (by omega)
    obtain ⟨t, ht⟩ : ∃ t, l[i]? = some t := ⟨_, List.getElem?_eq_getElem hi⟩
    have hrow2 := hq.1 _ _ hrow
    simp -dsimp -implicitDefEqProofs (disch := omega) only [↓wpre, push_cast, seval, hh, hlt, hi0, hi, hro, hgi, hpm, Int.toNat_natCast]
    have hto := hok.each t (List.mem_of_getElem? ht)
    have hal : alen (outAV oid (roots p i).length) = some (.int (roots p i).length) := by
      cases oid with
      | none =>
        have h1 : (roots p i).map (rowM (joins r l) l p i nm) = [] := ho
        have h1 : roots p i = [] := by simpa using h1
        rw [h1]; rfl
      | some o => rfl
    have hRl : (roots p i).length ≤ i := by
      have h2 := List.length_filter_le (fun j => decide (par p j = j)) (List.range i)
      simpa [roots] using h2
    have hoid : ∀ k ∈ roots p i, ∀ c, c < 3 → oid ≠ some (nm k c) := by
      intro k hk c hc e
      rw [e] at ho
      have h1 := ho.1
      have h2 : c = 0 ∨ c = 1 ∨ c = 2 := by omega
      rcases h2 with rfl | rfl | rfl
      · rw [hmb.t k hk] at h1; simp at h1
      · rw [hmb.j k hk] at h1; simp at h1
      · rw [hmb.a k hk] at h1; simp at h1
    by_cases hnew : par p i = i
    · have hnot : par p i ∉ roots p i := by rw [hnew]; exact root_new
      have hlk := place_none hnot
      have hput := place_put hnot
      simp -dsimp -implicitDefEqProofs (disch := omega) only [↓wpre, push_cast, seval, hh, hlk, hal, hput, hpm, hrow2, even_tch, aidx_at rfl ht]
      refine AFn.x (keyOf_c G _ (h.sub ?hs) t hto) fun n3 hn3 => ?_
      case hs => exact (Qt.mono (n := n) (by repeat (first | exact hq | refine Qt.hu ?_ (by omega))) (Nat.le_refl _)).1
      have hkey : Pp.keyOf (joins r l) t = Pp.keyOf (joins r l) (tAt l i) := by rw [tAt, ht]; rfl
      rw [hkey]
      simp -dsimp -implicitDefEqProofs (disch := omega) only [↓wpre, push_cast, seval, hh]
      refine xapp_outN (n0 := n1) (rows := (roots p i).map (rowM (joins r l) l p i nm)) (by (refine OutIs.mono (n := n2) ?_ (by omega); repeat (first | exact ho | refine OutIs.put ?_ (by omega) | refine OutIs.far ?_ (by omega)))) (by simp) (by intro r hr; simp at hr; subst hr; exact ⟨rfl, rfl⟩) (by simp; omega) fun HN hN hNj => ?_
      have hog : ∀ j, j < n1 → HN j = (hu H2 n (some ⟨432, 1, placeRows (roots p i ++ [par p i])⟩)) j := fun j hj => hNj j (by omega) fun e => by
        rw [e] at ho; have := ho.2.1; omega
      have hNg : HN g = some ⟨152, 6, [grpRow r nz l m]⟩ := by rw [hog g (by omega), hu_ne (by omega)]; exact hrow2
      have hR0 : (0 : Int) ≤ (roots p i).length := by omega
      have hR1 : ((roots p i).length : Int) < (roots p i).length + 1 := by omega
      have hR2 : (roots p i).length < (roots p i).length + 1 := by omega
      have gN : ∀ x, ((roots p i).map (rowM (joins r l) l p i nm) ++ [x])[(roots p i).length]? = some x := fun x => by
        rw [List.getElem?_append_right (by simp)]; simp
      simp -dsimp -implicitDefEqProofs (disch := omega) only [↓wpre, push_cast, seval, hh, hN, hR0, hR1, hR2, List.length_map, Int.toNat_natCast]
      refine xw_freg noH (of_eq_true (sub_noH _)) ?_
      simp -dsimp -implicitDefEqProofs (disch := omega) only [↓wpre, push_cast, seval, hh, hN, hNg, gN, even_tch, aidx_at rfl ht]
      have gS : ∀ x y, ((roots p i).map (rowM (joins r l) l p i nm) ++ [x]).set (roots p i).length y = (roots p i).map (rowM (joins r l) l p i nm) ++ [y] := fun x y => by
        rw [List.set_append_right _ _ (by simp)]; simp
      have evI : ∀ x : Int, Even 1 [[AV.int x]] := fun x r hr => by simp at hr; subst hr; exact ⟨rfl, rfl⟩
      refine xsp_intro ?_ ?_
      all_goals
        rw [xapp_first (evI _) (by simp) (by simp)]
        simp -dsimp -implicitDefEqProofs (disch := omega) only [↓wpre, push_cast, seval, hh, hN, gN, gS, List.map_cons, List.map_nil]
        rw [xapp_first (evI _) (by simp) (by simp)]
        simp -dsimp -implicitDefEqProofs (disch := omega) only [↓wpre, push_cast, seval, hh, hN, gN, gS, List.map_cons, List.map_nil]
        refine xw_nreg noH (of_eq_true (sub_noH _)) ?_
        simp -dsimp -implicitDefEqProofs (disch := omega) only [↓wpre, push_cast, seval, hh, hN, hNg, gN, even_tch, aidx_at rfl ht]
        obtain ⟨y, ys, hys⟩ : ∃ y ys, t.ids = y :: ys := by
          cases hi : t.ids with
          | nil => exact absurd hi hto.some
          | cons y ys => exact ⟨y, ys, rfl⟩
        have hidl := hto.few
        rw [hys] at hidl
        rw [hys]
        simp only [List.map_cons]
        rw [xapp_first (by intro r hr; obtain ⟨z, _, rfl⟩ := List.mem_map.1 (show r ∈ (y :: ys).map Idn.c from hr); exact ⟨rfl, rfl⟩) (by simp at hidl ⊢; omega) (by simp at hidl ⊢; omega)]
        simp -dsimp -implicitDefEqProofs (disch := omega) only [↓wpre, push_cast, seval, hh, hN, gN, gS, List.map_cons, List.map_nil]
        have hRs : roots p (i + 1) = roots p i ++ [par p i] := by rw [roots_succ, if_pos hnew, hnew]
        have hRl2 : (roots p (i + 1)).length = (roots p i).length + 1 := by rw [hRs]; simp
        have htA : tAt l i = t := by rw [tAt, ht]; rfl
        have hof : ofRoot p i (par p i) = [] := by rw [hnew]; exact ofRoot_none hp
        have htl : tl l p i (par p i) = [] := by unfold tl; rw [hof]; rfl
        have hilE : il l p i (par p i) = [] := by unfold il; rw [hof]; rfl
        have hidl2 : t.ids.length = ys.length + 1 := by rw [hys]; rfl
        have hrowE := rowM_at (J := joins r l) (l := l) (p := p) (i := i) (nm := nm) (x0 := n3 + 1) (x1 := n3 + 1 + 1 + 1) (x2 := n3 + 1 + 1)
        rw [hof, hilE, htA, hidl2, show tAt l (par p i) = tAt l i from by rw [hnew]] at hrowE
        simp only [List.length_nil, Nat.zero_add] at hrowE
        refine againJ (i + 1, some n3, nm' nm (par p i) (n3 + 1) (n3 + 1 + 1 + 1) (n3 + 1 + 1)) (by dsimp only; omega) ⟨by dsimp only; omega, ?_, ⟨?_, by omega, by omega⟩, ?_, ?_, ?_, by omega⟩ (by simp -dsimp -implicitDefEqProofs (disch := omega) only [↓wpre, push_cast, seval, hh, hRl2]; all_goals (try simp only [AV.lit.injEq, Value.int.injEq, Value.bool.injEq, true_and, and_true]); all_goals (try (repeat' apply And.intro)); all_goals (first | rfl | omega | simp_all | skip))
        · rw [hu_ne (by omega), hu_ne (by omega), hu_ne (by omega), hu_ne (by omega), hu_ne (by omega), hu_ne (by omega), hog n (by omega), hu_same, hRs]
        · rw [hu_same, ← rows_new hnew, hrowE]
        · refine Mb.step hmb (N := n2) (by omega) (by omega) (by omega) (by omega) (by omega) (by omega) (by omega) (by omega) (by omega) (by omega) (by omega) ?_ ?_ ?_ ?_
          · rw [hu_ne (by omega), hu_ne (by omega), hu_ne (by omega), hu_ne (by omega), hu_ne (by omega), hu_same, htl, htA]; rfl
          · rw [hu_ne (by omega), hu_same, hilE, htA, hys]; rfl
          · rw [hu_ne (by omega), hu_ne (by omega), hu_ne (by omega), hu_ne (by omega), hu_same, hof]; rfl
          · intro k hk hne c hc
            have hlo := hmb.low k hk c hc
            rw [hu_ne (by omega), hu_ne (by omega), hu_ne (by omega), hu_ne (by omega), hu_ne (by omega), hu_ne (by omega), hNj _ (by omega) (hoid k hk c hc), hu_ne (by omega)]
        · rw [hu_ne (by omega), hu_ne (by omega), hu_ne (by omega), hu_ne (by omega), hu_ne (by omega), hu_ne (by omega), hog ro (by omega), hu_ne (by omega)]
          exact hro
        · refine Qt.far hq fun j hj => ?_
          rw [hu_ne (by omega), hu_ne (by omega), hu_ne (by omega), hu_ne (by omega), hu_ne (by omega), hu_ne (by omega), hog j (by omega), hu_ne (by omega)]
    · have hmem := root_known hp hi hnew
      have hlk := place_at (roots_nodup p i) hmem
      have hidx := List.idxOf_lt_length_of_mem hmem
      obtain ⟨o, rfl⟩ : ∃ o, oid = some o := by
        cases oid with
        | none =>
          have h1 : (roots p i).map (rowM (joins r l) l p i nm) = [] := ho
          have h1 : roots p i = [] := by simpa using h1
          rw [h1] at hmem; cases hmem
        | some o => exact ⟨o, rfl⟩
      obtain ⟨ho1, ho2, ho3⟩ := ho
      have hrow0 := get_idx (rowM (joins r l) l p i nm) (par p i) hmem
      have hrk := fun x0 x1 x2 => rows_known (J := joins r l) (l := l) (p := p) (i := i) (nm := nm) (x0 := x0) (x1 := x1) (x2 := x2) hmem
      generalize hRw : (roots p i).map (rowM (joins r l) l p i nm) = Rw at ho1 hrow0 hrk
      have hRwl : Rw.length = (roots p i).length := by rw [← hRw]; simp
      generalize hk0 : (roots p i).idxOf (par p i) = k0 at hlk hidx hrow0 hrk
      have gG : ∀ y, (Rw.set k0 y)[k0]? = some y := fun y => List.getElem?_set_self (by omega)
      have gS : ∀ y y', (Rw.set k0 y).set k0 y' = Rw.set k0 y' := fun y y' => List.set_set ..
      unfold rowM at hrow0
      have hk00 : (0 : Int) ≤ k0 := by omega
      have hk01 : (k0 : Int) < (roots p i).length := by omega
      simp -dsimp -implicitDefEqProofs (disch := omega) only [↓wpre, push_cast, seval, hh, hlk, outAV, ho1, hk00, hk01, hidx, Int.toNat_natCast]
      refine xw_freg noH (of_eq_true (sub_noH _)) ?_
      simp -dsimp -implicitDefEqProofs (disch := omega) only [↓wpre, push_cast, seval, hh, ho1, hrow0, hrow2, even_tch, aidx_at rfl ht]
      have evI : ∀ x : Int, Even 1 [[AV.int x]] := fun x r hr => by simp at hr; subst hr; exact ⟨rfl, rfl⟩
      have mt := hmb.t _ hmem
      have mj := hmb.j _ hmem
      have ma := hmb.a _ hmem
      have lt0 := hmb.low _ hmem 0 (by omega)
      have lj0 := hmb.low _ hmem 1 (by omega)
      have la0 := hmb.low _ hmem 2 (by omega)
      have e01 : nm (par p i) 0 ≠ nm (par p i) 1 := fun e => absurd (hmb.inj _ hmem _ hmem 0 1 (by omega) (by omega) e).2 (by omega)
      have e02 : nm (par p i) 0 ≠ nm (par p i) 2 := fun e => absurd (hmb.inj _ hmem _ hmem 0 2 (by omega) (by omega) e).2 (by omega)
      have e12 : nm (par p i) 1 ≠ nm (par p i) 2 := fun e => absurd (hmb.inj _ hmem _ hmem 1 2 (by omega) (by omega) e).2 (by omega)
      have eo0 : o ≠ nm (par p i) 0 := fun e => hoid _ hmem 0 (by omega) (by rw [e])
      have eo1 : o ≠ nm (par p i) 1 := fun e => hoid _ hmem 1 (by omega) (by rw [e])
      have eo2 : o ≠ nm (par p i) 2 := fun e => hoid _ hmem 2 (by omega) (by rw [e])
      have hofl := ofRoot_len p i (par p i)
      have hill := il_len (fun t ht => (hok.each t ht).few) p i (par p i)
      have htll := tl_len l p i (par p i)
      refine xsp_intro ?_ ?_
      all_goals
        rw [xapp_os (rows := ints (tl l p i (par p i))) mt (by simp [ints, htll]) (evI _) (by simp) (by simp; omega)]
        simp -dsimp -implicitDefEqProofs (disch := omega) only [↓wpre, push_cast, seval, hh, ho1, hrow0, gG, gS, List.map_cons, List.map_nil]
        rw [xapp_os (rows := nats (ofRoot p i (par p i))) (by rw [hu_ne (by omega), hu_ne (by omega)]; exact ma) (by simp [nats]) (evI _) (by simp) (by simp; omega)]
        simp -dsimp -implicitDefEqProofs (disch := omega) only [↓wpre, push_cast, seval, hh, ho1, hrow0, gG, gS, List.map_cons, List.map_nil]
        refine xw_nreg noH (of_eq_true (sub_noH _)) ?_
        simp -dsimp -implicitDefEqProofs (disch := omega) only [↓wpre, push_cast, seval, hh, ho1, hrow0, hrow2, gG, gS, even_tch, aidx_at rfl ht]
        have hidl := hto.few
        have hidp : 0 < t.ids.length := List.length_pos_iff.2 hto.some
        rw [xapp_os (rows := (il l p i (par p i)).map Idn.c) (by rw [hu_ne (by omega), hu_ne (by omega), hu_ne (by omega), hu_ne (by omega), hu_ne (by omega), hu_ne (by omega)]; exact mj) (by simp) (by rw [even_ids]; trivial) (by simp; omega) (by simp; omega)]
        simp -dsimp -implicitDefEqProofs (disch := omega) only [↓wpre, push_cast, seval, hh, ho1, hrow0, hrow2, gG, gS]
        have hRs : roots p (i + 1) = roots p i := by rw [roots_succ, if_neg hnew, List.append_nil]
        have htA : tAt l i = t := by rw [tAt, ht]; rfl
        have hrowE := rowM_at (J := joins r l) (l := l) (p := p) (i := i) (nm := nm) (x0 := n2) (x1 := n2 + 1 + 1) (x2 := n2 + 1)
        have hrkE := hrk n2 (n2 + 1 + 1) (n2 + 1)
        rw [hrowE, htA] at hrkE
        refine againJ (i + 1, some o, nm' nm (par p i) n2 (n2 + 1 + 1) (n2 + 1)) (by dsimp only; omega) ⟨by dsimp only; omega, ?_, ⟨?_, by omega, by omega⟩, ?_, ?_, ?_, by omega⟩ (by simp -dsimp -implicitDefEqProofs (disch := omega) only [↓wpre, push_cast, seval, hh, hRs, outAV]; all_goals (try simp only [AV.lit.injEq, Value.int.injEq, Value.bool.injEq, true_and, and_true]); all_goals (try (repeat' apply And.intro)); all_goals (first | rfl | omega | simp_all | skip))
        · rw [hRs]
          repeat rw [hu_ne (by omega)]
          exact hpm
        · rw [hu_same, ← hrkE]
        · refine Mb.step hmb (N := n2) (by omega) (by omega) (by omega) (by omega) (by omega) (by omega) (by omega) (by omega) (by omega) (by omega) (by omega) ?_ ?_ ?_ ?_
          · repeat rw [hu_ne (by omega)]
            rw [hu_same, htA]
            simp [ints]
          · repeat rw [hu_ne (by omega)]
            rw [hu_same, htA, List.map_append]
          · repeat rw [hu_ne (by omega)]
            rw [hu_same]
            simp [nats]
          · intro k hk hne c hc
            have hlo := hmb.low k hk c hc
            have d0 : nm k c ≠ nm (par p i) 0 := fun e => hne (hmb.inj _ hk _ hmem c 0 hc (by omega) e).1
            have d1 : nm k c ≠ nm (par p i) 1 := fun e => hne (hmb.inj _ hk _ hmem c 1 hc (by omega) e).1
            have d2 : nm k c ≠ nm (par p i) 2 := fun e => hne (hmb.inj _ hk _ hmem c 2 hc (by omega) e).1
            have d3 : nm k c ≠ o := fun e => hoid k hk c hc (by rw [e])
            repeat rw [hu_ne (by omega)]
        · repeat rw [hu_ne (by omega)]
          exact hro
        · refine Qt.far hq fun j hj => ?_
          repeat rw [hu_ne (by omega)]
  · have hie : i = l.length := by omega
    subst hie
    have hal : alen (outAV oid (roots p l.length).length) = some (.int (roots p l.length).length) := by
      cases oid with
      | none =>
        have h1 : (roots p l.length).map (rowM (joins r l) l p l.length nm) = [] := ho
        have h1 : roots p l.length = [] := by simpa using h1
        rw [h1]; rfl
      | some o => rfl
    have ho2 : Out2 H2 oid (([] : List Nat).map (rowF (joins r l) l p l.length nm) ++ (roots p l.length).map (rowM (joins r l) l p l.length nm)) := by
      cases oid with
      | none => exact ho
      | some o => exact ho.1
    have hon : ∀ o, oid = some o → n ≤ o := by
      intro o e
      rw [e] at ho
      have := ho.2.1; omega
    have hmf := hmb.fin (show n ≤ n1 by omega)
    have hRn : (roots p l.length).length ≤ l.length := by
      have h2 := List.length_filter_le (fun j => decide (par p j = j)) (List.range l.length)
      simpa [roots] using h2
    simp -dsimp -implicitDefEqProofs (disch := omega) only [↓wpre, push_cast, seval, hh, hlt, hal]
    refine xw_loopJ (σ := List Nat × List Nat) (fun t => [(4, outAV oid (roots p l.length).length), (99, .int (roots p l.length).length), (100, .int t.1.length)]) (fun t H' n' => Mf H' l p nm t.1 t.2 n ∧ Out2 H' oid (t.1.map (rowF (joins r l) l p l.length nm) ++ t.2.map (rowM (joins r l) l p l.length nm)) ∧ Qt H H' n) (fun t => t.2.length) ([], roots p l.length) ⟨hmf, ho2, hq⟩ (by simp -dsimp -implicitDefEqProofs (disch := omega) only [↓wpre, push_cast, seval, hh]) ?_
    clear hh hpm ho hmb hro hq ho2 hmf hlt
    rintro ⟨D, S⟩ fr H2 n3 ⟨hmf, ho, hq⟩ hh
    simp only [has_nil, has_cons, and_true] at hh hmf ho
    have hDS : (roots p l.length).length = D.length + S.length := by rw [hmf.all]; simp
    cases S with
    | nil =>
      have hlt : ¬ (D.length : Int) < (roots p l.length).length := by rw [hDS]; simp
      simp -dsimp -implicitDefEqProofs (disch := omega) only [↓wpre, push_cast, seval, hh, hlt]
      have hDR : roots p l.length = D := by rw [hmf.all]; simp
      refine fin_intro (Sub.refl _) ⟨p, oid, nm, hp, rfl, ?_, ?_, hq.1⟩
      · rw [hDR]; simpa using ho
      · rw [hDR]; exact hmf
    | cons x S =>
      have hlt : (D.length : Int) < (roots p l.length).length := by rw [hDS]; simp only [List.length_cons]; omega
      obtain ⟨o, rfl⟩ : ∃ o, oid = some o := by
        cases oid with
        | none => exact absurd (show _ = [] from ho) (by simp)
        | some o => exact ⟨o, rfl⟩
      have ho1 : H2 o = some ⟨147, 5, D.map (rowF (joins r l) l p l.length nm) ++ (x :: S).map (rowM (joins r l) l p l.length nm)⟩ := ho
      have hDn : (D.length : Nat) < (roots p l.length).length := by omega
      have hD0 : (0 : Int) ≤ D.length := by omega
      have gG : (D.map (rowF (joins r l) l p l.length nm) ++ (x :: S).map (rowM (joins r l) l p l.length nm))[D.length]? = some [.int (Pp.keyOf (joins r l) (tAt l x)).kind, .str (Pp.keyOf (joins r l) (tAt l x)).text, .os (nm x 0) 0 (ofRoot p l.length x).length, .os (nm x 1) 0 (il l p l.length x).length, .os (nm x 2) 0 (ofRoot p l.length x).length] := by
        rw [List.getElem?_append_right (by simp)]; simp [rowM]
      have gS : ∀ y, (D.map (rowF (joins r l) l p l.length nm) ++ (x :: S).map (rowM (joins r l) l p l.length nm)).set D.length y = D.map (rowF (joins r l) l p l.length nm) ++ y :: S.map (rowM (joins r l) l p l.length nm) := fun y => by
        rw [List.set_append_right _ _ (by simp)]; simp
      simp -dsimp -implicitDefEqProofs (disch := omega) only [↓wpre, push_cast, seval, hh, hlt, outAV, ho1, hDn, hD0, gG, Int.toNat_natCast]
      have hxm : x ∈ D ++ x :: S := by simp
      have hjx := hmf.jS x (by simp)
      have hill := il_len (fun t ht => (hok.each t ht).few) p l.length x
      have lj0 := hmf.low x hxm 1 (by omega)
      have hoj : ∀ k ∈ D ++ x :: S, ∀ c, c < 3 → o ≠ nm k c := by
        intro k hk c hc e
        rw [e] at ho1
        have h2 : c = 0 ∨ c = 1 ∨ c = 2 := by omega
        rcases h2 with rfl | rfl | rfl
        · rw [hmf.t k hk] at ho1; simp at ho1
        · rcases List.mem_append.1 hk with hk | hk
          · obtain ⟨jr, hj⟩ := hmf.jD k hk
            rw [hj] at ho1; simp at ho1
          · rw [hmf.jS k hk] at ho1; simp at ho1
        · rw [hmf.a k hk] at ho1; simp at ho1
      have eoj := hoj x hxm 1 (by omega)
      have hon2 := hon o rfl
      refine ACalls.x (sortI_c G _ (il l p l.length x) [] (nm x 1) (by rw [List.append_nil]; exact hjx) (by omega) _) fun r1 H3 n4 ⟨e1, l', hs, hsl, e2⟩ => ?_
      subst e1 e2
      rw [List.append_nil]
      simp -dsimp -implicitDefEqProofs (disch := omega) only [↓wpre, push_cast, seval, hh, outAV, ho1, hDn, hD0, hlt, gG, Int.toNat_natCast]
      rw [← hsl]
      refine ACalls.x (compactI_c G _ (nm x 1) l' (by omega) hu_same _) fun r1 H4 n5 ⟨e1, jr, e2⟩ => ?_
      subst e1 e2
      rw [cptT_set hs]
      simp -dsimp -implicitDefEqProofs (disch := omega) only [↓wpre, push_cast, seval, hh, outAV, ho1, hDn, hD0, hlt, gG, gS, Int.toNat_natCast]
      refine againJ (D ++ [x], S) (Nat.lt_succ_self _) ⟨hmf.next (jr := jr) ?_ ?_, ?_, ?_⟩ (by simp -dsimp -implicitDefEqProofs (disch := omega) only [↓wpre, push_cast, seval, hh, outAV]; all_goals (try simp only [AV.lit.injEq, Value.int.injEq, Value.bool.injEq, true_and, and_true]); all_goals (try (repeat' apply And.intro)); all_goals (first | rfl | omega | simp_all | skip))
      · repeat rw [hu_ne (by omega)]
        rw [hu_same]
      · intro k hk c hc hne
        have h1 := hoj k hk c hc
        have h2 : nm k c ≠ nm x 1 := fun e => hne (hmf.inj k hk x hxm c 1 hc (by omega) e)
        repeat rw [hu_ne (by omega)]
      · show hu _ o _ o = _
        rw [hu_same]
        simp [rowF]
      · exact Qt.mono (n := n) (by repeat (first | exact hq | refine Qt.hu ?_ (by omega))) (by omega)
end Go.Proofs.YtblhbafoncfhdaaGreatDoor

