/- A part of an abstract logic over the model's runs, proved sound against the model; no condition. -/
import Derived.Test.YthcedgclhoggcaaGreatDoorAb14
/-! Code, and a function's body. -/
set_option linter.unusedVariables false
set_option linter.unusedSimpArgs false
namespace Go.Ab
open Go.RowKit
variable {P : Program} {w w' : World} {g g' : Gh} {G : Nat → AV} {N : Nat} {st : St} {a : Act} {H : Nat → Option AObj}

/-- What an operation waits for, struck: in the text's order nobody asks. -/
def bareOp (x : AOper) : AOper := { x with af := [] }
theorem aops_bare : ∀ (al : List AOper) (st : St) (K : St → Prop), aops P G (al.map bareOp) st K = aops P G al st K
  | [], st, K => rfl
  | x :: al, st, K => by
    simp only [List.map_cons, aops, bareOp]
    have : (fun st' => aops P G (al.map bareOp) st' K) = fun st' => aops P G al st' K := funext fun st' => aops_bare al st' K
    rw [this]
    cases x.g with
    | none => rfl
    | some q => obtain ⟨j, b⟩ := q; simp only [aops_bare al]
def absCode (P : Program) (N : Nat) (own : List Nat) : Code → Option ACode
  | .skip | .label _ => some .skip
  | .region _ ops draw => match absOpers P N own ops ops.toList with
    | some al => if draw then (if dok al then some (.dreg al) else none) else some (.reg (al.map bareOp))
    | none => none
  | .seq x y => match absCode P N own x, absCode P N own y with
    | some u, some v => some (.seq u v)
    | _, _ => none
  | .cond c x y => match absCode P N own x, absCode P N own y with
    | some u, some v => some (.cond (absOpd c) u v)
    | _, _ => none
  | .block id b => (absCode P N own b).map (.blk id)
  | .loop b => (absCode P N own b).map .loop
  | .exit id => some (.exit id)
  | .ret => some .ret
  | _ => some .bad

theorem rep_false (n i : Nat) : (Array.replicate n false).getD i false = false := by
  rw [Array.getD_eq_getD_getElem?, Array.getElem?_replicate]; split <;> rfl
theorem dreg_sound {own : List Nat} {ops : Array Oper} {al : List AOper} {Q : Exit → Act → World → Prop} (hmix : P.follows .mixedOrders = true) {id : Nat} (hal : absOpers P N own ops ops.toList = some al) (hok : dok al = true) {K : (Nat → AV) → (Nat → Option AObj) → Prop} (h : adops P G st.H al st.fr K) (hR : Rel G N st g a w)
    (hQ : ∀ fr H' a' w' g', K fr H' → Rel G N ⟨fr, H', g'.n⟩ g' a' w' → Step w g w' g' → Q .normal a' w') : (Code.region id ops true).wp P Q a w := by
  obtain ⟨F, HH, h1, h0, h2, h3⟩ := adops_trace al st.H st.fr K h
  refine wp_region_any hmix ?_
  have hR0 : Rel G N ⟨frL al F (Array.replicate ops.size false), hL al HH (Array.replicate ops.size false), g.n⟩ g a w.drew := by
    have e0 : hL al HH (Array.replicate ops.size false) = st.H := by
      rw [hL_at h3 (Nat.zero_le _) (fun j _ _ => by rw [rep_false]; simp), h0]
    have : frL al F (Array.replicate ops.size false) = st.fr := by
      funext s
      unfold frL
      rw [if_neg, h1]
      rintro ⟨i, x, _, _, h6⟩
      rw [rep_false] at h6
      cases h6
    rw [this, e0, hR.n]
    exact hR.drew
  refine dany hal hok h3 (w0 := w) (g0 := g) (fun a' w' g' k1 k2 => hQ _ _ a' w' g' h2 k1 k2) ops.size _ a w.drew g (by simp) (fun i hi _ => by omega) ?_ ?_ hR0 (step_drew w g)
  · have : ∀ n, (List.range n).countP (fun i => !(Array.replicate ops.size false).getD i false) = n := by
      intro n
      rw [List.countP_eq_length.2]
      · simp
      · intro i _
        rw [rep_false]; rfl
    exact this _
  · intro i x _ hl
    rw [rep_false] at hl
    cases hl

theorem aw_sound {own : List Nat} (hmix : P.follows .mixedOrders = true) : ∀ (c : Code) (ac : ACode) (Q : AExit → St → Prop) (st : St) (g : Gh) (a : Act) (w : World), absCode P N own c = some ac → aw P G ac Q st → Rel G N st g a w → c.wp P (RQ G N w g Q) a w
  | .skip, ac, Q, st, g, a, w, hc, h, hR => by
    cases hc
    exact wp_skip ⟨st, g, h, hR, Step.refl _ _⟩
  | .label l, ac, Q, st, g, a, w, hc, h, hR => by
    cases hc
    exact wp_label ⟨st, g, h, hR, Step.refl _ _⟩
  | .region id ops draw, ac, Q, st, g, a, w, hc, h, hR => by
    simp only [absCode] at hc
    split at hc
    · rename_i al hal
      cases draw with
      | false =>
        simp only [Bool.false_eq_true, if_false] at hc
        cases hc
        simp only [aw, aops_bare] at h
        exact wp_region_list (aops_sound _ _ st g a w (Q .normal) hal h hR fun st' g' a' w' k1 k2 k3 => ⟨st', g', k1, k2, k3⟩)
      | true =>
        simp only [if_true] at hc
        split at hc
        · rename_i hok
          cases hc
          exact dreg_sound hmix hal hok h hR fun fr H' a' w' g' k1 k2 k3 => ⟨_, g', k1 g'.n (by rw [← hR.n]; exact k3.n), k2, k3⟩
        · cases hc
    · cases hc
  | .seq x y, ac, Q, st, g, a, w, hc, h, hR => by
    simp only [absCode] at hc
    split at hc
    · rename_i u v hu hv
      cases hc
      refine wp_seq (wp_mono (aw_sound hmix x u _ st g a w hu h hR) fun e a' w' hq => ?_)
      cases e with
      | normal =>
        obtain ⟨st', g', k1, k2, k3⟩ := hq
        exact wp_mono (aw_sound hmix y v Q st' g' a' w' hv k1 k2) (RQ.step k3 fun _ _ h => h)
      | exit id => exact hq
      | ret => exact hq
      | goto l => exact hq.elim
      | panic c => exact hq.elim
      | outgrown => exact hq.elim
    · cases hc
  | .cond c x y, ac, Q, st, g, a, w, hc, h, hR => by
    simp only [absCode] at hc
    split at hc
    · rename_i u v hu hv
      cases hc
      simp only [aw] at h
      have hx := ev_rep hR c
      split at h
      · rename_i t ht
        rw [ht] at hx
        have hx : a.eval c = .bool t := hx
        cases t with
        | true => exact wp_cond_true hx (aw_sound hmix x u Q st g a w hu (h.1 rfl) hR)
        | false => exact wp_cond_false hx (aw_sound hmix y v Q st g a w hv (h.2 rfl) hR)
      · exact h.elim
    · cases hc
  | .block id b, ac, Q, st, g, a, w, hc, h, hR => by
    simp only [absCode] at hc
    obtain ⟨u, hu, rfl⟩ := Option.map_eq_some_iff.1 hc
    refine wp_block (wp_mono (aw_sound hmix b u _ st g a w hu h hR) fun e a' w' hq => ?_)
    cases e with
    | normal => exact hq
    | exit k =>
      obtain ⟨st', g', k1, k2, k3⟩ := hq
      simp only [blkQ] at k1
      simp only [Exit.inBlock]
      by_cases hk : k = id
      · rw [if_pos hk] at k1
        rw [if_pos hk]
        exact ⟨st', g', k1, k2, k3⟩
      · rw [if_neg hk] at k1
        rw [if_neg hk]
        exact ⟨st', g', k1, k2, k3⟩
    | ret => exact hq
    | goto l => exact hq.elim
    | panic c => exact hq.elim
    | outgrown => exact hq.elim
  | .loop b, ac, Q, st, g, a, w, hc, h, hR => by
    simp only [absCode] at hc
    obtain ⟨u, hu, rfl⟩ := Option.map_eq_some_iff.1 hc
    obtain ⟨I, n, h1, h2⟩ := h
    -- the measure stands in no slot: it is counted beside
    have key : ∀ (n : Nat) (st : St) (g1 : Gh) (a : Act) (w1 : World), I n st → Rel G N st g1 a w1 → Step w g w1 g1 → ∀ (fb : Frame) (k : List Item) (cs : List Frame),
        ∃ e a' w', RQ G N w g Q e a' w' ∧ Arrives P (lone (fb.at a (.code b :: .inLoop b :: k)) cs w1) fb k cs e a' w' := by
      intro n
      induction n using Nat.strongRecOn with
      | _ n ih =>
        intro st g1 a w1 hI hR1 hS1 fb k cs
        obtain ⟨e, a1, w2, hq, harr⟩ := aw_sound hmix b u _ st g1 a w1 hu (h2 n st hI) hR1 fb (.inLoop b :: k) cs
        cases e with
        | normal =>
          obtain ⟨st', g', k1, k2, k3⟩ := hq
          obtain ⟨m, hm, st2, hwk, hI2⟩ := k1
          obtain ⟨g2, hR2, hS2⟩ := k2.soft hwk
          obtain ⟨e2, a2, w3, hq2, harr2⟩ := ih m hm st2 g2 a1 w2 hI2 hR2 ((hS1.trans k3).trans hS2) fb k cs
          exact ⟨e2, a2, w3, hq2, .of_steps (Steps.trans harr (.one step_inLoop)) harr2⟩
        | exit id =>
          obtain ⟨st', g', k1, k2, k3⟩ := hq
          exact ⟨.exit id, a1, w2, ⟨st', g', k1, k2, hS1.trans k3⟩, .pass (x := .inLoop b) rfl (fun _ _ => .inl (by simp)) harr⟩
        | ret =>
          obtain ⟨st', g', k1, k2, k3⟩ := hq
          exact ⟨.ret, a1, w2, ⟨st', g', k1, k2, hS1.trans k3⟩, .pass (x := .inLoop b) rfl (fun _ _ => .inl (by simp)) harr⟩
        | goto l => exact hq.elim
        | panic c => exact hq.elim
        | outgrown => exact hq.elim
    intro fb k cs
    obtain ⟨e, a', w', hq, harr⟩ := key n st g a w h1 hR (Step.refl _ _) fb k cs
    exact ⟨e, a', w', hq, .of_steps (.one step_loop) harr⟩
  | .exit id, ac, Q, st, g, a, w, hc, h, hR => by
    cases hc
    exact wp_exit ⟨st, g, h, hR, Step.refl _ _⟩
  | .ret, ac, Q, st, g, a, w, hc, h, hR => by
    cases hc
    exact wp_ret ⟨st, g, h, hR, Step.refl _ _⟩
  | .goto _, ac, Q, st, g, a, w, hc, h, hR => by cases hc; exact h.elim
  | .scope _, ac, Q, st, g, a, w, hc, h, hR => by cases hc; exact h.elim
  | .rangeFunc _ _ _ _, ac, Q, st, g, a, w, hc, h, hR => by cases hc; exact h.elim
  | .refuse _, ac, Q, st, g, a, w, hc, h, hR => by cases hc; exact h.elim

/-! A function. -/
inductive ARes where
  | t (n : Nat)
  | c (ag : Bool) (n : Nat) (s : Nat)
  deriving Inhabited
def absRes1 (P : Program) : ResultVar → Option ARes
  | .tmp t => some (.t t)
  | .cell s t => match aggOf P t, P.info? t with
    | some ag, some i => some (.c ag i.size s)
    | _, _ => none
def absRes (P : Program) : List ResultVar → Option (List ARes)
  | [] => some []
  | r :: rs => match absRes1 P r, absRes P rs with
    | some x, some xs => some (x :: xs)
    | _, _ => none
def ares1 (H : Nat → Option AObj) (fr : Nat → AV) : ARes → Option AV
  | .t n => some (fr n)
  | .c ag n s => aload H ag n (fr s)
def aresL (H : Nat → Option AObj) (fr : Nat → AV) : List ARes → Option (List AV)
  | [] => some []
  | r :: rs => match ares1 H fr r, aresL H fr rs with
    | some x, some xs => some (x :: xs)
    | _, _ => none
def aone : List AV → AV
  | [x] => x
  | xs => .tup xs
def ares (H : Nat → Option AObj) (fr : Nat → AV) (rs : List ARes) : Option AV := (aresL H fr rs).map aone

def resOf (tmps : Array Value) : ResultVar → Sem Value
  | .tmp t => pure (tmps.getD t undef)
  | .cell s t => do loadVar t (← asAddr (tmps.getD s undef))
theorem res1_sound (hR : Rel G N st g a w) {r : ResultVar} {x : ARes} (hx : absRes1 P r = some x) {v : AV} (h : ares1 st.H st.fr x = some v) :
    ∃ u, (resOf a.tmps r).run P w = .ok u w ∧ Rep w g v u := by
  cases r with
  | tmp t =>
    cases hx
    cases h
    exact ⟨_, rfl, hR.fr t⟩
  | cell s t =>
    simp only [absRes1] at hx
    split at hx
    · rename_i ag i hu hi
      cases hx
      simp only [ares1] at h
      rw [← hR.H] at h
      obtain ⟨u, h1, h2⟩ := load_sound (P := P) hR.inv hu hi (hR.fr s) h
      refine ⟨u, ?_, h2⟩
      simp only [Instr.loadAt] at h1
      have : ∃ ad, a.tmps.getD s undef = .pointer (some ad) := by
        have hp := hR.fr s
        cases hv : st.fr s with
        | pp cells => rw [hv] at hp; obtain ⟨b, o, e, _⟩ := hp; exact ⟨_, e⟩
        | op j r c => rw [hv] at hp; obtain ⟨⟨ad, e⟩, _⟩ := hp; exact ⟨_, e⟩
        | _ => rw [hv] at h; simp [aload] at h
      obtain ⟨ad, had⟩ := this
      rw [had] at h1
      simp only [resOf]
      rw [had]
      simpa [Instr.sureAddr, asAddr] using h1
    · cases hx
theorem resL_sound (hR : Rel G N st g a w) : ∀ {rs : List ResultVar} {xs : List ARes} {vs : List AV}, absRes P rs = some xs → aresL st.H st.fr xs = some vs →
    ∃ us : List Value, (rs.mapM (resOf a.tmps)).run P w = .ok us w ∧ RepList w g vs us
  | [], xs, vs, hx, h => by
    cases hx
    cases h
    exact ⟨[], by simp, rfl⟩
  | r :: rs, xs, vs, hx, h => by
    simp only [absRes] at hx
    split at hx
    · rename_i x xs' h1 h2
      cases hx
      simp only [aresL] at h
      split at h
      · rename_i v vs' h3 h4
        cases h
        obtain ⟨u, k1, k2⟩ := res1_sound hR h1 h3
        obtain ⟨us, k3, k4⟩ := resL_sound hR h2 h4
        refine ⟨u :: us, ?_, u, us, rfl, k2, k4⟩
        simp only [List.mapM_cons, Sem.run_bind, k1, Result.andThen_ok, k3, Sem.run_pure]
      · cases h
    · cases hx
theorem res_sound (hR : Rel G N st g a w) {fn : Func} {rs : List ARes} (hrs : absRes P fn.results.toList = some rs) {v : AV} (h : ares st.H st.fr rs = some v) :
    ∃ u, (results fn a.tmps).run P w = .ok u w ∧ Rep w g v u := by
  obtain ⟨vs, h1, h2⟩ := Option.map_eq_some_iff.1 h
  obtain ⟨us, h3, h4⟩ := resL_sound hR hrs h1
  have h5 : (fn.results.mapM (resOf a.tmps)).run P w = .ok us.toArray w := by
    rw [Array.mapM_eq_mapM_toList]
    simp [h3]
  have h6 : (results fn a.tmps).run P w = .ok (if h : us.toArray.size = 1 then us.toArray[0] else .tuple us.toArray) w := by
    unfold results
    rw [Sem.run_bind]
    refine Eq.trans (congrArg (fun r => Result.andThen r _) h5) ?_
    rfl
  refine ⟨_, h6, ?_⟩
  subst h2
  have hl := h4.length
  match vs, us, h4, hl with
  | [], [], h4, _ => exact ⟨#[], rfl, h4⟩
  | [x], [u], h4, _ =>
    obtain ⟨u', us', e, k1, k2⟩ := h4
    cases e
    exact k1
  | x :: y :: vs, u :: u2 :: us, h4, _ => exact ⟨(u :: u2 :: us).toArray, by simp, by simpa using h4⟩

/-- A function resolved: its slots, its code, its results. -/
structure AFunc where
  N : Nat
  c : ACode
  r : List ARes
  deriving Inhabited
def absFn (P : Program) (own : List Nat) (f : FuncId) : Option AFunc := match P.funcs[f]? with
  | some fn => if fn.name == "runtime.NumGoroutine" then none else match fn.body with
    | some c => match absCode P fn.ntmps own c, absRes P fn.results.toList with
      | some ac, some rs => some ⟨fn.ntmps, ac, rs⟩
      | _, _ => none
    | none => none
  | none => none
def argFr (args : List AV) : Nat → AV := fun s => args.getD s .any
def endQ (rs : List ARes) (R : AV → (Nat → Option AObj) → Nat → Prop) : AExit → St → Prop
  | .exit _, _ => False
  | _, st => ∃ r H', ares st.H st.fr rs = some r ∧ Sub H' st.H ∧ R r H' st.n

theorem ACalls.of_aw {own : List Nat} (hmix : P.follows .mixedOrders = true) {f : FuncId} {F : AFunc} (hf : absFn P own f = some F) {args : List AV} {H : Nat → Option AObj} {n : Nat} {R : AV → (Nat → Option AObj) → Nat → Prop} (hl : args.length ≤ F.N)
    (h : (∀ i o, H i = some o → i < n) → aw P G F.c (endQ F.r R) ⟨argFr args, H, n⟩) : ACalls P G f args H n R := by
  unfold absFn at hf
  split at hf
  · rename_i fn hfn
    split at hf
    · cases hf
    · rename_i hname
      split at hf
      · rename_i c hb
        split at hf
        · rename_i ac rs hac hrs
          cases hf
          have hl' : args.length ≤ fn.ntmps := hl
          intro w g vs hI hH hn hG hvs
          refine .inl ⟨⟨fn, c, hfn, by simpa using hname, hb⟩, calls_of_wp hfn hb ?_⟩
          have hvl := hvs.length
          simp only [Array.length_toList] at hvl
          have hR : Rel G fn.ntmps ⟨argFr args, H, n⟩ g { tmps := vs ++ Array.replicate (fn.ntmps - vs.size) undef, defers := [] } w := by
            refine ⟨hH, hn, hI, hG, fun s => ?_, by simp; omega, rfl⟩
            show Rep w g (args.getD s .any) _
            rcases Nat.lt_or_ge s args.length with h1 | h1
            · obtain ⟨v, k1, k2⟩ := hvs.get s args[s] (List.getElem?_eq_getElem h1)
              have h2 : s < vs.size := by omega
              have : (vs ++ Array.replicate (fn.ntmps - vs.size) undef).getD s undef = v := by
                rw [Array.getD_eq_getD_getElem?, Array.getElem?_append_left h2]
                rw [Array.getElem?_toList] at k1
                rw [k1]; rfl
              show Rep w g _ ((vs ++ Array.replicate (fn.ntmps - vs.size) undef).getD s undef)
              rw [this, List.getD_eq_getElem?_getD, List.getElem?_eq_getElem h1]
              exact k2
            · rw [List.getD_eq_getElem?_getD, List.getElem?_eq_none h1]
              trivial
          refine wp_mono (aw_sound hmix c ac _ _ g _ w hac (h (fun i o hi => by rw [← hn]; exact (hI.lt i o (by rw [hH]; exact hi)).1)) hR) fun e a' w' hq => ?_
          have fin : ∀ (st' : St) (g' : Gh), (∃ r H', ares st'.H st'.fr rs = some r ∧ Sub H' st'.H ∧ R r H' st'.n) → Rel G fn.ntmps st' g' a' w' → Step w g w' g' →
              a'.defers = [] ∧ ∃ v, (results fn a'.tmps).run P w' = .ok v w' ∧ ∃ v_1 r g', Ending.returned v = Ending.returned v_1 ∧ R r g'.H g'.n ∧ Rep w' g' r v_1 ∧ Inv w' g' ∧ Step w g w' g' := by
            rintro st' g' ⟨r, H', k1, k2, k3⟩ hR' hS'
            obtain ⟨u, k4, k5⟩ := res_sound hR' hrs k1
            have hs : Sub H' g'.H := by rw [hR'.H]; exact k2
            refine ⟨hR'.df, u, k4, u, r, g'.less H', rfl, ?_, k5.mono (step_less w' g' hs), inv_less hR'.inv hs, hS'.trans (step_less w' g' hs)⟩
            show R r H' g'.n
            rw [hR'.n]
            exact k3
          cases e with
          | normal => obtain ⟨st', g', k1, k2, k3⟩ := hq; exact fin st' g' k1 k2 k3
          | ret => obtain ⟨st', g', k1, k2, k3⟩ := hq; exact fin st' g' k1 k2 k3
          | exit id => obtain ⟨st', g', k1, k2, k3⟩ := hq; exact k1.elim
          | goto l => exact hq.elim
          | panic c => exact hq.elim
          | outgrown => exact hq.elim
        · cases hf
      · cases hf
  · cases hf
end Go.Ab
