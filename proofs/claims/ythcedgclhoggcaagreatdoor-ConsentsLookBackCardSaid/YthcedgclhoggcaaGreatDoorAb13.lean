/- A part of an abstract logic over the model's runs, proved sound against the model; no condition. -/
import Derived.Test.YthcedgclhoggcaaGreatDoorAb12
/-! Regions whose order is drawn. -/
set_option linter.unusedVariables false
set_option linter.unusedSimpArgs false
namespace Go.Ab
open Go.RowKit
variable {P : Program} {w w' : World} {g g' : Gh} {G : Nat → AV} {N : Nat} {st : St} {a : Act} {H : Nat → Option AObj}

def Opd.slots : Opd → List Nat
  | .t n => [n]
  | _ => []
def slotsL : List Opd → List Nat
  | [] => []
  | x :: xs => x.slots ++ slotsL xs
def slotsO : Option Opd → List Nat
  | none => []
  | some x => x.slots
def slotsP : List (Nat × Nat × Opd) → List Nat
  | [] => []
  | (_, _, x) :: xs => x.slots ++ slotsP xs
def slotsQ : List (Nat × Opd) → List Nat
  | [] => []
  | (_, x) :: xs => x.slots ++ slotsQ xs
def AOp.slots : AOp → List Nat
  | .mov x | .load _ _ x | .fld _ x | .part _ _ _ x | .not x | .neg x | .cvt _ x | .same x | .ext _ x | .len x | .lenS x | .box _ x | .nilc x => x.slots
  | .idx _ x y | .idxA _ _ x y | .chr x y | .bin _ x y | .eq _ _ x y => x.slots ++ y.slots
  | .pick c x y => c.slots ++ (x.slots ++ y.slots)
  | .slS x l h | .sl _ x l h => x.slots ++ (slotsO l ++ slotsO h)
  | .build _ ps => slotsP ps
  | .bsl _ _ ps => slotsQ ps
  | .mkf _ xs | .call _ xs => slotsL xs
  | .callv x xs => x.slots ++ slotsL xs
  | .store _ _ a x => a.slots ++ x.slots
  | _ => []
def AOper.slots (x : AOper) : List Nat := x.o.slots ++ (match x.g with | some (j, _) => [j] | none => [])

section
variable {fr fr' : Nat → AV}
theorem ev_congr {x : Opd} (h : ∀ n ∈ x.slots, fr n = fr' n) : ev G fr x = ev G fr' x := by
  cases x with
  | t n => exact h n (by simp [Opd.slots])
  | _ => rfl
theorem evs_congr : ∀ {xs : List Opd}, (∀ n ∈ slotsL xs, fr n = fr' n) → evs G fr xs = evs G fr' xs
  | [], _ => rfl
  | x :: xs, h => by simp only [evs]; rw [ev_congr fun n hn => h n (by simp [slotsL, hn]), evs_congr fun n hn => h n (by simp [slotsL, hn])]
theorem evo_congr {x : Option Opd} (h : ∀ n ∈ slotsO x, fr n = fr' n) : evo G fr x = evo G fr' x := by
  cases x with
  | none => rfl
  | some x => simp only [evo]; rw [ev_congr h]
theorem evp_congr : ∀ {xs : List (Nat × Nat × Opd)}, (∀ n ∈ slotsP xs, fr n = fr' n) → evp G fr xs = evp G fr' xs
  | [], _ => rfl
  | (_, _, x) :: xs, h => by simp only [evp]; rw [ev_congr fun n hn => h n (by simp [slotsP, hn]), evp_congr fun n hn => h n (by simp [slotsP, hn])]
theorem evq_congr : ∀ {xs : List (Nat × Opd)}, (∀ n ∈ slotsQ xs, fr n = fr' n) → evq G fr xs = evq G fr' xs
  | [], _ => rfl
  | (_, x) :: xs, h => by simp only [evq]; rw [ev_congr fun n hn => h n (by simp [slotsQ, hn]), evq_congr fun n hn => h n (by simp [slotsQ, hn])]
theorem dop_congr {o : AOp} {v : AV} (h : ∀ n ∈ o.slots, fr n = fr' n) (hd : dop P G H fr o v) : dop P G H fr' o v := by
  cases o with
  | mov x | load _ _ x | fld _ x | part _ _ _ x | not x | neg x | cvt _ x | same x | ext _ x | len x | lenS x | box _ x | nilc x =>
    simp only [dop, aval] at hd ⊢; rwa [← ev_congr h]
  | idx _ x y | idxA _ _ x y | chr x y | bin _ x y | eq _ _ x y =>
    simp only [dop, aval] at hd ⊢
    rwa [← ev_congr (x := x) fun n hn => h n (by simp [AOp.slots, hn]), ← ev_congr (x := y) fun n hn => h n (by simp [AOp.slots, hn])]
  | pick c x y =>
    simp only [dop, aval] at hd ⊢
    rwa [← ev_congr (x := c) fun n hn => h n (by simp [AOp.slots, hn]), ← ev_congr (x := x) fun n hn => h n (by simp [AOp.slots, hn]), ← ev_congr (x := y) fun n hn => h n (by simp [AOp.slots, hn])]
  | slS x l u | sl _ x l u =>
    simp only [dop, aval] at hd ⊢
    rwa [← ev_congr (x := x) fun n hn => h n (by simp [AOp.slots, hn]), ← evo_congr (x := l) fun n hn => h n (by simp [AOp.slots, hn]), ← evo_congr (x := u) fun n hn => h n (by simp [AOp.slots, hn])]
  | build _ ps => simp only [dop, aval] at hd ⊢; rwa [← evp_congr h]
  | bsl _ _ ps => simp only [dop, aval] at hd ⊢; rwa [← evq_congr h]
  | mkf _ xs => simp only [dop, aval] at hd ⊢; rwa [← evs_congr h]
  | call _ xs => simp only [dop] at hd ⊢; rwa [← evs_congr h]
  | callv x xs =>
    simp only [dop] at hd ⊢
    rwa [← ev_congr (x := x) fun n hn => h n (by simp [AOp.slots, hn]), ← evs_congr (xs := xs) fun n hn => h n (by simp [AOp.slots, hn])]
  | _ => simp [dop, aval] at hd
end

/-- 'dop' is the operation, and nothing that is owned changes. -/
theorem dop_aop {o : AOp} {d : Option Nat} {v : AV} (h : dop P G st.H st.fr o v) {K : St → Prop} (hK : ∀ n', st.n ≤ n' → K ⟨put st.fr d v, st.H, n'⟩) : aop P G o d st fun st' => ∃ n', st' = ⟨put st.fr d v, st.H, n'⟩ := by
  cases o with
  | idx sz x y => exact ⟨h.1, v, h.2, st.n, rfl⟩
  | sl sz x l u => exact ⟨h.1, v, h.2, st.n, rfl⟩
  | call f xs =>
    simp only [aop]
    exact ACalls.mono (h st.n) (fun (r : AV) (H' : Nat → Option AObj) (n' : Nat) (hh : r = v ∧ H' = st.H) => ⟨n', by rw [hh.1, hh.2]⟩)
  | callv x xs =>
    simp only [dop] at h
    simp only [aop]
    split at h
    · rename_i hc
      rw [hc]
      exact ACalls.mono (h st.n) (fun (r : AV) (H' : Nat → Option AObj) (n' : Nat) (hh : r = v ∧ H' = st.H) => ⟨n', by rw [hh.1, hh.2]⟩)
    · exact h.elim
  | alloc | boxo | bslo | store | app | make | clear => simp [dop, aval] at h
  | _ => exact ⟨v, h, st.n, rfl⟩

def isStore : AOp → Bool
  | .store _ _ _ _ => true
  | _ => false
def isReader : AOp → Bool
  | .load _ _ _ | .call _ _ | .callv _ _ => true
  | _ => false
theorem SStep.congr {o : AOp} {fr fr' : Nat → AV} {H H' : Nat → Option AObj} (h : ∀ n ∈ o.slots, fr n = fr' n) (hd : SStep G o fr H H') : SStep G o fr' H H' := by
  cases o with
  | store ag n a x =>
    simp only [SStep] at hd ⊢
    rwa [← ev_congr (x := a) fun n hn => h n (by simp [AOp.slots, hn]), ← ev_congr (x := x) fun n hn => h n (by simp [AOp.slots, hn])]
  | _ => exact hd.elim
theorem SStep.aop {o : AOp} {H' : Nat → Option AObj} (h : SStep G o st.fr st.H H') : aop P G o none st fun st' => st' = ⟨st.fr, H', st.n⟩ := by
  cases o with
  | store ag n a x =>
    obtain ⟨i, r, c, ob, cs, o', h1, h2, h3, h4, h5, h6, h7⟩ := h
    simp only [Ab.aop, h1]
    exact ⟨ob, cs, o', h2, h3, h4, h5, h6, by rw [h7]; rfl⟩
  | _ => exact h.elim
theorem dop_store {fr : Nat → AV} {o : AOp} {v : AV} (h : dop P G H fr o v) : isStore o = false := by
  cases o with
  | store => simp [dop, aval] at h
  | _ => rfl
/-- Where each object's row size is the same. -/
def Shape (H H' : Nat → Option AObj) : Prop := ∀ i, (H i).map (·.sz) = (H' i).map (·.sz)
theorem SStep.shape {o : AOp} {fr : Nat → AV} {H H' : Nat → Option AObj} (h : SStep G o fr H H') : Shape H H' := by
  cases o with
  | store ag n a x =>
    obtain ⟨i, r, c, ob, cs, o', h1, h2, h3, h4, h5, h6, rfl⟩ := h
    intro j
    by_cases hj : j = i
    · subst hj
      rw [upd_same, h2]
      unfold astore at h6
      split at h6
      · split at h6
        · cases h6; rfl
        · cases h6
      · cases h6
    · rw [upd_ne _ _ _ hj]
  | _ => exact h.elim
theorem aidx_shape {H H' : Nat → Option AObj} (hs : Shape H H') {sz : Nat} {x i v : AV} (h : aidx H sz x i = some v) : aidx H' sz x i = some v := by
  cases x with
  | os j off len =>
    cases i with
    | lit y =>
      cases y with
      | int k n =>
        simp only [aidx] at h ⊢
        split at h
        · rename_i hb
          rw [if_pos hb]
          have := hs j
          cases hj : H j with
          | none => rw [hj] at h; cases h
          | some o =>
            rw [hj] at h this
            cases hj' : H' j with
            | none => rw [hj'] at this; cases this
            | some o' =>
              rw [hj'] at this
              simp only [Option.map_some, Option.some.injEq] at this
              simp only at h ⊢
              rw [← this]; exact h
        · cases h
      | _ => simp [aidx] at h
    | _ => simp [aidx] at h
  | ls nz rows => cases i with
    | lit y => cases y <;> first | exact h | simp [aidx] at h
    | _ => simp [aidx] at h
  | _ => simp [aidx] at h
theorem cutOk_shape {H H' : Nat → Option AObj} (hs : Shape H H') {sz : Nat} {x : AV} (h : CutOk H sz x) : CutOk H' sz x := by
  cases x with
  | os j off len =>
    obtain ⟨o, h1, h2⟩ := h
    have := hs j
    rw [h1] at this
    cases hj' : H' j with
    | none => rw [hj'] at this; cases this
    | some o' =>
      rw [hj'] at this
      simp only [Option.map_some, Option.some.injEq] at this
      exact ⟨o', hj', by rw [← this]; exact h2⟩
  | _ => exact h
theorem dop_shape {H H' : Nat → Option AObj} (hs : Shape H H') {fr : Nat → AV} {o : AOp} {v : AV} (hr : isReader o = false) (h : dop P G H fr o v) : dop P G H' fr o v := by
  cases o with
  | idx sz x i => exact ⟨h.1, aidx_shape hs h.2⟩
  | sl sz x lo hi => exact ⟨cutOk_shape hs h.1, h.2⟩
  | load | call | callv => simp [isReader] at hr
  | _ => exact h

/-! Which waits for which. -/
inductive Reach (al : List AOper) : Nat → Nat → Prop
  | one {i j : Nat} {x : AOper} : al[i]? = some x → j ∈ x.af → Reach al i j
  | more {i e j : Nat} {x : AOper} : al[i]? = some x → e ∈ x.af → Reach al e j → Reach al i j
def befs : List Nat → List AOper → List Nat
  | acc, [] => acc
  | acc, x :: xs => befs (acc ++ [x.af.foldl (fun s e => s ||| 2 ^ e ||| acc.getD e 0) 0]) xs
theorem foldl_bits (acc : List Nat) : ∀ (af : List Nat) (s j : Nat), (af.foldl (fun s e => s ||| 2 ^ e ||| acc.getD e 0) s).testBit j = true → s.testBit j = true ∨ ∃ e ∈ af, e = j ∨ (acc.getD e 0).testBit j = true
  | [], s, j, h => .inl h
  | e :: af, s, j, h => by
    rcases foldl_bits acc af _ j h with h1 | ⟨e', h1, h2⟩
    · rw [Nat.testBit_or, Nat.testBit_or, Bool.or_eq_true, Bool.or_eq_true] at h1
      rcases h1 with (h1 | h1) | h1
      · exact .inl h1
      · rw [Nat.testBit_two_pow] at h1
        exact .inr ⟨e, by simp, .inl (by simpa using h1)⟩
      · exact .inr ⟨e, by simp, .inr h1⟩
    · exact .inr ⟨e', by simp [h1], h2⟩
theorem befs_sound (al : List AOper) : ∀ (xs : List AOper) (acc : List Nat), (∀ k, xs[k]? = al[acc.length + k]?) → (∀ i j, (acc.getD i 0).testBit j = true → Reach al i j) → ∀ i j, ((befs acc xs).getD i 0).testBit j = true → Reach al i j
  | [], acc, _, h, i, j, hb => h i j hb
  | x :: xs, acc, hx, h, i, j, hb => by
    refine befs_sound al xs _ (fun k => ?_) (fun i j hij => ?_) i j hb
    · rw [List.length_append, List.length_singleton, Nat.add_assoc, Nat.add_comm 1 k]
      simpa using hx (k + 1)
    · have h0 : al[acc.length]? = some x := by simpa using (hx 0).symm
      rcases Nat.lt_trichotomy i acc.length with h1 | h1 | h1
      · rw [List.getD_eq_getElem?_getD, List.getElem?_append_left h1, ← List.getD_eq_getElem?_getD] at hij
        exact h i j hij
      · subst h1
        rw [List.getD_eq_getElem?_getD, List.getElem?_append_right (Nat.le_refl _)] at hij
        simp only [Nat.sub_self, List.getElem?_cons_zero, Option.getD_some] at hij
        rcases foldl_bits acc x.af 0 j hij with h2 | ⟨e, h2, h3⟩
        · simp at h2
        · rcases h3 with rfl | h3
          · exact .one h0 h2
          · exact .more h0 h2 (h e j h3)
      · rw [List.getD_eq_getElem?_getD, List.getElem?_eq_none (by simp; omega)] at hij
        simp at hij
def nodupD : List (Option Nat) → Bool
  | [] => true
  | none :: ds => nodupD ds
  | some d :: ds => !ds.contains (some d) && nodupD ds
def orderOk (bs : List Nat) (ds : List (Option Nat)) : Nat → List AOper → Bool
  | _, [] => true
  | i, x :: xs => x.af.all (fun e => decide (e < i)) && x.slots.all (fun t => ds.zipIdx.all fun (d, j) => d != some t || j == i || (if j < i then (bs.getD i 0).testBit j else (bs.getD j 0).testBit i)) && orderOk bs ds (i + 1) xs
/-- A store waits for the readers and the stores ahead of it, and no reader comes behind it. -/
def storeOk (al : List AOper) : Bool := al.zipIdx.all fun (x, i) => !isStore x.o || al.zipIdx.all fun (y, j) => if j < i then (!(isReader y.o || isStore y.o) || x.af.contains j) else !isReader y.o
theorem storeOk_spec {al : List AOper} (h : storeOk al = true) {i j : Nat} {x y : AOper} (hx : al[i]? = some x) (hs : isStore x.o = true) (hy : al[j]? = some y) : (j < i → (isReader y.o = true ∨ isStore y.o = true) → j ∈ x.af) ∧ (i ≤ j → isReader y.o = false) := by
  have h1 := List.all_eq_true.1 h (x, i) (by rw [List.mem_zipIdx_iff_getElem?]; exact hx)
  simp only [hs, Bool.not_true, Bool.false_or] at h1
  have h2 := List.all_eq_true.1 h1 (y, j) (by rw [List.mem_zipIdx_iff_getElem?]; exact hy)
  simp only at h2
  constructor
  · intro hj hr
    rw [if_pos hj] at h2
    rcases hr with hr | hr <;> simpa [hr] using h2
  · intro hj
    rw [if_neg (by omega)] at h2
    simpa using h2
/-- Every conflict over a slot is decided by who waits for whom. -/
def dok (al : List AOper) : Bool := (nodupD (al.map (·.d)) && orderOk (befs [] al) (al.map (·.d)) 0 al) && storeOk al

theorem nodupD_spec : ∀ {ds : List (Option Nat)}, nodupD ds = true → ∀ (i j d : Nat), ds[i]? = some (some d) → ds[j]? = some (some d) → i = j
  | [], _, i, j, d, h, _ => by simp at h
  | none :: ds, h, i, j, d, hi, hj => by
    cases i with
    | zero => simp at hi
    | succ i => cases j with
      | zero => simp at hj
      | succ j => rw [nodupD_spec (ds := ds) h i j d (by simpa using hi) (by simpa using hj)]
  | some e :: ds, h, i, j, d, hi, hj => by
    simp only [nodupD, Bool.and_eq_true, Bool.not_eq_true', List.contains_iff_mem, ← Bool.not_eq_true] at h
    cases i with
    | zero => cases j with
      | zero => rfl
      | succ j =>
        simp at hi hj; subst hi
        exact absurd (List.mem_of_getElem? hj) h.1
    | succ i => cases j with
      | zero =>
        simp at hi hj; subst hj
        exact absurd (List.mem_of_getElem? hi) h.1
      | succ j => rw [nodupD_spec h.2 i j d (by simpa using hi) (by simpa using hj)]
theorem orderOk_spec (bs : List Nat) (ds : List (Option Nat)) : ∀ (xs : List AOper) (k : Nat), orderOk bs ds k xs = true → ∀ i x, xs[i]? = some x → (∀ e ∈ x.af, e < k + i) ∧ ∀ t ∈ x.slots, ∀ j, ds[j]? = some (some t) → j = k + i ∨ (j < k + i ∧ (bs.getD (k + i) 0).testBit j = true) ∨ (k + i < j ∧ (bs.getD j 0).testBit (k + i) = true)
  | [], k, _, i, x, hx => by simp at hx
  | y :: xs, k, h, i, x, hx => by
    simp only [orderOk, Bool.and_eq_true] at h
    obtain ⟨⟨h1, h2⟩, h3⟩ := h
    cases i with
    | zero =>
      simp at hx; subst hx
      refine ⟨fun e he => by simpa using List.all_eq_true.1 h1 e he, fun t ht j hj => ?_⟩
      have h4 := List.all_eq_true.1 (List.all_eq_true.1 h2 t ht) (some t, j) (by
        rw [List.mem_zipIdx_iff_getElem?]; simpa using hj)
      simp only [bne_self_eq_false, Bool.false_or, Bool.or_eq_true, beq_iff_eq] at h4
      rcases h4 with h4 | h4
      · exact .inl (by simpa using h4)
      · split at h4
        · rename_i h5; exact .inr (.inl ⟨by simpa using h5, by simpa using h4⟩)
        · rename_i h5
          rcases Nat.lt_or_ge k j with h6 | h6
          · exact .inr (.inr ⟨by simpa using h6, by simpa using h4⟩)
          · exact .inl (by omega)
    | succ i =>
      have := orderOk_spec bs ds xs (k + 1) h3 i x (by simpa using hx)
      rwa [show k + 1 + i = k + (i + 1) from by omega] at this
end Go.Ab
