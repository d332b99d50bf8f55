/- A part of an abstract logic over the model's runs, proved sound against the model; no condition. -/
import Derived.Test.YthcedgclhoggcaaGreatDoorAb13
/-! A drawn region comes to what the text's order comes to. -/
set_option linter.unusedVariables false
set_option linter.unusedSimpArgs false
set_option linter.unusedSectionVars false
namespace Go.Ab
open Go.RowKit
variable {P : Program} {w w' : World} {g g' : Gh} {G : Nat → AV} {N : Nat} {st : St} {a : Act} {H : Nat → Option AObj}

def DStep (P : Program) (G : Nat → AV) (H : Nat → Option AObj) (x : AOper) (fr fr' : Nat → AV) : Prop :=
  ((x.g = none ∨ ∃ j b, x.g = some (j, b) ∧ fr j = .lit (.bool b)) ∧ ∃ v, dop P G H fr x.o v ∧ fr' = put fr x.d v) ∨
  (∃ j b, x.g = some (j, b) ∧ (fr j = .lit (.bool (!b)) ∨ ∃ vs, fr j = .lit (.tuple vs)) ∧ fr' = put fr x.d .und)
theorem upd_self' {fr : Nat → AV} {j : Nat} {v : AV} (h : fr j = v) : upd fr j v = fr := by
  funext i
  by_cases hi : i = j
  · subst hi; rw [upd_same, h]
  · rw [upd_ne _ _ _ hi]
/-- One operation of a drawn region, in the text's order. -/
def TStep (P : Program) (G : Nat → AV) (x : AOper) (fr : Nat → AV) (H : Nat → Option AObj) (fr' : Nat → AV) (H' : Nat → Option AObj) : Prop :=
  (H' = H ∧ DStep P G H x fr fr') ∨ (x.g = none ∧ x.d = none ∧ fr' = fr ∧ SStep G x.o fr H H')
theorem adops_trace : ∀ (al : List AOper) (H : Nat → Option AObj) (fr : Nat → AV) (K : (Nat → AV) → (Nat → Option AObj) → Prop), adops P G H al fr K → ∃ (F : Nat → Nat → AV) (HH : Nat → Nat → Option AObj), F 0 = fr ∧ HH 0 = H ∧ K (F al.length) (HH al.length) ∧ ∀ (i : Nat) (x : AOper), al[i]? = some x → TStep P G x (F i) (HH i) (F (i + 1)) (HH (i + 1))
  | [], H, fr, K, h => ⟨fun _ => fr, fun _ => H, rfl, rfl, h, fun i x hx => by simp at hx⟩
  | y :: al, H, fr, K, h => by
    have key : ∃ fr1 H1, TStep P G y fr H fr1 H1 ∧ adops P G H1 al fr1 K := by
      simp only [adops] at h
      split at h
      · rename_i hg
        rcases h with ⟨v, h1, h2⟩ | ⟨h1, H', h2, h3⟩
        · exact ⟨_, H, .inl ⟨rfl, .inl ⟨.inl hg, v, h1, rfl⟩⟩, h2⟩
        · exact ⟨fr, H', .inr ⟨hg, h1, rfl, h2⟩, h3⟩
      · rename_i j want hg
        split at h
        · rename_i b hb
          obtain ⟨h1, h2⟩ := h
          by_cases hbw : b = want
          · subst hbw
            obtain ⟨v, h3, h4⟩ := h1 rfl
            rw [upd_self' hb] at h3 h4
            exact ⟨_, H, .inl ⟨rfl, .inl ⟨.inr ⟨j, b, hg, hb⟩, v, h3, rfl⟩⟩, h4⟩
          · have hb' : b = !want := by cases b <;> cases want <;> first | rfl | exact absurd rfl hbw
            subst hb'
            have h4 := h2 rfl
            rw [upd_self' hb] at h4
            exact ⟨_, H, .inl ⟨rfl, .inr ⟨j, want, hg, .inl hb, rfl⟩⟩, h4⟩
        · rename_i vs hb
          exact ⟨_, H, .inl ⟨rfl, .inr ⟨j, want, hg, .inr ⟨vs, hb⟩, rfl⟩⟩, h⟩
        · exact h.elim
    obtain ⟨fr1, H1, h1, h2⟩ := key
    obtain ⟨F, HH, h3, h3', h4, h5⟩ := adops_trace al H1 fr1 K h2
    refine ⟨fun k => match k with | 0 => fr | k + 1 => F k, fun k => match k with | 0 => H | k + 1 => HH k, rfl, rfl, h4, fun i x hx => ?_⟩
    cases i with
    | zero => simp at hx; subst hx; show TStep P G y fr H (F 0) (HH 0); rw [h3, h3']; exact h1
    | succ i => exact h5 i x (by simpa using hx)

theorem DStep.other {x : AOper} {fr fr' : Nat → AV} (h : DStep P G H x fr fr') {s : Nat} (hs : x.d ≠ some s) : fr' s = fr s := by
  have : ∀ v, put fr x.d v s = fr s := fun v => by
    cases hd : x.d with
    | none => rfl
    | some d => exact upd_ne _ _ _ (fun e => hs (by rw [hd, e]))
  rcases h with ⟨_, v, _, rfl⟩ | ⟨_, _, _, _, rfl⟩ <;> exact this _

theorem TStep.other {x : AOper} {fr fr' : Nat → AV} {H H' : Nat → Option AObj} (h : TStep P G x fr H fr' H') {s : Nat} (hs : x.d ≠ some s) : fr' s = fr s := by
  rcases h with ⟨_, h⟩ | ⟨_, _, h, _⟩
  · exact h.other hs
  · rw [h]
theorem TStep.keep {x : AOper} {fr fr' : Nat → AV} {H H' : Nat → Option AObj} (h : TStep P G x fr H fr' H') (hs : isStore x.o = false) : H' = H := by
  rcases h with ⟨h, _⟩ | ⟨_, _, _, h⟩
  · exact h
  · cases hx : x.o with
    | store => rw [hx] at hs; cases hs
    | _ => rw [hx] at h; exact h.elim
theorem TStep.shape {x : AOper} {fr fr' : Nat → AV} {H H' : Nat → Option AObj} (h : TStep P G x fr H fr' H') : Shape H H' := by
  rcases h with ⟨rfl, _⟩ | ⟨_, _, _, h⟩
  · exact fun _ => rfl
  · exact h.shape

theorem cnt_less : ∀ (n i : Nat), i < n → ∀ (p : Nat → Bool), p i = true → (List.range n).countP (fun j => p j && !(j == i)) + 1 = (List.range n).countP p
  | 0, i, h, _, _ => by omega
  | n + 1, i, h, p, hp => by
    rw [List.range_succ, List.countP_append, List.countP_append]
    rcases Nat.lt_or_ge i n with h1 | h1
    · have := cnt_less n i h1 p hp
      have hne : (n == i) = false := by simp; omega
      simp only [List.countP_singleton, hne, Bool.not_false, Bool.and_true]
      omega
    · have hi : i = n := by omega
      subst hi
      have : (List.range i).countP (fun j => p j && !(j == i)) = (List.range i).countP p := by
        refine List.countP_congr fun j hj => ?_
        have hne : (j == i) = false := by have := List.mem_range.1 hj; simp; omega
        simp [hne]
      rw [this]
      simp [List.countP_singleton, hp]
section
variable {own : List Nat} {ops : Array Oper} {al : List AOper} {F : Nat → Nat → AV} {HH : Nat → Nat → Option AObj} {Q : Exit → Act → World → Prop} {w0 : World} {g0 : Gh}

theorem absOpers_get : ∀ {l : List Oper} {al : List AOper}, absOpers P N own ops l = some al → al.length = l.length ∧ ∀ (i : Nat) (o : Oper), l[i]? = some o → ∃ x, al[i]? = some x ∧ absOper P N own ops o = some x
  | [], al, h => by cases h; exact ⟨rfl, fun i o hi => by simp at hi⟩
  | o :: l, al, h => by
    simp only [absOpers] at h
    split at h
    · rename_i x xs h1 h2
      cases h
      obtain ⟨h3, h4⟩ := absOpers_get h2
      refine ⟨by simp [h3], fun i o' hi => ?_⟩
      cases i with
      | zero => simp at hi; subst hi; exact ⟨x, by simp, h1⟩
      | succ i => simpa using h4 i o' (by simpa using hi)
    · cases h

theorem F_keep (htr : ∀ (i : Nat) (x : AOper), al[i]? = some x → TStep P G x (F i) (HH i) (F (i + 1)) (HH (i + 1))) {s lo : Nat} : ∀ (k : Nat), lo + k ≤ al.length → (∀ (i : Nat) (x : AOper), lo ≤ i → i < lo + k → al[i]? = some x → x.d ≠ some s) → F (lo + k) s = F lo s
  | 0, _, _ => rfl
  | k + 1, hk, h => by
    have hlt : lo + k < al.length := by omega
    rw [← F_keep htr k (by omega) fun i x h1 h2 => h i x h1 (by omega)]
    exact (htr (lo + k) _ (List.getElem?_eq_getElem hlt)).other (h (lo + k) _ (by omega) (by omega) (List.getElem?_eq_getElem hlt))

open Classical in
/-- The frame when some operations have been carried out. -/
noncomputable def frL (al : List AOper) (F : Nat → Nat → AV) (listed : Array Bool) : Nat → AV := fun s =>
  if ∃ (i : Nat) (x : AOper), al[i]? = some x ∧ x.d = some s ∧ listed.getD i false = true then F al.length s else F 0 s

theorem getD_lt {listed : Array Bool} {i : Nat} (h : listed.getD i false = true) : i < listed.size := by
  rcases Nat.lt_or_ge i listed.size with h' | h'
  · exact h'
  · simp [Array.getD_eq_getD_getElem?, Array.getElem?_eq_none h'] at h
theorem getD_tf {listed : Array Bool} {i : Nat} (h : listed.getD i true = false) : listed.getD i false = false ∧ i < listed.size := by
  rcases Nat.lt_or_ge i listed.size with h' | h'
  · refine ⟨?_, h'⟩
    simpa [Array.getD_eq_getD_getElem?, h'] using h
  · simp [Array.getD_eq_getD_getElem?, Array.getElem?_eq_none h'] at h
theorem getD_set {listed : Array Bool} {i j : Nat} (hi : i < listed.size) : (listed.setIfInBounds i true).getD j false = if j = i then true else listed.getD j false := by
  by_cases hj : j = i
  · subst hj; simp [Array.getD_eq_getD_getElem?, hi]
  · rw [if_neg hj]
    simp [Array.getD_eq_getD_getElem?, Array.getElem?_setIfInBounds_ne (Ne.symm hj)]

/-- Whatever has come up, what it waits for has. -/
def Closed (al : List AOper) (listed : Array Bool) : Prop := ∀ (i : Nat) (x : AOper), al[i]? = some x → listed.getD i false = true → ∀ e ∈ x.af, listed.getD e false = true
theorem Closed.reach {listed : Array Bool} (hc : Closed al listed) {i j : Nat} (h : Reach al i j) (hi : listed.getD i false = true) : listed.getD j false = true := by
  induction h with
  | one h1 h2 => exact hc _ _ h1 hi _ h2
  | more h1 h2 _ ih => exact ih (hc _ _ h1 hi _ h2)
theorem Reach.first {listed : Array Bool} (hc : Closed al listed) {i j : Nat} {x : AOper} (hx : al[i]? = some x) (h : Reach al i j) (ha : ∀ e ∈ x.af, listed.getD e false = true) : listed.getD j false = true := by
  cases h with
  | one h1 h2 => rw [hx] at h1; cases h1; exact ha _ h2
  | more h1 h2 h3 => rw [hx] at h1; cases h1; exact hc.reach h3 (ha _ h2)

/-- Whether operation i is a store. -/
def stAt (al : List AOper) (i : Nat) : Bool := match al[i]? with
  | some x => isStore x.o
  | none => false
def sIdx (al : List AOper) (listed : Array Bool) : Nat → Nat
  | 0 => 0
  | n + 1 => if stAt al n && listed.getD n false then n + 1 else sIdx al listed n
/-- The objects when some operations have been carried out. -/
def hL (al : List AOper) (HH : Nat → Nat → Option AObj) (listed : Array Bool) : Nat → Option AObj := HH (sIdx al listed al.length)
theorem sIdx_same {listed listed' : Array Bool} : ∀ (n : Nat), (∀ j, j < n → stAt al j = true → listed'.getD j false = listed.getD j false) → sIdx al listed' n = sIdx al listed n
  | 0, _ => rfl
  | n + 1, h => by
    simp only [sIdx]
    rw [sIdx_same n fun j hj => h j (by omega)]
    cases hs : stAt al n with
    | false => rfl
    | true => rw [h n (by omega) hs]
theorem hL_at (htr : ∀ (i : Nat) (x : AOper), al[i]? = some x → TStep P G x (F i) (HH i) (F (i + 1)) (HH (i + 1))) {listed : Array Bool} {i : Nat} (hi : i ≤ al.length) (h : ∀ j, j < al.length → stAt al j = true → (listed.getD j false = true ↔ j < i)) : hL al HH listed = HH i := by
  have key : ∀ n, n ≤ al.length → HH (sIdx al listed n) = HH (min n i) := by
    intro n
    induction n with
    | zero => intro _; simp [sIdx]
    | succ n ih =>
      intro hn
      have ihn := ih (by omega)
      simp only [sIdx]
      have hx := List.getElem?_eq_getElem (show n < al.length by omega)
      by_cases hni : n < i
      · rw [show min (n + 1) i = n + 1 from by omega]
        rw [show min n i = n from by omega] at ihn
        cases hs : stAt al n with
        | true =>
          rw [(h n (by omega) hs).2 hni]; rfl
        | false =>
          have hk := (htr n _ hx).keep (by simpa [stAt, hx] using hs)
          simp only [Bool.false_and, Bool.false_eq_true, if_false]
          rw [ihn, hk]
      · rw [show min (n + 1) i = i from by omega]
        rw [show min n i = i from by omega] at ihn
        cases hs : stAt al n with
        | true =>
          have : listed.getD n false = false := by
            cases hl : listed.getD n false with
            | false => rfl
            | true => exact absurd ((h n (by omega) hs).1 hl) hni
          simp only [this, Bool.and_false, Bool.false_eq_true, if_false]
          exact ihn
        | false =>
          simp only [Bool.false_and, Bool.false_eq_true, if_false]
          exact ihn
  have := key al.length (Nat.le_refl _)
  rw [show min al.length i = i from by omega] at this
  exact this
theorem HH_shape (htr : ∀ (i : Nat) (x : AOper), al[i]? = some x → TStep P G x (F i) (HH i) (F (i + 1)) (HH (i + 1))) : ∀ (k : Nat), k ≤ al.length → Shape (HH 0) (HH k)
  | 0, _ => fun _ => rfl
  | k + 1, hk => fun i => (HH_shape htr k (by omega) i).trans ((htr k _ (List.getElem?_eq_getElem (by omega))).shape i)
theorem sIdx_le {listed : Array Bool} : ∀ (n : Nat), sIdx al listed n ≤ n
  | 0 => Nat.le_refl _
  | n + 1 => by
    simp only [sIdx]
    split
    · exact Nat.le_refl _
    · exact Nat.le_trans (sIdx_le n) (Nat.le_succ _)

variable (hal : absOpers P N own ops ops.toList = some al) (hok : dok al = true) (htr : ∀ (i : Nat) (x : AOper), al[i]? = some x → TStep P G x (F i) (HH i) (F (i + 1)) (HH (i + 1)))
include hal hok htr

theorem slot_now {listed : Array Bool} (hc : Closed al listed) {i : Nat} {x : AOper} (hx : al[i]? = some x) (hi : listed.getD i false = false) (ha : ∀ e ∈ x.af, listed.getD e false = true) : ∀ t ∈ x.slots, frL al F listed t = F i t := by
  intro t ht
  simp only [dok, Bool.and_eq_true] at hok
  obtain ⟨⟨hnd, hord⟩, _⟩ := hok
  have hilt : i < al.length := (List.getElem?_eq_some_iff.1 hx).1
  have huniq : ∀ (j : Nat) (y : AOper) (j' : Nat) (y' : AOper), al[j]? = some y → y.d = some t → al[j']? = some y' → y'.d = some t → j = j' := fun j y j' y' h1 h2 h3 h4 =>
    nodupD_spec hnd j j' t (by rw [List.getElem?_map, h1]; simp [h2]) (by rw [List.getElem?_map, h3]; simp [h4])
  obtain ⟨_, hspec⟩ := orderOk_spec _ _ al 0 hord i x hx
  have hreach : ∀ i j, ((befs [] al).getD i 0).testBit j = true → Reach al i j := befs_sound al al [] (fun k => by simp) (fun i j h => by simp at h)
  by_cases hw : ∃ (j : Nat) (y : AOper), al[j]? = some y ∧ y.d = some t
  · obtain ⟨j, y, hj, hyd⟩ := hw
    have hjlt : j < al.length := (List.getElem?_eq_some_iff.1 hj).1
    have h3 := hspec t ht j (by rw [List.getElem?_map, hj]; simp [hyd])
    rw [Nat.zero_add] at h3
    have hnot : ¬ listed.getD j false = true → frL al F listed t = F 0 t := fun hl => by
      unfold frL
      rw [if_neg]
      rintro ⟨j', y', h4, h5, h6⟩
      rw [huniq j y j' y' hj hyd h4 h5] at hl
      exact hl h6
    have hkeep : ∀ (lo k : Nat), lo + k ≤ al.length → (∀ q, lo ≤ q → q < lo + k → q ≠ j) → F (lo + k) t = F lo t := fun lo k h4 h5 =>
      F_keep htr k h4 fun q z h6 h7 h8 h9 => h5 q h6 h7 (huniq q z j y h8 h9 hj hyd)
    rcases h3 with h3 | ⟨h3, h4⟩ | ⟨h3, h4⟩
    · subst h3
      rw [hnot (by rw [hi]; simp)]
      have := hkeep 0 j (by omega) (fun q h5 h6 => by omega)
      rw [Nat.zero_add] at this
      exact this.symm
    · have hl : listed.getD j false = true := Reach.first hc hx (hreach _ _ h4) ha
      have e1 : frL al F listed t = F al.length t := by
        unfold frL
        rw [if_pos ⟨j, y, hj, hyd, hl⟩]
      have e2 := hkeep (j + 1) (al.length - (j + 1)) (by omega) (fun q h5 h6 => by omega)
      have e3 := hkeep (j + 1) (i - (j + 1)) (by omega) (fun q h5 h6 => by omega)
      rw [show j + 1 + (al.length - (j + 1)) = al.length from by omega] at e2
      rw [show j + 1 + (i - (j + 1)) = i from by omega] at e3
      rw [e1, e2, e3]
    · have hl : ¬ listed.getD j false = true := fun h => by
        have := hc.reach (hreach _ _ h4) h
        rw [hi] at this
        cases this
      rw [hnot hl]
      have := hkeep 0 i (by omega) (fun q h5 h6 => by omega)
      rw [Nat.zero_add] at this
      exact this.symm
  · have e1 : frL al F listed t = F 0 t := by
      unfold frL
      rw [if_neg]
      rintro ⟨j', y', h4, h5, _⟩
      exact hw ⟨j', y', h4, h5⟩
    have := F_keep (s := t) (lo := 0) htr i (by omega) fun q z h6 h7 h8 h9 => hw ⟨q, z, h8, h9⟩
    rw [Nat.zero_add] at this
    rw [e1, this]

theorem frL_set {listed : Array Bool} {i : Nat} {x : AOper} (hx : al[i]? = some x) (hi : i < listed.size) : frL al F (listed.setIfInBounds i true) = put (frL al F listed) x.d ((x.d.map (F (i + 1))).getD .any) := by
  simp only [dok, Bool.and_eq_true] at hok
  obtain ⟨⟨hnd, _⟩, _⟩ := hok
  have hilt : i < al.length := (List.getElem?_eq_some_iff.1 hx).1
  funext s
  have huniq : ∀ (j : Nat) (y : AOper) (j' : Nat) (y' : AOper), al[j]? = some y → y.d = some s → al[j']? = some y' → y'.d = some s → j = j' := fun j y j' y' h1 h2 h3 h4 =>
    nodupD_spec hnd j j' s (by rw [List.getElem?_map, h1]; simp [h2]) (by rw [List.getElem?_map, h3]; simp [h4])
  by_cases hs : x.d = some s
  · rw [hs]
    simp only [put, upd_same, Option.map_some, Option.getD_some]
    unfold frL
    rw [if_pos ⟨i, x, hx, hs, by rw [getD_set hi, if_pos rfl]⟩]
    have := F_keep (s := s) (lo := i + 1) htr (al.length - (i + 1)) (by omega) fun q z h6 h7 h8 h9 => by
      have := huniq q z i x h8 h9 hx hs; omega
    rwa [show i + 1 + (al.length - (i + 1)) = al.length from by omega] at this
  · have e1 : put (frL al F listed) x.d ((x.d.map (F (i + 1))).getD .any) s = frL al F listed s := by
      cases hd : x.d with
      | none => rfl
      | some d => exact upd_ne _ _ _ (fun e => hs (by rw [hd, e]))
    rw [e1]
    unfold frL
    have : (∃ (j : Nat) (y : AOper), al[j]? = some y ∧ y.d = some s ∧ (listed.setIfInBounds i true).getD j false = true) ↔ (∃ (j : Nat) (y : AOper), al[j]? = some y ∧ y.d = some s ∧ listed.getD j false = true) := by
      constructor
      · rintro ⟨j, y, h1, h2, h3⟩
        rw [getD_set hi] at h3
        split at h3
        · rename_i e; subst e; rw [hx] at h1; cases h1; exact absurd h2 hs
        · exact ⟨j, y, h1, h2, h3⟩
      · rintro ⟨j, y, h1, h2, h3⟩
        exact ⟨j, y, h1, h2, by rw [getD_set hi]; split <;> first | rfl | exact h3⟩
    by_cases hcc : ∃ (j : Nat) (y : AOper), al[j]? = some y ∧ y.d = some s ∧ listed.getD j false = true
    · rw [if_pos (this.2 hcc), if_pos hcc]
    · rw [if_neg (fun h => hcc (this.1 h)), if_neg hcc]

theorem frL_all {listed : Array Bool} (h : ∀ i, i < al.length → listed.getD i false = true) : frL al F listed = F al.length := by
  funext s
  unfold frL
  split
  · rfl
  · rename_i hn
    have := F_keep (s := s) (lo := 0) htr al.length (by omega) fun q z _ h7 h8 h9 => hn ⟨q, z, h8, h9, h q (by omega)⟩
    rw [Nat.zero_add] at this
    exact this.symm

theorem ready_nil {listed : Array Bool} (hsz : listed.size = ops.size) (h : Region.ready .any ops listed = []) : ∀ i, i < ops.size → listed.getD i false = true := by
  simp only [dok, Bool.and_eq_true] at hok
  obtain ⟨⟨_, hord⟩, _⟩ := hok
  intro i
  induction i using Nat.strongRecOn with
  | _ i ih =>
    intro hi
    cases hl : listed.getD i false with
    | true => rfl
    | false =>
      exfalso
      obtain ⟨x, hx, hxo⟩ := (absOpers_get hal).2 i ops[i] (by simp [hi])
      have hxa := (absOper_some hxo).2.2.2.1
      have : i ∈ Region.ready .any ops listed := by
        rw [mem_ready]
        refine ⟨by simpa [Array.getD_eq_getD_getElem?, hsz, hi] using hl, ops[i], by simp [hi], fun e he hb => ?_⟩
        have hea : e.on ∈ x.af := by
          rw [hxa]
          exact List.mem_map.2 ⟨e, List.mem_filter.2 ⟨Array.mem_toList_iff.2 he, hb⟩, rfl⟩
        have hlt := (orderOk_spec _ _ al 0 hord i x hx).1 _ hea
        exact ih e.on (by omega) (by omega)
      rw [h] at this
      cases this

theorem dany (hQ : ∀ a w g, Rel G N ⟨F al.length, HH al.length, g.n⟩ g a w → Step w0 g0 w g → Q .normal a w) :
    ∀ (fuel : Nat) (listed : Array Bool) (a : Act) (w : World) (g : Gh), listed.size = ops.size → (∀ i, i < ops.size → listed.getD i false = false → 0 < fuel) → ((List.range ops.size).countP fun i => !listed.getD i false) = fuel → Closed al listed → Rel G N ⟨frL al F listed, hL al HH listed, g.n⟩ g a w → Step w0 g0 w g → wpAny P .any ops Q fuel listed a w := by
  have hlen : al.length = ops.size := by simpa using (absOpers_get hal).1
  have done : ∀ (listed : Array Bool) (a : Act) (w : World) (g : Gh), (∀ i, i < ops.size → listed.getD i false = true) → Rel G N ⟨frL al F listed, hL al HH listed, g.n⟩ g a w → Step w0 g0 w g → Q .normal a w := fun listed a w g h1 h2 h3 => by
    rw [frL_all hal hok htr (fun i hi => h1 i (by omega)), hL_at htr (Nat.le_refl _) (fun j hj _ => ⟨fun _ => hj, fun _ => h1 j (by omega)⟩)] at h2
    exact hQ a w g h2 h3
  intro fuel
  induction fuel with
  | zero =>
    intro listed a w g hsz hpos hcnt hc hR hS
    have hall : ∀ i, i < ops.size → listed.getD i false = true := fun i hi => by
      cases h : listed.getD i false with
      | true => rfl
      | false => have := hpos i hi h; omega
    refine ⟨?_, done listed a w g hall hR hS⟩
    rw [List.eq_nil_iff_forall_not_mem]
    intro i hi
    obtain ⟨h1, o, h2, _⟩ := mem_ready.1 hi
    have := getD_tf h1
    rw [hall i (by rw [← hsz]; exact this.2)] at this
    cases this.1
  | succ fuel ih =>
    intro listed a w g hsz hpos hcnt hc hR hS
    refine ⟨fun h => done listed a w g (ready_nil hal hok htr hsz h) hR hS, fun i hi => ?_⟩
    obtain ⟨h1, o, h2, h3⟩ := mem_ready.1 hi
    obtain ⟨h4, h5⟩ := getD_tf h1
    obtain ⟨x, hx, hxo⟩ := (absOpers_get hal).2 i o (by simpa using h2)
    obtain ⟨e1, e2, e3, e4, e5⟩ := absOper_some hxo
    have ha : ∀ e ∈ x.af, listed.getD e false = true := fun e he => by
      rw [e4] at he
      obtain ⟨ed, h6, rfl⟩ := List.mem_map.1 he
      obtain ⟨h7, h8⟩ := List.mem_filter.1 h6
      exact h3 ed (Array.mem_toList_iff.1 h7) h8
    have hnow := slot_now hal hok htr hc hx h4 ha
    have hc' : Closed al (listed.setIfInBounds i true) := by
      intro j y hj hl e he
      rw [getD_set h5] at hl ⊢
      split
      · rfl
      · split at hl
        · rename_i ej; subst ej; rw [hx] at hj; cases hj; exact ha e he
        · exact hc j y hj hl e he
    have hsz' : (listed.setIfInBounds i true).size = ops.size := by simpa using hsz
    have hcnt' : ((List.range ops.size).countP fun j => !(listed.setIfInBounds i true).getD j false) = fuel := by
      have := cnt_less ops.size i (by omega) (fun j => !listed.getD j false) (by simp [h4])
      rw [hcnt] at this
      have e : (fun j => !(listed.setIfInBounds i true).getD j false) = fun j => (!listed.getD j false) && !(j == i) := by
        funext j
        rw [getD_set h5]
        by_cases hj : j = i
        · simp [hj]
        · simp [hj]
      rw [e]
      omega
    have hpos' : ∀ j, j < ops.size → (listed.setIfInBounds i true).getD j false = false → 0 < fuel := fun j hj hl => by
      rw [← hcnt', List.countP_pos_iff]
      exact ⟨j, List.mem_range.2 hj, by simp [hl]⟩
    have hilt : i < al.length := (List.getElem?_eq_some_iff.1 hx).1
    have hst : storeOk al = true := by
      have h' := hok
      simp only [dok, Bool.and_eq_true] at h'
      exact h'.2
    have stx : stAt al i = isStore x.o := by simp only [stAt, hx]
    have hstore : ∀ j y, al[j]? = some y → isStore y.o = true → stAt al j = true := fun j y hj hy => by simp only [stAt, hj, hy]
    have getst : ∀ j, stAt al j = true → ∃ y, al[j]? = some y ∧ isStore y.o = true := fun j hj => by
      unfold stAt at hj
      split at hj
      · rename_i y hy; exact ⟨y, hy, hj⟩
      · cases hj
    -- where a store is to come, the objects are as in the text's order
    have hLs : isStore x.o = true → hL al HH listed = HH i ∧ hL al HH (listed.setIfInBounds i true) = HH (i + 1) := fun hs => by
      have h1 : ∀ j, j < al.length → stAt al j = true → (listed.getD j false = true ↔ j < i) := fun j hj hsj => by
        obtain ⟨y, hy, hys⟩ := getst j hsj
        constructor
        · intro hl
          rcases Nat.lt_trichotomy j i with h | h | h
          · exact h
          · subst h; rw [h4] at hl; cases hl
          · have := hc j y hy hl i ((storeOk_spec hst hy hys hx).1 h (.inr hs))
            rw [h4] at this; cases this
        · intro hji
          exact ha j ((storeOk_spec hst hx hs hy).1 hji (.inr hys))
      refine ⟨hL_at htr (by omega) h1, hL_at htr (by omega) fun j hj hsj => ?_⟩
      rw [getD_set h5]
      by_cases hji : j = i
      · subst hji; simp
      · rw [if_neg hji, h1 j hj hsj]; omega
    have hLn : isStore x.o = false → hL al HH (listed.setIfInBounds i true) = hL al HH listed := fun hs => by
      unfold hL
      rw [sIdx_same al.length fun j hj hsj => ?_]
      rw [getD_set h5, if_neg]
      rintro rfl
      rw [stx, hs] at hsj; cases hsj
    -- a reader reads what there was at the start
    have hLr : isReader x.o = true → hL al HH listed = HH i := fun hr => by
      refine hL_at htr (by omega) fun j hj hsj => ?_
      obtain ⟨y, hy, hys⟩ := getst j hsj
      constructor
      · intro hl
        rcases Nat.lt_or_ge i j with h | h
        · have := hc j y hy hl i ((storeOk_spec hst hy hys hx).1 h (.inl hr))
          rw [h4] at this; cases this
        · have := (storeOk_spec hst hy hys hx).2 h
          rw [hr] at this; cases this
      · intro hji
        have := (storeOk_spec hst hy hys hx).2 (by omega)
        rw [hr] at this; cases this
    have next : ∀ (v : AV) (u : Value) (g1 : Gh) (w1 : World), ((x.d.map (F (i + 1))).getD .any = v ∨ x.d = none) → Rep w1 g1 v u → Step w g w1 g1 → Inv w1 g1 → g1.H = hL al HH (listed.setIfInBounds i true) → wpAny P .any ops Q fuel (listed.setIfInBounds i true) (a.put o.dst u) w1 := fun v u g1 w1 hv hu hS1 hI1 hH1 => by
      refine ih _ _ w1 g1 hsz' hpos' hcnt' hc' ?_ (hS.trans hS1)
      have hput := hR.put hS1 hI1 e2 (x := v) hu
      rw [frL_set hal hok htr hx h5, e1]
      rw [hH1] at hput
      rcases hv with hv | hv
      · rw [← e1, hv]; rw [← e1] at hput; exact hput
      · rw [e1] at hv
        rw [hv] at hput ⊢
        exact hput
    unfold wpOp
    simp only [h2]
    rcases htr i x hx with ⟨hHH, ⟨hg, v, hdop, hF⟩ | ⟨j, b, hg, hb, hF⟩⟩ | ⟨hg, hd0, hF, hss⟩
    · have hw : Region.wanted o (yielded ops a.tmps) = true := by
        rcases e5 with ⟨e5, e6⟩ | ⟨j, b, d, e5, e6, e7, e8⟩
        · simp [Region.wanted, e5]
        · rcases hg with hg | ⟨j', b', hg, hb⟩
          · rw [hg] at e8; cases e8
          · have h89 : (d, b) = (j', b') := by rw [e8] at hg; exact Option.some.inj hg
            have hdj : d = j' := congrArg Prod.fst h89
            have hbb : b = b' := congrArg Prod.snd h89
            have hd : frL al F listed d = .lit (.bool b') := by rw [hnow d (by simp [AOper.slots, e8]), hdj]; exact hb
            rw [wanted_of hR e5 e6 e7 hd, hbb]; simp
      rw [if_pos hw]
      refine .inl ?_
      have hns := dop_store hdop
      have hdop1 : dop P G (hL al HH listed) (F i) x.o v := by
        cases hr : isReader x.o with
        | true => rw [hLr hr]; exact hdop
        | false =>
          refine dop_shape (fun s => ?_) hr hdop
          have h1 := HH_shape htr i (by omega) s
          have h2 := HH_shape htr (sIdx al listed al.length) (sIdx_le _) s
          exact h1.symm.trans h2
      have hdop' : dop P G (hL al HH listed) (frL al F listed) x.o v := dop_congr (fun n hn => (hnow n (by simp [AOper.slots, hn])).symm) hdop1
      refine aop_sound' hR e2 (K := fun st' => ∃ n', st' = ⟨put (frL al F listed) o.dst v, hL al HH listed, n'⟩) ?_ e3 (dop_aop (st := ⟨frL al F listed, hL al HH listed, g.n⟩) hdop' (K := fun _ => True) (fun _ _ => trivial))
      rintro st' g' a' w' ⟨n', rfl⟩ k1 k2
      have hn' : n' = g'.n := k1.n.symm
      subst hn'
      refine ih _ _ w' g' hsz' hpos' hcnt' hc' ?_ (hS.trans k2)
      rw [frL_set hal hok htr hx h5, hLn hns]
      have : (x.d.map (F (i + 1))).getD .any = v ∨ x.d = none := by
        cases hd : x.d with
        | none => exact .inr rfl
        | some d => left; rw [hF, hd]; simp [put, upd_same]
      rcases this with hv | hv
      · rw [hv, e1]; exact k1
      · rw [e1] at hv
        rw [e1, hv]; rw [hv] at k1; exact k1
    · have hw : ¬ Region.wanted o (yielded ops a.tmps) = true := by
        rcases e5 with ⟨e5, e6⟩ | ⟨j', b', d, e5, e6, e7, e8⟩
        · rw [hg] at e6; cases e6
        · have h89 : (d, b') = (j, b) := by rw [e8] at hg; exact Option.some.inj hg
          have hdj : d = j := congrArg Prod.fst h89
          have hbb : b' = b := congrArg Prod.snd h89
          rcases hb with hb | ⟨vs, hb⟩
          · have hd : frL al F listed d = .lit (.bool (!b)) := by rw [hnow d (by simp [AOper.slots, e8]), hdj]; exact hb
            rw [wanted_of hR e5 e6 e7 hd, hbb]; cases b <;> decide
          · have hd : frL al F listed d = .lit (.tuple vs) := by rw [hnow d (by simp [AOper.slots, e8]), hdj]; exact hb
            rw [wanted_of_tuple hR e5 e6 e7 hd]; decide
      rw [if_neg hw]
      refine next .und undef g w ?_ rfl (Step.refl _ _) hR.inv ?_
      · cases hd : x.d with
        | none => exact .inr rfl
        | some d => left; rw [hF, hd]; simp [put, upd_same]
      · rw [hR.H]
        cases hs : isStore x.o with
        | true => rw [(hLs hs).1, (hLs hs).2, hHH]
        | false => rw [hLn hs]
    · have hw : Region.wanted o (yielded ops a.tmps) = true := by
        rcases e5 with ⟨e5, e6⟩ | ⟨j, b, d, e5, e6, e7, e8⟩
        · simp [Region.wanted, e5]
        · rw [hg] at e8; cases e8
      rw [if_pos hw]
      refine .inl ?_
      have hs : isStore x.o = true := by
        cases hxo : x.o with
        | store => rfl
        | _ => rw [hxo] at hss; exact hss.elim
      have hss1 : SStep G x.o (frL al F listed) (hL al HH listed) (HH (i + 1)) := by
        rw [(hLs hs).1]
        exact hss.congr fun n hn => (hnow n (by simp [AOper.slots, hn])).symm
      have hdst : o.dst = none := by rw [← e1]; exact hd0
      refine aop_sound' hR e2 (K := fun st' => st' = ⟨frL al F listed, HH (i + 1), g.n⟩) ?_ e3 (by rw [hdst]; exact SStep.aop (st := ⟨frL al F listed, hL al HH listed, g.n⟩) hss1)
      rintro st' g' a' w' rfl k1 k2
      refine ih _ _ w' g' hsz' hpos' hcnt' hc' ?_ (hS.trans k2)
      rw [frL_set hal hok htr hx h5, (hLs hs).2, hd0]
      have hn' : g.n = g'.n := k1.n.symm
      rw [← hn']
      exact k1
end
end Go.Ab
