/- Plain laws over what package consent computes; the conditions stand at each. -/
import Derived.Test.YthcedgclhoggcaaGreatDoorCl2
/-! What Ask and Merge compute; an answer hangs on what was said alone, not on its numbers. -/
set_option linter.unusedVariables false
set_option linter.unusedSimpArgs false
namespace Go.Proofs.YthcedgclhoggcaaGreatDoor
open Go Go.Ab Go.Pm Go.Cm
/-- A statement without its number. -/
def kOf (s : Stm) : Stm := { s with no := 0 }
theorem kOf_fields {s s' : Stm} (h : kOf s' = kOf s) : s'.at' = s.at' ∧ s'.id = s.id ∧ s'.purpose = s.purpose ∧ s'.region = s.region ∧ s'.channel = s.channel ∧ s'.what = s.what := by
  simp only [kOf, Stm.mk.injEq] at h
  exact ⟨h.2.1, h.2.2.1, h.2.2.2.1, h.2.2.2.2.1, h.2.2.2.2.2.1, h.2.2.2.2.2.2⟩
/-- All that is said in the one is said in the other. -/
def KSub (u v : List Stm) : Prop := ∀ s ∈ u, ∃ s' ∈ v, kOf s' = kOf s
theorem KSub.filter {u v : List Stm} (h : KSub u v) (p : Stm → Bool) (hp : ∀ s s', kOf s' = kOf s → p s' = p s) : KSub (u.filter p) (v.filter p) := fun s hs => by
  obtain ⟨h1, h2⟩ := List.mem_filter.1 hs
  obtain ⟨s', h3, h4⟩ := h s h1
  exact ⟨s', List.mem_filter.2 ⟨h3, by rw [hp s s' h4]; exact h2⟩, h4⟩
theorem ofCh_iff (w : Int) : ofCh w = true ↔ (w = 4 ∨ w = 5) := by simp [ofCh]
theorem objected_iff (l : List Stm) (hs : l.Pairwise (fun a b => a.at' ≤ b.at')) (h0 : ∀ s ∈ l, 0 ≤ s.at') : (objected l).2.2 = true ↔ ∃ s ∈ l, s.what = 4 ∧ ∀ s' ∈ l, ofCh s'.what = true → s'.at' ≤ s.at' := by
  have key : ∀ (b d : List Stm) (acc : Int × Int × Bool), (d ++ b).Pairwise (fun a b => a.at' ≤ b.at') → (∀ s ∈ d ++ b, 0 ≤ s.at') →
      ((∀ s ∈ d, ofCh s.what = true → s.at' ≤ acc.2.1) ∧ (acc.2.1 = -1 ∨ ∃ s ∈ d, ofCh s.what = true ∧ s.at' = acc.2.1) ∧ (acc.2.2 = true ↔ ∃ s ∈ d, s.what = 4 ∧ s.at' = acc.2.1)) →
      ((∀ s ∈ d ++ b, ofCh s.what = true → s.at' ≤ (b.foldl objStep acc).2.1) ∧ ((b.foldl objStep acc).2.1 = -1 ∨ ∃ s ∈ d ++ b, ofCh s.what = true ∧ s.at' = (b.foldl objStep acc).2.1) ∧ ((b.foldl objStep acc).2.2 = true ↔ ∃ s ∈ d ++ b, s.what = 4 ∧ s.at' = (b.foldl objStep acc).2.1)) := by
    intro b
    induction b with
    | nil => intro d acc _ _ h; rw [List.append_nil]; exact h
    | cons y b ih =>
      intro d acc hp h0 ⟨i1, i2, i3⟩
      have e : d ++ y :: b = (d ++ [y]) ++ b := by simp
      rw [List.foldl_cons]
      rw [e] at hp h0 ⊢
      have hle : ∀ s ∈ d, s.at' ≤ y.at' := fun s hs => by
        have := (List.pairwise_append.1 (List.pairwise_append.1 hp).1).2.2 s hs y (by simp)
        exact this
      have hy0 := h0 y (by simp)
      have hcur : acc.2.1 ≤ y.at' := by
        rcases i2 with i2 | ⟨s, k1, _, k2⟩
        · omega
        · have := hle s k1; omega
      refine ih (d ++ [y]) _ hp h0 ?_
      unfold objStep
      by_cases hc : ofCh y.what = true
      · rw [if_pos hc]
        by_cases hlt : acc.2.1 < y.at'
        · simp only [if_pos hlt]
          have hd : ∀ s ∈ d, ofCh s.what = true → s.at' ≤ y.at' := fun s hs _ => hle s hs
          have hno : ¬ ∃ s ∈ d, s.what = 4 ∧ s.at' = y.at' := fun ⟨s, k1, k2, k3⟩ => by
            have := i1 s k1 ((ofCh_iff _).2 (.inl k2)); omega
          by_cases h4 : y.what = 4
          · rw [if_pos ⟨h4, trivial⟩]
            refine ⟨fun s hs hcs => ?_, .inr ⟨y, by simp, hc, rfl⟩, by simp only [true_iff]; exact ⟨y, by simp, h4, rfl⟩⟩
            rcases List.mem_append.1 hs with hs | hs
            · exact hd s hs hcs
            · simp at hs; subst hs; exact Int.le_refl _
          · rw [if_neg (fun h => h4 h.1)]
            refine ⟨fun s hs hcs => ?_, .inr ⟨y, by simp, hc, rfl⟩, ?_⟩
            · rcases List.mem_append.1 hs with hs | hs
              · exact hd s hs hcs
              · simp at hs; subst hs; exact Int.le_refl _
            · simp only [Bool.false_eq_true, false_iff]
              rintro ⟨s, hs, k1, k2⟩
              rcases List.mem_append.1 hs with hs | hs
              · exact hno ⟨s, hs, k1, k2⟩
              · simp at hs; subst hs; exact h4 k1
        · simp only [if_neg hlt]
          have heq : y.at' = acc.2.1 := by omega
          by_cases h4 : y.what = 4 ∧ acc.2.2 = false
          · rw [if_pos h4]
            refine ⟨fun s hs hcs => ?_, .inr ⟨y, by simp, hc, heq⟩, by simp only [true_iff]; exact ⟨y, by simp, h4.1, heq⟩⟩
            rcases List.mem_append.1 hs with hs | hs
            · exact i1 s hs hcs
            · simp at hs; subst hs; show s.at' ≤ acc.2.1; omega
          · rw [if_neg h4]
            refine ⟨fun s hs hcs => ?_, .inr ⟨y, by simp, hc, heq⟩, ?_⟩
            · rcases List.mem_append.1 hs with hs | hs
              · exact i1 s hs hcs
              · simp at hs; subst hs; omega
            · rw [i3]
              constructor
              · rintro ⟨s, hs, k⟩; exact ⟨s, by simp [hs], k⟩
              · rintro ⟨s, hs, k1, k2⟩
                rcases List.mem_append.1 hs with hs | hs
                · exact ⟨s, hs, k1, k2⟩
                · simp at hs; subst hs
                  have : acc.2.2 = true := by
                    cases hx : acc.2.2 with
                    | true => rfl
                    | false => exact absurd ⟨k1, hx⟩ h4
                  exact i3.1 this
      · rw [if_neg hc]
        have hn4 : y.what ≠ 4 := fun e => hc ((ofCh_iff _).2 (.inl e))
        refine ⟨fun s hs hcs => ?_, ?_, ?_⟩
        · rcases List.mem_append.1 hs with hs | hs
          · exact i1 s hs hcs
          · simp at hs; subst hs; exact absurd hcs hc
        · rcases i2 with i2 | ⟨s, k1, k2, k3⟩
          · exact .inl i2
          · exact .inr ⟨s, by simp [k1], k2, k3⟩
        · rw [i3]
          constructor
          · rintro ⟨s, hs, k⟩; exact ⟨s, by simp [hs], k⟩
          · rintro ⟨s, hs, k1, k2⟩
            rcases List.mem_append.1 hs with hs | hs
            · exact ⟨s, hs, k1, k2⟩
            · simp at hs; subst hs; exact absurd k1 hn4
  have hk := key l [] (0, -1, false) (by simpa using hs) (by simpa using h0) ⟨by simp, .inl rfl, by simp⟩
  rw [List.nil_append] at hk
  obtain ⟨k1, k3, k2⟩ := hk
  rw [show objected l = l.foldl objStep (0, -1, false) from rfl, k2]
  generalize l.foldl objStep (0, -1, false) = acc at k1 k2 k3 ⊢
  constructor
  · rintro ⟨s, hs, h4, he⟩
    exact ⟨s, hs, h4, fun s' hs' hc => by rw [he]; exact k1 s' hs' hc⟩
  · rintro ⟨s, hs, h4, hm⟩
    have h1 := k1 s hs ((ofCh_iff _).2 (.inl h4))
    have h2 := h0 s hs
    rcases k3 with k3 | ⟨s', c1, c2, c3⟩
    · omega
    · have := hm s' c1 c2
      exact ⟨s, hs, h4, by omega⟩
theorem objected_keys {u v : List Stm} (hu : u.Pairwise (fun a b => a.at' ≤ b.at')) (hv : v.Pairwise (fun a b => a.at' ≤ b.at')) (hu0 : ∀ s ∈ u, 0 ≤ s.at') (hv0 : ∀ s ∈ v, 0 ≤ s.at') (h1 : KSub u v) (h2 : KSub v u) : (objected u).2.2 = true → (objected v).2.2 = true := by
  rw [objected_iff u hu hu0, objected_iff v hv hv0]
  rintro ⟨s, hs, h4, hm⟩
  obtain ⟨s', k1, k2⟩ := h1 s hs
  obtain ⟨f1, _, _, _, _, f6⟩ := kOf_fields k2
  refine ⟨s', k1, by rw [f6]; exact h4, fun r hr hc => ?_⟩
  obtain ⟨r', q1, q2⟩ := h2 r hr
  obtain ⟨e1, _, _, _, _, e6⟩ := kOf_fields q2
  have := hm r' q1 (by rw [e6]; exact hc)
  omega
theorem wd_none (pu : T) (y : Stm) : wdStep pu none y = if y.what = 3 ∧ y.purpose = pu then some y else none := by
  unfold wdStep
  by_cases h : y.what = 3 ∧ y.purpose = pu
  · rw [if_pos h, if_pos ⟨h.1, h.2, rfl⟩]
  · rw [if_neg h, if_neg (fun e => h ⟨e.1, e.2.1⟩)]
theorem wd_some (pu : T) (w y : Stm) : wdStep pu (some w) y = if y.what = 3 ∧ y.purpose = pu ∧ w.at' < y.at' then some y else some w := by
  unfold wdStep
  by_cases h : y.what = 3 ∧ y.purpose = pu ∧ w.at' < y.at'
  · rw [if_pos h, if_pos ⟨h.1, h.2.1, by simpa using h.2.2⟩]
  · rw [if_neg h, if_neg (fun e => h ⟨e.1, e.2.1, by simpa using e.2.2⟩)]
/-- Is said, with what purpose, and when last. -/
theorem withdrawal_max (l : List Stm) (pu : T) : (withdrawal l pu = none → ∀ s ∈ l, ¬ (s.what = 3 ∧ s.purpose = pu)) ∧ ∀ w, withdrawal l pu = some w → ∀ s ∈ l, s.what = 3 → s.purpose = pu → s.at' ≤ w.at' := by
  have key : ∀ (b d : List Stm) (acc : Option Stm), ((acc = none → ∀ s ∈ d, ¬ (s.what = 3 ∧ s.purpose = pu)) ∧ ∀ w, acc = some w → ∀ s ∈ d, s.what = 3 → s.purpose = pu → s.at' ≤ w.at') →
      ((b.foldl (wdStep pu) acc = none → ∀ s ∈ d ++ b, ¬ (s.what = 3 ∧ s.purpose = pu)) ∧ ∀ w, b.foldl (wdStep pu) acc = some w → ∀ s ∈ d ++ b, s.what = 3 → s.purpose = pu → s.at' ≤ w.at') := by
    intro b
    induction b with
    | nil => intro d acc h; rw [List.append_nil]; exact h
    | cons y b ih =>
      intro d acc ⟨i1, i2⟩
      rw [List.foldl_cons, show d ++ y :: b = (d ++ [y]) ++ b by simp]
      refine ih (d ++ [y]) _ ?_
      have mem : ∀ {s : Stm}, s ∈ d ++ [y] → s ∈ d ∨ s = y := fun {s} hs => by
        rcases List.mem_append.1 hs with hs | hs
        · exact .inl hs
        · simp at hs; exact .inr hs
      cases acc with
      | none =>
        rw [wd_none]
        have i1 := i1 rfl
        by_cases hc : y.what = 3 ∧ y.purpose = pu
        · rw [if_pos hc]
          refine ⟨fun h => (by cases h), fun w hw s hs k1 k2 => ?_⟩
          cases hw
          rcases mem hs with hs | rfl
          · exact absurd ⟨k1, k2⟩ (i1 s hs)
          · exact Int.le_refl _
        · rw [if_neg hc]
          refine ⟨fun _ s hs => ?_, fun w hw => (by cases hw)⟩
          rcases mem hs with hs | rfl
          · exact i1 s hs
          · exact hc
      | some w0 =>
        rw [wd_some]
        have i2 := i2 w0 rfl
        by_cases hc : y.what = 3 ∧ y.purpose = pu ∧ w0.at' < y.at'
        · rw [if_pos hc]
          refine ⟨fun h => (by cases h), fun w hw s hs k1 k2 => ?_⟩
          cases hw
          rcases mem hs with hs | rfl
          · have := i2 s hs k1 k2; omega
          · exact Int.le_refl _
        · rw [if_neg hc]
          refine ⟨fun h => (by cases h), fun w hw s hs k1 k2 => ?_⟩
          cases hw
          rcases mem hs with hs | rfl
          · exact i2 s hs k1 k2
          · have : ¬ w0.at' < s.at' := fun e => hc ⟨k1, k2, e⟩
            omega
  have := key l [] none ⟨by simp, by simp⟩
  rwa [List.nil_append] at this
theorem withdrawal_keys {u v : List Stm} (pu : T) (h1 : KSub u v) (h2 : KSub v u) : (withdrawal u pu).map (·.at') = (withdrawal v pu).map (·.at') := by
  obtain ⟨a1, a2⟩ := withdrawal_max u pu
  obtain ⟨b1, b2⟩ := withdrawal_max v pu
  have go : ∀ {u v : List Stm}, KSub u v → (withdrawal v pu = none → ∀ s ∈ v, ¬ (s.what = 3 ∧ s.purpose = pu)) → ∀ w, withdrawal u pu = some w → withdrawal v pu ≠ none := fun h hb w hw hn => by
    obtain ⟨k1, k2, k3⟩ := withdrawal_spec hw
    obtain ⟨s', q1, q2⟩ := h w k1
    obtain ⟨_, _, f3, _, _, f6⟩ := kOf_fields q2
    exact hb hn s' q1 ⟨by rw [f6]; exact k2, by rw [f3]; exact k3⟩
  cases hu : withdrawal u pu with
  | none =>
    cases hv : withdrawal v pu with
    | none => rfl
    | some w => exact absurd hu (go h2 a1 w hv)
  | some w =>
    cases hv : withdrawal v pu with
    | none => exact absurd hv (go h1 b1 w hu)
    | some w' =>
      obtain ⟨k1, k2, k3⟩ := withdrawal_spec hu
      obtain ⟨q1, q2, q3⟩ := withdrawal_spec hv
      obtain ⟨s', m1, m2⟩ := h1 w k1
      obtain ⟨f1, _, f3, _, _, f6⟩ := kOf_fields m2
      obtain ⟨r', n1, n2⟩ := h2 w' q1
      obtain ⟨g1, _, g3, _, _, g6⟩ := kOf_fields n2
      have e1 := b2 w' hv s' m1 (by rw [f6]; exact k2) (by rw [f3]; exact k3)
      have e2 := a2 w hu r' n1 (by rw [g6]; exact q2) (by rw [g3]; exact q3)
      show some w.at' = some w'.at'
      congr 1; omega
theorem grants_eq (l : List Stm) (pu : T) : grants l pu = l.filter fun (s : Stm) => decide (s.what = 1) && decide (s.purpose = pu) && (match (withdrawal l pu).map (·.at') with | some a => decide (a < s.at') | none => true) := by
  unfold grants
  refine List.filter_congr fun s _ => ?_
  cases withdrawal l pu <;> rfl
theorem grants_keys {u v : List Stm} (pu : T) (h1 : KSub u v) (h2 : KSub v u) : KSub (grants u pu) (grants v pu) := by
  rw [grants_eq, grants_eq, withdrawal_keys pu h1 h2]
  refine h1.filter _ fun s s' h => ?_
  obtain ⟨f1, _, f3, _, _, f6⟩ := kOf_fields h
  rw [f1, f3, f6]
theorem confirmation_keys {u v : List Stm} (pu : T) (lo hi : Int) (h1 : KSub u v) : (confirmation u pu lo hi).isSome = true → (confirmation v pu lo hi).isSome = true := by
  unfold confirmation
  rw [List.find?_isSome, List.find?_isSome]
  rintro ⟨s, hs, hp⟩
  obtain ⟨s', k1, k2⟩ := h1 s hs
  obtain ⟨f1, _, f3, _, _, f6⟩ := kOf_fields k2
  exact ⟨s', k1, by rw [f1, f3, f6]; exact hp⟩
theorem stateOf_keys {u v : List Stm} (t : Term) {g g' : Stm} (a : Int) (h1 : KSub u v) (h2 : KSub v u) (hg : kOf g' = kOf g) : stateOf v t g' a = stateOf u t g a := by
  obtain ⟨f1, _, f3, _, _, f6⟩ := kOf_fields hg
  unfold stateOf
  rw [f1, f3]
  have : ((confirmation v g.purpose g.at' (g.at' + t.wait)).isSome = true) = ((confirmation u g.purpose g.at' (g.at' + t.wait)).isSome = true) := propext ⟨confirmation_keys _ _ _ h2, confirmation_keys _ _ _ h1⟩
  simp only [this]
theorem best_min (l : List Stm) (t : Term) (a : Int) (gs : List Stm) (h : gs ≠ []) : ∀ g ∈ gs, rank (gs.foldl (bestStep l t a) (noStm, 0)).2 ≤ rank (stateOf l t g a) := by
  have key : ∀ (b : List Stm) (d : List Stm) (acc : Stm × Int), ((acc.2 = 0 ∧ d = []) ∨ (acc.2 ≠ 0 ∧ ∀ g ∈ d, rank acc.2 ≤ rank (stateOf l t g a))) → d ++ b ≠ [] → ∀ g ∈ d ++ b, rank (b.foldl (bestStep l t a) acc).2 ≤ rank (stateOf l t g a) := by
    intro b
    induction b with
    | nil =>
      intro d acc h hne g hg
      rw [List.append_nil] at hg hne
      rcases h with ⟨_, h⟩ | ⟨_, h⟩
      · exact absurd h hne
      · exact h g hg
    | cons y b ih =>
      intro d acc h hne
      rw [List.foldl_cons, show d ++ y :: b = (d ++ [y]) ++ b by simp]
      have hy := stateOf_ne l t y a
      have hy0 : stateOf l t y a ≠ 0 := by omega
      refine ih (d ++ [y]) _ (.inr ?_) (by simp)
      unfold bestStep
      by_cases hc : acc.2 = 0 ∨ rank (stateOf l t y a) < rank acc.2 ∨ (stateOf l t y a = acc.2 ∧ acc.1.at' < y.at')
      · simp only [if_pos hc]
        refine ⟨hy0, fun g hg => ?_⟩
        rcases List.mem_append.1 hg with hg | hg
        · rcases h with ⟨_, h⟩ | ⟨h0, h⟩
          · subst h; simp at hg
          · have := h g hg
            rcases hc with hc | hc | hc
            · exact absurd hc h0
            · omega
            · rw [hc.1]; exact this
        · simp at hg; subst hg; exact Int.le_refl _
      · simp only [if_neg hc]
        rcases h with ⟨h, _⟩ | ⟨h0, h⟩
        · exact absurd (.inl h) hc
        · refine ⟨h0, fun g hg => ?_⟩
          rcases List.mem_append.1 hg with hg | hg
          · exact h g hg
          · simp at hg; subst hg
            have : ¬ rank (stateOf l t g a) < rank acc.2 := fun e => hc (.inr (.inl e))
            omega
  have := key gs [] (noStm, 0) (.inl ⟨rfl, rfl⟩) (by simpa using h)
  rwa [List.nil_append] at this
theorem best_keys {u v : List Stm} (t : Term) (a : Int) {gu gv : List Stm} (h1 : KSub u v) (h2 : KSub v u) (g1 : KSub gu gv) (g2 : KSub gv gu) (hu : gu ≠ []) (hv : gv ≠ []) :
    (gu.foldl (bestStep u t a) (noStm, 0)).2 = (gv.foldl (bestStep v t a) (noStm, 0)).2 := by
  obtain ⟨x, x1, x2⟩ := best_spec u t a gu hu
  obtain ⟨y, y1, y2⟩ := best_spec v t a gv hv
  have mu := best_min u t a gu hu
  have mv := best_min v t a gv hv
  rw [x2] at mu ⊢
  rw [y2] at mv ⊢
  dsimp only at mu mv ⊢
  obtain ⟨x', p1, p2⟩ := g1 x x1
  obtain ⟨y', q1, q2⟩ := g2 y y1
  have e1 := mv x' p1
  have e2 := mu y' q1
  rw [stateOf_keys t a h1 h2 p2] at e1
  rw [stateOf_keys t a h2 h1 q2] at e2
  have nx := stateOf_ne u t x a
  have ny := stateOf_ne v t y a
  unfold rank at e1 e2
  grind
theorem allowed_keys {u v : List Stm} (t : Term) (pu : T) (a : Int) (h1 : KSub u v) (h2 : KSub v u) : (allowed u t pu a).may = (allowed v t pu a).may ∧ (allowed u t pu a).why = (allowed v t pu a).why := by
  have hw := withdrawal_keys pu h1 h2
  have g1 := grants_keys pu h1 h2
  have g2 := grants_keys pu h2 h1
  have hz : (grants u pu).length = 0 ↔ (grants v pu).length = 0 := by
    have go : ∀ {x y : List Stm}, KSub y x → x.length = 0 → y.length = 0 := fun {x y} h hx => by
      cases y with
      | nil => rfl
      | cons s r =>
        obtain ⟨s', k, _⟩ := h s (by simp)
        have : x = [] := List.length_eq_zero_iff.1 hx
        subst this; simp at k
    exact ⟨go g2, go g1⟩
  unfold allowed
  cases hu : withdrawal u pu with
  | none =>
    cases hv : withdrawal v pu with
    | some w => rw [hu, hv] at hw; cases hw
    | none =>
      dsimp only
      cases ht : t.free with
      | true => simp
      | false =>
        simp only [Bool.false_eq_true, if_false]
        by_cases h0 : (grants u pu).length = 0
        · rw [if_pos h0, if_pos (hz.1 h0)]; exact ⟨rfl, rfl⟩
        · have h0' : ¬ (grants v pu).length = 0 := fun e => h0 (hz.2 e)
          rw [if_neg h0, if_neg h0']
          have := best_keys t a h1 h2 g1 g2 (fun e => h0 (by rw [e]; rfl)) (fun e => h0' (by rw [e]; rfl))
          rw [this]; exact ⟨rfl, rfl⟩
  | some w =>
    cases hv : withdrawal v pu with
    | none => rw [hu, hv] at hw; cases hw
    | some w' =>
      dsimp only
      by_cases h0 : (grants u pu).length = 0
      · rw [if_pos h0, if_pos (hz.1 h0)]; exact ⟨rfl, rfl⟩
      · have h0' : ¬ (grants v pu).length = 0 := fun e => h0 (hz.2 e)
        rw [if_neg h0, if_neg h0']
        cases ht : t.free with
        | true => simp
        | false =>
          simp only [Bool.false_eq_true, if_false]
          have := best_keys t a h1 h2 g1 g2 (fun e => h0 (by rw [e]; rfl)) (fun e => h0' (by rw [e]; rfl))
          rw [this]; exact ⟨rfl, rfl⟩
theorem saidBy_keys {l m : List Stm} (h : KSub l m) (x : Idn) (c : Int) : KSub (saidBy l x c) (saidBy m x c) := fun s hs => by
  have hs' := (isort_perm stmCmp _).mem_iff.1 hs
  obtain ⟨s', k1, k2⟩ := (h.filter (fun s => decide (s.id = x) && decide (s.channel = c)) fun s s' e => by
    obtain ⟨_, f2, _, _, f5, _⟩ := kOf_fields e
    rw [f2, f5]) s hs'
  exact ⟨s', (isort_perm stmCmp _).mem_iff.2 k1, k2⟩
theorem upTo_keys {l m : List Stm} (h : KSub l m) (x : Idn) (c a : Int) : KSub (upTo (saidBy l x c) a) (upTo (saidBy m x c) a) := by
  have e : ∀ l : List Stm, upTo (saidBy l x c) a = (saidBy l x c).filter fun s => !decide (a < s.at') := fun l => upTo_filter (isort_asc _) a
  rw [e, e]
  exact (saidBy_keys h x c).filter _ fun s s' e => by rw [(kOf_fields e).1]
/-- What is said, with whatever numbers, is answered alike. -/
theorem answer_keys (q : Q) {l m : List Stm} (h1 : KSub l m) (h2 : KSub m l) (l0 : ∀ s ∈ l, 0 ≤ s.at') (m0 : ∀ s ∈ m, 0 ≤ s.at') (x : Idn) (a : Int) : (answer q l x a).may = (answer q m x a).may ∧ (answer q l x a).why = (answer q m x a).why := by
  unfold answer
  cases ht : termOf q.p q.purpose q.region q.channel with
  | none => exact ⟨rfl, rfl⟩
  | some t =>
    have k1 := upTo_keys h1 x q.channel a
    have k2 := upTo_keys h2 x q.channel a
    have asc : ∀ (l : List Stm), (upTo (saidBy l x q.channel) a).Pairwise (fun a b => a.at' ≤ b.at') := fun l => (isort_asc _).sublist (List.take_sublist _ _)
    have o1 := objected_keys (asc l) (asc m) (fun s hs => l0 s (saidBy_mem (List.mem_of_mem_take hs))) (fun s hs => m0 s (saidBy_mem (List.mem_of_mem_take hs))) k1 k2
    have o2 := objected_keys (asc m) (asc l) (fun s hs => m0 s (saidBy_mem (List.mem_of_mem_take hs))) (fun s hs => l0 s (saidBy_mem (List.mem_of_mem_take hs))) k2 k1
    have ha := allowed_keys t q.purpose a k1 k2
    show (if _ then _ else _ : Answer).may = (if _ then _ else _ : Answer).may ∧ (if _ then _ else _ : Answer).why = (if _ then _ else _ : Answer).why
    by_cases ho : (objected (upTo (saidBy l x q.channel) a)).2.2 = true
    · rw [if_pos ho, if_pos (o1 ho)]; exact ⟨rfl, rfl⟩
    · rw [if_neg ho, if_neg (fun e => ho (o2 e))]; exact ha
end Go.Proofs.YthcedgclhoggcaaGreatDoor
