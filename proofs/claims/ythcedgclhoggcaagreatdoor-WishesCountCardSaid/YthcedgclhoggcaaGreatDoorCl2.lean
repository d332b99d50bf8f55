/- Plain laws over what package consent computes; the conditions stand at each. -/
import Derived.Test.YthcedgclhoggcaaGreatDoorCl
/-! The law ProofsSuffice over what package consent computes. -/
set_option linter.unusedVariables false
set_option linter.unusedSimpArgs false
namespace Go.Proofs.YthcedgclhoggcaaGreatDoor
open Go Go.Ab Go.Pm Go.Cm
/-! The order of what was said is a strict one. -/
theorem stmCmp_iff (a b : Stm) : stmCmp a b < 0 ↔ (a.at' < b.at' ∨ (a.at' = b.at' ∧ a.no < b.no)) := by
  simp only [stmCmp, cmpOr, cmpI]
  grind
/-- Filtering what is sorted, by whatever test. -/
theorem insRev_filter2 (p : Stm → Bool) (x : Stm) : ∀ r : List Stm, r.Pairwise (fun a b => ¬ stmCmp a b < 0) → (insRev stmCmp x r).filter p = if p x = true then insRev stmCmp x (r.filter p) else r.filter p
  | [], _ => by by_cases h : p x = true <;> simp [insRev, h]
  | y :: r, hr => by
    have hp := List.pairwise_cons.1 hr
    have ih := insRev_filter2 p x r hp.2
    simp only [insRev]
    by_cases hxy : stmCmp x y < 0
    · rw [if_pos hxy]
      by_cases hy : p y = true
      · rw [List.filter_cons_of_pos hy, ih, List.filter_cons_of_pos hy]
        by_cases hx : p x = true
        · rw [if_pos hx, if_pos hx, insRev, if_pos hxy]
        · rw [if_neg hx, if_neg hx]
      · rw [List.filter_cons_of_neg hy, ih, List.filter_cons_of_neg hy]
    · rw [if_neg hxy]
      have hins : ∀ z : List Stm, (∀ s ∈ z, ¬ stmCmp y s < 0) → insRev stmCmp x z = x :: z := fun z hz => by
        cases z with
        | nil => rfl
        | cons s z =>
          have h1 := hz s (by simp)
          have h2 : ¬ stmCmp x s < 0 := by
            rw [stmCmp_iff] at hxy h1 ⊢
            omega
          simp only [insRev, if_neg h2]
      by_cases hx : p x = true
      · rw [List.filter_cons_of_pos hx, if_pos hx]
        by_cases hy : p y = true
        · rw [List.filter_cons_of_pos hy, insRev, if_neg hxy]
        · rw [List.filter_cons_of_neg hy, hins _ fun s hs => hp.1 s (List.mem_filter.1 hs).1]
      · rw [List.filter_cons_of_neg hx, if_neg hx]
theorem insRev_desc2 (x : Stm) : ∀ r : List Stm, r.Pairwise (fun a b => ¬ stmCmp a b < 0) → (insRev stmCmp x r).Pairwise (fun a b => ¬ stmCmp a b < 0)
  | [], _ => List.pairwise_singleton _ _
  | p :: r, h => by
    have hp := List.pairwise_cons.1 h
    simp only [insRev]
    split
    · rename_i hlt
      refine List.pairwise_cons.2 ⟨fun s hs => ?_, insRev_desc2 x r hp.2⟩
      rcases insRev_mem hs with rfl | hs
      · rw [stmCmp_iff] at hlt ⊢; omega
      · exact hp.1 s hs
    · rename_i hlt
      refine List.pairwise_cons.2 ⟨fun s hs => ?_, h⟩
      rcases List.mem_cons.1 hs with rfl | hs
      · exact hlt
      · have := hp.1 s hs
        rw [stmCmp_iff] at hlt this ⊢
        omega
theorem isort_filter2 (p : Stm → Bool) (l : List Stm) : (isort stmCmp l).filter p = isort stmCmp (l.filter p) := by
  have key : ∀ (l r : List Stm), r.Pairwise (fun a b => ¬ stmCmp a b < 0) → (l.foldl (fun r x => insRev stmCmp x r) r).filter p = (l.filter p).foldl (fun r x => insRev stmCmp x r) (r.filter p) := by
    intro l
    induction l with
    | nil => intro r _; rfl
    | cons x l ih =>
      intro r hr
      rw [List.foldl_cons, ih _ (insRev_desc2 x r hr), insRev_filter2 p x r hr]
      by_cases hx : p x = true
      · rw [if_pos hx, List.filter_cons_of_pos hx, List.foldl_cons]
      · rw [if_neg hx, List.filter_cons_of_neg hx]
  simp only [isort, List.filter_reverse, key l [] .nil, List.filter_nil]
theorem insRev_perm (f : Stm → Stm → Int) (x : Stm) : ∀ r : List Stm, (insRev f x r).Perm (x :: r)
  | [] => .refl _
  | y :: r => by
    simp only [insRev]
    split
    · exact ((insRev_perm f x r).cons y).trans (.swap x y r)
    · exact .refl _
theorem isort_perm (f : Stm → Stm → Int) (l : List Stm) : (isort f l).Perm l := by
  have key : ∀ (l r : List Stm), (l.foldl (fun r x => insRev f x r) r).Perm (l.reverse ++ r) := by
    intro l
    induction l with
    | nil => intro r; exact .refl _
    | cons x l ih =>
      intro r
      rw [List.foldl_cons, List.reverse_cons, List.append_assoc]
      exact (ih _).trans ((insRev_perm f x r).append_left _)
  have h := key l []
  rw [List.append_nil] at h
  exact (List.reverse_perm _).trans (h.trans (List.reverse_perm _))
/-! Statements by their numbers. -/
theorem filter_one {l : List Stm} (hd : l.Pairwise (fun a b => a.no ≠ b.no)) {s : Stm} (hs : s ∈ l) {p : Stm → Bool} (hp : ∀ x ∈ l, p x = true ↔ x.no = s.no) : l.filter p = [s] := by
  induction l with
  | nil => cases hs
  | cons y r ih =>
    have h := List.pairwise_cons.1 hd
    rcases List.mem_cons.1 hs with rfl | hs'
    · rw [List.filter_cons_of_pos ((hp s (by simp)).2 rfl), List.filter_eq_nil_iff.2]
      intro x hx hpx
      exact h.1 x hx ((hp x (by simp [hx])).1 hpx).symm
    · have hne : ¬ p y = true := fun hpy => h.1 s hs' ((hp y (by simp)).1 hpy)
      rw [List.filter_cons_of_neg hne]
      exact ih h.2 hs' fun x hx => hp x (by simp [hx])
theorem filter_two {l : List Stm} (hd : l.Pairwise (fun a b => a.no ≠ b.no)) {s t : Stm} (hs : s ∈ l) (ht : t ∈ l) (hst : s.no ≠ t.no) {p : Stm → Bool} (hp : ∀ x ∈ l, p x = true ↔ (x.no = s.no ∨ x.no = t.no)) : l.filter p = [s, t] ∨ l.filter p = [t, s] := by
  induction l with
  | nil => cases hs
  | cons y r ih =>
    have h := List.pairwise_cons.1 hd
    have hpr : ∀ x ∈ r, p x = true ↔ (x.no = s.no ∨ x.no = t.no) := fun x hx => hp x (by simp [hx])
    rcases List.mem_cons.1 hs with rfl | hs'
    · have ht' : t ∈ r := by
        rcases List.mem_cons.1 ht with rfl | h'
        · exact absurd rfl hst
        · exact h'
      left
      rw [List.filter_cons_of_pos ((hp s (by simp)).2 (.inl rfl)), filter_one h.2 ht' fun x hx => ?_]
      rw [hpr x hx]
      have := h.1 x hx
      constructor
      · rintro (h' | h')
        · exact absurd h'.symm this
        · exact h'
      · exact .inr
    · rcases List.mem_cons.1 ht with rfl | ht'
      · right
        rw [List.filter_cons_of_pos ((hp t (by simp)).2 (.inr rfl)), filter_one h.2 hs' fun x hx => ?_]
        rw [hpr x hx]
        have := h.1 x hx
        constructor
        · rintro (h' | h')
          · exact h'
          · exact absurd h'.symm this
        · exact .inl
      · have hne : ¬ p y = true := fun hpy => by
          rcases (hp y (by simp)).1 hpy with h' | h'
          · exact h.1 s hs' h'
          · exact h.1 t ht' h'
        rw [List.filter_cons_of_neg hne]
        exact ih h.2 hs' ht' hpr
/-! What answers rest on. -/
theorem objected_spec (l : List Stm) (h : (objected l).2.2 = true) : ∃ s ∈ l, s.what = 4 ∧ s.no = (objected l).1 := by
  have key : ∀ (b : List Stm) (a : List Stm) (acc : Int × Int × Bool), (acc.2.2 = true → ∃ s ∈ a, s.what = 4 ∧ s.no = acc.1) → ((b.foldl objStep acc).2.2 = true → ∃ s ∈ a ++ b, s.what = 4 ∧ s.no = (b.foldl objStep acc).1) := by
    intro b
    induction b with
    | nil => intro a acc ha h; rw [List.append_nil]; exact ha h
    | cons y b ih =>
      intro a acc ha
      rw [List.foldl_cons, show a ++ y :: b = (a ++ [y]) ++ b by simp]
      refine ih (a ++ [y]) _ fun h => ?_
      unfold objStep at h ⊢
      have hin : ∀ {s : Stm}, s ∈ a → s ∈ a ++ [y] := fun hs => by simp [hs]
      grind
  have := key l [] (0, -1, false) (by simp) h
  rw [List.nil_append] at this
  exact this
theorem withdrawal_spec {l : List Stm} {purpose : T} {w : Stm} (h : withdrawal l purpose = some w) : w ∈ l ∧ w.what = 3 ∧ w.purpose = purpose := by
  have key : ∀ (b : List Stm) (acc : Option Stm), (∀ w, acc = some w → w.what = 3 ∧ w.purpose = purpose) → ∀ w, b.foldl (wdStep purpose) acc = some w → (w ∈ b ∨ acc = some w) ∧ w.what = 3 ∧ w.purpose = purpose := by
    intro b
    induction b with
    | nil => intro acc ha w h; exact ⟨.inr h, ha w h⟩
    | cons y b ih =>
      intro acc ha w h
      rw [List.foldl_cons] at h
      have hs : wdStep purpose acc y = acc ∨ (wdStep purpose acc y = some y ∧ y.what = 3 ∧ y.purpose = purpose) := by
        unfold wdStep
        cases acc <;> grind
      rcases hs with e | ⟨e, e1, e2⟩
      · rw [e] at h
        obtain ⟨h1, h2⟩ := ih acc ha w h
        rcases h1 with h1 | h1
        · exact ⟨.inl (by simp [h1]), h2⟩
        · exact ⟨.inr h1, h2⟩
      · rw [e] at h
        obtain ⟨h1, h2⟩ := ih (some y) (fun w hw => by cases hw; exact ⟨e1, e2⟩) w h
        rcases h1 with h1 | h1
        · exact ⟨.inl (by simp [h1]), h2⟩
        · cases h1; exact ⟨.inl (by simp), h2⟩
  have := key l none (by simp) w h
  rcases this.1 with h1 | h1
  · exact ⟨h1, this.2⟩
  · cases h1
theorem stateOf_ne (l : List Stm) (t : Term) (g : Stm) (a : Int) : stateOf l t g a = 7 ∨ stateOf l t g a = 2 ∨ stateOf l t g a = 8 ∨ stateOf l t g a = 9 := by
  unfold stateOf; grind
theorem best_spec (l : List Stm) (t : Term) (a : Int) (gs : List Stm) (h : gs ≠ []) : ∃ g ∈ gs, gs.foldl (bestStep l t a) (noStm, 0) = (g, stateOf l t g a) := by
  have key : ∀ (b : List Stm) (acc : Stm × Int), (∃ g ∈ b, b.foldl (bestStep l t a) acc = (g, stateOf l t g a)) ∨ b.foldl (bestStep l t a) acc = acc := by
    intro b
    induction b with
    | nil => intro acc; exact .inr rfl
    | cons y b ih =>
      intro acc
      rw [List.foldl_cons]
      have hs : bestStep l t a acc y = acc ∨ bestStep l t a acc y = (y, stateOf l t y a) := by
        by_cases h1 : acc.2 = 0 ∨ rank (stateOf l t y a) < rank acc.2 ∨ (stateOf l t y a = acc.2 ∧ acc.1.at' < y.at')
        · exact .inr (if_pos h1)
        · exact .inl (if_neg h1)
      rcases ih (bestStep l t a acc y) with ⟨g, hg, e⟩ | e
      · exact .inl ⟨g, by simp [hg], e⟩
      · rw [e]
        rcases hs with e2 | e2
        · exact .inr e2
        · exact .inl ⟨y, by simp, e2⟩
  cases gs with
  | nil => exact absurd rfl h
  | cons y b =>
    rw [List.foldl_cons]
    have h0 : bestStep l t a (noStm, 0) y = (y, stateOf l t y a) := by simp [bestStep]
    rw [h0]
    rcases key b (y, stateOf l t y a) with ⟨g, hg, e⟩ | e
    · exact ⟨g, by simp [hg], e⟩
    · exact ⟨y, by simp, e⟩
end Go.Proofs.YthcedgclhoggcaaGreatDoor
