/- Plain laws over what package consent computes; the conditions stand at each. -/
import Derived.Test.YthcedgclhoggcaaGreatDoorTw43
import Derived.Test.YthcedgclhoggcaaGreatDoorCl5
/-! What Merge makes: each thing that was said, once, in order, with new numbers. -/
set_option linter.unusedVariables false
set_option linter.unusedSimpArgs false
namespace Go.Proofs.YthcedgclhoggcaaGreatDoor
open Go Go.Ab Go.Pm Go.Cm
theorem idCmp_zero {a b : Idn} (h : idCmp a b = 0) : a = b := by
  have h1 := cmpI_zero (cmpOr_zero h (cmpI a.kind b.kind) (by simp))
  have h2 := cmpS_zero (cmpOr_zero h (cmpS a.text b.text) (by simp))
  cases a; cases b
  simp only at h1 h2
  subst h1 h2
  rfl
theorem ordS_zero {a b : Stm} (h : ordS a b = 0) : kOf a = kOf b := by
  have h1 := cmpI_zero (cmpOr_zero h (cmpI a.at' b.at') (by simp))
  have h2 := idCmp_zero (cmpOr_zero h (idCmp a.id b.id) (by simp))
  have h3 := cmpS_zero (cmpOr_zero h (cmpS a.purpose b.purpose) (by simp))
  have h4 := cmpI_zero (cmpOr_zero h (cmpI a.channel b.channel) (by simp))
  have h5 := cmpI_zero (cmpOr_zero h (cmpI a.what b.what) (by simp))
  have h6 := cmpS_zero (cmpOr_zero h (cmpS a.region b.region) (by simp))
  cases a; cases b
  simp only at h1 h2 h3 h4 h5 h6
  subst h1 h2 h3 h4 h5 h6
  rfl
theorem ordS_k {a b a' b' : Stm} (ha : kOf a' = kOf a) (hb : kOf b' = kOf b) : ordS a' b' = ordS a b := by
  have h1 : ordS a' b' = ordS (kOf a') (kOf b') := rfl
  rw [h1, ha, hb]
  rfl
theorem ordS_same {a b : Stm} (h : kOf a = kOf b) : ordS a b = 0 := by
  rw [ordS_k (a := b) (b := b) h rfl]
  have := tc_ordS.anti b b
  omega
theorem cptGo_sub : ∀ (p : Stm) (l : List Stm), ∀ s ∈ cptGo p l, s ∈ l
  | p, [], s, h => by simp [cptGo] at h
  | p, y :: r, s, h => by
    simp only [cptGo] at h
    split at h
    · exact List.mem_cons_of_mem _ (cptGo_sub y r s h)
    · rcases List.mem_cons.1 h with rfl | h
      · exact List.mem_cons_self
      · exact List.mem_cons_of_mem _ (cptGo_sub y r s h)
theorem cptGo_all : ∀ (p : Stm) (l : List Stm), ∀ s ∈ l, kOf s = kOf p ∨ ∃ s' ∈ cptGo p l, kOf s' = kOf s
  | p, [], s, h => by simp at h
  | p, y :: r, s, h => by
    simp only [cptGo]
    by_cases hz : ordS y p = 0
    · rw [if_pos hz]
      have hy := ordS_zero hz
      rcases List.mem_cons.1 h with rfl | h
      · exact .inl hy
      · rcases cptGo_all y r s h with h1 | ⟨s', h1, h2⟩
        · exact .inl (h1.trans hy)
        · exact .inr ⟨s', h1, h2⟩
    · rw [if_neg hz]
      rcases List.mem_cons.1 h with rfl | h
      · exact .inr ⟨s, List.mem_cons_self, rfl⟩
      · rcases cptGo_all y r s h with h1 | ⟨s', h1, h2⟩
        · exact .inr ⟨y, List.mem_cons_self, h1.symm⟩
        · exact .inr ⟨s', List.mem_cons_of_mem _ h1, h2⟩
theorem cptGo_asc : ∀ (p : Stm) (l : List Stm), (p :: l).Pairwise (fun a b => ordS a b ≤ 0) → (cptGo p l).Pairwise (fun a b => ordS a b < 0) ∧ ∀ s ∈ cptGo p l, ordS p s < 0
  | p, [], h => by simp [cptGo]
  | p, y :: r, h => by
    rw [List.pairwise_cons] at h
    obtain ⟨h1, h2⟩ := h
    obtain ⟨i1, i2⟩ := cptGo_asc y r h2
    have hpy := h1 y List.mem_cons_self
    simp only [cptGo]
    by_cases hz : ordS y p = 0
    · rw [if_pos hz]
      exact ⟨i1, fun s hs => tc_ordS.le_lt hpy (i2 s hs)⟩
    · rw [if_neg hz]
      refine ⟨List.pairwise_cons.2 ⟨i2, i1⟩, fun s hs => ?_⟩
      have hlt : ordS p y < 0 := by
        have := tc_ordS.anti p y
        have := tc_ordS.flip p y
        omega
      rcases List.mem_cons.1 hs with rfl | hs
      · exact hlt
      · exact tc_ordS.lt_le hlt (by have := i2 s hs; omega)
theorem cpt_sub (l : List Stm) : ∀ s ∈ cpt l, s ∈ l := by
  cases l with
  | nil => simp [cpt]
  | cons x r =>
    intro s hs
    rcases List.mem_cons.1 hs with rfl | hs
    · exact List.mem_cons_self
    · exact List.mem_cons_of_mem _ (cptGo_sub x r s hs)
theorem cpt_all (l : List Stm) : KSub l (cpt l) := by
  cases l with
  | nil => intro s hs; simp at hs
  | cons x r =>
    intro s hs
    rcases List.mem_cons.1 hs with rfl | hs
    · exact ⟨s, List.mem_cons_self, rfl⟩
    · rcases cptGo_all x r s hs with h1 | ⟨s', h1, h2⟩
      · exact ⟨x, List.mem_cons_self, h1.symm⟩
      · exact ⟨s', List.mem_cons_of_mem _ h1, h2⟩
theorem cpt_asc {l : List Stm} (h : l.Pairwise (fun a b => ordS a b ≤ 0)) : (cpt l).Pairwise (fun a b => ordS a b < 0) := by
  cases l with
  | nil => exact List.Pairwise.nil
  | cons x r =>
    obtain ⟨h1, h2⟩ := cptGo_asc x r h
    exact List.pairwise_cons.2 ⟨h2, h1⟩
theorem cpt_len (l : List Stm) : (cpt l).length ≤ l.length := by
  cases l with
  | nil => exact Nat.le_refl _
  | cons x r => have := cptGo_len x r; simp only [cpt, List.length_cons]; omega
/-- Two ascending lists that say the same are the same but for the numbers. -/
theorem asc_uniq : ∀ {u v : List Stm}, u.Pairwise (fun a b => ordS a b < 0) → v.Pairwise (fun a b => ordS a b < 0) → KSub u v → KSub v u → u.map kOf = v.map kOf
  | [], [], _, _, _, _ => rfl
  | [], y :: v, _, _, _, h => by
    obtain ⟨s, h1, _⟩ := h y List.mem_cons_self
    simp at h1
  | x :: u, [], _, _, h, _ => by
    obtain ⟨s, h1, _⟩ := h x List.mem_cons_self
    simp at h1
  | x :: u, y :: v, hu, hv, h1, h2 => by
    rw [List.pairwise_cons] at hu hv
    have hxy : kOf y = kOf x := by
      obtain ⟨s, a1, a2⟩ := h1 x List.mem_cons_self
      rcases List.mem_cons.1 a1 with rfl | a1
      · exact a2
      obtain ⟨r, b1, b2⟩ := h2 y List.mem_cons_self
      rcases List.mem_cons.1 b1 with rfl | b1
      · exact b2.symm
      have c1 := hv.1 s a1
      have c2 := hu.1 r b1
      have c3 : ordS y x < 0 := by rw [ordS_k (a := y) (b := s) rfl a2.symm]; exact c1
      have c4 : ordS x y < 0 := by rw [ordS_k (a := x) (b := r) rfl b2.symm]; exact c2
      have := tc_ordS.anti x y
      omega
    have tail : ∀ {u v : List Stm} {x y : Stm}, kOf y = kOf x → (∀ s ∈ u, ordS x s < 0) → KSub (x :: u) (y :: v) → KSub u v := fun {u v x y} e hx h s hs => by
      obtain ⟨r, a1, a2⟩ := h s (List.mem_cons_of_mem _ hs)
      rcases List.mem_cons.1 a1 with rfl | a1
      · have c1 := hx s hs
        rw [ordS_same (e.symm.trans a2)] at c1
        omega
      · exact ⟨r, a1, a2⟩
    have ih := asc_uniq hu.2 hv.2 (tail hxy hu.1 h1) (tail hxy.symm hv.1 h2)
    rw [List.map_cons, List.map_cons, ih, hxy]
def renum (k : Int) : List Stm → List Stm
  | [] => []
  | s :: r => { s with no := k + 1 } :: renum (k + 1) r
theorem renum_k : ∀ (l : List Stm) (k : Int), renum k (l.map kOf) = renum k l
  | [], k => rfl
  | s :: r, k => by simp only [List.map_cons, renum, renum_k r]; rfl
theorem renum_len : ∀ (l : List Stm) (k : Int), (renum k l).length = l.length
  | [], k => rfl
  | s :: r, k => by simp only [List.length_cons, renum, renum_len r]
theorem renum_app : ∀ (l m : List Stm) (k : Int), renum k (l ++ m) = renum k l ++ renum (k + l.length) m
  | [], m, k => by simp [renum]
  | s :: r, m, k => by
    simp only [List.cons_append, renum, renum_app r, List.length_cons]
    congr 2
    rw [show k + 1 + (r.length : Int) = k + ((r.length + 1 : Nat) : Int) by omega]
def msortS (l : List Stm) : List Stm := l.mergeSort fun a b => decide (ordS a b ≤ 0)
theorem msortS_ok (l : List Stm) : SortedS l (msortS l) := by
  refine ⟨List.mergeSort_perm _ _, ?_⟩
  have := List.pairwise_mergeSort (le := fun a b => decide (ordS a b ≤ 0)) (fun a b c h1 h2 => by
    simp only [decide_eq_true_eq] at h1 h2 ⊢
    exact tc_ordS.tr a b c h1 h2) (fun a b => by
    have := tc_ordS.anti a b
    have := tc_ordS.flip a b
    simp only [Bool.or_eq_true, decide_eq_true_eq]
    omega) l
  exact this.imp fun h => by simpa using h
def mergeL (l : List Stm) : List Stm := renum 0 (cpt (msortS l))
theorem KSub.of_sub {u v : List Stm} (h : ∀ s ∈ u, s ∈ v) : KSub u v := fun s hs => ⟨s, h s hs, rfl⟩
theorem KSub.trans {u v w : List Stm} (h : KSub u v) (k : KSub v w) : KSub u w := fun s hs => by
  obtain ⟨r, h1, h2⟩ := h s hs
  obtain ⟨t, h3, h4⟩ := k r h1
  exact ⟨t, h3, h4.trans h2⟩
theorem cpt_same {l m : List Stm} (h : SortedS l m) : KSub l (cpt m) ∧ KSub (cpt m) l :=
  ⟨(KSub.of_sub fun s hs => h.perm.mem_iff.2 hs).trans (cpt_all m), (KSub.of_sub (cpt_sub m)).trans (KSub.of_sub fun s hs => h.perm.mem_iff.1 hs)⟩
theorem cpt_uniq {l l' m m' : List Stm} (h : SortedS l m) (h' : SortedS l' m') (k1 : KSub l l') (k2 : KSub l' l) : (cpt m).map kOf = (cpt m').map kOf :=
  asc_uniq (cpt_asc h.sorted) (cpt_asc h'.sorted) ((cpt_same h).2.trans (k1.trans (cpt_same h').1)) ((cpt_same h').2.trans (k2.trans (cpt_same h).1))
theorem mergeL_eq {l l' m : List Stm} (h : SortedS l m) (k1 : KSub l l') (k2 : KSub l' l) : renum 0 (cpt m) = mergeL l' := by
  unfold mergeL
  rw [← renum_k (cpt m), ← renum_k (cpt (msortS l')), cpt_uniq h (msortS_ok l') k1 k2]
theorem mergeL_congr {l l' : List Stm} (k1 : KSub l l') (k2 : KSub l' l) : mergeL l = mergeL l' := mergeL_eq (msortS_ok l) k1 k2
theorem mergeL_len (l : List Stm) : (mergeL l).length ≤ l.length := by
  have h1 := cpt_len (msortS l)
  have h2 := (msortS_ok l).perm.length_eq
  rw [mergeL, renum_len]
  omega
end Go.Proofs.YthcedgclhoggcaaGreatDoor

