/- Plain laws over what package consent computes; the conditions stand at each. -/
import Derived.Test.YthcedgclhoggcaaGreatDoorTw26
import Derived.Test.YthcedgclhoggcaaGreatDoorCl2
/-! An answer rests on its proof. -/
set_option linter.unusedVariables false
set_option linter.unusedSimpArgs false
namespace Go.Proofs.YthcedgclhoggcaaGreatDoor
open Go Go.Ab Go.Pm Go.Cm
/-- The answer by what was said up to its moment. -/
def ansU (t : Term) (purpose : T) (u : List Stm) (a : Int) : Answer := if (objected u).2.2 = true then ⟨false, 6, (objected u).1⟩ else allowed u t purpose a
theorem ans_cases (t : Term) (purpose : T) (u : List Stm) (a : Int) :
    (∃ s ∈ u, s.what = 4 ∧ ansU t purpose u a = ⟨false, 6, s.no⟩) ∨
    (∃ w ∈ u, w.what = 3 ∧ w.purpose = purpose ∧ ansU t purpose u a = ⟨false, 5, w.no⟩) ∨
    (t.free = true ∧ ansU t purpose u a = ⟨true, 1, 0⟩) ∨
    (t.free = false ∧ ansU t purpose u a = ⟨false, 4, 0⟩) ∨
    (t.free = false ∧ ∃ g ∈ u, g.what = 1 ∧ g.purpose = purpose ∧ ansU t purpose u a = ⟨decide (stateOf u t g a = 2), stateOf u t g a, g.no⟩) := by
  unfold ansU
  by_cases ho : (objected u).2.2 = true
  · obtain ⟨s, h1, h2, h3⟩ := objected_spec u ho
    exact .inl ⟨s, h1, h2, by rw [if_pos ho, h3]⟩
  rw [if_neg ho]
  right
  have hgr : ∀ g ∈ grants u purpose, g ∈ u ∧ g.what = 1 ∧ g.purpose = purpose := fun g hg => by
    have := List.mem_filter.1 hg
    simp only [Bool.and_eq_true, decide_eq_true_eq] at this
    exact ⟨this.1, this.2.1.1, this.2.1.2⟩
  unfold allowed
  cases hw : withdrawal u purpose with
  | some w =>
    obtain ⟨h1, h2, h3⟩ := withdrawal_spec hw
    dsimp only
    by_cases hg : (grants u purpose).length = 0
    · exact .inl ⟨w, h1, h2, h3, by rw [if_pos hg]⟩
    · rw [if_neg hg]
      right
      cases hf : t.free with
      | true => exact .inl ⟨rfl, by simp⟩
      | false =>
        right; right
        have hne : grants u purpose ≠ [] := fun e => hg (by rw [e]; rfl)
        obtain ⟨g, k1, k2⟩ := best_spec u t a (grants u purpose) hne
        obtain ⟨k3, k4, k5⟩ := hgr g k1
        refine ⟨rfl, g, k3, k4, k5, ?_⟩
        simp [k2]
  | none =>
    dsimp only
    right
    cases hf : t.free with
    | true => exact .inl ⟨rfl, by simp⟩
    | false =>
      right
      by_cases hg : (grants u purpose).length = 0
      · exact .inl ⟨rfl, by simp [hg]⟩
      · right
        have hne : grants u purpose ≠ [] := fun e => hg (by rw [e]; rfl)
        obtain ⟨g, k1, k2⟩ := best_spec u t a (grants u purpose) hne
        obtain ⟨k3, k4, k5⟩ := hgr g k1
        refine ⟨rfl, g, k3, k4, k5, ?_⟩
        simp [hg, k2]
theorem ev_nil (t : Term) (purpose : T) (a : Int) : ansU t purpose [] a = if t.free = true then ⟨true, 1, 0⟩ else ⟨false, 4, 0⟩ := by
  simp [ansU, objected, allowed, withdrawal, grants]
theorem ev_obj (t : Term) (purpose : T) (a : Int) (s : Stm) (h : s.what = 4) (h0 : 0 ≤ s.at') : ansU t purpose [s] a = ⟨false, 6, s.no⟩ := by
  have h1 : (-1 : Int) < s.at' := by omega
  simp [ansU, objected, objStep, ofCh, h, h1]
theorem ev_wd (t : Term) (purpose : T) (a : Int) (w : Stm) (h : w.what = 3) (hp : w.purpose = purpose) : ansU t purpose [w] a = ⟨false, 5, w.no⟩ := by
  simp [ansU, objected, objStep, ofCh, h, allowed, withdrawal, wdStep, hp, grants]
theorem ev_gr (t : Term) (purpose : T) (a : Int) (g : Stm) (h : g.what = 1) (hp : g.purpose = purpose) (hf : t.free = false) : ansU t purpose [g] a = ⟨decide (stateOf [g] t g a = 2), stateOf [g] t g a, g.no⟩ := by
  have hb : bestStep [g] t a (noStm, 0) g = (g, stateOf [g] t g a) := by simp [bestStep]
  simp [ansU, objected, objStep, ofCh, h, allowed, withdrawal, wdStep, hp, grants, hf, hb]
theorem ev_two (t : Term) (purpose : T) (a : Int) (g c : Stm) (h : g.what = 1) (hp : g.purpose = purpose) (hc : c.what = 2) (hf : t.free = false) (v : List Stm) (hv : v = [g, c] ∨ v = [c, g]) : ansU t purpose v a = ⟨decide (stateOf v t g a = 2), stateOf v t g a, g.no⟩ := by
  rcases hv with e | e
  · have hb : bestStep v t a (noStm, 0) g = (g, stateOf v t g a) := by simp [bestStep]
    rw [e] at hb ⊢
    simp [ansU, objected, objStep, ofCh, h, hc, allowed, withdrawal, wdStep, hp, grants, hf, hb]
  · have hb : bestStep v t a (noStm, 0) g = (g, stateOf v t g a) := by simp [bestStep]
    rw [e] at hb ⊢
    simp [ansU, objected, objStep, ofCh, h, hc, allowed, withdrawal, wdStep, hp, grants, hf, hb]
theorem state_one (u : List Stm) (t : Term) (g : Stm) (a : Int) (hg : g.what = 1) (h : stateOf u t g a ≠ 2 ∨ t.wait = 0) : stateOf [g] t g a = stateOf u t g a := by
  have hc : confirmation [g] g.purpose g.at' (g.at' + t.wait) = none := by simp [confirmation, hg]
  unfold stateOf at h ⊢
  rw [hc]
  grind
theorem state_conf (u : List Stm) (t : Term) (g : Stm) (a : Int) (h : stateOf u t g a = 2) (hw : ¬ t.wait = 0) : ∃ c ∈ u, confirmation u g.purpose g.at' (g.at' + t.wait) = some c ∧ c.what = 2 ∧ c.purpose = g.purpose ∧ ∀ v, c ∈ v → stateOf v t g a = 2 := by
  have h1 : ¬ (t.days ≠ 0 ∧ g.at' + t.days * 1440 ≤ a) := fun h1 => by unfold stateOf at h; rw [if_pos h1] at h; cases h
  have h2 : (confirmation u g.purpose g.at' (g.at' + t.wait)).isSome = true := by
    unfold stateOf at h
    rw [if_neg h1, if_neg hw] at h
    grind
  obtain ⟨c, hc⟩ := Option.isSome_iff_exists.1 h2
  have hm := List.mem_of_find?_eq_some hc
  have hp := List.find?_some hc
  simp only [Bool.and_eq_true, decide_eq_true_eq] at hp
  refine ⟨c, hm, hc, hp.1.1, hp.1.2, fun v hv => ?_⟩
  have h3 : (confirmation v g.purpose g.at' (g.at' + t.wait)).isSome = true := by
    rw [confirmation, List.find?_isSome]
    exact ⟨c, hv, by simp [hp.1.1, hp.1.2, hp.2]⟩
  unfold stateOf
  rw [if_neg h1, if_neg hw, if_pos h3]
/-- A proof's numbers. -/
def plU (t : Term) (purpose : T) (u : List Stm) (a : Int) : List Int :=
  if (ansU t purpose u a).no = 0 then []
  else if (ansU t purpose u a).why ≠ 2 ∨ t.wait = 0 then [(ansU t purpose u a).no]
  else isort ltI (proofOut u purpose t.wait (ansU t purpose u a).no u)
theorem hasI_one (x y : Int) : hasI x [y] = true ↔ x = y := by simp [hasI]
theorem hasI_two (x y z : Int) : hasI x [y, z] = true ↔ (x = y ∨ x = z) := by simp [hasI]
theorem suff_core (t : Term) (purpose : T) (u : List Stm) (a : Int) (hd : u.Pairwise (fun a b => a.no ≠ b.no)) (hp : ∀ s ∈ u, 0 ≤ s.at' ∧ 1 ≤ s.no) :
    ansU t purpose (u.filter fun s => hasI s.no (plU t purpose u a)) a = ansU t purpose u a ∧
    (plU t purpose u a = [] ∨ (∃ s ∈ u, plU t purpose u a = [s.no]) ∨ ∃ s ∈ u, ∃ r ∈ u, s.no ≠ r.no ∧ plU t purpose u a = [s.no, r.no]) := by
  have one : ∀ s ∈ u, plU t purpose u a = [s.no] → u.filter (fun s => hasI s.no (plU t purpose u a)) = [s] := fun s hs e => by
    rw [e]; exact filter_one hd hs fun x _ => hasI_one _ _
  have fnil : (u.filter fun s => hasI s.no []) = [] := List.filter_eq_nil_iff.2 fun s _ => by simp [hasI]
  rcases ans_cases t purpose u a with ⟨s, h1, h2, h3⟩ | ⟨w, h1, h2, h3, h4⟩ | ⟨h1, h2⟩ | ⟨h1, h2⟩ | ⟨h1, g, h2, h3, h4, h5⟩
  · have hs := hp s h1
    have e : plU t purpose u a = [s.no] := by
      rw [plU, h3]
      simp
      omega
    exact ⟨by rw [one s h1 e, h3, ev_obj _ _ _ _ h2 hs.1], .inr (.inl ⟨s, h1, e⟩)⟩
  · have hs := hp w h1
    have e : plU t purpose u a = [w.no] := by
      rw [plU, h4]
      simp
      omega
    exact ⟨by rw [one w h1 e, h4, ev_wd _ _ _ _ h2 h3], .inr (.inl ⟨w, h1, e⟩)⟩
  · have e : plU t purpose u a = [] := by rw [plU, h2]; simp
    exact ⟨by rw [e, h2, fnil, ev_nil]; simp [h1], .inl e⟩
  · have e : plU t purpose u a = [] := by rw [plU, h2]; simp
    exact ⟨by rw [e, h2, fnil, ev_nil]; simp [h1], .inl e⟩
  · have hs := hp g h2
    by_cases hw : stateOf u t g a ≠ 2 ∨ t.wait = 0
    · have e : plU t purpose u a = [g.no] := by
        rw [plU, h5]
        dsimp only
        rw [if_neg (by omega), if_pos hw]
      exact ⟨by rw [one g h2 e, h5, ev_gr _ _ _ _ h3 h4 h1, state_one u t g a h3 hw], .inr (.inl ⟨g, h2, e⟩)⟩
    · have hst : stateOf u t g a = 2 := by omega
      have hwt : ¬ t.wait = 0 := by omega
      obtain ⟨c, k1, k2, k3, k4, k5⟩ := state_conf u t g a hst hwt
      have hne : g.no ≠ c.no := fun e => by
        have : g = c := by
          have h1 := filter_one hd h2 (p := fun x => decide (x.no = g.no)) fun x _ => by simp
          have h2 := filter_one hd k1 (p := fun x => decide (x.no = g.no)) fun x _ => by rw [e]; simp
          rw [h1] at h2
          simpa using h2
        rw [this, k3] at h3
        omega
      have hf : u.filter (fun x => decide (x.no = g.no)) = [g] := filter_one hd h2 fun x _ => by simp
      have ho : proofOut u purpose t.wait g.no u = [g.no, c.no] := by
        rw [proofOut, hf]
        simp only [List.map_cons, List.map_nil, cnoOf]
        rw [← h4, k2]
        rfl
      have e0 : plU t purpose u a = isort ltI [g.no, c.no] := by
        rw [plU, h5]
        dsimp only
        rw [if_neg (by omega), if_neg hw, ho]
      have e : plU t purpose u a = [g.no, c.no] ∨ plU t purpose u a = [c.no, g.no] := by
        rw [e0]
        by_cases hlt : c.no < g.no
        · right; simp [isort, insRev, ltI, hlt]
        · left; simp [isort, insRev, ltI, hlt]
      have hv : u.filter (fun s => hasI s.no (plU t purpose u a)) = [g, c] ∨ u.filter (fun s => hasI s.no (plU t purpose u a)) = [c, g] := by
        refine filter_two hd h2 k1 hne fun x _ => ?_
        rcases e with e | e
        · rw [e]; exact hasI_two _ _ _
        · rw [e, hasI_two]; exact Or.comm
      refine ⟨?_, .inr (.inr ?_)⟩
      · rw [ev_two t purpose a g c h3 h4 k3 h1 _ hv, h5, k5 _ (by rcases hv with e | e <;> rw [e] <;> simp), hst]
      · rcases e with e | e
        · exact ⟨g, h2, c, k1, hne, e⟩
        · exact ⟨c, k1, g, h2, hne.symm, e⟩
end Go.Proofs.YthcedgclhoggcaaGreatDoor
