/- Contracts of functions of the program: each computes what its model says; the conditions stand at each. -/
import Derived.Test.YtblhbafoncfhdaaGreatDoorP1
import Derived.Test.YtblhbafoncfhdaaGreatDoorB2
set_option linter.unusedSimpArgs false
set_option linter.unusedVariables false
set_option maxRecDepth 20000
namespace Go.Proofs.YtblhbafoncfhdaaGreatDoor
open Go Go.Ab Go.Pm Go.Cm Go.El Go.Rm Go.Pp Go.Uf
variable (G : Nat → AV) (H : Nat → Option AObj)
theorem persV_eq (ps : List Per) : persV ps = .ls (decide (ps ≠ [])) (ps.map Per.c) := by cases ps <;> simp [persV]
theorem tog1_c (p : Per) (a b : Int) (hl : p.tch.length ≤ 1000000) : AFn Tryz.prog G 87 [.agg p.c, .pp [.int a], .pp [.int b]] H (.bool (decide (a ∈ p.tch) && decide (b ∈ p.tch))) := by
 refine AFn.start mix F87 (by simp) fun k hlow => ?_
 simp (disch := omega) only [↓wpre, push_cast, seval, c87]
 refine AFn.x (containsI_c G _ true p.tch a hl) fun n1 hn1 => ?_
 by_cases h1 : a ∈ p.tch
 ·simp (disch := omega) only [↓wpre, push_cast, seval, h1, decide_true]
  refine AFn.x (containsI_c G _ true p.tch b hl) fun n2 hn2 => ?_
  simp (disch := omega) only [↓wpre, push_cast, seval, h1, decide_true, Bool.true_and]
 ·simp (disch := omega) only [↓wpre, push_cast, seval, h1, decide_false, Bool.false_and]
def idxP (q : Per → Bool) : Nat → List Per → Int
 | _, [] => -1
 | i, y :: r => if q y then (i : Int) else idxP q (i + 1) r
theorem idxP_ge (q : Per → Bool) : ∀ (i : Nat) (l : List Per), decide (0 ≤ idxP q i l) = l.any q
 | i, [] => by simp [idxP]
 | i, y :: r => by
  rw [idxP, List.any_cons]
  by_cases h : q y = true
  ·rw [if_pos h, h]; simp
  ·rw [if_neg h, idxP_ge q (i + 1) r]; simp [h]
theorem indexP_c (nz : Bool) (l : List Per) (a b : Int) (hl : l.length ≤ 1000000) (ht : ∀ p ∈ l, p.tch.length ≤ 1000000) : AFn Tryz.prog G 28 [.ls nz (l.map Per.c), .fn (.func 87) [.pp [.int a], .pp [.int b]]] H (.int (idxP (fun x => decide (a ∈ x.tch) && decide (b ∈ x.tch)) 0 l)) := by
 generalize hq0 : (fun x : Per => decide (a ∈ x.tch) && decide (b ∈ x.tch)) = q
 have hqv : ∀ p, q p = (decide (a ∈ p.tch) && decide (b ∈ p.tch)) := fun p => by rw [← hq0]
 refine AFn.start mix F28 (by simp) fun k hlow => ?_
 simp (disch := omega) only [↓wpre, push_cast, seval, c28]
 refine xw_loopJ (σ := List Per × List Per) (fun t => [(0, .ls nz (l.map Per.c)), (1, .fn (.func 87) [.pp [.int a], .pp [.int b]]), (7, .int l.length), (8, .int t.1.length)]) (fun t H' n' => l = t.1 ++ t.2 ∧ idxP q t.1.length t.2 = idxP q 0 l ∧ Qt H H' k ∧ k ≤ n') (fun t => t.2.length) ([], l) ⟨rfl, rfl, .refl hlow, Nat.le_refl _⟩ (by simp (disch := omega) only [↓wpre, push_cast, seval]) ?_
 rintro ⟨d, r⟩ fr H' n1 ⟨hab, hi, hq, hn⟩ hh
 simp only [has_nil, has_cons, and_true] at hh hab hi
 have hll : l.length = d.length + r.length := by rw [hab]; simp
 cases r with
 | nil =>
  have hlt : ¬ (d.length : Int) < l.length := by rw [hll]; simp
  rw [← hi]
  simp (disch := omega) only [↓wpre, push_cast, seval, hh, hlt, idxP]
  first | (exact (Qt.mono (n := k) (by repeat (first | exact hq | refine Qt.hu ?_ (by omega))) (Nat.le_refl _)).1) | exact ⟨rfl, hq.1⟩
 | cons y r =>
  have hlt : (d.length : Int) < l.length := by rw [hll]; simp only [List.length_cons]; omega
  have hx : l[d.length]? = some y := by rw [hab]; simp
  have hi2 : idxP q d.length (y :: r) = if q y then (d.length : Int) else idxP q (d.length + 1) r := rfl
  rw [hi2] at hi
  simp (disch := omega) only [↓wpre, push_cast, seval, hh, hlt, even_per, aidx_at rfl hx]
  have h87 := tog1_c G H' y a b (ht y (by rw [hab]; simp))
  rw [← hqv y] at h87
  refine AFn.x h87 fun n2 hn2 => ?_
  by_cases hc : q y = true
  ·rw [if_pos hc] at hi
   simp (disch := omega) only [↓wpre, push_cast, seval, hh, hc]
   first | exact ⟨by rw [hi], hq.1⟩ | (rw [← hi]; exact ⟨rfl, hq.1⟩)
  ·have hc' : q y = false := by simpa using hc
   rw [if_neg hc] at hi
   simp (disch := omega) only [↓wpre, push_cast, seval, hh, hc']
   refine againJ (d ++ [y], r) (Nat.lt_succ_self _) ⟨by rw [hab]; simp, by rw [List.length_append]; exact hi, by exact Qt.mono (n := k) (by repeat (first | exact hq | refine Qt.hu ?_ (by omega))) (by omega), by omega⟩ (by simp (disch := omega) only [↓wpre, push_cast, seval, hh]; all_goals (try simp only [AV.lit.injEq, Value.int.injEq, Value.bool.injEq, true_and, and_true]); all_goals (try (repeat' apply And.intro)); all_goals (first | rfl | omega | simp_all | skip))
theorem together_c (ps : List Per) (a b : Int) (hl : ps.length ≤ 1000000) (ht : ∀ p ∈ ps, p.tch.length ≤ 1000000) : AFn Tryz.prog G 24 [persV ps, .int a, .int b] H (.bool (tog ps a b)) := by
 rw [persV_eq]
 have h31 : ∀ H, AFn Tryz.prog G 31 [.ls (decide (ps ≠ [])) (ps.map Per.c), .fn (.func 87) [.pp [.int a], .pp [.int b]]] H (.bool (tog ps a b)) := fun H => by
  refine AFn.start mix F31 (by simp) fun k hlow => ?_
  simp (disch := omega) only [↓wpre, push_cast, seval, c31]
  refine AFn.x (indexP_c G _ _ ps a b hl ht) fun n1 hn1 => ?_
  simp (disch := omega) only [↓wpre, push_cast, seval, idxP_ge]
  try rfl
 refine AFn.start mix F24 (by simp) fun k hlow => ?_
 simp (disch := omega) only [↓wpre, push_cast, seval, c24]
 refine AFn.x (h31 _) fun n1 hn1 => ?_
 simp (disch := omega) only [↓wpre, push_cast, seval]
end Go.Proofs.YtblhbafoncfhdaaGreatDoor
