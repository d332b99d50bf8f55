/- Contracts of functions of the program: each computes what its model says; the conditions stand at each. -/
import Derived.Test.YtblhbafoncfhdaaGreatDoorPe7
set_option linter.unusedSimpArgs false
set_option linter.unusedVariables false
set_option maxRecDepth 20000
set_option pp.deepTerms false
set_option pp.deepTerms.threshold 3
namespace Go.Proofs.YtblhbafoncfhdaaGreatDoor
open Go Go.Ab Go.Pm Go.Cm Go.El Go.Rm Go.Pp Go.Uf
variable (G : Nat → AV) (H : Nat → Option AObj)






theorem even_per (l : List Per) : Even 4 (l.map Per.c) = True := eq_true fun r hr => by
  obtain ⟨s, _, rfl⟩ := List.mem_map.1 hr; exact ⟨rfl, rfl⟩
theorem people_c (hU : GU G) : AFn Tryz.prog G 15 [] H (.bool true) := by
  obtain ⟨m, cs, hG⟩ := hU.ok.maxLen
  obtain ⟨q, hq1, hq2⟩ : ∃ q, personsOf pr [pt 1, pt 2] = [q] ∧ q.key = px := by
    have h := people_one
    cases hp : personsOf pr [pt 1, pt 2] with
    | nil => rw [hp] at h; cases h
    | cons q qs =>
      rw [hp] at h
      simp only [List.map_cons, List.cons.injEq, List.map_eq_nil_iff] at h
      exact ⟨q, by rw [h.2], h.1⟩
  have hc := fun H => allPersons_c G H hG hU pr pr_ok true [pt 1, pt 2] pl_ok
  rw [hq1] at hc
  obtain ⟨⟨kk, kt⟩, qt, qi⟩ := q
  dsimp only at hq2
  rw [px, Idn.mk.injEq] at hq2
  obtain ⟨rfl, rfl⟩ := hq2
  refine AFn.start mix F15 (by simp) fun k hlow => ?_
  have hq := Qt.refl hlow
  simp -dsimp -implicitDefEqProofs (disch := omega) only [↓wpre, push_cast, seval, c15]
  refine AFn.x (hc _) fun n1 hn1 => ?_
  have e0 : (0 : Int) = ((0 : Nat) : Int) := rfl
  have hget : [(⟨⟨1, ⟨#[97, 64, 98, 46, 100, 101]⟩⟩, qt, qi⟩ : Per)][0]? = some ⟨⟨1, ⟨#[97, 64, 98, 46, 100, 101]⟩⟩, qt, qi⟩ := rfl
  simp -dsimp -implicitDefEqProofs (disch := omega) only [↓wpre, push_cast, seval, persV, even_per, aidx_at e0 hget]
  refine anyN_intro fun n2 hn2 => ?_
  simp -dsimp -implicitDefEqProofs (disch := omega) only [↓wpre, push_cast, seval]
  exact (Qt.mono (n := k) (by repeat (first | exact hq | refine Qt.hu ?_ (by omega))) (Nat.le_refl _)).1
end Go.Proofs.YtblhbafoncfhdaaGreatDoor

