/- Contracts of functions of the program: each computes what its model says; the conditions stand at each. -/
import Derived.Test.YtblhbafoncfhdaaGreatDoorMk4
set_option linter.unusedSimpArgs false
set_option linter.unusedVariables false
set_option maxRecDepth 20000
set_option pp.deepTerms false
set_option pp.deepTerms.threshold 3
namespace Go.Proofs.YtblhbafoncfhdaaGreatDoor
open Go Go.Ab Go.Pm Go.Cm Go.El Go.Rm Go.Pp Go.Uf
variable (G : Nat → AV) (H : Nat → Option AObj)












theorem frz_ls_p {D : Nat → Option AObj} {k : Nat} {nz : Bool} {rows : List (List AV)} (h : ∀ r ∈ rows, plain r = true) : frz D (k + 1) (.ls nz rows) = .ls nz rows := by
  simp only [frz, rows_plain h]
theorem tchs_frz {D : Nat → Option AObj} {k : Nat} (l : List Tch) : (l.map Tch.c).map (List.map (frz D (k + 1))) = l.map Tch.c := by
  rw [List.map_map]
  refine List.map_congr_left fun t _ => ?_
  show [frz D (k + 1) (.int t.no), frz D (k + 1) (.int t.at'), frz D (k + 1) (.str t.src), frz D (k + 1) (.ls t.nzi _), frz D (k + 1) (.ls t.nzf _)] = _
  rw [frz_lit, frz_lit, frz_lit, frz_ls_p (plain_idn _), frz_ls_p (plain_fld _)]
theorem rightTouches_c (hU : GU G) (hP : G 1 = .pp poolC) (nz : Bool) (l : List Int) (a many : Int) (i : Nat) (hi : H i = some (strm (LL nz l) a)) (ha : 0 ≤ a ∧ a ≤ 1099511620000) (hm : 1 ≤ many ∧ many ≤ 10) : SC G H 20 [.op i 0 0, .int many] i (LL nz l) a 1300 fun r => ∃ (b : Bool) (d : List Tch), r = .ls b (d.map Tch.c) ∧ TouchesOk d ∧ d.length ≤ 10 := by
  intro n
  refine low_of G H fun hlow => ACalls.frz (rightTouches_run G H hU hP nz l a many i hi ha hm n) ?_
  have hin := hlow i _ hi
  rintro r H1 n1 ⟨a', d, h1, h2, h3, h3', h4, ⟨h5, rfl⟩ | ⟨o, rfl, h5, h6, h7⟩⟩
  · exact ⟨fun _ => none, hu H i (some (strm (LL nz l) a')), 0, fun _ _ h => (by cases h), h4, fun _ _ h => (by cases h), a', h1, h2, rfl, false, d, by rw [h5]; rfl, h3, h3'⟩
  · refine ⟨Ab.only o ⟨53, 5, d.map Tch.c⟩, hu H i (some (strm (LL nz l) a')), 2, only_sub h5, h4, fun j x hj => ?_, a', h1, h2, rfl, true, d, ?_, h3, h3'⟩
    · unfold Ab.only at hj
      split at hj
      · rename_i e; subst e
        rw [hu_ne (by omega)]
        cases hx : H j with
        | none => rfl
        | some y => exact absurd (hlow j y hx) (by omega)
      · cases hj
    · simp only [frz, Ab.only, if_true, Nat.zero_add, List.length_map, Nat.le_refl, List.drop_zero]
      rw [List.take_of_length_le (by simp), tchs_frz]
end Go.Proofs.YtblhbafoncfhdaaGreatDoor

