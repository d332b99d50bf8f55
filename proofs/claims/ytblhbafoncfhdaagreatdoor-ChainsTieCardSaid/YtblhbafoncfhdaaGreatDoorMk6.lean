/- Contracts of functions of the program: each computes what its model says; the conditions stand at each. -/
import Derived.Test.YtblhbafoncfhdaaGreatDoorTc3
import Derived.Test.YtblhbafoncfhdaaGreatDoorMk3
set_option linter.unusedSimpArgs false
set_option linter.unusedVariables false
set_option maxRecDepth 20000
namespace Go.Proofs.YtblhbafoncfhdaaGreatDoor
open Go Go.Ab Go.Pm Go.Cm Go.El Go.Rm Go.Pp Go.Uf
variable (G : Nat → AV) (H : Nat → Option AObj)
section
variable {P : Program} {Hs : Nat → Option AObj} {K K' : St → Prop}
theorem naops_mono {G : Nat → AV} : ∀ (l : List (Bool × AOper)) (st : St), naops P G Hs l st K → (∀ st, K st → K' st) → naops P G Hs l st K'
 | [], st, h, hK => hK _ h
 | (f, x) :: l, st, h, hK => nop_mono h fun st1 h1 => naops_mono l st1 h1 hK
theorem faops_mono {G : Nat → AV} {x : AOper} : ∀ (l : List (Nat × Bool × AOper)) (st : St), faops P G Hs x l st K → (∀ st, K st → K' st) → faops P G Hs x l st K'
 | [], st, h, hK => nop_mono h hK
 | (t, f, y) :: l, st, h, hK => by
  rw [faops] at h ⊢
  split
  ·rename_i h0
   rw [if_pos h0] at h
   exact nop_mono h fun st1 h1 => faops_mono l st1 h1 hK
  ·rename_i h0
   rw [if_neg h0] at h
   split
   ·rename_i h1
    rw [if_pos h1] at h
    exact ⟨nop_mono h.1 fun st1 h2 => naops_mono _ st1 h2 hK, nop_mono h.2 fun st1 h2 => faops_mono l st1 h2 hK⟩
   ·rename_i h1
    rw [if_neg h1] at h
    exact nop_mono h fun st1 h2 => naops_mono _ st1 h2 hK
theorem xf_mono {G : Nat → AV} {x : AOper} {l : List (Nat × Bool × AOper)} {st : St} {u : Wit K} {u' : Wit K'} (h : xf P G Hs x K u l st) (hK : ∀ st, K st → K' st) : xf P G Hs x K' u' l st := faops_mono l st h hK
end
set_option maxHeartbeats 1600000 in
theorem cloneI_c (oid : Option Nat) (d : List Idn) (ho : ∀ o, oid = some o → H o = some ⟨55, 2, d.map Idn.c⟩ ∧ d ≠ []) (hn : oid = none → d = []) (hl : d.length ≤ 1000000) (n : Nat) : ACalls Tryz.prog G 34 [outAV oid d.length] H n fun r H' n' => ∃ oid', r = outAV oid' d.length ∧ OutIs n H' oid' 55 2 (d.map Idn.c) n' ∧ (∀ o, oid' = some o → d ≠ []) ∧ Ab.Sub H H' := by
 refine ACalls.start mix F34 (by simp) fun hlow => ?_
 have hq := Qt.refl hlow
 cases oid with
 | none =>
  have h0 := hn rfl
  subst h0
  have hout : ∀ x, outAV none x = .ls false [] := fun _ => rfl
  simp (disch := omega) only [↓wpre, push_cast, seval, c34, hout]
  exact fin_intro (Ab.Sub.refl _) ⟨none, rfl, rfl, fun o h => (by cases h), Ab.Sub.refl _⟩
 | some o =>
  obtain ⟨h1, h2⟩ := ho o rfl
  have hout : ∀ x, outAV (some o) x = .os o 0 x := fun _ => rfl
  have hon := hlow o _ h1
  have hon1 : o ≠ n := by omega
  simp (disch := omega) only [↓wpre, push_cast, seval, c34, hout]
  have hsrc : ∀ x, srcRows (hu H n (some x)) (.os o 0 d.length) = some (d.map Idn.c) := fun x => by
   simp only [srcRows, hu_ne hon1, h1]
   rw [if_pos (by simp), List.drop_zero, List.take_of_length_le (by simp)]
  have hdp := List.length_pos_iff.2 h2
  rw [xapp_src (ho := hu_same) (by simp) (hsrc _) (by have := even_ids d; simpa using this) (by simp; omega) (by simp; omega)]
  simp (disch := omega) only [↓wpre, push_cast, seval, true_and]
  refine fin_intro (Ab.Sub.refl _) ⟨some (n + 1), by simp [outAV], ⟨?_, by omega, by omega⟩, fun o' _ => h2, ((hq.1.hu hlow (Nat.le_refl _)).hu hlow (Nat.le_refl _)).hu hlow (by omega)⟩
  rw [hu_same]
end Go.Proofs.YtblhbafoncfhdaaGreatDoor
