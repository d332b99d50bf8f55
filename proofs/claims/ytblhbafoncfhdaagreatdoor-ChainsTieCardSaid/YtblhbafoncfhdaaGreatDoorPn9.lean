/- A closed fact about the program's text, checked in the kernel; no condition. -/
import Derived.Test.YtblhbafoncfhdaaGreatDoorN2
import Derived.Test.YtblhbafoncfhdaaGreatDoorTr2
import Derived.Test.YtblhbafoncfhdaaGreatDoorPn9j
namespace Go.Proofs.YtblhbafoncfhdaaGreatDoor
open Go Go.Ab Go.Pm Go.Cm
open Go.ChangeShapes Go.WideShapes Go.ChangeAt Go.RowKit Go.WideMaps Go.WideElems
set_option linter.unusedVariables false
theorem chainsTie_walk (W : World) (hL : laidMetH Tryz.prog laidL W) (hsh : W.ShapedOpen Tryz.prog) (l : List Int) (nz : Bool) (v : Value) (hv : Rep W g0 (LL nz l) v) : Calls Tryz.prog 9 #[v] W fun e w' => e = .returned (.bool true) ∧ Go.RowKit.Below W.heap.size W w' := by
 obtain ⟨m, hm⟩ := maxLen_at W hsh
 have he : Go.Ab.Enters Tryz.prog 9 := enters_of_b (by kernel_rfl)
 refine (calls_of_acalls he (chainsTie_c (theG m) noObj (theG_ok m) rfl nz l 0) (theG_rep hm hL) theG_fix ⟨v, [], rfl, hv, rfl⟩).mono fun e w' ⟨x, r, g', k1, k2, k3, k4⟩ => ⟨?_, k4⟩
 subst k2
 have k3 : x = .bool true := k3
 rw [k1, k3]
set_option maxRecDepth 100000 in
theorem chainsTie_lifted (os : Os) (started : os.Started) (H : Type) (enc : TypeId × Value → H) :
  ReturnsInHanded {} Tryz.checked os 9 .any ((OpenSpec.ofChange Rows.chainsTieSpec).preRow enc Tryz.prog Tryz.f9 [] false laidL) (Rows.chainsTieSpec.post enc Tryz.prog Tryz.f9 false true false false) := by
 refine returnsInHanded_of_row (C := Tryz.checked) (s := OpenSpec.ofChange Rows.chainsTieSpec) (F := fun _ _ _ => 0) own started (by kernel_rfl) Tryz.func9
  (ChangeSpec.witness_shaped (enc := enc) (C := Tryz.checked) (os := os) (X := fun w _ => laidMetH Tryz.prog laidL w) false (World.laidAll Tryz.prog os laidL) #[.slice none 0 0] 8 (World.laidAll_os _ _ _) (World.shaped_of_ZipB (by kernel_rfl) (by kernel_rfl)) (by kernel_rfl) (by kernel_rfl) (by kernel_rfl) (laid_met os _)) ?_
 intro W base args ds gs before hval0 hW hcnd _ _ hL hsh _
 have hval : ∀ (j : Nat) t v, Tryz.f9.params[j]? = some t → args[j]? = some v → Value.okWide Tryz.prog W .any base t v := hval0
 have hW' := hW
 obtain ⟨p, q, hA0, hV, rfl, hfz, hnd⟩ := hW
 have hA : DataW.TrodAll enc Tryz.prog W 0 (fun _ => true) true Tryz.f9.params.toList args.toList ds p := hA0
 rw [Tryz.params9] at hA hval
 obtain ⟨v0, vs0, d0, ds0, p0, q0, hargs, rfl, rfl, h0, r0⟩ := trodAll_cons hA
 obtain ⟨rfl, rfl, rfl⟩ := trodAll_nil r0
 obtain rfl : args = #[v0] := by cases args; simp_all
 obtain ⟨rfl, rfl⟩ := trodVars_none hV
 have hok := hval 0 22 v0 rfl rfl
 obtain ⟨a0, len0, cap0, rfl⟩ := okWide_slice Tryz.underlying22 hok
 have k0 := h0
 have lt0 : ∀ x ∈ p0, x.block < W.heap.size := by obtain ⟨m, hm⟩ := k0; exact DataW.trod_lt m _ _ _ hm
 obtain ⟨nz, l, hl⟩ : ∃ nz l, Rep W g0 (LL nz l) (.slice a0 len0 cap0) := by
  obtain ⟨fuel, hf⟩ := h0
  rcases open_ints Tryz.underlying22 Tryz.underlying3 (by kernel_rfl) hf with ⟨hcs, _⟩ | ⟨x, l, c, zs, hcs, _, hl, hm, hz, _, hcell, hwz⟩
  ·simp [Value.cells] at hcs
   obtain ⟨rfl, rfl, rfl⟩ := hcs
   exact ⟨false, [], rep_ints_nil⟩
  ·simp [Value.cells] at hcs
   obtain ⟨rfl, rfl, rfl⟩ := hcs
   have hs : x.spot = none := by
    simp only [Value.okWide, Tryz.underlying22, Cell.okWide, Cell.ok, World.has] at hok
    exact hok.2.2.2.1
   exact ⟨true, _, rep_ints hs hl hm (by simpa using hz) hcell⟩
 clear hA0 hval0
 refine (chainsTie_walk W hL hsh l nz _ hl).mono fun e W' ⟨he, bel⟩ => ?_
 subst he
 exact ⟨_, rfl, _, _, _, [], _, [], hW', trodAll_mk1 (shut_bool Tryz.underlying4 _), (trodAll_cons_mk (Below.trod laidOut (by kernel_rfl) (of_decide_eq_true (by kernel_rfl)) k0 bel lt0) trodAll_mk0), rfl, bel.frame _, fun h => by cases h⟩
set_option maxRecDepth 100000 in
theorem chainsTie_said : Rows.ChainsTieSaid :=
 OpenClaim.holds_of_wide 9 Tryz.f9 rfl rfl rfl rfl rfl rfl rfl ⟨rfl, rfl, rfl, rfl, rfl⟩ rfl rfl rfl rfl rfl (by kernel_rfl) Tryz.func9 chainsTie_jf_all
  (of_decide_eq_true (by kernel_rfl)) (by unfold Func.isWrapper; first | (rw [if_pos (by decide +kernel)]; kernel_rfl) | (rw [if_neg (by decide +kernel)]; exact ⟨rfl, rfl⟩))
  (fun os started H enc _ => by rw [OpenClaim.pre_eq_preRow]; exact chainsTie_lifted os started H enc)
end Go.Proofs.YtblhbafoncfhdaaGreatDoor
