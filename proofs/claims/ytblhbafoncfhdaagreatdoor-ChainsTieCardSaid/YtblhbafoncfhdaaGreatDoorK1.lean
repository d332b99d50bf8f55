/- Contracts of functions of the program: each computes what its model says; the conditions stand at each. -/
import Derived.Test.YtblhbafoncfhdaaGreatDoorP1
import Derived.Test.YtblhbafoncfhdaaGreatDoorTc3
import Derived.Test.YtblhbafoncfhdaaGreatDoorB2
import Derived.Test.YtblhbafoncfhdaaGreatDoorMk6
import Derived.Test.YtblhbafoncfhdaaGreatDoorM2
import Derived.Test.YtblhbafoncfhdaaGreatDoorL1
set_option linter.unusedSimpArgs false
set_option linter.unusedVariables false
set_option maxRecDepth 20000
namespace Go.Proofs.YtblhbafoncfhdaaGreatDoor
open Go Go.Ab Go.Pm Go.Cm Go.El Go.Rm Go.Pp Go.Uf
variable (G : Nat → AV) (H : Nat → Option AObj)
theorem Grp.mono {H : Nat → Option AObj} {g m : Nat} {r : Rls} {nz : Bool} {l : List Tch} {K : List Idn} {ob : Idn → Nat} {N N' : Nat} (h : Grp H g m r nz l K ob N) (hn : N ≤ N') : Grp H g m r nz l K ob N' := ⟨h.row, h.hv.mono hn, by have := h.lt; omega, h.ok, h.few⟩
theorem Grp.skip {H H2 : Nat → Option AObj} {g m : Nat} {r : Rls} {nz : Bool} {l : List Tch} {K : List Idn} {ob : Idn → Nat} {N i : Nat} {o : AObj} (h : Grp H g m r nz l K ob N) (hi : H i = some o) (hE : o.E ≠ 152 ∧ o.E ≠ 300 ∧ o.E ≠ 3) (hk : ∀ j x, j < N → j ≠ i → H j = some x → H2 j = some x) : Grp H2 g m r nz l K ob N := by
 have ne : ∀ j (x : AObj), j < N → H j = some x → x.E = 152 ∨ x.E = 300 ∨ x.E = 3 → H2 j = some x := fun j x hl hj hx => hk j x hl (fun e => by
  subst e
  rw [hi] at hj
  cases hj
  obtain ⟨h1, h2, h3⟩ := hE
  rcases hx with hx | hx | hx
  ·exact h1 hx
  ·exact h2 hx
  ·exact h3 hx) hj
 exact ⟨ne _ _ h.lt h.row (.inl rfl), ⟨ne _ _ h.hv.low.1 h.hv.map (.inr (.inl rfl)), fun x hx => ne _ _ (h.hv.low.2 x hx) (h.hv.obj x hx) (.inr (.inr rfl)), h.hv.keys, h.hv.all, h.hv.inj, h.hv.low⟩, h.lt, h.ok, h.few⟩
theorem Mf.far {H H2 : Nat → Option AObj} {l : List Tch} {p : List Nat} {nm : Nat → Nat → Nat} {D S : List Nat} {n : Nat} (h : Mf H l p nm D S n) (hk : ∀ j x, n ≤ j → H j = some x → H2 j = some x) : Mf H2 l p nm D S n :=
 ⟨h.all, fun k hk' => hk _ _ (h.low k hk' 0 (by omega)) (h.t k hk'), fun k hk' => by obtain ⟨jr, hj⟩ := h.jD k hk'; exact ⟨jr, hk _ _ (h.low k (by simp [hk']) 1 (by omega)) hj⟩, fun k hk' => hk _ _ (h.low k (by simp [hk']) 1 (by omega)) (h.jS k hk'), fun k hk' => hk _ _ (h.low k hk' 2 (by omega)) (h.a k hk'), h.inj, h.low⟩
theorem sortA_c (wid : Option Nat) (W : List Idn) (n0 n : Nat) (ho : OutIs n0 H wid 55 2 (W.map Idn.c) n) (hl : W.length ≤ 1000000) : ACalls Tryz.prog G 35 [outAV wid W.length, .fn (.func 36) []] H n fun r H' n' => r = .tup [] ∧ ∃ W', SortedI W W' ∧ W'.length = W.length ∧ OutIs n0 H' wid 55 2 (W'.map Idn.c) n ∧ ∀ j, wid ≠ some j → H' j = H j := by
 cases wid with
 | none =>
  have h0 : W.map Idn.c = [] := ho
  have h0 : W = [] := by simpa using h0
  subst h0
  exact (sortNilG_c G H (.fn (.func 36) []) n).mono fun r H' n' ⟨h1, h2⟩ => ⟨h1, [], ⟨List.Perm.refl _, .nil⟩, rfl, rfl, fun j _ => by rw [h2]⟩
 | some o =>
  exact (sortI_c G H W [] o (by rw [List.append_nil]; exact ho.1) hl n).mono fun r H' n' ⟨h1, W', h2, h3, h4⟩ => ⟨h1, W', h2, h3, ⟨by rw [h4, hu_same, List.append_nil], ho.2.1, ho.2.2⟩, fun j hj => by rw [h4]; exact hu_ne (fun e => hj (by rw [e]))⟩
theorem Hv.skip {H H2 : Nat → Option AObj} {m : Nat} {f : Idn → List Nat} {K : List Idn} {ob : Idn → Nat} {N i : Nat} {o : AObj} (h : Hv H m f K ob N) (hi : H i = some o) (hE : o.E ≠ 300 ∧ o.E ≠ 3) (hk : ∀ j x, j < N → j ≠ i → H j = some x → H2 j = some x) : Hv H2 m f K ob N := by
 have ne : ∀ j (x : AObj), j < N → H j = some x → x.E = 300 ∨ x.E = 3 → H2 j = some x := fun j x hl hj hx => hk j x hl (fun e => by
  subst e
  rw [hi] at hj
  cases hj
  rcases hx with hx | hx
  ·exact hE.1 hx
  ·exact hE.2 hx) hj
 exact ⟨ne _ _ h.low.1 h.map (.inl rfl), fun x hx => ne _ _ (h.low.2 x hx) (h.obj x hx) (.inr rfl), h.keys, h.all, h.inj, h.low⟩
theorem setOf_len : ∀ l : List Idn, (setOf l).length ≤ l.length
 | [] => Nat.le_refl _
 | x :: l => by
  have h1 := setOf_len l
  have h2 : ∀ m : List Idn, (insId x m).length ≤ m.length + 1 := fun m => by
   induction m with
   | nil => simp [insId]
   | cons y m ih =>
    unfold insId
    split
    ·simp
    ·split
     ·simp
     ·simp only [List.length_cons]; omega
  have h3 := h2 (setOf l)
  show (insId x (setOf l)).length ≤ _
  rw [List.length_cons]; omega
theorem frz1_id {D : Nat → Option AObj} (rows : List (List AV)) : rows.map (List.map (frz D 0)) = rows := frz0_map rows
theorem frz1_os {D : Nat → Option AObj} {i len : Nat} {o : AObj} (h : D i = some o) (hl : len = o.rows.length) : frz D 1 (.os i 0 len) = .ls true o.rows := by
 subst hl
 simp only [frz, h]
 rw [if_pos (by omega), List.drop_zero, List.take_length]
 congr 1
 exact frz1_id (D := D) _
theorem frz1_take {D : Nat → Option AObj} {i len : Nat} {o : AObj} (h : D i = some o) (hl : len ≤ o.rows.length) : frz D 1 (.os i 0 len) = .ls true (o.rows.take len) := by
 simp only [frz, h]
 rw [if_pos (by omega), List.drop_zero]
 congr 1
 exact frz1_id (D := D) _
/-! Cuts, handed back as what is only read. -/
def idsV (l : List Idn) : AV := .ls (decide (l ≠ [])) (l.map Idn.c)
theorem tAt_mem {l : List Tch} {i : Nat} (h : i < l.length) : tAt l i ∈ l := by rw [tAt_get (List.getElem?_eq_getElem h)]; exact List.getElem_mem h
theorem frz_oids {D : Nat → Option AObj} {cid : Option Nat} {l : List Idn} (h : ∀ o, cid = some o → D o = some ⟨55, 2, l.map Idn.c⟩) (h0 : cid = none → l = []) (hne : cid ≠ none → l ≠ []) : frz D 1 (outAV cid l.length) = idsV l := by
 cases cid with
 | none => rw [h0 rfl]; rfl
 | some o =>
  refine (frz1_os (h o rfl) (by simp)).trans ?_
  rw [idsV, decide_eq_true (hne (by simp))]
end Go.Proofs.YtblhbafoncfhdaaGreatDoor
