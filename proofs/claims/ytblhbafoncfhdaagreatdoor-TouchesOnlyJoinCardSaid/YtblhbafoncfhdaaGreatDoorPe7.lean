/- Contracts of functions of the program: each computes what its model says; the conditions stand at each. -/
import Derived.Test.YtblhbafoncfhdaaGreatDoorP1
import Derived.Test.YtblhbafoncfhdaaGreatDoorA5
import Derived.Test.YtblhbafoncfhdaaGreatDoorPe6
set_option linter.unusedSimpArgs false
set_option linter.unusedVariables false
set_option maxRecDepth 20000
set_option pp.deepTerms false
set_option pp.deepTerms.threshold 3
namespace Go.Proofs.YtblhbafoncfhdaaGreatDoor
open Go Go.Ab Go.Pm Go.Cm Go.El Go.Rm Go.Pp Go.Uf
variable (G : Nat → AV) (H : Nat → Option AObj)





def rowP (J : Idn → Bool) (l : List Tch) (p : List Nat) (i : Nat) (nm : Nat → Nat → Nat) (k : Nat) : List AV :=
  [.int (Pp.keyOf J (tAt l k)).kind, .str (Pp.keyOf J (tAt l k)).text, .os (nm k 0) 0 (ofRoot p i k).length, .os (nm k 1) 0 (setOf (il l p i k)).length]
set_option maxHeartbeats 3200000 in
theorem persons_run (J : Idn → Bool) (l : List Tch) (p : List Nat) (i : Nat) (nm : Nat → Nat → Nat) (R : List Nat) (oid : Option Nat) (hsrc : Out2 H oid (R.map (rowF J l p i nm))) (hR : R.length ≤ 100000) (n : Nat) : ACalls Tryz.prog G 83 [outAV oid R.length] H n fun v H' n' => ∃ pid, v = outAV pid R.length ∧ OutIs n H' pid 64 4 (R.map (rowP J l p i nm)) n' ∧ (pid ≠ none → R ≠ []) ∧ Sub H H' := by
  refine ACalls.start mix F83 (by simp) fun hlow => ?_
  have hal : alen (outAV oid R.length) = some (.int R.length) := by
    cases oid with
    | none =>
      have h1 : R.map (rowF J l p i nm) = [] := hsrc
      have h1 : R = [] := by simpa using h1
      rw [h1]; rfl
    | some o => rfl
  simp -dsimp -implicitDefEqProofs (disch := omega) only [↓wpre, push_cast, seval, c83, hal]
  refine xw_loopJ (σ := List Nat × List Nat × Option Nat) (fun t => [(3, outAV t.2.2 t.1.length), (6, outAV oid R.length), (7, .int R.length), (8, .int t.1.length)]) (fun t H' n' => R = t.1 ++ t.2.1 ∧ OutIs n H' t.2.2 64 4 (t.1.map (rowP J l p i nm)) n' ∧ (t.2.2 ≠ none → t.1 ≠ []) ∧ Qt H H' n ∧ n ≤ n') (fun t => t.2.1.length) ([], R, none) ⟨rfl, rfl, fun h => absurd rfl h, .refl hlow, Nat.le_refl _⟩ (by simp -dsimp -implicitDefEqProofs (disch := omega) only [↓wpre, push_cast, seval, outAV]; try rfl) ?_
  rintro ⟨D, S, pid⟩ fr H' n1 ⟨hab, ho, hne, hq, hn⟩ hh
  simp only [has_nil, has_cons, and_true] at hh hab ho hne
  have hll : R.length = D.length + S.length := by rw [hab]; simp
  cases S with
  | nil =>
    have hlt : ¬ (D.length : Int) < R.length := by rw [hll]; simp
    simp -dsimp -implicitDefEqProofs (disch := omega) only [↓wpre, push_cast, seval, hh, hlt]
    have hDR : D = R := by rw [hab]; simp
    rw [hDR] at ho hne
    exact fin_intro (Sub.refl _) ⟨pid, by rw [hDR], ho, hne, hq.1⟩
  | cons x S =>
    have hlt : (D.length : Int) < R.length := by rw [hll]; simp only [List.length_cons]; omega
    obtain ⟨o, rfl⟩ : ∃ o, oid = some o := by
      cases oid with
      | none =>
        have h1 : R.map (rowF J l p i nm) = [] := hsrc
        rw [hab] at h1; simp at h1
      | some o => exact ⟨o, rfl⟩
    have ho1 : H' o = some ⟨147, 5, R.map (rowF J l p i nm)⟩ := hq.1 _ _ hsrc
    have hD0 : (0 : Int) ≤ D.length := by omega
    have hDn : D.length < R.length := by omega
    have gG : (R.map (rowF J l p i nm))[D.length]? = some [.int (Pp.keyOf J (tAt l x)).kind, .str (Pp.keyOf J (tAt l x)).text, .os (nm x 0) 0 (ofRoot p i x).length, .os (nm x 1) 0 (setOf (il l p i x)).length, .os (nm x 2) 0 (ofRoot p i x).length] := by
      rw [hab]; simp [rowF]
    have hout : outAV (some o) R.length = .os o 0 R.length := rfl
    simp -dsimp -implicitDefEqProofs (disch := omega) only [↓wpre, push_cast, seval, hh, hlt, hout, ho1, hD0, hDn, gG, Int.toNat_natCast]
    refine xapp_out (n0 := n) (rows := D.map (rowP J l p i nm)) (by (refine OutIs.mono (n := n1) ?_ (by omega); repeat (first | exact ho | refine OutIs.put ?_ (by omega) | refine OutIs.far ?_ (by omega)))) (by simp) (by intro r hr; simp at hr; subst hr; exact ⟨rfl, rfl⟩) (by simp; omega) ?_
    simp -dsimp -implicitDefEqProofs (disch := omega) only [↓wpre, push_cast, seval, hh]
    refine againJ (D ++ [x], S, some (n1 + 1)) (Nat.lt_succ_self _) ⟨by rw [hab]; simp, ?_, fun _ => by simp, ?_, by omega⟩ (by simp -dsimp -implicitDefEqProofs (disch := omega) only [↓wpre, push_cast, seval, hh, hout]; try simp [outAV])
    · dsimp only
      rw [List.map_append]
      exact OutIs.new (by omega)
    · exact (Qt.dropO (E := 64) (sz := 4) (rows := D.map (rowP J l p i nm)) (n := n1 + 1) (by (refine OutIs.mono (n := n1) ?_ (by omega); repeat (first | exact ho | refine OutIs.put ?_ (by omega) | refine OutIs.far ?_ (by omega)))) (by exact Qt.mono (n := n) (by repeat (first | exact hq | refine Qt.hu ?_ (by omega))) (by omega))).hu (by omega)
set_option maxHeartbeats 1600000 in
theorem allPersons_run {m : Int} {cs : List AV} (hG : G 4 = .pp (.lit (.int .i64 m) :: cs)) (hU : GU G) (r : Rls) (hr : RulesOk r) (nz : Bool) (l : List Tch) (h : TouchesOk l) (n : Nat) : ACalls Tryz.prog G 22 [.agg r.c, .ls nz (l.map Tch.c)] H n fun v H' n' => ∃ p pid nm, Parts (tie (joins r l) l) l.length p ∧ v = .tup [outAV pid (roots p l.length).length, .int 0] ∧ OutIs n H' pid 64 4 ((roots p l.length).map (rowP (joins r l) l p l.length nm)) n' ∧ (pid ≠ none → roots p l.length ≠ []) ∧ Mf H' l p nm (roots p l.length) [] n ∧ Ab.Sub H H' := by
  refine ACalls.start mix F22 (by simp) fun hlow => ?_
  simp -dsimp -implicitDefEqProofs (disch := omega) only [↓wpre, push_cast, seval, c22]
  refine AFn.x (checkBoth_ok G _ hG hU r hr nz l h) fun n1 hn1 => ?_
  simp -dsimp -implicitDefEqProofs (disch := omega) only [↓wpre, push_cast, seval]
  refine ACalls.x (ACalls.lowp (newGroup_c G _ r nz l h n1)) fun v H1 n2 ⟨⟨g, m, K, ob, e1, hg, hv, hs, hlt⟩, hn2, _⟩ => ?_
  subst e1
  simp -dsimp -implicitDefEqProofs (disch := omega) only [↓wpre, push_cast, seval]
  refine ACalls.x (ACalls.lowp (members_run G _ (⟨hg, hv, hlt, hr, h.few⟩ : Grp H1 g m r nz l K ob n2) h n2 (Nat.le_refl _))) fun v H2 n3 ⟨⟨p, oid, nm, hp, e1, ho, hmf, hs2⟩, hn3, _⟩ => ?_
  subst e1
  simp -dsimp -implicitDefEqProofs (disch := omega) only [↓wpre, push_cast, seval]
  have hRn : (roots p l.length).length ≤ l.length := by
    have h2 := List.length_filter_le (fun j => decide (par p j = j)) (List.range l.length)
    simpa [roots] using h2
  have hfew := h.few
  refine ACalls.x (persons_run G _ (joins r l) l p l.length nm _ oid ho (by omega) n3) fun v H3 n4 ⟨pid, e1, ho3, hne, hs3⟩ => ?_
  subst e1
  simp -dsimp -implicitDefEqProofs (disch := omega) only [↓wpre, push_cast, seval]
  refine fin_intro (Sub.refl _) ⟨p, pid, nm, hp, rfl, ?_, hne, ?_, (hs.trans hs2).trans hs3⟩
  · cases pid with
    | none => exact ho3
    | some o => exact ⟨ho3.1, by have := ho3.2.1; omega, ho3.2.2⟩
  · exact hmf.sub hs3 (by omega)
theorem frz0_map {D : Nat → Option AObj} (rows : List (List AV)) : rows.map (List.map (frz D 0)) = rows := by
  have : frz D 0 = id := funext fun v => by simp [frz]
  rw [this]; simp
def persV : List Per → AV
  | [] => .ls false []
  | p :: ps => .ls true ((p :: ps).map Per.c)
theorem rowP_frz {H1 D : Nat → Option AObj} {J : Idn → Bool} {l : List Tch} {p : List Nat} {nm : Nat → Nat → Nat} {R : List Nat} {n : Nat} (hmf : Mf H1 l p nm R [] n) (hD : ∀ j, n ≤ j → D j = H1 j) (k : Nat) (hk : k ∈ R) : (rowP J l p l.length nm k).map (frz D 1) = (perOf J l p k).c := by
  have hk' : k ∈ R ++ [] := by simpa using hk
  have h1 := hmf.t k hk'
  obtain ⟨jr, h2⟩ := hmf.jD k hk
  rw [← hD _ (hmf.low k hk' 0 (by omega))] at h1
  rw [← hD _ (hmf.low k hk' 1 (by omega))] at h2
  have e1 : frz D 1 (.os (nm k 0) 0 (ofRoot p l.length k).length) = .ls true (ints (tl l p l.length k)) := by
    simp only [frz, h1]
    rw [if_pos (by simp [ints, tl]), List.drop_zero, List.take_of_length_le (by simp [ints, tl])]
    congr 1
    exact frz0_map (D := D) _
  have e2 : frz D 1 (.os (nm k 1) 0 (setOf (il l p l.length k)).length) = .ls true ((setOf (il l p l.length k)).map Idn.c) := by
    simp only [frz, h2]
    rw [if_pos (by simp), List.drop_zero, List.take_append_of_le_length (by simp), List.take_of_length_le (by simp)]
    congr 1
    exact frz0_map (D := D) _
  unfold rowP
  simp only [List.map_cons, List.map_nil, e1, e2]
  rfl
theorem allPersons_c {m : Int} {cs : List AV} (hG : G 4 = .pp (.lit (.int .i64 m) :: cs)) (hU : GU G) (r : Rls) (hr : RulesOk r) (nz : Bool) (l : List Tch) (h : TouchesOk l) : AFn Tryz.prog G 22 [.agg r.c, .ls nz (l.map Tch.c)] H (.tup [persV (personsOf r l), .int 0]) := by
  intro n
  refine low_of G H fun hlow => ?_
  refine ACalls.frz (allPersons_run G H hG hU r hr nz l h n) ?_
  rintro v H1 n1 ⟨p, pid, nm, hp, rfl, ho, hne, hmf, hs⟩
  have hD : ∀ j, n ≤ j → (fun j => if n ≤ j then H1 j else none) j = H1 j := fun j hj => if_pos hj
  refine ⟨fun j => if n ≤ j then H1 j else none, H, 3, fun j o hj => ?_, hs, fun j o hj => ?_, ?_, rfl⟩
  · dsimp only at hj
    split at hj
    · exact hj
    · cases hj
  · dsimp only at hj
    split at hj
    · rename_i hn
      cases hH : H j with
      | none => rfl
      | some x => exact absurd (hlow j x hH) (by omega)
    · cases hj
  · have hper : personsOf r l = (roots p l.length).map (perOf (joins r l) l p) := by
      unfold personsOf persFrom
      rw [rootOf_eq hp]
    have key : ∀ k ∈ roots p l.length, _ := fun k hk => rowP_frz (J := joins r l) hmf hD k hk
    rw [hper]
    cases pid with
    | none =>
      have h0 : (roots p l.length).map (rowP (joins r l) l p l.length nm) = [] := ho
      have h0 : roots p l.length = [] := by simpa using h0
      rw [h0]
      rfl
    | some o =>
      have ho1 := ho.1
      rw [← hD o ho.2.1] at ho1
      have hfr : frz (fun j => if n ≤ j then H1 j else none) 2 (.os o 0 (roots p l.length).length) = .ls true (((roots p l.length).map (perOf (joins r l) l p)).map Per.c) := by
        simp only [frz, ho1]
        rw [if_pos (by simp), List.drop_zero, List.take_of_length_le (by simp), List.map_map, List.map_map]
        congr 1
        exact List.map_congr_left fun k hk => key k hk
      show AV.tup [frz _ 2 (.os o 0 (roots p l.length).length), frz _ 2 (.int 0)] = _
      rw [hfr]
      have hn0 := hne (by simp)
      cases hR : roots p l.length with
      | nil => exact absurd hR hn0
      | cons a b => rfl
end Go.Proofs.YtblhbafoncfhdaaGreatDoor

