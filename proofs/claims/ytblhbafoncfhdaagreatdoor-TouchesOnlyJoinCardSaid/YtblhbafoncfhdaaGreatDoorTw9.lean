/- Contracts of functions of the program: each computes what its model says; the conditions stand at each. -/
import Derived.Test.YtblhbafoncfhdaaGreatDoorA5
import Derived.Test.YtblhbafoncfhdaaGreatDoorTe3
set_option linter.unusedSimpArgs false
set_option linter.unusedVariables false
set_option maxRecDepth 20000
set_option pp.deepTerms false
set_option pp.deepTerms.threshold 3
namespace Go.Proofs.YtblhbafoncfhdaaGreatDoor
open Go Go.Ab Go.Pm Go.Cm
variable (G : Nat → AV) (H : Nat → Option AObj)
abbrev strm (L : AV) (a : Int) : AObj := ⟨25, 2, [[L, .int a]]⟩
abbrev LL (nz : Bool) (l : List Int) : AV := .ls nz (l.map fun x => [AV.int x])
/-- What a maker does: it takes at most K numbers of the stream, and gives what 'Pd' says. -/
def SC (f : FuncId) (args : List AV) (i : Nat) (L : AV) (a K : Int) (Pd : AV → Prop) : Prop :=
  ∀ n, ACalls Tryz.prog G f args H n fun r H' n' => ∃ a', a ≤ a' ∧ a' ≤ a + K ∧ H' = hu H i (some (strm L a')) ∧ Pd r
variable {G H}
theorem SC.x {f : FuncId} {args : List AV} {i : Nat} {L : AV} {a K : Int} {Pd : AV → Prop} (h : SC G H f args i L a K Pd) {n : Nat} {R' : AV → (Nat → Option AObj) → Nat → Prop} {u : Wit R'} (hR : ∀ r a' n', n ≤ n' → a ≤ a' → a' ≤ a + K → Pd r → R' r (hu H i (some (strm L a'))) n') : xcall Tryz.prog G R' u f args H n :=
  ((h n).le).x fun r H' n' ⟨⟨a', h1, h2, h3, h4⟩, h5⟩ => by subst h3; exact hR r a' n' h5 h1 h2 h4
variable (G H)
def below (x n : Int) : Int := if n < 1 then 0 else if x.tmod n < 0 then x.tmod n + n else x.tmod n
theorem below_in (x n : Int) (h : 1 ≤ n) : 0 ≤ below x n ∧ below x n < n := by
  have h1 := Int.tmod_lt_of_pos x (show 0 < n by omega)
  have h2 : -n < x.tmod n := by
    rcases Int.lt_or_le x 0 with hx | hx
    · have := Int.tmod_lt_of_pos (-x) (show 0 < n by omega)
      rw [Int.neg_tmod] at this
      omega
    · have := Int.tmod_nonneg n hx
      omega
  unfold below
  split <;> (try split) <;> omega
theorem below_c (x n : Int) (hn : -4611686018427387904 ≤ n ∧ n ≤ 4611686018427387904) : AFn Tryz.prog G 127 [.int x, .int n] H (.int (below x n)) := by
  refine AFn.start mix F127 (by simp) fun k hlow => ?_
  have h1 : ∀ h : 1 ≤ n, -n < x.tmod n ∧ x.tmod n < n := fun h => by
    have h1 := Int.tmod_lt_of_pos x (show 0 < n by omega)
    refine ⟨?_, h1⟩
    rcases Int.lt_or_le x 0 with hx | hx
    · have := Int.tmod_lt_of_pos (-x) (show 0 < n by omega)
      rw [Int.neg_tmod] at this
      omega
    · have := Int.tmod_nonneg n hx
      omega
  simp -dsimp -implicitDefEqProofs (disch := omega) only [↓wpre, push_cast, seval, c127]
  by_cases h : n < 1
  · simp -dsimp -implicitDefEqProofs (disch := omega) only [↓wpre, push_cast, seval, h]
    simp [below, h]
  have h2 := h1 (by omega)
  simp -dsimp -implicitDefEqProofs (disch := omega) only [↓wpre, push_cast, seval, h]
  repeat' (first | ((first | with_reducible refine cnd_ndec (fun hc => ?_) (fun hc => ?_) | with_reducible refine cnd_dec (fun hc => ?_) (fun hc => ?_) | with_reducible refine cnd_nb (fun hc => ?_) (fun hc => ?_) | with_reducible refine cnd_intro (fun hc => ?_) (fun hc => ?_)) <;> (first | (exfalso; omega) | (try simp -dsimp -implicitDefEqProofs (disch := omega) only [↓wpre, push_cast, seval, hc, true_and]))) | (with_reducible refine anyN_intro fun n' hn' => ?_; try simp -dsimp -implicitDefEqProofs (disch := omega) only [↓wpre, push_cast, seval, true_and]) | fail)
  all_goals (simp only [AV.lit.injEq, Value.int.injEq, true_and, below]; grind)
theorem next_c (nz : Bool) (l : List Int) (a m : Int) (i : Nat) (hi : H i = some (strm (LL nz l) a)) (ha : 0 ≤ a ∧ a ≤ 1099511627776) (hm : 1 ≤ m ∧ m ≤ 4611686018427387904) : SC G H 57 [.op i 0 0, .int m] i (LL nz l) a 1 fun r => ∃ k : Int, r = .int k ∧ 0 ≤ k ∧ k < m := by
  intro n
  refine ACalls.start mix F57 (by simp) fun hlow => ?_
  have hq := Qs.refl hi hlow
  simp -dsimp -implicitDefEqProofs (disch := omega) only [↓wpre, push_cast, seval, c57, hi]
  cases l with
  | nil =>
    simp -dsimp -implicitDefEqProofs (disch := omega) only [↓wpre, push_cast, seval, hi]
    refine (below_c G _ _ m ⟨by omega, by omega⟩).x fun n' hn' => ?_
    simp -dsimp -implicitDefEqProofs (disch := omega) only [↓wpre, push_cast, seval, hi]
    refine fin_intro (H' := hu H i (some (strm (LL nz ([])) (a + 1)))) (Qs.sub (n := n) (by (repeat (first | exact hq | refine Qs.put ?_ | refine Qs.new ?_ (by omega)))) (by simp -dsimp -implicitDefEqProofs (disch := omega) only [↓wpre, push_cast, seval, hq.2.2])) ⟨a + 1, by omega, by omega, rfl, _, rfl, below_in _ _ hm.1⟩
  | cons y l =>
    have hlen : (0 : Int) < (l.length : Int) + 1 := by omega
    have t1 := Int.tmod_nonneg ((l.length : Int) + 1) ha.1
    have t2 := Int.tmod_lt_of_pos a hlen
    obtain ⟨j, hj⟩ : ∃ j : Nat, a.tmod ((l.length : Int) + 1) = j := ⟨(a.tmod ((l.length : Int) + 1)).toNat, by omega⟩
    have hjl : j < (y :: l).length := by simp only [List.length_cons]; omega
    have hx := List.getElem?_eq_getElem hjl
    have he : a + 1 - 1 = a := by omega
    simp -dsimp -implicitDefEqProofs (disch := omega) only [↓wpre, push_cast, seval, hi]
    repeat' (first | ((first | with_reducible refine cnd_ndec (fun hc => ?_) (fun hc => ?_) | with_reducible refine cnd_dec (fun hc => ?_) (fun hc => ?_) | with_reducible refine cnd_nb (fun hc => ?_) (fun hc => ?_) | with_reducible refine cnd_intro (fun hc => ?_) (fun hc => ?_)) <;> (first | (exfalso; omega) | (try simp -dsimp -implicitDefEqProofs (disch := omega) only [↓wpre, push_cast, seval, hc, hi, even_ints', he, hj, aidx_at _ hx]))) | (with_reducible refine anyN_intro fun n' hn' => ?_; try simp -dsimp -implicitDefEqProofs (disch := omega) only [↓wpre, push_cast, seval, hi, even_ints', he, hj, aidx_at _ hx]) | (refine (below_c G _ _ _ ⟨by omega, by omega⟩).x fun n' hn' => ?_; simp -dsimp -implicitDefEqProofs (disch := omega) only [↓wpre, push_cast, seval, hi, even_ints', he, hj, aidx_at _ hx]))
    refine fin_intro (H' := hu H i (some (strm (LL nz (y :: l)) (a + 1)))) (Qs.sub (n := n) (by (repeat (first | exact hq | refine Qs.put ?_ | refine Qs.new ?_ (by omega)))) (by simp -dsimp -implicitDefEqProofs (disch := omega) only [↓wpre, push_cast, seval, hq.2.2])) ⟨a + 1, by omega, by omega, rfl, _, rfl, below_in _ _ hm.1⟩
theorem flip_c (nz : Bool) (l : List Int) (a m : Int) (i : Nat) (hi : H i = some (strm (LL nz l) a)) (ha : 0 ≤ a ∧ a ≤ 1099511627776) (hm : 1 ≤ m ∧ m ≤ 4611686018427387904) : SC G H 47 [.op i 0 0, .int m] i (LL nz l) a 1 fun r => ∃ k : Bool, r = .bool k := by
  intro n
  refine ACalls.start mix F47 (by simp) fun hlow => ?_
  have hq := Qs.refl hi hlow
  simp -dsimp -implicitDefEqProofs (disch := omega) only [↓wpre, push_cast, seval, c47]
  refine (next_c G H nz l a m i hi ha hm).x fun r a1 n1 hn1 h1 h2 h3 => ?_
  obtain ⟨k, rfl, h4, h5⟩ := h3
  simp -dsimp -implicitDefEqProofs (disch := omega) only [↓wpre, push_cast, seval, hi]
  refine fin_intro (H' := hu H i (some (strm (LL nz l) (a1)))) (Qs.sub (n := n) (by (repeat (first | exact hq | refine Qs.put ?_ | refine Qs.new ?_ (by omega)))) (by simp -dsimp -implicitDefEqProofs (disch := omega) only [↓wpre, push_cast, seval, hq.2.2])) ⟨a1, by omega, by omega, rfl, _, rfl⟩
theorem pick_c (nz nz' : Bool) (l : List Int) (a : Int) (i : Nat) (hi : H i = some (strm (LL nz l) a)) (ha : 0 ≤ a ∧ a ≤ 1099511627776) (s : List Int) (hs : s ≠ []) (hs2 : s.length ≤ 1000000) : SC G H 68 [.op i 0 0, LL nz' s] i (LL nz l) a 1 fun r => ∃ k : Int, r = .int k ∧ k ∈ s := by
  intro n
  refine ACalls.start mix F68 (by simp) fun hlow => ?_
  have hq := Qs.refl hi hlow
  have hsl : 0 < s.length := List.length_pos_iff.2 hs
  simp -dsimp -implicitDefEqProofs (disch := omega) only [↓wpre, push_cast, seval, c68]
  refine (next_c G H nz l a _ i hi ha ⟨by omega, by omega⟩).x fun r a1 n1 hn1 h1 h2 h3 => ?_
  obtain ⟨k, rfl, h4, h5⟩ := h3
  obtain ⟨j, rfl⟩ : ∃ j : Nat, k = j := ⟨k.toNat, by omega⟩
  have hx := List.getElem?_eq_getElem (l := s) (i := j) (by omega)
  simp -dsimp -implicitDefEqProofs (disch := omega) only [↓wpre, push_cast, seval, hi, even_ints', aidx_at _ hx]
  refine fin_intro (H' := hu H i (some (strm (LL nz l) (a1)))) (Qs.sub (n := n) (by (repeat (first | exact hq | refine Qs.put ?_ | refine Qs.new ?_ (by omega)))) (by simp -dsimp -implicitDefEqProofs (disch := omega) only [↓wpre, push_cast, seval, hq.2.2])) ⟨a1, by omega, by omega, rfl, _, rfl, List.getElem_mem _⟩
abbrev LS (nz : Bool) (l : List T) : AV := .ls nz (l.map fun x => [AV.str x])
theorem even_txts (l : List T) : Even 1 (l.map fun x => [AV.str x]) = True := eq_true fun r hr => by
  obtain ⟨s, _, rfl⟩ := List.mem_map.1 hr
  exact ⟨rfl, rfl⟩
theorem one_c (nz nz' : Bool) (l : List Int) (a : Int) (i : Nat) (hi : H i = some (strm (LL nz l) a)) (ha : 0 ≤ a ∧ a ≤ 1099511627776) (s : List T) (hs : s ≠ []) (hs2 : s.length ≤ 1000000) : SC G H 69 [.op i 0 0, LS nz' s] i (LL nz l) a 1 fun r => ∃ k : T, r = .str k ∧ k ∈ s := by
  intro n
  refine ACalls.start mix F69 (by simp) fun hlow => ?_
  have hq := Qs.refl hi hlow
  have hsl : 0 < s.length := List.length_pos_iff.2 hs
  simp -dsimp -implicitDefEqProofs (disch := omega) only [↓wpre, push_cast, seval, c69]
  refine (next_c G H nz l a _ i hi ha ⟨by omega, by omega⟩).x fun r a1 n1 hn1 h1 h2 h3 => ?_
  obtain ⟨k, rfl, h4, h5⟩ := h3
  obtain ⟨j, rfl⟩ : ∃ j : Nat, k = j := ⟨k.toNat, by omega⟩
  have hx := List.getElem?_eq_getElem (l := s) (i := j) (by omega)
  simp -dsimp -implicitDefEqProofs (disch := omega) only [↓wpre, push_cast, seval, hi, even_txts, aidx_at _ hx]
  refine fin_intro (H' := hu H i (some (strm (LL nz l) (a1)))) (Qs.sub (n := n) (by (repeat (first | exact hq | refine Qs.put ?_ | refine Qs.new ?_ (by omega)))) (by simp -dsimp -implicitDefEqProofs (disch := omega) only [↓wpre, push_cast, seval, hq.2.2])) ⟨a1, by omega, by omega, rfl, _, rfl, List.getElem_mem _⟩
theorem range_c (nz : Bool) (l : List Int) (a lo hi' : Int) (i : Nat) (hi : H i = some (strm (LL nz l) a)) (ha : 0 ≤ a ∧ a ≤ 1099511627776) (h0 : lo ≤ hi' ∧ -1099511627776 ≤ lo ∧ hi' ≤ 1099511627776) : SC G H 21 [.op i 0 0, .int lo, .int hi'] i (LL nz l) a 1 fun r => ∃ k : Int, r = .int k ∧ lo ≤ k ∧ k ≤ hi' := by
  intro n
  refine ACalls.start mix F21 (by simp) fun hlow => ?_
  have hq := Qs.refl hi hlow
  have h1 : ¬ hi' < lo := by omega
  simp -dsimp -implicitDefEqProofs (disch := omega) only [↓wpre, push_cast, seval, c21, h1]
  refine (next_c G H nz l a _ i hi ha ⟨by omega, by omega⟩).x fun r a1 n1 hn1 h1 h2 h3 => ?_
  obtain ⟨k, rfl, h4, h5⟩ := h3
  simp -dsimp -implicitDefEqProofs (disch := omega) only [↓wpre, push_cast, seval, hi]
  refine fin_intro (H' := hu H i (some (strm (LL nz l) (a1)))) (Qs.sub (n := n) (by (repeat (first | exact hq | refine Qs.put ?_ | refine Qs.new ?_ (by omega)))) (by simp -dsimp -implicitDefEqProofs (disch := omega) only [↓wpre, push_cast, seval, hq.2.2])) ⟨a1, by omega, by omega, rfl, _, rfl, by omega, by omega⟩
end Go.Proofs.YtblhbafoncfhdaaGreatDoor

