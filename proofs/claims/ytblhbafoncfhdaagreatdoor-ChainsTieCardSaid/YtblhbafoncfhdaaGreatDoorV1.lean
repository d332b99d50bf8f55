/- Contracts of functions of the program: each computes what its model says; the conditions stand at each. -/
import Derived.Test.YtblhbafoncfhdaaGreatDoorA5
import Derived.Test.YtblhbafoncfhdaaGreatDoorTe3
set_option linter.unusedSimpArgs false
set_option linter.unusedVariables false
set_option maxRecDepth 20000
namespace Go.Proofs.YtblhbafoncfhdaaGreatDoor
open Go Go.Ab Go.Pm Go.Cm
variable (G : Nat → AV) (H : Nat → Option AObj)
abbrev strm (L : AV) (a : Int) : AObj := ⟨25, 2, [[L, .int a]]⟩
abbrev LL (nz : Bool) (l : List Int) : AV := .ls nz (l.map fun x => [AV.int x])
def SC (f : FuncId) (args : List AV) (i : Nat) (L : AV) (a K : Int) (Pd : AV → Prop) : Prop :=
 ∀ n, ACalls Tryz.prog G f args H n fun r H' n' => ∃ a', a ≤ a' ∧ a' ≤ a + K ∧ H' = hu H i (some (strm L a')) ∧ Pd r
variable {G H}
theorem SC.x {f : FuncId} {args : List AV} {i : Nat} {L : AV} {a K : Int} {Pd : AV → Prop} (h : SC G H f args i L a K Pd) {n : Nat} {R' : AV → (Nat → Option AObj) → Nat → Prop} {u : Wit R'} (hR : ∀ r a' n', n ≤ n' → a ≤ a' → a' ≤ a + K → Pd r → R' r (hu H i (some (strm L a'))) n') : xcall Tryz.prog G R' u f args H n :=
 ((h n).le).x fun r H' n' ⟨⟨a', h1, h2, h3, h4⟩, h5⟩ => by subst h3; exact hR r a' n' h5 h1 h2 h4
variable (G H)
def below (x n : Int) : Int := if n < 1 then 0 else if x.tmod n < 0 then x.tmod n + n else x.tmod n
theorem below_in (x n : Int) (h : 1 ≤ n) : 0 ≤ below x n ∧ below x n < n := by
 have h1 := Int.tmod_lt_of_pos x (show 0 < n by omega)
 have h2 : -n < x.tmod n := by
  rcases Int.lt_or_le x 0 with hx | hx
  ·have := Int.tmod_lt_of_pos (-x) (show 0 < n by omega)
   rw [Int.neg_tmod] at this
   omega
  ·have := Int.tmod_nonneg n hx
   omega
 unfold below
 split <;> (try split) <;> omega
theorem below_c (x n : Int) (hn : -4611686018427387904 ≤ n ∧ n ≤ 4611686018427387904) : AFn Tryz.prog G 127 [.int x, .int n] H (.int (below x n)) := by
 refine AFn.start mix F127 (by simp) fun k hlow => ?_
 have h1 : ∀ h : 1 ≤ n, -n < x.tmod n ∧ x.tmod n < n := fun h => by
  have h1 := Int.tmod_lt_of_pos x (show 0 < n by omega)
  refine ⟨?_, h1⟩
  rcases Int.lt_or_le x 0 with hx | hx
  ·have := Int.tmod_lt_of_pos (-x) (show 0 < n by omega)
   rw [Int.neg_tmod] at this
   omega
  ·have := Int.tmod_nonneg n hx
   omega
 simp (disch := omega) only [↓wpre, push_cast, seval, c127]
 by_cases h : n < 1
 ·simp (disch := omega) only [↓wpre, push_cast, seval, h]
  simp [below, h]
 have h2 := h1 (by omega)
 simp (disch := omega) only [↓wpre, push_cast, seval, h]
 repeat' (first | ((first | with_reducible refine cnd_ndec (fun hc => ?_) (fun hc => ?_) | with_reducible refine cnd_dec (fun hc => ?_) (fun hc => ?_) | with_reducible refine cnd_nb (fun hc => ?_) (fun hc => ?_) | with_reducible refine cnd_intro (fun hc => ?_) (fun hc => ?_)) <;> (first | (exfalso; omega) | (try simp (disch := omega) only [↓wpre, push_cast, seval, hc, true_and]))) | (with_reducible refine anyN_intro fun n' hn' => ?_; try simp (disch := omega) only [↓wpre, push_cast, seval, true_and]) | fail)
 all_goals (simp only [AV.lit.injEq, Value.int.injEq, true_and, below]; grind)
theorem next_c (nz : Bool) (l : List Int) (a m : Int) (i : Nat) (hi : H i = some (strm (LL nz l) a)) (ha : 0 ≤ a ∧ a ≤ 1099511627776) (hm : 1 ≤ m ∧ m ≤ 4611686018427387904) : SC G H 57 [.op i 0 0, .int m] i (LL nz l) a 1 fun r => ∃ k : Int, r = .int k ∧ 0 ≤ k ∧ k < m := by
 intro n
 refine ACalls.start mix F57 (by simp) fun hlow => ?_
 have hq := Qs.refl hi hlow
 simp (disch := omega) only [↓wpre, push_cast, seval, c57, hi]
 cases l with
 | nil =>
  simp (disch := omega) only [↓wpre, push_cast, seval, hi]
  refine (below_c G _ _ m ⟨by omega, by omega⟩).x fun n' hn' => ?_
  simp (disch := omega) only [↓wpre, push_cast, seval, hi]
  refine fin_intro (H' := hu H i (some (strm (LL nz ([])) (a + 1)))) (Qs.sub (n := n) (by (repeat (first | exact hq | refine Qs.put ?_ | refine Qs.new ?_ (by omega)))) (by simp (disch := omega) only [↓wpre, push_cast, seval, hq.2.2])) ⟨a + 1, by omega, by omega, rfl, _, rfl, below_in _ _ hm.1⟩
 | cons y l =>
  have hlen : (0 : Int) < (l.length : Int) + 1 := by omega
  have t1 := Int.tmod_nonneg ((l.length : Int) + 1) ha.1
  have t2 := Int.tmod_lt_of_pos a hlen
  obtain ⟨j, hj⟩ : ∃ j : Nat, a.tmod ((l.length : Int) + 1) = j := ⟨(a.tmod ((l.length : Int) + 1)).toNat, by omega⟩
  have hjl : j < (y :: l).length := by simp only [List.length_cons]; omega
  have hx := List.getElem?_eq_getElem hjl
  have he : a + 1 - 1 = a := by omega
  simp (disch := omega) only [↓wpre, push_cast, seval, hi]
  repeat' (first | ((first | with_reducible refine cnd_ndec (fun hc => ?_) (fun hc => ?_) | with_reducible refine cnd_dec (fun hc => ?_) (fun hc => ?_) | with_reducible refine cnd_nb (fun hc => ?_) (fun hc => ?_) | with_reducible refine cnd_intro (fun hc => ?_) (fun hc => ?_)) <;> (first | (exfalso; omega) | (try simp (disch := omega) only [↓wpre, push_cast, seval, hc, hi, even_ints', he, hj, aidx_at _ hx]))) | (with_reducible refine anyN_intro fun n' hn' => ?_; try simp (disch := omega) only [↓wpre, push_cast, seval, hi, even_ints', he, hj, aidx_at _ hx]) | (refine (below_c G _ _ _ ⟨by omega, by omega⟩).x fun n' hn' => ?_; simp (disch := omega) only [↓wpre, push_cast, seval, hi, even_ints', he, hj, aidx_at _ hx]))
  refine fin_intro (H' := hu H i (some (strm (LL nz (y :: l)) (a + 1)))) (Qs.sub (n := n) (by (repeat (first | exact hq | refine Qs.put ?_ | refine Qs.new ?_ (by omega)))) (by simp (disch := omega) only [↓wpre, push_cast, seval, hq.2.2])) ⟨a + 1, by omega, by omega, rfl, _, rfl, below_in _ _ hm.1⟩
theorem flip_c (nz : Bool) (l : List Int) (a m : Int) (i : Nat) (hi : H i = some (strm (LL nz l) a)) (ha : 0 ≤ a ∧ a ≤ 1099511627776) (hm : 1 ≤ m ∧ m ≤ 4611686018427387904) : SC G H 47 [.op i 0 0, .int m] i (LL nz l) a 1 fun r => ∃ k : Bool, r = .bool k := by
 intro n
 refine ACalls.start mix F47 (by simp) fun hlow => ?_
 have hq := Qs.refl hi hlow
 simp (disch := omega) only [↓wpre, push_cast, seval, c47]
 refine (next_c G H nz l a m i hi ha hm).x fun r a1 n1 hn1 h1 h2 h3 => ?_
 obtain ⟨k, rfl, h4, h5⟩ := h3
 simp (disch := omega) only [↓wpre, push_cast, seval, hi]
 refine fin_intro (H' := hu H i (some (strm (LL nz l) (a1)))) (Qs.sub (n := n) (by (repeat (first | exact hq | refine Qs.put ?_ | refine Qs.new ?_ (by omega)))) (by simp (disch := omega) only [↓wpre, push_cast, seval, hq.2.2])) ⟨a1, by omega, by omega, rfl, _, rfl⟩
theorem pick_c (nz nz' : Bool) (l : List Int) (a : Int) (i : Nat) (hi : H i = some (strm (LL nz l) a)) (ha : 0 ≤ a ∧ a ≤ 1099511627776) (s : List Int) (hs : s ≠ []) (hs2 : s.length ≤ 1000000) : SC G H 68 [.op i 0 0, LL nz' s] i (LL nz l) a 1 fun r => ∃ k : Int, r = .int k ∧ k ∈ s := by
 intro n
 refine ACalls.start mix F68 (by simp) fun hlow => ?_
 have hq := Qs.refl hi hlow
 have hsl : 0 < s.length := List.length_pos_iff.2 hs
 simp (disch := omega) only [↓wpre, push_cast, seval, c68]
 refine (next_c G H nz l a _ i hi ha ⟨by omega, by omega⟩).x fun r a1 n1 hn1 h1 h2 h3 => ?_
 obtain ⟨k, rfl, h4, h5⟩ := h3
 obtain ⟨j, rfl⟩ : ∃ j : Nat, k = j := ⟨k.toNat, by omega⟩
 have hx := List.getElem?_eq_getElem (l := s) (i := j) (by omega)
 simp (disch := omega) only [↓wpre, push_cast, seval, hi, even_ints', aidx_at _ hx]
 refine fin_intro (H' := hu H i (some (strm (LL nz l) (a1)))) (Qs.sub (n := n) (by (repeat (first | exact hq | refine Qs.put ?_ | refine Qs.new ?_ (by omega)))) (by simp (disch := omega) only [↓wpre, push_cast, seval, hq.2.2])) ⟨a1, by omega, by omega, rfl, _, rfl, List.getElem_mem _⟩
abbrev LS (nz : Bool) (l : List T) : AV := .ls nz (l.map fun x => [AV.str x])
theorem even_txts (l : List T) : Even 1 (l.map fun x => [AV.str x]) = True := eq_true fun r hr => by
 obtain ⟨s, _, rfl⟩ := List.mem_map.1 hr
 exact ⟨rfl, rfl⟩
theorem one_c (nz nz' : Bool) (l : List Int) (a : Int) (i : Nat) (hi : H i = some (strm (LL nz l) a)) (ha : 0 ≤ a ∧ a ≤ 1099511627776) (s : List T) (hs : s ≠ []) (hs2 : s.length ≤ 1000000) : SC G H 69 [.op i 0 0, LS nz' s] i (LL nz l) a 1 fun r => ∃ k : T, r = .str k ∧ k ∈ s := by
 intro n
 refine ACalls.start mix F69 (by simp) fun hlow => ?_
 have hq := Qs.refl hi hlow
 have hsl : 0 < s.length := List.length_pos_iff.2 hs
 simp (disch := omega) only [↓wpre, push_cast, seval, c69]
 refine (next_c G H nz l a _ i hi ha ⟨by omega, by omega⟩).x fun r a1 n1 hn1 h1 h2 h3 => ?_
 obtain ⟨k, rfl, h4, h5⟩ := h3
 obtain ⟨j, rfl⟩ : ∃ j : Nat, k = j := ⟨k.toNat, by omega⟩
 have hx := List.getElem?_eq_getElem (l := s) (i := j) (by omega)
 simp (disch := omega) only [↓wpre, push_cast, seval, hi, even_txts, aidx_at _ hx]
 refine fin_intro (H' := hu H i (some (strm (LL nz l) (a1)))) (Qs.sub (n := n) (by (repeat (first | exact hq | refine Qs.put ?_ | refine Qs.new ?_ (by omega)))) (by simp (disch := omega) only [↓wpre, push_cast, seval, hq.2.2])) ⟨a1, by omega, by omega, rfl, _, rfl, List.getElem_mem _⟩
theorem range_c (nz : Bool) (l : List Int) (a lo hi' : Int) (i : Nat) (hi : H i = some (strm (LL nz l) a)) (ha : 0 ≤ a ∧ a ≤ 1099511627776) (h0 : lo ≤ hi' ∧ -1099511627776 ≤ lo ∧ hi' ≤ 1099511627776) : SC G H 21 [.op i 0 0, .int lo, .int hi'] i (LL nz l) a 1 fun r => ∃ k : Int, r = .int k ∧ lo ≤ k ∧ k ≤ hi' := by
 intro n
 refine ACalls.start mix F21 (by simp) fun hlow => ?_
 have hq := Qs.refl hi hlow
 have h1 : ¬ hi' < lo := by omega
 simp (disch := omega) only [↓wpre, push_cast, seval, c21, h1]
 refine (next_c G H nz l a _ i hi ha ⟨by omega, by omega⟩).x fun r a1 n1 hn1 h1 h2 h3 => ?_
 obtain ⟨k, rfl, h4, h5⟩ := h3
 simp (disch := omega) only [↓wpre, push_cast, seval, hi]
 refine fin_intro (H' := hu H i (some (strm (LL nz l) (a1)))) (Qs.sub (n := n) (by (repeat (first | exact hq | refine Qs.put ?_ | refine Qs.new ?_ (by omega)))) (by simp (disch := omega) only [↓wpre, push_cast, seval, hq.2.2])) ⟨a1, by omega, by omega, rfl, _, rfl, by omega, by omega⟩
end Go.Proofs.YtblhbafoncfhdaaGreatDoor
namespace Go.Proofs.YtblhbafoncfhdaaGreatDoor
open Go Go.Ab Go.Pm Go.Cm
variable (G : Nat → AV) (H : Nat → Option AObj)
def pool : List Idn := [⟨1, ⟨#[97, 64, 98, 46, 100, 101]⟩⟩, ⟨1, ⟨#[97, 110, 110, 46, 98, 64, 120, 45, 121, 46, 111, 114, 103]⟩⟩, ⟨1, ⟨#[98, 111, 98, 95, 49, 64, 98, 46, 100, 101]⟩⟩, ⟨1, ⟨#[122, 45, 64, 48, 46, 97]⟩⟩, ⟨2, ⟨#[43, 52, 57, 51, 48, 49, 50, 51, 52, 53, 54]⟩⟩, ⟨2, ⟨#[43, 49, 53, 53, 53, 48, 48, 48, 49, 49, 49]⟩⟩, ⟨3, ⟨#[65, 66, 49, 51]⟩⟩, ⟨3, ⟨#[48, 48, 48, 48, 48, 48, 48, 48, 48, 48, 48, 48, 48, 48, 48, 48, 48, 48, 48, 48]⟩⟩, ⟨4, ⟨#[48, 49, 50, 51, 52, 53, 54, 55, 56, 57, 97, 98, 99, 100, 101, 102, 48, 49, 50, 51, 52, 53, 54, 55, 56, 57, 97, 98, 99, 100, 101, 102]⟩⟩, ⟨4, ⟨#[102, 102, 102, 102, 102, 102, 102, 102, 102, 102, 102, 102, 102, 102, 102, 102, 102, 102, 102, 102, 102, 102, 102, 102, 102, 102, 102, 102, 102, 102, 102, 102]⟩⟩]
def poolC : List AV := pool.flatMap Idn.c
def fldNames : List T := [⟨#[97, 103, 101]⟩, ⟨#[99, 105, 116, 121]⟩, ⟨#[106, 111, 105, 110, 101, 100]⟩, ⟨#[110, 97, 109, 101]⟩, ⟨#[112, 108, 97, 110]⟩, ⟨#[118, 105, 112]⟩]
structure GOk (G : Nat → AV) : Prop where
 maxLen : ∃ m cs, G 4 = .pp (.lit (.int .i64 m) :: cs)
 fields : G 0 = .pp (fldNames.map .str)
 ns : ¬ Strict G
theorem pool_at (k : Int) (h0 : 0 ≤ k) (h1 : k < 10) : ∃ x ∈ pool, ∃ rest, poolC.drop (k.toNat * 2) = .int x.kind :: .str x.text :: rest := by
 have : k = 0 ∨ k = 1 ∨ k = 2 ∨ k = 3 ∨ k = 4 ∨ k = 5 ∨ k = 6 ∨ k = 7 ∨ k = 8 ∨ k = 9 := by omega
 rcases this with rfl | rfl | rfl | rfl | rfl | rfl | rfl | rfl | rfl | rfl
 ·exact ⟨pool[0], List.getElem_mem _, _, rfl⟩
 ·exact ⟨pool[1], List.getElem_mem _, _, rfl⟩
 ·exact ⟨pool[2], List.getElem_mem _, _, rfl⟩
 ·exact ⟨pool[3], List.getElem_mem _, _, rfl⟩
 ·exact ⟨pool[4], List.getElem_mem _, _, rfl⟩
 ·exact ⟨pool[5], List.getElem_mem _, _, rfl⟩
 ·exact ⟨pool[6], List.getElem_mem _, _, rfl⟩
 ·exact ⟨pool[7], List.getElem_mem _, _, rfl⟩
 ·exact ⟨pool[8], List.getElem_mem _, _, rfl⟩
 ·exact ⟨pool[9], List.getElem_mem _, _, rfl⟩
theorem odd_c (nz : Bool) (l : List Int) (a lo hi' : Int) (i : Nat) (hi : H i = some (strm (LL nz l) a)) (ha : 0 ≤ a ∧ a ≤ 1099511627000) (h0 : lo ≤ hi' ∧ -1099511627776 ≤ lo ∧ hi' ≤ 1099511627776) : SC G H 70 [.op i 0 0, .int lo, .int hi'] i (LL nz l) a 2 fun r => ∃ k : Int, r = .int k ∧ -1099511627777 ≤ k ∧ k ≤ 1099511627777 := by
 intro n
 refine ACalls.start mix F70 (by simp) fun hlow => ?_
 have hq := Qs.refl hi hlow
 simp (disch := omega) only [↓wpre, push_cast, seval, c70]
 refine (flip_c G _ nz l a 12 i hi ⟨ha.1, by omega⟩ (by omega)).x fun r a1 n1 hn1 h1 h2 h3 => ?_
 obtain ⟨k, rfl⟩ := h3
 simp (disch := omega) only [↓wpre, push_cast, seval, hi]
 (first | with_reducible refine cnd_ndec (fun hc => ?_) (fun hc => ?_) | with_reducible refine cnd_dec (fun hc => ?_) (fun hc => ?_) | with_reducible refine cnd_nb (fun hc => ?_) (fun hc => ?_) | with_reducible refine cnd_intro (fun hc => ?_) (fun hc => ?_)) <;> (first | (exfalso; omega) | (try simp (disch := omega) only [↓wpre, push_cast, seval, hc, true_and]))
 ·refine (pick_c G _ nz true l a1 i hu_same ⟨by omega, by omega⟩ [lo - 1, hi' + 1, lo, hi', -1099511627776, 1099511627776] (by simp) (by simp)).x fun r a2 n2 hn2 h1' h2' h3 => ?_
  obtain ⟨k, rfl, h4⟩ := h3
  simp only [List.mem_cons, List.not_mem_nil, or_false] at h4
  simp (disch := omega) only [↓wpre, push_cast, seval, hi, hu_hu]
  refine fin_intro (H' := hu H i (some (strm (LL nz l) (a2)))) (Qs.sub (n := n) (by (repeat (first | exact hq | refine Qs.put ?_ | refine Qs.new ?_ (by omega)))) (by simp (disch := omega) only [↓wpre, push_cast, seval, hq.2.2])) ⟨a2, by omega, by omega, rfl, _, rfl, by omega, by omega⟩
 ·refine (range_c G _ nz l a1 lo hi' i hu_same ⟨by omega, by omega⟩ h0).x fun r a2 n2 hn2 h1' h2' h3 => ?_
  obtain ⟨k, rfl, h4⟩ := h3
  simp (disch := omega) only [↓wpre, push_cast, seval, hi, hu_hu]
  refine fin_intro (H' := hu H i (some (strm (LL nz l) (a2)))) (Qs.sub (n := n) (by (repeat (first | exact hq | refine Qs.put ?_ | refine Qs.new ?_ (by omega)))) (by simp (disch := omega) only [↓wpre, push_cast, seval, hq.2.2])) ⟨a2, by omega, by omega, rfl, _, rfl, by omega, by omega⟩
theorem encode_size (n : Int) : (Utf8.encode n).size ≤ 4 := by
 unfold Utf8.encode
 simp only
 generalize (if Utf8.valid n = true then n.toNat else Utf8.runeError) = c
 split
 ·exact Nat.le_add_left 1 3
 ·split
  ·exact Nat.le_add_left 2 2
  ·split
   ·exact Nat.le_add_left 3 1
   ·exact Nat.le_refl 4
theorem size_pos {t : T} (h : ¬ t = ⟨#[]⟩) : 0 < t.size := by
 rcases Nat.eq_zero_or_pos t.size with h0 | h0
 ·exfalso; apply h
  obtain ⟨⟨x⟩⟩ := t
  cases x with
  | nil => rfl
  | cons y r => simp [ByteArray.size] at h0
 ·exact h0
theorem changed_c (nz : Bool) (l : List Int) (a : Int) (t w : T) (i : Nat) (hi : H i = some (strm (LL nz l) a)) (ha : 0 ≤ a ∧ a ≤ 1099511627000) (ht : t.size ≤ 100000 ∧ w.size ≤ 100000) : SC G H 88 [.op i 0 0, .str t, .str w] i (LL nz l) a 3 fun r => ∃ k : T, r = .str k ∧ k.size ≤ t.size + w.size + 4 := by
 intro n
 refine ACalls.start mix F88 (by simp) fun hlow => ?_
 have hq := Qs.refl hi hlow
 simp (disch := omega) only [↓wpre, push_cast, seval, c88]
 by_cases h1 : t = ⟨#[]⟩
 ·simp (disch := omega) only [↓wpre, push_cast, seval, h1]
  refine fin_intro (H' := hu H i (some (strm (LL nz l) (a)))) (Qs.sub (n := n) (by (repeat (first | exact hq | refine Qs.put ?_ | refine Qs.new ?_ (by omega)))) hi) ⟨a, by omega, by omega, rfl, _, rfl, by omega⟩
 by_cases h2 : w = ⟨#[]⟩
 ·simp (disch := omega) only [↓wpre, push_cast, seval, h1, h2]
  refine fin_intro (H' := hu H i (some (strm (LL nz l) (a)))) (Qs.sub (n := n) (by (repeat (first | exact hq | refine Qs.put ?_ | refine Qs.new ?_ (by omega)))) hi) ⟨a, by omega, by omega, rfl, _, rfl, Nat.zero_le _⟩
 have hts := size_pos h1
 have hws := size_pos h2
 simp (disch := omega) only [↓wpre, push_cast, seval, h1, h2]
 refine (next_c G _ nz l a _ i hi ⟨by omega, by omega⟩ ⟨by omega, by omega⟩).x fun r a1 n1 hn1 k1 k2 k3 => ?_
 obtain ⟨j, rfl, hj⟩ := k3
 obtain ⟨j, rfl⟩ : ∃ m : Nat, j = m := ⟨j.toNat, by omega⟩
 simp (disch := omega) only [↓wpre, push_cast, seval, hi]
 refine (next_c G _ nz l a1 _ i hu_same ⟨by omega, by omega⟩ ⟨by omega, by omega⟩).x fun r a2 n2 hn2 k1' k2' k3 => ?_
 obtain ⟨j2, rfl, hj2⟩ := k3
 simp (disch := omega) only [↓wpre, push_cast, seval, hi, hu_hu]
 refine (next_c G _ nz l a2 _ i hu_same ⟨by omega, by omega⟩ ⟨by omega, by omega⟩).x fun r a3 n3 hn3 k1'' k2'' k3 => ?_
 obtain ⟨j3, rfl, hj3⟩ := k3
 obtain ⟨e, he⟩ : ∃ e, Utf8.encode (IntKind.i32.wrap (byteAt w j2.toNat)) = e := ⟨_, rfl⟩
 have hes : e.size ≤ 4 := by rw [← he]; exact encode_size _
 simp (disch := first | omega | (simp only [ByteArray.size_append, ByteArray.size_extract, size_lit, List.length_cons, List.length_nil]; omega)) only [↓wpre, push_cast, seval, hi, hu_hu, he]
 repeat' (first | ((first | with_reducible refine cnd_ndec (fun hc => ?_) (fun hc => ?_) | with_reducible refine cnd_dec (fun hc => ?_) (fun hc => ?_) | with_reducible refine cnd_nb (fun hc => ?_) (fun hc => ?_) | with_reducible refine cnd_intro (fun hc => ?_) (fun hc => ?_)) <;> (first | (exfalso; omega) | (try simp (disch := omega) only [↓wpre, push_cast, seval, hc, he]))) | (with_reducible refine anyN_intro fun n' hn' => ?_; try simp (disch := omega) only [↓wpre, push_cast, seval, he]) | fail)
 all_goals simp (disch := first | omega | (simp only [ByteArray.size_append, ByteArray.size_extract, size_lit, List.length_cons, List.length_nil]; omega)) only [↓wpre, push_cast, seval, he, bins_add]
 all_goals refine anyN_intro fun n4 hn4 => ?_
 all_goals simp (disch := omega) only [↓wpre, push_cast, seval, he]
 all_goals refine fin_intro (H' := hu H i (some (strm (LL nz l) (a3)))) (Qs.sub (n := n) (by (repeat (first | exact hq | refine Qs.put ?_ | refine Qs.new ?_ (by omega)))) (by simp (disch := omega) only [↓wpre, push_cast, seval, hq.2.2])) ⟨a3, by omega, by omega, rfl, _, rfl, ?_⟩
 all_goals (simp only [ByteArray.size_append, ByteArray.size_extract]; omega)
theorem repeatL_size (s : T) (c : Nat) : (⟨(Lib.repeatL s.data.toList c).toArray⟩ : T).size = c * s.size := by
 show (Lib.repeatL s.data.toList c).toArray.size = _
 rw [List.size_toArray, Lib.repeatL_length, Array.length_toList]
 rfl
theorem step_below {w w' : World} {g : Gh} (hI : Inv w g) (hd : g.dr = true → False) (h : Go.RowKit.Below w.heap.size w w') : Step w g w' g ∧ Inv w' g := by
 have hS : Step w g w' g := ⟨h.os, h.tape, h.output, h.size, fun b hb _ => h.block b hb, fun i o' ob hi ho hb => ⟨ob, by rw [h.block _ (hI.lt i o' ho).2]; exact hb, Like.refl _ _⟩, fun _ h => .inl h, Nat.le_refl _, fun _ _ => rfl, fun _ o' _ ho => ⟨o', ho, rfl, rfl⟩, rfl, fun h => (hd h).elim⟩
 exact ⟨hS, hI.step hS (fun i o ho => ⟨(hI.lt i o ho).1, Nat.lt_of_lt_of_le (hI.lt i o ho).2 h.size⟩) hI.inj fun i o ho => .inl ⟨ho, h.block _ (hI.lt i o ho).2⟩⟩
theorem repeat_c (hns : ¬ Strict G) (s : T) (c : Nat) (hc : c ≤ 1000) (hs : s.size ≤ 1000) : AFn Tryz.prog G 71 [.str s, .lit (.int .i64 c)] H (.str ⟨(Lib.repeatL s.data.toList c).toArray⟩) := by
 refine AFn.of_calls (xs := [.string s, .int .i64 c]) (enters_of_b (by kernel_rfl)) fun w g hI hg => ?_
 have hm : s.size * c ≤ 140737488355328 := Nat.le_trans (Nat.mul_le_mul hs hc) (by decide)
 refine (Tryz.strings_Repeat s c w (by omega) hm).mono fun e w' ⟨k1, k2⟩ => ?_
 obtain ⟨k3, k4⟩ := step_below hI (fun h => hns (hg.dr h)) k2
 exact ⟨_, k1, rfl, k4, k3⟩
theorem repeat_e (s : T) (c : Nat) (hc : c ≤ 1000) (hs : s.size ≤ 1000) : ∃ e : T, e.size = c * s.size ∧ ∀ G H, ¬ Strict G → AFn Tryz.prog G 71 [.str s, .lit (.int .i64 c)] H (.str e) := ⟨_, repeatL_size s c, fun G H hns => repeat_c G H hns s c hc hs⟩
def SmallId (x : Idn) : Prop := -1 ≤ x.kind ∧ x.kind ≤ 10 ∧ x.text.size ≤ 200
def TinyId (x : Idn) : Prop := -1 ≤ x.kind ∧ x.kind ≤ 10 ∧ x.text.size ≤ 100
theorem pool_small : ∀ x ∈ pool, TinyId x := by
 have h : (pool.all fun x => decide (-1 ≤ x.kind ∧ x.kind ≤ 10 ∧ x.text.size ≤ 100)) = true := by decide +kernel
 intro x hx
 have := List.all_eq_true.1 h x hx
 simp only [decide_eq_true_eq] at this
 exact this
set_option maxHeartbeats 1600000 in
theorem spoiledId_c (hG : GOk G) (hP : G 1 = .pp poolC) (nz : Bool) (l : List Int) (a : Int) (i : Nat) (hi : H i = some (strm (LL nz l) a)) (ha : 0 ≤ a ∧ a ≤ 1099511626000) : SC G H 147 [.op i 0 0] i (LL nz l) a 5 fun r => ∃ x, SmallId x ∧ r = .agg x.c := by
 intro n
 refine ACalls.start mix F147 (by simp) fun hlow => ?_
 have hq := Qs.refl hi hlow
 have hin := hq.2.2
 simp (disch := omega) only [↓wpre, push_cast, seval, c147]
 refine (next_c G _ nz l a 10 i (by simp (disch := omega) only [↓wpre, push_cast, seval, hi]) ⟨by omega, by omega⟩ (by omega)).x fun r a1 n1 hn1 k1 k2 k3 => ?_
 obtain ⟨k, rfl, hk⟩ := k3
 obtain ⟨x, hx, rest, hd⟩ := pool_at k hk.1 hk.2
 have hxs := pool_small x hx
 simp (disch := omega) only [↓wpre, push_cast, seval, hi, hP, hd, hk]
 refine (next_c G _ nz l a1 5 i (by simp (disch := omega) only [↓wpre, push_cast, seval, hi]) ⟨by omega, by omega⟩ (by omega)).x fun r a2 n2 hn2 k1' k2' k3 => ?_
 obtain ⟨k, rfl, hk⟩ := k3
 simp (disch := omega) only [↓wpre, push_cast, seval, hi]
 obtain ⟨e65, z65, r65⟩ := repeat_e ⟨#[97]⟩ 65 (by omega) (by decide)
 obtain ⟨e31, z31, r31⟩ := repeat_e ⟨#[98]⟩ 31 (by omega) (by decide)
 obtain ⟨e64, z64, r64⟩ := repeat_e ⟨#[97]⟩ 64 (by omega) (by decide)
 obtain ⟨e12, z12, r12⟩ := repeat_e ⟨#[98]⟩ 12 (by omega) (by decide)
 have zz : (⟨#[97]⟩ : T).size = 1 ∧ (⟨#[98]⟩ : T).size = 1 := ⟨rfl, rfl⟩
 rw [zz.1] at z65 z64
 rw [zz.2] at z31 z12
 by_cases hk0 : k = 0
 ·simp (disch := omega) only [↓wpre, push_cast, seval, hk0]
  refine (pick_c G _ nz true l a2 i (by simp (disch := omega) only [↓wpre, push_cast, seval, hi]) ⟨by omega, by omega⟩ [0, 1, 2, 3, 4, 5] (by simp) (by simp)).x fun r a3 n3 hn3 k1'' k2'' k3 => ?_
  obtain ⟨kk, rfl, h4⟩ := k3
  simp only [List.mem_cons, List.not_mem_nil, or_false] at h4
  simp (disch := omega) only [↓wpre, push_cast, seval, hi]
  refine fin_intro (H' := hu H i (some (strm (LL nz l) (a3)))) (Qs.sub (n := n) (by (repeat (first | exact hq | refine Qs.put ?_ | refine Qs.new ?_ (by omega)))) (by simp (disch := omega) only [↓wpre, push_cast, seval, hq.2.2])) ⟨a3, by omega, by omega, rfl, ⟨kk, x.text⟩, ⟨by dsimp only; omega, by dsimp only; omega, Nat.le_trans hxs.2.2 (by decide)⟩, rfl⟩
 by_cases hk1 : k = 1
 ·simp (disch := first | omega | (simp only [ByteArray.size_append, ByteArray.size_extract, size_lit, List.length_cons, List.length_nil]; omega)) only [↓wpre, push_cast, seval, hk0, hk1]
  refine AFn.x (r65 _ _ hG.ns) fun n3 hn3 => ?_
  simp (disch := first | omega | (simp only [ByteArray.size_append, ByteArray.size_extract, size_lit, List.length_cons, List.length_nil]; omega)) only [↓wpre, push_cast, seval, bins_add]
  refine AFn.x (r31 _ _ hG.ns) fun n4 hn4 => ?_
  simp (disch := first | omega | (simp only [ByteArray.size_append, ByteArray.size_extract, size_lit, List.length_cons, List.length_nil]; omega)) only [↓wpre, push_cast, seval, bins_add]
  refine AFn.x (r64 _ _ hG.ns) fun n5 hn5 => ?_
  simp (disch := first | omega | (simp only [ByteArray.size_append, ByteArray.size_extract, size_lit, List.length_cons, List.length_nil]; omega)) only [↓wpre, push_cast, seval, bins_add]
  refine AFn.x (r12 _ _ hG.ns) fun n6 hn6 => ?_
  simp (disch := first | omega | (simp only [ByteArray.size_append, ByteArray.size_extract, size_lit, List.length_cons, List.length_nil]; omega)) only [↓wpre, push_cast, seval, bins_add]
  refine (one_c G _ nz true l a2 i hu_same ⟨by omega, by omega⟩ [⟨#[]⟩, ⟨#[97, 64, 98]⟩, ⟨#[64, 98, 46, 100, 101]⟩, ⟨#[97, 64, 98, 46, 100, 101, 46]⟩, ⟨#[97, 46, 46, 98, 64, 98, 46, 100, 101]⟩, ⟨#[46, 97, 64, 98, 46, 100, 101]⟩, ⟨#[97, 64, 45, 98, 46, 100, 101]⟩, ⟨#[97, 64, 98, 46, 100, 101, 64, 99, 46, 100, 101]⟩, ⟨#[43, 48, 49, 50, 51, 52, 53, 54]⟩, ⟨#[43, 49, 50, 51, 52, 53, 54]⟩, ⟨#[43, 49, 50, 51, 52, 53, 54, 55, 56, 57, 48, 49, 50, 51, 52, 53, 54]⟩, ⟨#[52, 57, 51, 48, 49, 50, 51, 52, 53, 54]⟩, ⟨#[65, 66, 49, 52]⟩, ⟨#[65, 66, 49]⟩, ⟨#[65, 66, 67]⟩, e65 ++ ⟨#[64, 98, 46, 100, 101]⟩, (⟨#[97, 64]⟩ ++ e31) ++ ⟨#[46, 100, 101]⟩, ((e64 ++ ⟨#[64]⟩) ++ e12) ++ ⟨#[46, 100, 101]⟩] (by simp) (by simp)).x fun r a3 n7 hn7 k1'' k2'' k3 => ?_
  obtain ⟨kk, rfl, h4⟩ := k3
  have hks : kk.size ≤ 200 := by
   clear r65 r31 r64 r12 hi hq
   simp only [List.mem_cons, List.not_mem_nil, or_false] at h4
   rcases h4 with rfl | rfl | rfl | rfl | rfl | rfl | rfl | rfl | rfl | rfl | rfl | rfl | rfl | rfl | rfl | rfl | rfl | rfl
   all_goals (simp only [ByteArray.size_append, size_lit, List.length_cons, List.length_nil]; omega)
  clear h4 r65 r31 r64 r12
  simp (disch := omega) only [↓wpre, push_cast, seval, hi]
  refine fin_intro (H' := hu H i (some (strm (LL nz l) (a3)))) (Qs.sub (n := n) (by (repeat (first | exact hq | refine Qs.put ?_ | refine Qs.new ?_ (by omega)))) (by simp (disch := omega) only [↓wpre, push_cast, seval, hq.2.2])) ⟨a3, by omega, by omega, rfl, ⟨x.kind, kk⟩, ⟨hxs.1, hxs.2.1, hks⟩, rfl⟩
 simp (disch := first | omega | (simp only [ByteArray.size_append, ByteArray.size_extract, size_lit, List.length_cons, List.length_nil]; omega)) only [↓wpre, push_cast, seval, hk0, hk1]
 refine (changed_c G _ nz l a2 x.text _ i (by simp (disch := omega) only [↓wpre, push_cast, seval, hi]) ⟨by omega, by omega⟩ ⟨by have := hxs.2.2; omega, by decide⟩).x fun r a3 n3 hn3 k1'' k2'' k3 => ?_
 obtain ⟨kk, rfl, h4⟩ := k3
 simp (disch := omega) only [↓wpre, push_cast, seval, hi]
 refine fin_intro (H' := hu H i (some (strm (LL nz l) (a3)))) (Qs.sub (n := n) (by (repeat (first | exact hq | refine Qs.put ?_ | refine Qs.new ?_ (by omega)))) (by simp (disch := omega) only [↓wpre, push_cast, seval, hq.2.2])) ⟨a3, by omega, by omega, rfl, ⟨x.kind, kk⟩, ⟨hxs.1, hxs.2.1, ?_⟩, rfl⟩
 have : (⟨#[97, 98, 48, 64, 46, 45, 43, 95, 65, 90]⟩ : T).size = 10 := rfl
 have := hxs.2.2
 dsimp only
 omega
end Go.Proofs.YtblhbafoncfhdaaGreatDoor
