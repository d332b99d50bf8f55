/- Contracts of functions of the program: each computes what its model says; the conditions stand at each. -/
import Derived.Test.YtblhbafoncfhdaaGreatDoorP1
import Derived.Test.YtblhbafoncfhdaaGreatDoorA5
import Derived.Test.YtblhbafoncfhdaaGreatDoorTc3
import Derived.Test.YtblhbafoncfhdaaGreatDoorK1
import Derived.Test.YtblhbafoncfhdaaGreatDoorTs8
set_option linter.unusedSimpArgs false
set_option linter.unusedVariables false
set_option maxRecDepth 20000
namespace Go.Proofs.YtblhbafoncfhdaaGreatDoor
open Go Go.Ab Go.Pm Go.Cm Go.El Go.Rm Go.Pp Go.Uf
variable (G : Nat → AV) (H : Nat → Option AObj)
/-! slices.Repeat of one number. -/
theorem mul1_c (n : Nat) (hn : n < 4294967296) : AFn Tryz.prog G 134 [.lit (.int .u64 1), .lit (.int .u64 (n : Nat))] H (.tup [.lit (.int .u64 0), .lit (.int .u64 (n : Nat))]) :=
 AFn.of_calls (enters_of_b (by kernel_rfl)) (xs := [.int .u64 1, .int .u64 (n : Nat)]) fun w g hI hg => by
  refine (Tryz.bits_Mul 1 n (by omega) (by omega) w).mono fun e w' ⟨h1, h2⟩ => ?_
  subst h2
  refine ⟨_, h1, ⟨_, rfl, _, _, rfl, ?_, _, _, rfl, ?_, rfl⟩, hI, Step.refl _ _⟩
  ·show Value.int .u64 _ = _
   congr 1
   have : 1 * n / 18446744073709551616 = 0 := by omega
   rw [this]; rfl
  ·show Value.int .u64 _ = _
   congr 1
   have : 1 * n % 18446744073709551616 = n := by omega
   rw [this]
def repRows (n b : Nat) : List (List AV) := List.replicate b [AV.int (-1)] ++ List.replicate (n - b) [AV.int 0]
theorem repRows_len {n b : Nat} (h : b ≤ n) : (repRows n b).length = n := by simp [repRows]; omega
theorem repRows_take {n b : Nat} : (repRows n b).take b = List.replicate b [AV.int (-1)] := by simp [repRows]
theorem repRows_step {n b m : Nat} (h : b + m ≤ n) (hm : m ≤ b) : (repRows n b).take b ++ ((List.replicate b [AV.int (-1)]).take m ++ (repRows n b).drop (b + m)) = repRows n (b + m) := by
 rw [repRows_take, List.take_replicate, Nat.min_eq_left hm]
 unfold repRows
 rw [List.drop_append, List.drop_eq_nil_of_le (by simp), List.nil_append, List.length_replicate, show b + m - b = m from by omega, List.drop_replicate, ← List.append_assoc, List.replicate_append_replicate, show n - b - m = n - (b + m) from by omega]
set_option maxHeartbeats 3200000 in
theorem repeatI_c (k : Nat) (hk : k ≤ 100000) (n : Nat) : ACalls Tryz.prog G 199 [.ls true [[.int (-1)]], .int k] H n fun v H' n' => ∃ o, v = .os o 0 k ∧ H' o = some ⟨3, 1, List.replicate k [AV.int (-1)]⟩ ∧ n ≤ o ∧ o < n' ∧ Ab.Sub H H' := by
 refine ACalls.start mix F199 (by simp) fun hlow => ?_
 have hq := Qt.refl hlow
 have h0 : ¬ (k : Int) < 0 := by omega
 have hw1 : IntKind.u64.wrap 1 = 1 := by decide
 have hwk : IntKind.u64.wrap (k : Int) = k := wrapu64_of (by omega) (by omega)
 simp (disch := omega) only [↓wpre, push_cast, seval, c199, h0, hw1, hwk]
 refine AFn.x (mul1_c G _ k (by omega)) fun n1 hn1 => ?_
 have c1 : ¬ (0 : Int) < 0 := by omega
 have c2 : ¬ (9223372036854775807 : Int) < k := by omega
 have hwi : IntKind.i64.wrap (k : Int) = k := wrap64_of (by omega) (by omega)
 simp (disch := omega) only [↓wpre, push_cast, seval, c1, c2, hwi]
 rw [xmake_int (by omega) (by omega) (by omega) (by omega)]
 simp (disch := omega) only [↓wpre, push_cast, seval, Int.toNat_natCast]
 have hev1 : Even 1 [[AV.int (-1)]] := fun r hr => by simp at hr; subst hr; exact ⟨rfl, rfl⟩
 rw [xcopy_os (m := min 1 k) hu_same (by simp) rfl hev1 (by simp [Nat.min_def])]
 have hrows : (List.replicate k [AV.int 0]).take 0 ++ ([[AV.int (-1)]].take (min 1 k) ++ (List.replicate k [AV.int 0]).drop (0 + min 1 k)) = repRows k (min 1 k) := by
  rcases Nat.eq_zero_or_pos k with e | e
  ·subst e; rfl
  ·rw [Nat.min_eq_left e]; simp [repRows]
 rw [hrows]
 simp (disch := omega) only [↓wpre, push_cast, seval, hu_hu]
 refine xw_loopJ (σ := Nat) (fun b => [(7, .os n1 0 k), (8, .int b)]) (fun b H' n' => b ≤ k ∧ (0 < k → 0 < b) ∧ H' n1 = some ⟨3, 1, repRows k b⟩ ∧ Qt H H' n ∧ n1 < n') (fun b => k - b) (min 1 k) ⟨by omega, fun h => by omega, by first | exact hu_same | (rw [hu_same]), by exact Qt.mono (n := n) (by repeat (first | exact hq | refine Qt.hu ?_ (by omega))) (by omega), by omega⟩ (by simp (disch := omega) only [↓wpre, push_cast, seval]; try rfl) ?_
 clear hq
 rintro b fr H' n2 ⟨hb, hb0, hr, hq, hn2⟩ hh
 simp only [has_nil, has_cons, and_true] at hh hb hb0 hr
 by_cases hlt : (b : Int) < k
 ·have hbk : b < k := by omega
  have hbp := hb0 (by omega)
  have hsl1 : asl (.os n1 0 k) (some (.int b)) none = some (.os n1 b (k - b)) := by
   simp only [asl, abound]
   rw [if_pos (by omega), Int.toNat_natCast]
   simp only
   rw [if_neg (by omega), if_pos hbk, Nat.zero_add]
  have hsl2 : asl (.os n1 0 k) none (some (.int b)) = some (.os n1 0 b) := by
   simp only [asl, abound]
   rw [if_pos (by omega), Int.toNat_natCast]
   rfl
  have hcut : ∀ off len, CutOk H' 1 (.os n1 off len) = True := fun _ _ => eq_true ⟨_, hr, rfl⟩
  have hsrc : srcRows H' (.os n1 0 b) = some (List.replicate b [AV.int (-1)]) := by
   simp only [srcRows, hr]
   rw [if_pos (by rw [repRows_len hb]; omega), List.drop_zero, repRows_take]
  have hevb : Even 1 (List.replicate b [AV.int (-1)]) := fun r hr => by rw [List.eq_of_mem_replicate hr]; exact ⟨rfl, rfl⟩
  simp (disch := omega) only [↓wpre, push_cast, seval, hh, hlt]
  refine xw_nreg noH (of_eq_true (sub_noH _)) ?_
  simp (disch := omega) only [↓wpre, push_cast, seval, hh, hcut, hsl1, hsl2]
  obtain ⟨m, hm⟩ : ∃ m, m = min b (k - b) := ⟨_, rfl⟩
  rw [xcopy_os (m := m) hr (by rw [repRows_len hb]; omega) hsrc hevb (by rw [hm]; simp [Nat.min_def])]
  have hst := repRows_step (n := k) (b := b) (m := m) (by omega) (by omega)
  rw [hst]
  simp (disch := omega) only [↓wpre, push_cast, seval, hh]
  refine againJ (b + m) (by omega) ⟨by omega, fun _ => by omega, hu_same, by exact Qt.mono (n := n) (by repeat (first | exact hq | refine Qt.hu ?_ (by omega))) (by omega), by omega⟩ (by simp (disch := omega) only [↓wpre, push_cast, seval, hh]; all_goals (try simp only [AV.lit.injEq, Value.int.injEq, Value.bool.injEq, true_and, and_true]); all_goals (try (repeat' apply And.intro)); all_goals (first | rfl | omega | simp_all | skip))
 ·have hbk : b = k := by omega
  subst hbk
  simp (disch := omega) only [↓wpre, push_cast, seval, hh, hlt]
  refine fin_intro (Ab.Sub.refl _) ⟨n1, rfl, by rw [hr]; simp [repRows], by omega, hn2, hq.1⟩
/-! The touch with a number. -/
theorem noOf1_c (t : Tch) (no : Int) : AFn Tryz.prog G 195 [.agg t.c, .int no] H (.int (cmpI t.no no)) := by
 refine AFn.start mix F195 (by simp) fun k hlow => ?_
 simp (disch := omega) only [↓wpre, push_cast, seval, c195]
 (first | with_reducible refine (cmpI_c _ _ _ _).x fun n' hn' => ?_ | with_reducible refine xfn_intro (cmpI_c _ _ _ _) ?_); try simp (disch := omega) only [↓wpre, push_cast, seval, true_and]
 first | (exact (Qt.mono (n := k) (by repeat (first | exact hq | refine Qt.hu ?_ (by omega))) (Nat.le_refl _)).1) | skip
theorem bsTch_c (nz : Bool) (l : List Tch) (no : Int) (hl : l.length ≤ 1000000) : AFn Tryz.prog G 194 [.ls nz (l.map Tch.c), .int no, .fn (.func 195) []] H (.tup [.int (bsAt (fun f => cmpI f.no no) l), .bool (bsHas (fun f => cmpI f.no no) l)]) := by
 have hle := bsAt_le (fun f => cmpI f.no no) l
 refine AFn.start mix F194 (by simp) fun k hlow => ?_
 simp (disch := omega) only [↓wpre, push_cast, seval, c194]
 refine xw_loopJ (σ := Nat × Nat × Nat) (fun t => [(0, .ls nz (l.map Tch.c)), (1, .int no), (2, .fn (.func 195) []), (8, .int l.length), (9, .int t.2.1), (10, .int t.2.2)]) (fun t H' n' => t.2.1 ≤ t.2.2 ∧ t.2.2 ≤ l.length ∧ t.2.2 - t.2.1 ≤ t.1 ∧ bsGo (at0 (fun f => cmpI f.no no) l) t.1 t.2.1 t.2.2 = bsAt (fun f => cmpI f.no no) l ∧ Qt H H' n') (fun t => t.2.2 - t.2.1) (l.length, 0, l.length) ⟨Nat.zero_le _, Nat.le_refl _, by simp, rfl, .refl hlow⟩ (by simp (disch := omega) only [↓wpre, push_cast, seval]) ?_
 rintro ⟨m, lo, hi⟩ fr H' n ⟨h1, h2, h3, hf, hq⟩ hh
 simp only [has_nil, has_cons, and_true] at hh h1 h2 h3 hf
 by_cases hlt : (lo : Int) < hi
 ·obtain ⟨m, rfl⟩ : ∃ k, m = k + 1 := ⟨m - 1, by omega⟩
  have hmid : (lo + hi) / 2 < l.length := by omega
  have hx := List.getElem?_eq_getElem hmid
  have hat : at0 (fun f => cmpI f.no no) l ((lo + hi) / 2) = cmpI (l[(lo + hi) / 2]).no no := by simp only [at0, hx]
  have e1 : ((lo : Int) + hi) / 2 = (((lo + hi) / 2 : Nat) : Int) := by omega
  rw [bsGo, if_pos (by omega), hat] at hf
  simp (disch := omega) only [↓wpre, push_cast, seval, hh, hlt, even_tch, aidx_at _ hx]
  (first | with_reducible refine (noOf1_c _ _ _ _).x fun n' hn' => ?_ | with_reducible refine xfn_intro (noOf1_c _ _ _ _) ?_); try simp (disch := omega) only [↓wpre, push_cast, seval, true_and]
  (first | with_reducible refine cnd_ndec (fun hc => ?_) (fun hc => ?_) | with_reducible refine cnd_dec (fun hc => ?_) (fun hc => ?_) | with_reducible refine cnd_nb (fun hc => ?_) (fun hc => ?_) | with_reducible refine cnd_intro (fun hc => ?_) (fun hc => ?_)) <;> (first | (exfalso; omega) | (try simp (disch := omega) only [↓wpre, push_cast, seval, hc, hh]))
  ·rw [if_pos hc] at hf
   refine againJ (m, (lo + hi) / 2 + 1, hi) (by dsimp only; omega) ⟨by dsimp only; omega, h2, by dsimp only; omega, hf, ?_⟩ ?_
   ·exact Qt.mono (n := n) (by repeat (first | exact hq | refine Qt.hu ?_ (by omega))) (by omega)
   ·simp (disch := omega) only [↓wpre, push_cast, seval, hh]
  ·rw [if_neg hc] at hf
   refine againJ (m, lo, (lo + hi) / 2) (by dsimp only; omega) ⟨by dsimp only; omega, by dsimp only; omega, by dsimp only; omega, hf, ?_⟩ ?_
   ·exact Qt.mono (n := n) (by repeat (first | exact hq | refine Qt.hu ?_ (by omega))) (by omega)
   ·simp (disch := omega) only [↓wpre, push_cast, seval, hh]
 ·have hres : lo = bsAt (fun f => cmpI f.no no) l := by
   rw [← hf]; cases m <;> simp only [bsGo]; rw [if_neg (by omega)]
  rw [← hres] at hle ⊢
  rw [bsHas, ← hres]
  by_cases hn : lo < l.length
  ·have hx := List.getElem?_eq_getElem hn
   have hat : at0 (fun f => cmpI f.no no) l lo = cmpI (l[lo]).no no := by simp only [at0, hx]
   have hlt2 : (lo : Int) < l.length := by omega
   simp (disch := omega) only [↓wpre, push_cast, seval, hh, hlt, hlt2, even_tch, aidx_at _ hx]
   (first | with_reducible refine (noOf1_c _ _ _ _).x fun n' hn' => ?_ | with_reducible refine xfn_intro (noOf1_c _ _ _ _) ?_); try simp (disch := omega) only [↓wpre, push_cast, seval, hat]
   refine ⟨?_, hq.1⟩
   simp [hat, hn]
  ·have hlt2 : ¬ (lo : Int) < l.length := by omega
   simp (disch := omega) only [↓wpre, push_cast, seval, hh, hlt, hlt2]
   refine ⟨?_, hq.1⟩
   simp [hn]
theorem cmpI_lt {a b : Int} (h : a < b) : cmpI a b = -1 := by unfold cmpI; rw [if_pos h]
theorem rise_lt {l : List Tch} (h : Rise l) {i j : Nat} (hij : i < j) (hj : j < l.length) : (tAt l i).no < (tAt l j).no := by
 have hi : i < l.length := by omega
 have h3 := List.pairwise_iff_getElem.1 h i j hi hj hij
 rwa [← tAt_get (List.getElem?_eq_getElem hi), ← tAt_get (List.getElem?_eq_getElem hj)] at h3
theorem bs_touch {l : List Tch} (h : Rise l) {u : Nat} (hu : u < l.length) : bsAt (fun f : Tch => cmpI f.no (tAt l u).no) l = u ∧ bsHas (fun f : Tch => cmpI f.no (tAt l u).no) l = true := by
 have hat : ∀ i, i < l.length → at0 (fun f : Tch => cmpI f.no (tAt l u).no) l i = cmpI (tAt l i).no (tAt l u).no := fun i hi => by
  simp only [at0, List.getElem?_eq_getElem hi]
  rw [tAt_get (List.getElem?_eq_getElem hi)]
 have hself : cmpI (tAt l u).no (tAt l u).no = 0 := by unfold cmpI; rw [if_neg (by omega), if_neg (by omega)]
 have hb : bsAt (fun f : Tch => cmpI f.no (tAt l u).no) l = u := by
  refine bsGo_at (Nat.le_of_lt hu) (fun i hi => ?_) (fun i hi hi2 => ?_) _ _ _ (Nat.zero_le _) (Nat.le_of_lt hu) (Nat.le_refl _) (by omega)
  ·rw [hat i (by omega), cmpI_lt (rise_lt h hi hu)]; decide
  ·rw [hat i hi2]
   rcases Nat.lt_or_ge u i with h1 | h1
   ·have := rise_lt h h1 hi2
    unfold cmpI
    rw [if_neg (by omega)]
    split <;> omega
   ·have : i = u := by omega
    subst this
    rw [hself]; omega
 refine ⟨hb, ?_⟩
 rw [bsHas, hb, hat u hu, hself]
 simp [hu]
theorem numbered_c (nz : Bool) (l : List Tch) (h : TouchesOk l) (u : Nat) (hu : u < l.length) : AFn Tryz.prog G 119 [.ls nz (l.map Tch.c), .int (tAt l u).no] H (.tup [.int (u : Nat), .bool true]) := by
 have hf := h.few
 obtain ⟨h1, h2⟩ := bs_touch h.rise hu
 refine AFn.start mix F119 (by simp) fun k hlow => ?_
 simp (disch := omega) only [↓wpre, push_cast, seval, c119]
 have h9 := fun H' => bsTch_c G H' nz l (tAt l u).no (by omega)
 rw [h1, h2] at h9
 refine AFn.x (h9 _) fun n1 hn1 => ?_
 simp (disch := omega) only [↓wpre, push_cast, seval]
/-! The ids that two touches share. -/
def shrd (J : Idn → Bool) (l : List Tch) (a b : Nat) : Option Idn := (tAt l a).ids.find? fun x => isWeak (tAt l b).ids x && J x
theorem shrd_some {J : Idn → Bool} {l : List Tch} (h : TouchesOk l) {a b : Nat} (ht : tie J l a b) : ∃ x, shrd J l a b = some x ∧ J x = true ∧ Has l a x ∧ Has l b x := by
 obtain ⟨y, h1, h2, h3⟩ := ht
 obtain ⟨la, ha⟩ := has_tAt h2
 obtain ⟨lb, hb⟩ := has_tAt h3
 have hw := isWeak_iff (h.each _ (tAt_mem lb)).ids.asc.rises
 cases hf : shrd J l a b with
 | none =>
  have := List.find?_eq_none.1 hf y ha
  rw [hw, h1] at this
  simp [hb] at this
 | some x =>
  have h5 := List.find?_some hf
  have h6 := List.mem_of_find?_eq_some hf
  rw [hw] at h5
  simp only [Bool.and_eq_true, decide_eq_true_eq] at h5
  exact ⟨x, rfl, h5.2, ⟨tAt l a, by rw [tAt_get (List.getElem?_eq_getElem la)]; exact List.getElem?_eq_getElem la, h6⟩, ⟨tAt l b, by rw [tAt_get (List.getElem?_eq_getElem lb)]; exact List.getElem?_eq_getElem lb, h5.1⟩⟩
set_option maxHeartbeats 3200000 in
theorem shared_c {g m : Nat} {r : Rls} {nz : Bool} {l : List Tch} {K : List Idn} {ob : Idn → Nat} {N : Nat} (h : Grp H g m r nz l K ob N) (hok : TouchesOk l) (a b : Nat) (ha : a < l.length) (hb : b < l.length) (x : Idn) (hx : shrd (joins r l) l a b = some x) : AFn Tryz.prog G 130 [.op g 0 0, .int (a : Nat), .int (b : Nat)] H (.tup [.agg x.c, .bool true]) := by
 have hrow := h.row
 have hia : l[a]? = some (tAt l a) := by rw [tAt_get (List.getElem?_eq_getElem ha)]; exact List.getElem?_eq_getElem ha
 have hib : l[b]? = some (tAt l b) := by rw [tAt_get (List.getElem?_eq_getElem hb)]; exact List.getElem?_eq_getElem hb
 have hta := hok.each _ (tAt_mem ha)
 have htb := hok.each _ (tAt_mem hb)
 have hfa := hta.few
 have hfb := htb.few
 generalize hAa : tAt l a = A at *
 generalize hBb : tAt l b = B at *
 have hx : A.ids.find? (fun x => isWeak B.ids x && joins r l x) = some x := by unfold shrd at hx; rw [hAa, hBb] at hx; exact hx
 refine AFn.start mix F130 (by simp) fun k hlow => ?_
 have hgk := hlow _ _ hrow
 have hq := Qt.refl hlow
 simp (disch := omega) only [↓wpre, push_cast, seval, c130, hrow, even_tch, aidx_at rfl hia]
 refine xw_loopJ (σ := List Idn × List Idn) (fun t => [(0, .op g 0 0), (2, .int (b : Nat)), (6, .op k 0 0), (19, .ls A.nzi (A.ids.map Idn.c)), (20, .int A.ids.length), (21, .int t.1.length)]) (fun t H' n' => A.ids = t.1 ++ t.2 ∧ t.2.find? (fun x => isWeak B.ids x && joins r l x) = some x ∧ H' k = some ⟨55, 2, [[.int 0, .str ⟨#[]⟩]]⟩ ∧ Qt H H' k ∧ k < n') (fun t => t.2.length) ([], A.ids) ⟨rfl, hx, hu_same, by exact Qt.mono (n := k) (by repeat (first | exact hq | refine Qt.hu ?_ (by omega))) (by omega), by omega⟩ (by simp (disch := omega) only [↓wpre, push_cast, seval]; try rfl) ?_
 clear hq
 rintro ⟨d, s⟩ fr H' n1 ⟨hab, hfx, hz, hq, hn1⟩ hh
 simp only [has_nil, has_cons, and_true] at hh hab hfx hz
 have hll : A.ids.length = d.length + s.length := by rw [hab]; simp
 cases s with
 | nil => simp at hfx
 | cons y s =>
  have hlt : (d.length : Int) < A.ids.length := by rw [hll]; simp only [List.length_cons]; omega
  have hy : A.ids[d.length]? = some y := by rw [hab]; simp
  have hrow1 := hq.1 _ _ hrow
  have h1 := h.sub hq.1
  simp (disch := omega) only [↓wpre, push_cast, seval, hh, hlt, even_ids, aidx_at rfl hy, hrow1, even_tch, aidx_at rfl hib]
  (first | with_reducible refine (bsId_c _ _ B.nzi B.ids y (by omega)).x fun n' hn' => ?_ | with_reducible refine xfn_intro (bsId_c _ _ B.nzi B.ids y (by omega)) ?_); try simp (disch := omega) only [↓wpre, push_cast, seval, true_and]
  refine anyN_intro fun n2 hn2 => ?_
  rw [List.find?_cons] at hfx
  by_cases hw : isWeak B.ids y = true
  ·have hw' : bsHas (fun p => cmpId p y) B.ids = true := hw
   simp (disch := omega) only [↓wpre, push_cast, seval, hh, hw', hrow1]
   refine AFn.x (joins_c G _ (h.sub ?hs) y) fun n3 hn3 => ?_
   case hs => exact (Qt.mono (n := k) (by repeat (first | exact hq | refine Qt.hu ?_ (by omega))) (Nat.le_refl _)).1
   by_cases hj : joins r l y = true
   ·rw [hw, hj] at hfx
    simp only [Bool.and_self, Option.some.injEq] at hfx
    subst hfx
    simp (disch := omega) only [↓wpre, push_cast, seval, hh, hj, hz]
    first | (refine ⟨?_, ?_⟩; · rfl; · exact (Qt.mono (n := k) (by repeat (first | exact hq | refine Qt.hu ?_ (by omega))) (Nat.le_refl _)).1) | exact (Qt.mono (n := k) (by repeat (first | exact hq | refine Qt.hu ?_ (by omega))) (Nat.le_refl _)).1 | skip
   ·have hj' : joins r l y = false := by simpa using hj
    rw [hw, hj'] at hfx
    simp only [Bool.and_false] at hfx
    simp (disch := omega) only [↓wpre, push_cast, seval, hh, hj']
    refine againJ (d ++ [y], s) (Nat.lt_succ_self _) ⟨by rw [hab]; simp, hfx, by simp (disch := omega) only [↓wpre, push_cast, seval, hz], by exact Qt.mono (n := k) (by repeat (first | exact hq | refine Qt.hu ?_ (by omega))) (by omega), by omega⟩ (by simp (disch := omega) only [↓wpre, push_cast, seval, hh]; all_goals (try simp only [AV.lit.injEq, Value.int.injEq, Value.bool.injEq, true_and, and_true]); all_goals (try (repeat' apply And.intro)); all_goals (first | rfl | omega | simp_all | skip))
  ·have hw2 : isWeak B.ids y = false := by simpa using hw
   have hw' : bsHas (fun p => cmpId p y) B.ids = false := hw2
   rw [hw2] at hfx
   simp only [Bool.false_and] at hfx
   simp (disch := omega) only [↓wpre, push_cast, seval, hh, hw']
   refine againJ (d ++ [y], s) (Nat.lt_succ_self _) ⟨by rw [hab]; simp, hfx, by simp (disch := omega) only [↓wpre, push_cast, seval, hz], by exact Qt.mono (n := k) (by repeat (first | exact hq | refine Qt.hu ?_ (by omega))) (by omega), by omega⟩ (by simp (disch := omega) only [↓wpre, push_cast, seval, hh]; all_goals (try simp only [AV.lit.injEq, Value.int.injEq, Value.bool.injEq, true_and, and_true]); all_goals (try (repeat' apply And.intro)); all_goals (first | rfl | omega | simp_all | skip))
/-! Sorted positions, each once. -/
def ofI (l : List Int) : List Nat := l.map Int.toNat
theorem nats_ofI {l : List Int} (h : ∀ x ∈ l, 0 ≤ x) : nats (ofI l) = l.map fun x => [AV.int x] := by
 rw [nats, ofI, List.map_map]
 refine List.map_congr_left fun x hx => ?_
 have := h x hx
 show [AV.int ((x.toNat : Nat) : Int)] = _
 rw [Int.toNat_of_nonneg this]
def toI (l : List Nat) : List Int := l.map fun x : Nat => (x : Int)
theorem nats_toI (l : List Nat) : nats l = (toI l).map fun x => [AV.int x] := by rw [nats, toI, List.map_map]; rfl
def srt (l : List Nat) : List Nat := ofI (Lib.compact (msortI (toI l)))
theorem srt_nn (l : List Nat) : ∀ x ∈ Lib.compact (msortI (toI l)), (0 : Int) ≤ x := fun x hx => by
 rw [compact_mem, msortI_mem, toI, List.mem_map] at hx
 obtain ⟨y, _, rfl⟩ := hx
 omega
theorem mem_srt (l : List Nat) (j : Nat) : j ∈ srt l ↔ j ∈ l := by
 rw [srt, ofI, List.mem_map]
 constructor
 ·rintro ⟨x, hx, rfl⟩
  rw [compact_mem, msortI_mem, toI, List.mem_map] at hx
  obtain ⟨y, hy, rfl⟩ := hx
  simpa using hy
 ·intro h
  exact ⟨j, by rw [compact_mem, msortI_mem, toI, List.mem_map]; exact ⟨j, h, rfl⟩, by simp⟩
theorem srt_len (l : List Nat) : (srt l).length ≤ l.length := by
 rw [srt, ofI, List.length_map]
 have h1 : (Lib.compact (msortI (toI l))).length ≤ (msortI (toI l)).length := cut_length _ _
 rw [msortI_length, toI, List.length_map] at h1
 exact h1
theorem sortN_c (o : Nat) (l : List Nat) (len : Nat) (hlen : len = l.length) (hl : l.length ≤ 1000000) (n : Nat) (ho : H o = some ⟨3, 1, nats l⟩) : ACalls Tryz.prog G 200 [.os o 0 len] H n fun r H' n' => H' = hu H o (some ⟨3, 1, (msortI (toI l)).map fun x => [AV.int x]⟩) := by
 subst hlen
 have hl2 : (toI l).length = l.length := List.length_map _
 have h := ACalls.of_row (P := Tryz.prog) (G := G) (n := n) (f := 200) (enters_of_b (by kernel_rfl)) (zs := toI l) (ds := msortI (toI l)) (jr := []) (res := none) (H := H) (o := o) (E := 3) (by rw [List.append_nil, ← nats_toI]; exact ho) (msortI_length (toI l)) (fun m h => by cases h) (fun w blk cap hH hb hc => Tryz.slices_Sort_int blk 0 cap (toI l) w hH hb (by omega))
 rw [hl2] at h
 refine h.mono fun r H' n' h => ?_
 rw [h.2, List.append_nil]
theorem compactN_c (o : Nat) (l : List Nat) (len : Nat) (hlen : len = l.length) (hl : l.length ≤ 1000000) (n : Nat) (ho : H o = some ⟨3, 1, (msortI (toI l)).map fun x => [AV.int x]⟩) : ACalls Tryz.prog G 201 [.os o 0 len] H n fun r H' n' => r = .os o 0 (srt l).length ∧ ∃ jr, H' = hu H o (some ⟨3, 1, nats (srt l) ++ jr⟩) := by
 subst hlen
 have hl2 : (msortI (toI l)).length = l.length := by rw [msortI_length, toI, List.length_map]
 have hcl : (Lib.compact (msortI (toI l))).length ≤ (msortI (toI l)).length := cut_length _ _
 have hsl : (srt l).length = (Lib.compact (msortI (toI l))).length := List.length_map _
 have h := ACalls.of_row (P := Tryz.prog) (G := G) (n := n) (f := 201) (enters_of_b (by kernel_rfl)) (zs := msortI (toI l)) (ds := Lib.compact (msortI (toI l)) ++ List.replicate ((msortI (toI l)).length - (Lib.compact (msortI (toI l))).length) 0) (jr := []) (res := some (Lib.compact (msortI (toI l))).length) (H := H) (o := o) (E := 3) (by rw [List.append_nil]; exact ho) (by simp; omega) (fun m h => by cases h; exact hcl) (fun w blk cap hH hb hc => (Tryz.slices_Compact_int blk 0 cap (msortI (toI l)) w hH (by omega) hc).mono fun e w' ⟨k1, q, k2⟩ => ⟨k1, q, #[], by rw [k2]; simp⟩)
 rw [hl2] at h
 refine h.mono fun r H' n' h => ⟨by rw [h.1, hsl]; rfl, (List.replicate ((msortI (toI l)).length - (Lib.compact (msortI (toI l))).length) 0).map (fun x => [AV.int x]), ?_⟩
 rw [h.2, List.append_nil, List.map_append, srt, nats_ofI (srt_nn l), hl2]
theorem rep_nil {w : World} {g : Gh} {vs : Array Value} (h : RepList w g [.ls false []] vs.toList) : vs = #[.slice none 0 0] := by
 obtain ⟨v, vs', h1, ⟨a, cap, h2, h3, h4, h5, h6, h7⟩, h8⟩ := h
 have h8 : vs' = [] := h8
 subst h8
 cases a with
 | some a => simp at h5
 | none =>
  have := (h6 rfl).1
  subst this
  subst h2
  exact Array.toList_inj.1 (by simpa using h1)
theorem sortNilI_c : AFn Tryz.prog G 200 [.ls false []] H (.tup []) := by
 intro n w g vs h1 h2 h3 h4 h5
 rw [rep_nil h5]
 refine .inl ⟨enters_of_b (by kernel_rfl), (Tryz.slices_Sort_int_none none 0 w).mono fun e w' ⟨k1, k2⟩ => ?_⟩
 subst k2
 exact ⟨_, _, g, k1, ⟨rfl, h2⟩, ⟨#[], rfl, rfl⟩, h1, Step.refl _ _⟩
theorem compactNilI_c : AFn Tryz.prog G 201 [.ls false []] H (.ls false []) := by
 intro n w g vs h1 h2 h3 h4 h5
 rw [rep_nil h5]
 refine .inl ⟨enters_of_b (by kernel_rfl), (Tryz.slices_Compact_int_empty none 0 w).mono fun e w' ⟨k1, k2⟩ => ?_⟩
 subst k2
 exact ⟨_, _, g, k1, ⟨rfl, h2⟩, ⟨none, 0, rfl, by simp, by simp [maxLen], rfl, by simp, by simp⟩, h1, Step.refl _ _⟩
theorem xapp_outS {P : Program} {G : Nat → AV} {n0 n : Nat} {H : Nat → Option AObj} {fr : Nat → AV} {K : St → Prop} {u : Wit K} {d : Option Nat} {os : List AOper} {i : Option Nat} {E : TypeId} {sz bytes : Nat} {rows : List (List AV)} {x : AV} {r : List AV} {rs : List (List AV)} {len : Nat} (h : OutIs n0 H i E sz rows n) (hl : len = rows.length) (hx : srcRows H x = some (r :: rs)) (hr : Even sz (r :: rs)) (hb : (rows.length + (rs.length + 1)) * bytes ≤ 140737488355328) (hb2 : rs.length + 1 ≤ 1000000)
  (k : ∀ HN, HN n = some ⟨E, sz, rows ++ r :: rs⟩ → (∀ j, j ≠ n → i ≠ some j → HN j = H j) → xops P G K u os ⟨Ab.put fr d (.os n 0 (rows.length + (rs.length + 1))), HN, n + 1⟩) : xapp P G K u os d E sz bytes fr H n (outAV i len) x := by
 subst hl
 cases i with
 | none =>
  have h0 : rows = [] := h
  subst h0
  show xapp P G K u os d E sz bytes fr H n (.ls false []) x
  rw [xapp_srcN hx hr (by simp; omega) (by simpa using hb)]
  have := k (hu H n (some ⟨E, sz, r :: rs⟩)) (by rw [hu_same]; rfl) (fun j h1 _ => hu_ne h1)
  simpa using this
 | some o =>
  show xapp P G K u os d E sz bytes fr H n (.os o 0 rows.length) x
  rw [xapp_src h.1 (Nat.le_refl _) hx hr (by simp only [List.length_cons]; omega) (by simpa using hb)]
  have := k (hu (hu H o none) n (some ⟨E, sz, rows ++ r :: rs⟩)) hu_same (fun j h1 h2 => by rw [hu_ne h1, hu_ne (fun e => h2 (by rw [e]))])
  simpa using this
set_option maxHeartbeats 6400000 in
theorem nbs_run {g m : Nat} {r : Rls} {nz : Bool} {l : List Tch} {K : List Idn} {ob : Idn → Nat} {N : Nat} (h : Grp H g m r nz l K ob N) (hok : TouchesOk l) (a : Nat) (ha : a < l.length) (n : Nat) (hN : N ≤ n) : ACalls Tryz.prog G 129 [.op g 0 0, .int (a : Nat)] H n fun v H' n' => ∃ nb oid jr, (∀ j, j ∈ nb ↔ tie (joins r l) l a j) ∧ nb.length ≤ 100000 ∧ Ab.Sub H H' ∧ v = outAV oid nb.length ∧ OutIs n H' oid 3 1 (nats nb ++ jr) n' ∧ (oid = none → nb = []) := by
 have hrow := h.row
 have hia : l[a]? = some (tAt l a) := by rw [tAt_get (List.getElem?_eq_getElem ha)]; exact List.getElem?_eq_getElem ha
 have hta := hok.each _ (tAt_mem ha)
 have hfa := hta.few
 have htie : ∀ j, tie (joins r l) l a j ↔ ∃ x ∈ (tAt l a).ids, joins r l x = true ∧ j ∈ occ l x := fun j => by
  constructor
  ·rintro ⟨x, h1, h2, h3⟩
   exact ⟨x, (has_tAt h2).2, h1, mem_occ.2 h3⟩
  ·rintro ⟨x, h1, h2, h3⟩
   exact ⟨x, h2, ⟨tAt l a, hia, h1⟩, mem_occ.1 h3⟩
 have hhas : ∀ x ∈ (tAt l a).ids, a ∈ occ l x := fun x hx => mem_occ.2 ⟨tAt l a, hia, hx⟩
 generalize hAa : tAt l a = A at *
 have hfew := h.few
 have hgN := h.lt
 have hmN := h.hv.low.1
 refine ACalls.start mix F129 (by simp) fun hlow => ?_
 have hq := Qt.refl hlow
 simp (disch := omega) only [↓wpre, push_cast, seval, c129, hrow, even_tch, aidx_at rfl hia]
 refine xw_loopJ (σ := List Idn × List Idn × List Nat × Option Nat) (fun t => [(0, .op g 0 0), (5, outAV t.2.2.2 t.2.2.1.length), (15, .ls A.nzi (A.ids.map Idn.c)), (16, .int A.ids.length), (17, .int t.1.length)]) (fun t H' n' => A.ids = t.1 ++ t.2.1 ∧ (∀ j, j ∈ t.2.2.1 ↔ ∃ x ∈ t.1, joins r l x = true ∧ j ∈ occ l x) ∧ t.2.2.1.length ≤ 2000 * t.1.length ∧ OutIs n H' t.2.2.2 3 1 (nats t.2.2.1) n' ∧ Qt H H' n ∧ n ≤ n') (fun t => t.2.1.length) ([], A.ids, [], none) ⟨rfl, fun j => by simp, by simp, rfl, hq, Nat.le_refl _⟩ (by simp (disch := omega) only [↓wpre, push_cast, seval]; try rfl) ?_
 clear hq
 rintro ⟨d, s, L, oid⟩ fr H' n1 ⟨hab, hL, hLl, ho, hq, hn1⟩ hh
 simp only [has_nil, has_cons, and_true] at hh hab hL hLl ho
 have hll : A.ids.length = d.length + s.length := by rw [hab]; simp
 cases s with
 | cons x s =>
  have hlt : (d.length : Int) < A.ids.length := by rw [hll]; simp only [List.length_cons]; omega
  have hx : A.ids[d.length]? = some x := by rw [hab]; simp
  have hax := hhas x (List.mem_of_getElem? hx)
  have h1 := h.sub hq.1
  have hgr := h1.row
  have hm := h1.hv.map
  have hxK : x ∈ K := (h1.hv.all x).1 (fun e => by rw [e] at hax; cases hax)
  have hlv : lookRes false (.ls false []) (mget (K.map fun x => [AV.agg x.c, AV.os (ob x) 0 (occ l x).length]) (.agg x.c)) = .os (ob x) 0 (occ l x).length := by rw [h1.hv.look hxK]; rfl
  have hob := h1.hv.obj x hxK
  have hobN := h1.hv.low.2 x hxK
  have hol := occ_len l x
  simp (disch := omega) only [↓wpre, push_cast, seval, hh, hlt, even_ids, aidx_at rfl hx]
  refine AFn.x (joins_c G _ (h.sub ?hs) x) fun n2 hn2 => ?_
  case hs => exact (Qt.mono (n := n) (by repeat (first | exact hq | refine Qt.hu ?_ (by omega))) (Nat.le_refl _)).1
  by_cases hj : joins r l x = true
  ·obtain ⟨y, ys, hocc⟩ : ∃ y ys, occ l x = y :: ys := by
    cases ho : occ l x with
    | nil => rw [ho] at hax; cases hax
    | cons y ys => exact ⟨y, ys, rfl⟩
   simp (disch := omega) only [↓wpre, push_cast, seval, hh, hj]
   refine xw_nreg noH (of_eq_true (sub_noH _)) ?_
   simp (disch := omega) only [↓wpre, push_cast, seval, hh, hgr, hm, hlv]
   have hsrc : ∀ (Hx : Nat → Option AObj), Hx (ob x) = some ⟨3, 1, nats (occ l x)⟩ → srcRows Hx (.os (ob x) 0 (occ l x).length) = some ([AV.int (y : Nat)] :: nats ys) := fun Hx hx => by
    simp only [srcRows, hx]
    rw [if_pos (by simp [nats]), List.drop_zero, List.take_of_length_le (by simp [nats]), hocc]
    rfl
   have hysl : ys.length + 1 = (occ l x).length := by rw [hocc]; rfl
   have hev : Even 1 ([AV.int (y : Nat)] :: nats ys) := of_eq_true (by have := even_nats (y :: ys); simpa [nats] using this)
   have hnl : (nats ys).length = ys.length := nats_len ys
   have hLn : (nats L).length = L.length := nats_len L
   have hdl : d.length ≤ 10 := by omega
   have hLb : L.length ≤ 20000 := by omega
   refine xapp_outS (n0 := n) (rows := nats L) (keepO ho (fun o e => ?k1) (by omega)) hLn.symm (hsrc _ ?k2) hev (by rw [hnl, hLn]; omega) (by rw [hnl]; omega) fun HN hN hNj => ?k3
   case k1 =>
    rw [e] at ho
    have := ho.2.2
    repeat rw [hu_ne (by omega)]
   case k2 =>
    repeat rw [hu_ne (by omega)]
    exact hob
   case k3 =>
    have hLe : (nats L).length + ((nats ys).length + 1) = (L ++ occ l x).length := by rw [hnl, hLn, List.length_append]; omega
    rw [hLe]
    simp (disch := omega) only [↓wpre, push_cast, seval, hh]
    refine againJ (d ++ [x], s, L ++ occ l x, some n2) (Nat.lt_succ_self _) ⟨by rw [hab]; simp, fun j => ?_, ?_, ⟨?_, by omega, by omega⟩, ?_, by omega⟩ (by simp (disch := omega) only [↓wpre, push_cast, seval, hh]; try simp [outAV]; all_goals (try simp only [AV.lit.injEq, Value.int.injEq, Value.bool.injEq, true_and, and_true]); all_goals (try (repeat' apply And.intro)); all_goals (first | rfl | omega | simp_all | skip))
    ·rw [List.mem_append, hL j]
     constructor
     ·rintro (⟨z, h1, h2, h3⟩ | h1)
      ·exact ⟨z, by simp [h1], h2, h3⟩
      ·exact ⟨x, by simp, hj, h1⟩
     ·rintro ⟨z, h1, h2, h3⟩
      rcases List.mem_append.1 h1 with h1 | h1
      ·exact .inl ⟨z, h1, h2, h3⟩
      ·simp only [List.mem_singleton] at h1
       subst h1
       exact .inr h3
    ·simp only [List.length_append, List.length_cons, List.length_nil]; omega
    ·dsimp only
     rw [hN, show nats (L ++ occ l x) = nats L ++ ([AV.int (y : Nat)] :: nats ys) from by rw [hocc]; simp [nats]]
    ·refine ⟨fun j y hy => ?_, hq.2⟩
     have hjn := hq.2 j y hy
     rw [hNj j (by omega) (fun e => by rw [e] at ho; have := ho.2.1; omega)]
     repeat rw [hu_ne (by omega)]
     exact hq.1 _ _ hy
  ·have hj' : joins r l x = false := by simpa using hj
   simp (disch := omega) only [↓wpre, push_cast, seval, hh, hj']
   refine againJ (d ++ [x], s, L, oid) (Nat.lt_succ_self _) ⟨by rw [hab]; simp, fun j => ?_, ?_, keepO ho (fun o e => ?k1) (by omega), by exact Qt.mono (n := n) (by repeat (first | exact hq | refine Qt.hu ?_ (by omega))) (by omega), by omega⟩ (by simp (disch := omega) only [↓wpre, push_cast, seval, hh]; all_goals (try simp only [AV.lit.injEq, Value.int.injEq, Value.bool.injEq, true_and, and_true]); all_goals (try (repeat' apply And.intro)); all_goals (first | rfl | omega | simp_all | skip))
   case k1 =>
    dsimp only at e
    rw [e] at ho
    have := ho.2.2
    repeat rw [hu_ne (by omega)]
   ·rw [hL j]
    constructor
    ·rintro ⟨z, h1, h2, h3⟩
     exact ⟨z, by simp [h1], h2, h3⟩
    ·rintro ⟨z, h1, h2, h3⟩
     rcases List.mem_append.1 h1 with h1 | h1
     ·exact ⟨z, h1, h2, h3⟩
     ·simp only [List.mem_singleton] at h1
      subst h1
      rw [hj'] at h2; cases h2
   ·simp only [List.length_append, List.length_cons, List.length_nil]; omega
 | nil =>
  have hlt : ¬ (d.length : Int) < A.ids.length := by rw [hll]; simp
  have hdA : d = A.ids := by rw [hab]; simp
  have hdl : d.length ≤ 10 := by omega
  have hmem : ∀ j, j ∈ L ↔ tie (joins r l) l a j := fun j => by rw [hL j, htie j, hdA]
  simp (disch := omega) only [↓wpre, push_cast, seval, hh, hlt]
  cases oid with
  | none =>
   have h0 : nats L = [] := ho
   have h0 : L = [] := by simpa [nats] using h0
   subst h0
   have hout : ∀ x, outAV none x = .ls false [] := fun _ => rfl
   simp (disch := omega) only [↓wpre, push_cast, seval, hout]
   refine AFn.x (sortNilI_c G _) fun n2 hn2 => ?_
   simp (disch := omega) only [↓wpre, push_cast, seval, hh, hout]
   refine AFn.x (compactNilI_c G _) fun n3 hn3 => ?_
   simp (disch := omega) only [↓wpre, push_cast, seval]
   refine fin_intro (Ab.Sub.refl _) ⟨[], none, [], hmem, by simp, hq.1, rfl, by simp [OutIs, nats], fun _ => rfl⟩
  | some o =>
   have hout : ∀ x, outAV (some o) x = .os o 0 x := fun _ => rfl
   have hon := ho.2.1
   simp (disch := omega) only [↓wpre, push_cast, seval, hout]
   refine ACalls.x (ACalls.lowp (sortN_c G _ o L _ rfl (by omega) n1 ho.1)) fun v H2 n2 ⟨e2, hn2, hl2⟩ => ?_
   subst e2
   simp (disch := omega) only [↓wpre, push_cast, seval, hh, hout]
   refine ACalls.x (ACalls.lowp (compactN_c G _ o L _ rfl (by omega) n2 hu_same)) fun v H3 n3 ⟨⟨e1, jr, e3⟩, hn3, hl3⟩ => ?_
   subst e1 e3
   simp (disch := omega) only [↓wpre, push_cast, seval]
   have hsl := srt_len L
   refine fin_intro (Ab.Sub.refl _) ⟨srt L, some o, jr, fun j => by rw [mem_srt, hmem j], by omega, ?_, rfl, ⟨hu_same, hon, by have := ho.2.2; omega⟩, fun h => by cases h⟩
   rw [hu_hu]
   exact (Qt.hu hq hon).1
theorem nbs_c {g m : Nat} {r : Rls} {nz : Bool} {l : List Tch} {K : List Idn} {ob : Idn → Nat} {N : Nat} (h : Grp H g m r nz l K ob N) (hok : TouchesOk l) (a : Nat) (ha : a < l.length) (n : Nat) (hN : N ≤ n) : ACalls Tryz.prog G 129 [.op g 0 0, .int (a : Nat)] H n fun v H' n' => ∃ nb nz', (∀ j, j ∈ nb ↔ tie (joins r l) l a j) ∧ nb.length ≤ 100000 ∧ v = .ls nz' (nats nb) ∧ H' = H := by
 refine low_of G H fun hlow => ?_
 refine ACalls.frz (nbs_run G H h hok a ha n hN) ?_
 rintro v H1 n1 ⟨nb, oid, jr, hm, hl, hs, rfl, ho, hn0⟩
 have hD : ∀ j, n ≤ j → (fun j => if n ≤ j then H1 j else none) j = H1 j := fun j hj => if_pos hj
 have hfz : ∃ nz', frz (fun j => if n ≤ j then H1 j else none) 1 (outAV oid nb.length) = .ls nz' (nats nb) := by
  cases oid with
  | none => rw [hn0 rfl]; exact ⟨false, rfl⟩
  | some o =>
   refine ⟨true, (frz1_take (o := ⟨3, 1, nats nb ++ jr⟩) ((hD o ho.2.1).trans ho.1) (by simp [nats])).trans ?_⟩
   congr 1
   simp [nats]
 obtain ⟨nz', hfz⟩ := hfz
 refine ⟨fun j => if n ≤ j then H1 j else none, H, 1, fun j o hj => ?_, hs, fun j o hj => ?_, nb, nz', hm, hl, hfz, rfl⟩
 ·dsimp only at hj
  split at hj
  ·exact hj
  ·cases hj
 ·dsimp only at hj
  split at hj
  ·rename_i hn
   cases hH : H j with
   | none => rfl
   | some x => exact absurd (hlow j x hH) (by omega)
  ·cases hj
/-! How far each touch is from one. -/
structure QIs (H : Nat → Option AObj) (n oo : Nat) (Q : List Nat) (qn off N : Nat) : Prop where
 ex : ∃ rows, H qn = some ⟨3, 1, rows⟩ ∧ off + Q.length ≤ rows.length ∧ (rows.drop off).take Q.length = nats Q
 lo : n ≤ qn
 ne : qn ≠ oo
 hi : qn < N
theorem QIs.keep {H H2 : Nat → Option AObj} {n oo : Nat} {Q : List Nat} {qn off N N' : Nat} (h : QIs H n oo Q qn off N) (hk : H2 qn = H qn) (hN : N ≤ N') : QIs H2 n oo Q qn off N' := ⟨by rw [hk]; exact h.ex, h.lo, h.ne, by have := h.hi; omega⟩
theorem q_head {rows : List (List AV)} {off : Nat} {q : Nat} {Q : List Nat} (h : (rows.drop off).take (Q.length + 1) = nats (q :: Q)) : rows[off]? = some [AV.int (q : Nat)] := by
 have h1 := congrArg (fun l => l[0]?) h
 simp only [nats, List.map_cons, List.getElem?_cons_zero] at h1
 rw [List.getElem?_take_of_lt (by omega), List.getElem?_drop, Nat.add_zero] at h1
 exact h1
theorem ints_set (l : List Int) (i : Nat) (v : Int) : (ints l).set i [AV.int v] = ints (l.set i v) := by rw [ints, ints, List.map_set]
theorem ints_get {l : List Int} {i : Nat} (h : i < l.length) : (ints l)[i]? = some [AV.int (fAt l i)] := by rw [ints, List.getElem?_map, fAt_row h]; rfl
set_option maxHeartbeats 6400000 in
theorem far_run {g m : Nat} {r : Rls} {nz : Bool} {l : List Tch} {K : List Idn} {ob : Idn → Nat} {N : Nat} (h : Grp H g m r nz l K ob N) (hok : TouchesOk l) (src : Nat) (hs : src < l.length) (n : Nat) (hN : N ≤ n) : ACalls Tryz.prog G 128 [.op g 0 0, .int (src : Nat)] H n fun v H' n' => ∃ out o, Bfs (joins r l) l src out ∧ (∀ i, 0 ≤ fAt out i → ∀ j, tie (joins r l) l i j → 0 ≤ fAt out j) ∧ v = .os o 0 l.length ∧ H' o = some ⟨3, 1, ints out⟩ ∧ n ≤ o ∧ Ab.Sub H H' := by
 have hrow := h.row
 have hfew := h.few
 have hgN := h.lt
 refine ACalls.start mix F128 (by simp) fun hlow => ?_
 simp (disch := omega) only [↓wpre, push_cast, seval, c128, hrow]
 refine ACalls.x (ACalls.lowp (repeatI_c G _ l.length (by omega) n)) fun v H1 n1 ⟨⟨oo, e1, ho1, hoo1, hoo2, hs1⟩, hn1, hl1⟩ => ?_
 subst e1
 have hs0 : (0 : Int) ≤ (src : Nat) := by omega
 have hsl : (src : Nat) < l.length := hs
 have g0 : (List.replicate l.length [AV.int (-1)])[src]? = some [AV.int (-1)] := by rw [List.getElem?_replicate, if_pos hs]
 have s0 : (List.replicate l.length [AV.int (-1)]).set src [AV.int 0] = ints ((List.replicate l.length (-1)).set src 0) := by rw [← ints_set, ints, List.map_replicate]
 have hsi : (src : Int) < l.length := by omega
 simp (disch := omega) only [↓wpre, push_cast, seval, ho1, hs0, hsl, hsi, g0, s0, Int.toNat_natCast]
 have hq : Qt H H1 n := ⟨hs1, hlow⟩
 have hrep : ∀ j, fAt (List.replicate l.length (-1)) j = -1 := fun j => by
  unfold fAt
  rw [List.getElem?_replicate]
  split <;> rfl
 have hlft : lft ((List.replicate l.length (-1)).set src 0) + 1 ≤ l.length := by
  have h1 := lft_set (out := List.replicate l.length (-1)) (i := src) (v := 0) (by simpa using hs) (by rw [hrep]; decide) (Int.le_refl _)
  have h2 := lft_le (List.replicate l.length (-1))
  rw [List.length_replicate] at h2
  omega
 refine xw_loopJ (σ := List Int × List Nat × AV × Nat) (fun t => [(0, .op g 0 0), (5, .os oo 0 l.length), (6, t.2.2.1)]) (fun t H' n' => Bfs (joins r l) l src t.1 ∧ (∀ q ∈ t.2.1, q < l.length ∧ 0 ≤ fAt t.1 q) ∧ (∀ i, 0 ≤ fAt t.1 i → i ∈ t.2.1 ∨ ∀ j, tie (joins r l) l i j → 0 ≤ fAt t.1 j) ∧ ((t.2.1 = [] ∧ t.2.2.1 = .ls true []) ∨ ∃ qn, t.2.2.1 = .os qn t.2.2.2 t.2.1.length ∧ t.2.1 ≠ [] ∧ QIs H' n oo t.2.1 qn t.2.2.2 n') ∧ t.2.2.2 + t.2.1.length + lft t.1 ≤ l.length ∧ H' oo = some ⟨3, 1, ints t.1⟩ ∧ Qt H H' n ∧ n1 ≤ n') (fun t => lft t.1 + t.2.1.length) ((List.replicate l.length (-1)).set src 0, [src], .os n1 0 1, 0) ⟨Bfs.start hs, ?_, ?_, .inr ⟨n1, rfl, by simp, ⟨[[AV.int (src : Nat)]], by first | exact hu_same | (rw [hu_same]), by simp, by simp [nats]⟩, by omega, by omega, by omega⟩, by simp; omega, by rw [hu_ne (by omega)]; exact hu_same, by exact Qt.mono (n := n) (by repeat (first | exact hq | refine Qt.hu ?_ (by omega))) (by omega), by omega⟩ (by simp (disch := omega) only [↓wpre, push_cast, seval]; try rfl) ?_
 ·intro q hq
  simp only [List.mem_singleton] at hq
  subst hq
  exact ⟨hs, by rw [(Bfs.start (J := joins r l) hs).zero]; exact Int.le_refl _⟩
 ·intro i hi
  rw [fAt_set (by simpa using hs)] at hi
  split at hi
  ·rename_i e; subst e; exact .inl (by simp)
  ·rw [hrep] at hi; omega
 clear hq
 rintro ⟨out, Q, qv, off⟩ fr H' n2 ⟨hb, hqr, hdone, hqv, hoff, hout, hq, hn2⟩ hh
 simp only [has_nil, has_cons, and_true] at hh hb hqr hdone hqv hoff hout
 have hol := hb.len
 cases Q with
 | nil =>
  have hqv : qv = .ls true [] := by
   rcases hqv with ⟨_, h⟩ | ⟨_, _, h, _⟩
   ·exact h
   ·exact absurd rfl h
  subst hqv
  simp (disch := omega) only [↓wpre, push_cast, seval, hh]
  refine fin_intro (Ab.Sub.refl _) ⟨out, oo, hb, fun i hi j ht => ?_, rfl, hout, by omega, hq.1⟩
  rcases hdone i hi with h1 | h1
  ·cases h1
  ·exact h1 j ht
 | cons q Q =>
  obtain ⟨qn, rfl, hQ⟩ : ∃ qn, qv = .os qn off (Q.length + 1) ∧ QIs H' n oo (q :: Q) qn off n2 := by
   rcases hqv with ⟨h, _⟩ | ⟨qn, h1, _, h2⟩
   ·cases h
   ·exact ⟨qn, h1, h2⟩
  obtain ⟨hql, hqp⟩ := hqr q (by simp)
  obtain ⟨⟨rows, hr1, hr2, hr3⟩, hlo, hqne, hhi⟩ := hQ
  have hqh := q_head hr3
  have hpos : (0 : Int) < (Q.length : Int) + 1 := by omega
  have hpos2 : (0 : Int) < ((Q.length + 1 : Nat) : Int) := by omega
  have hposn : 0 < Q.length + 1 := by omega
  simp (disch := omega) only [↓wpre, push_cast, seval, hh, hpos, hpos2, hposn, hr1, hqh, Int.toNat_zero, Nat.add_zero]
  refine ACalls.x (ACalls.lowp (nbs_c G _ (h.sub hq.1) hok q hql n2 (by omega))) fun v H2 n3 ⟨⟨nb, nz', hnb, hnbl, e1, e2⟩, hn3, hl3⟩ => ?_
  subst e1 e2
  have hnl : (nats nb).length = nb.length := nats_len nb
  simp (disch := omega) only [↓wpre, push_cast, seval, hh, hnl]
  refine xw_loopJ (σ := List Nat × List Nat × List Int × List Nat × Nat × Nat) (fun t => [(0, .op g 0 0), (5, .os oo 0 l.length), (6, .os t.2.2.2.2.1 t.2.2.2.2.2 (t.2.2.2.1.length + 1)), (30, .ls nz' (nats nb)), (31, .int nb.length), (32, .int t.1.length)]) (fun t H' n' => nb = t.1 ++ t.2.1 ∧ Bfs (joins r l) l src t.2.2.1 ∧ (∀ p ∈ q :: t.2.2.2.1, p < l.length ∧ 0 ≤ fAt t.2.2.1 p) ∧ (∀ i, 0 ≤ fAt t.2.2.1 i → i ∈ q :: t.2.2.2.1 ∨ ∀ j, tie (joins r l) l i j → 0 ≤ fAt t.2.2.1 j) ∧ (∀ j ∈ t.1, 0 ≤ fAt t.2.2.1 j) ∧ QIs H' n oo (q :: t.2.2.2.1) t.2.2.2.2.1 t.2.2.2.2.2 n' ∧ t.2.2.2.2.2 + (t.2.2.2.1.length + 1) + lft t.2.2.1 ≤ l.length ∧ lft t.2.2.1 + t.2.2.2.1.length = lft out + Q.length ∧ H' oo = some ⟨3, 1, ints t.2.2.1⟩ ∧ Qt H H' n ∧ n1 ≤ n') (fun t => t.2.1.length) ([], nb, out, Q, qn, off) ⟨rfl, hb, hqr, hdone, (fun j hj => by cases hj), ⟨⟨rows, hr1, hr2, hr3⟩, hlo, hqne, by (try dsimp only); omega⟩, hoff, rfl, hout, hq, by (try dsimp only); omega⟩ (by simp (disch := omega) only [↓wpre, push_cast, seval, hh]; try rfl) ?_
  clear hb hqr hdone hr1 hr2 hr3 hlo hqne hhi hqh hout hq hh hoff hqp hol hn2 hl3
  rintro ⟨d, s, out1, Q1, qn, off⟩ fr H' n4 ⟨hab, hb, hqr, hdone, hdd, hQ, hoff, hmeas, hout, hq, hn4⟩ hh
  simp only [has_nil, has_cons, and_true] at hh hab hb hqr hdone hdd hQ hoff hmeas hout
  have hol := hb.len
  have hll : nb.length = d.length + s.length := by rw [hab]; simp
  obtain ⟨hql, hqp⟩ := hqr q (by simp)
  obtain ⟨⟨rows, hr1, hr2, hr3⟩, hlo, hqne, hhi⟩ := hQ
  have hqh := q_head hr3
  have hr2 : off + (Q1.length + 1) ≤ rows.length := hr2
  cases s with
  | nil =>
   have hlt : ¬ (d.length : Int) < nb.length := by rw [hll]; simp
   have hdn : d = nb := by rw [hab]; simp
   subst hdn
   have hcut : ∀ a b, CutOk H' 1 (.os qn a b) = True := fun _ _ => eq_true ⟨_, hr1, rfl⟩
   have hdone2 : ∀ i, 0 ≤ fAt out1 i → i ∈ Q1 ∨ ∀ j, tie (joins r l) l i j → 0 ≤ fAt out1 j := fun i hi => by
    rcases hdone i hi with h1 | h1
    ·rcases List.mem_cons.1 h1 with rfl | h1
     ·exact .inr fun j hj => hdd j ((hnb j).2 hj)
     ·exact .inl h1
    ·exact .inr h1
   cases Q1 with
   | nil =>
    have hsl : ∀ k, k = 1 → asl (.os qn off k) (some (.int 1)) none = some (.ls true []) := fun k hk => by subst hk; simp [asl, abound]
    simp (disch := omega) only [↓wpre, push_cast, seval, hh, hlt, hcut, hsl, List.length_nil]
    refine againJ (out1, [], .ls true [], off + 1) (by dsimp only; simp at hmeas ⊢; omega) ⟨hb, fun p hp => (by cases hp), hdone2, .inl ⟨rfl, rfl⟩, by simp at hoff ⊢; omega, hout, hq, by omega⟩ (by simp (disch := omega) only [↓wpre, push_cast, seval, hh]; all_goals (try simp only [AV.lit.injEq, Value.int.injEq, Value.bool.injEq, true_and, and_true]); all_goals (try (repeat' apply And.intro)); all_goals (first | rfl | omega | simp_all | skip))
   | cons q2 Q2 =>
    have hsl : ∀ k, k = Q2.length + 1 + 1 → asl (.os qn off k) (some (.int 1)) none = some (.os qn (off + 1) (Q2.length + 1)) := fun k hk => by
     subst hk
     simp only [asl, abound]
     rw [if_pos (by omega)]
     simp
    simp (disch := omega) only [↓wpre, push_cast, seval, hh, hlt, hcut, hsl, List.length_cons]
    refine againJ (out1, q2 :: Q2, .os qn (off + 1) (Q2.length + 1), off + 1) (by dsimp only; simp only [List.length_cons] at hmeas ⊢; omega) ⟨hb, fun p hp => hqr p (by simp [hp]), hdone2, .inr ⟨qn, rfl, by simp, ⟨rows, hr1, by simp only [List.length_cons] at hr2 ⊢; omega, ?_⟩, hlo, hqne, hhi⟩, by simp only [List.length_cons] at hoff ⊢; omega, hout, hq, by omega⟩ (by simp (disch := omega) only [↓wpre, push_cast, seval, hh]; all_goals (try simp only [AV.lit.injEq, Value.int.injEq, Value.bool.injEq, true_and, and_true]); all_goals (try (repeat' apply And.intro)); all_goals (first | rfl | omega | simp_all | skip))
    have h9 := congrArg (List.drop 1) hr3
    rw [List.drop_take, List.drop_drop] at h9
    simpa [nats] using h9
  | cons i s =>
   have hlt : (d.length : Int) < nb.length := by rw [hll]; simp only [List.length_cons]; omega
   have hx : (nats nb)[d.length]? = some [AV.int (i : Nat)] := by rw [hab]; simp [nats]
   have hd0 : (0 : Int) ≤ d.length := by omega
   have hix : ∀ H : Nat → Option AObj, aidx H 1 (.ls nz' (nats nb)) (.int d.length) = some (.pp [AV.int (i : Nat)]) := fun H => by
    simp only [aidx]
    rw [if_pos hd0]
    simp [hx]
   have hti := (hnb i).1 (by rw [hab]; simp)
   have hil : i < l.length := by
    obtain ⟨x, _, _, h3⟩ := hti
    exact has_lt h3
   have hi0 : (0 : Int) ≤ (i : Nat) := by omega
   have hili : ((i : Nat) : Int) < l.length := by omega
   have gI := ints_get (l := out1) (i := i) (by omega)
   have gQ := ints_get (l := out1) (i := q) (by omega)
   have hq0 : (0 : Int) ≤ (q : Nat) := by omega
   have hqli : ((q : Nat) : Int) < l.length := by omega
   have hev := even_nats nb
   by_cases hneg : fAt out1 i < 0
   ·have hhigh := hb.high q
    have hst := hb.step hil hneg hti hqp
    have hlf := lft_set (out := out1) (i := i) (v := fAt out1 q + 1) (by omega) hneg (by omega)
    have sI := ints_set out1 i (fAt out1 q + 1)
    have hfs := fAt_set (out := out1) (i := i) (by omega) (fAt out1 q + 1)
    have hpos : (0 : Int) < (Q1.length : Int) + 1 := by omega
    have hpos2 : (0 : Int) < ((Q1.length + 1 : Nat) : Int) := by omega
    have hposn : 0 < Q1.length + 1 := by omega
    simp (disch := omega) only [↓wpre, push_cast, seval, hh, hlt, hix, hev, hout, gI, gQ, hi0, hili, hil, hq0, hqli, hql, hneg, hpos, hpos2, hposn, hr1, hqh, sI, Int.toNat_natCast, Int.toNat_zero, Nat.add_zero]
    refine xapp_off (rows := rows) (news := [[AV.int (i : Nat)]]) (by simp (disch := omega) only [↓wpre, push_cast, seval, hr1]) hr2 rfl (by intro r hr; simp at hr; subst hr; exact ⟨rfl, rfl⟩) (by simp) (by simp only [List.length_cons, List.length_nil]; omega) fun off' rows' h1 h2 h3 => ?_
    simp (disch := omega) only [↓wpre, push_cast, seval, hh]
    have hr3' : (rows.drop off).take (Q1.length + 1) = nats (q :: Q1) := hr3
    rw [hr3'] at h3
    simp only [List.length_cons, List.length_nil] at h1
    have hqm : ∀ k, 0 ≤ fAt out1 k → 0 ≤ fAt (out1.set i (fAt out1 q + 1)) k := fun k hk => by
     rw [hfs]
     split
     ·omega
     ·exact hk
    refine againJ (d ++ [i], s, out1.set i (fAt out1 q + 1), Q1 ++ [i], n4, off') (Nat.lt_succ_self _) ⟨by rw [hab]; simp, hst, fun p hp => ?_, fun k hk => ?_, fun k hk => ?_, ⟨⟨rows', hu_same, ?_, ?_⟩, by dsimp only; omega, by dsimp only; omega, by dsimp only; omega⟩, ?_, ?_, ?_, ?_, by omega⟩ (by simp (disch := omega) only [↓wpre, push_cast, seval, hh, List.length_append, List.length_cons, List.length_nil]; all_goals (try simp only [AV.lit.injEq, Value.int.injEq, Value.bool.injEq, true_and, and_true]); all_goals (try (repeat' apply And.intro)); all_goals (first | rfl | omega | simp_all | skip))
    ·have hp' : p ∈ q :: Q1 ∨ p = i := by simpa [or_assoc] using hp
     rcases hp' with hp | rfl
     ·exact ⟨(hqr p hp).1, hqm p (hqr p hp).2⟩
     ·exact ⟨hil, by dsimp only; rw [hfs, if_pos rfl]; omega⟩
    ·dsimp only at hk ⊢
     rw [hfs] at hk
     split at hk
     ·rename_i e; subst e; exact .inl (by simp)
     ·rcases hdone k hk with h4 | h4
      ·exact .inl (by simp at h4 ⊢; rcases h4 with h4 | h4 <;> simp [h4])
      ·exact .inr fun j hj => hqm j (h4 j hj)
    ·rcases List.mem_append.1 hk with hk | hk
     ·exact hqm k (hdd k hk)
     ·simp only [List.mem_singleton] at hk
      subst hk
      dsimp only
      rw [hfs, if_pos rfl]; omega
    ·simp only [List.length_cons, List.length_append, List.length_nil]; omega
    ·rw [h3]
     rw [List.take_of_length_le (by simp [nats])]
     simp [nats]
    ·simp only [List.length_append, List.length_cons, List.length_nil]; omega
    ·simp only [List.length_append, List.length_cons, List.length_nil]; omega
    ·rw [hu_ne (by omega), hu_ne (fun e => hqne e.symm), hu_same]
    ·refine Qt.hu (Qt.hu (Qt.hu hq (by omega)) hlo) (by omega)
   ·simp (disch := omega) only [↓wpre, push_cast, seval, hh, hlt, hix, hev, hout, gI, hi0, hili, hil, hneg, Int.toNat_natCast]
    refine againJ (d ++ [i], s, out1, Q1, qn, off) (Nat.lt_succ_self _) ⟨by rw [hab]; simp, hb, hqr, hdone, fun j hj => ?_, ⟨⟨rows, hr1, hr2, hr3⟩, hlo, hqne, hhi⟩, hoff, hmeas, hout, hq, hn4⟩ (by simp (disch := omega) only [↓wpre, push_cast, seval, hh]; all_goals (try simp only [AV.lit.injEq, Value.int.injEq, Value.bool.injEq, true_and, and_true]); all_goals (try (repeat' apply And.intro)); all_goals (first | rfl | omega | simp_all | skip))
    rcases List.mem_append.1 hj with hj | hj
    ·exact hdd j hj
    ·simp only [List.mem_singleton] at hj; subst hj; dsimp only; omega
theorem frz_all {f : FuncId} {args : List AV} {n : Nat} {R R' : AV → (Nat → Option AObj) → Nat → Prop} (k : Nat) (h : ACalls Tryz.prog G f args H n R) (hR : ∀ r H1 n1, R r H1 n1 → Ab.Sub H H1 ∧ R' (frz (fun j => if n ≤ j then H1 j else none) k r) H n1) : ACalls Tryz.prog G f args H n R' := by
 refine low_of G H fun hlow => ACalls.frz h ?_
 intro r H1 n1 hr
 obtain ⟨hs, hr'⟩ := hR r H1 n1 hr
 refine ⟨fun j => if n ≤ j then H1 j else none, H, k, fun j o hj => ?_, hs, fun j o hj => ?_, hr'⟩
 ·dsimp only at hj
  split at hj
  ·exact hj
  ·cases hj
 ·dsimp only at hj
  split at hj
  ·rename_i hn
   cases hH : H j with
   | none => rfl
   | some x => exact absurd (hlow j x hH) (by omega)
  ·cases hj
theorem far_c {g m : Nat} {r : Rls} {nz : Bool} {l : List Tch} {K : List Idn} {ob : Idn → Nat} {N : Nat} (h : Grp H g m r nz l K ob N) (hok : TouchesOk l) (src : Nat) (hs : src < l.length) (n : Nat) (hN : N ≤ n) : ACalls Tryz.prog G 128 [.op g 0 0, .int (src : Nat)] H n fun v H' n' => ∃ out, Bfs (joins r l) l src out ∧ (∀ i, 0 ≤ fAt out i → ∀ j, tie (joins r l) l i j → 0 ≤ fAt out j) ∧ v = .ls true (ints out) ∧ H' = H :=
 frz_all G H 1 (far_run G H h hok src hs n hN) fun v H1 n1 ⟨out, o, h1, h2, h3, h4, h5, h6⟩ => ⟨h6, out, h1, h2, by
  rw [h3]
  exact frz1_os (o := ⟨3, 1, ints out⟩) ((if_pos h5).trans h4) (by simp [ints, h1.len]), rfl⟩
theorem nodup_len {α : Type} [DecidableEq α] : ∀ {K L : List α}, K.Nodup → (∀ x ∈ K, x ∈ L) → K.length ≤ L.length
 | [], _, _, _ => Nat.zero_le _
 | x :: K, L, hn, hs => by
  obtain ⟨h1, h2⟩ := List.nodup_cons.1 hn
  have h3 := nodup_len (K := K) (L := L.erase x) h2 fun y hy => (List.mem_erase_of_ne (fun e => h1 (by rw [← e]; exact hy))).2 (hs y (by simp [hy]))
  rw [List.length_erase_of_mem (hs x (by simp))] at h3
  have := List.length_pos_of_mem (hs x (by simp))
  rw [List.length_cons]
  omega
theorem joinIds_sorted {r : Rls} {l : List Tch} {acc W : List Idn} (hn : acc.Nodup) (hm : ∀ x, x ∈ acc ↔ joins r l x = true ∧ 2 ≤ (occ l x).length) (hs : SortedI acc W) : W = joinIds r l := by
 have hWn : W.Nodup := hs.perm.symm.nodup hn
 refine asc_uniq ?_ (asc_setOf _) fun x => ?_
 ·have h1 : W.Pairwise fun a b => a ≠ b := hWn
  refine (hs.sorted.and h1).imp fun {a b} ⟨h2, h3⟩ => ?_
  have : cmpId a b ≠ 0 := fun e => h3 (cmpId_eq e)
  omega
 ·rw [hs.perm.mem_iff, hm x]
  exact (mem_joinIds (r := r) (l := l)).symm
set_option maxHeartbeats 6400000 in
theorem joining_c {m0 : Int} {cs : List AV} (hG : G 4 = .pp (.lit (.int .i64 m0) :: cs)) (hU : GU G) (r : Rls) (hr : RulesOk r) (nz : Bool) (l : List Tch) (h : TouchesOk l) : AFn Tryz.prog G 53 [.agg r.c, .ls nz (l.map Tch.c)] H (.tup [idsV (joinIds r l), .int 0]) := by
 intro n
 refine frz_all G H 2 (R := fun v H' n' => ∃ oid, v = .tup [outAV oid (joinIds r l).length, .int 0] ∧ OutIs n H' oid 55 2 ((joinIds r l).map Idn.c) n' ∧ (oid ≠ none → joinIds r l ≠ []) ∧ Ab.Sub H H') ?_ ?_
 ·refine ACalls.start mix F53 (by simp) fun hlow => ?_
  simp (disch := omega) only [↓wpre, push_cast, seval, c53]
  refine AFn.x (checkBoth_ok G _ hG hU r hr nz l h) fun n1 hn1 => ?_
  simp (disch := omega) only [↓wpre, push_cast, seval]
  refine ACalls.x (ACalls.lowp (newGroup_c G _ r nz l h n1)) fun v H1 n2 ⟨⟨g, m, K, ob, e1, hg, hv, hs, hlt⟩, hn2, hl2⟩ => ?_
  subst e1
  have hgrp : Grp H1 g m r nz l K ob n2 := ⟨hg, hv, hlt, rulesFew hr, h.few⟩
  have hm1 := hv.map
  have hmn := hv.low.1
  have hfl : (l.flatMap Tch.ids).length ≤ 20000 := by
   have : ∀ ll : List Tch, (∀ t ∈ ll, t.ids.length ≤ 10) → (ll.flatMap Tch.ids).length ≤ 10 * ll.length := fun ll => by
    induction ll with
    | nil => intro _; simp
    | cons t ll ih =>
     intro ht
     have h1 := ht t (by simp)
     have h2 := ih fun t' ht' => ht t' (by simp [ht'])
     simp only [List.flatMap_cons, List.length_append, List.length_cons]
     omega
   have h1 := this l fun t ht => (h.each t ht).few
   have h2 := h.few
   omega
  have hacc : ∀ acc : List Idn, acc.Nodup → (∀ x ∈ acc, joins r l x = true ∧ 2 ≤ (occ l x).length) → acc.length ≤ 20000 := fun acc h1 h2 => by
   have := nodup_len (L := l.flatMap Tch.ids) h1 fun x hx => by
    have h3 := (h2 x hx).2
    cases ho : occ l x with
    | nil => rw [ho] at h3; simp at h3
    | cons i rest =>
     obtain ⟨t, h4, h5⟩ := mem_occ.1 (show i ∈ occ l x by rw [ho]; simp)
     exact List.mem_flatMap.2 ⟨t, List.mem_of_getElem? h4, h5⟩
   omega
  generalize hR : (K.map fun x => [AV.agg x.c, AV.os (ob x) 0 (occ l x).length]) = R at hm1
  have hRl : R.length = K.length := by rw [← hR]; simp
  have hRk : ∀ k x y, R[k]? = some [x, y] → ∃ z, K[k]? = some z ∧ x = AV.agg z.c ∧ y = AV.os (ob z) 0 (occ l z).length := fun k x y hk => by
   rw [← hR, List.getElem?_map] at hk
   cases hz : K[k]? with
   | none => rw [hz] at hk; cases hk
   | some z =>
    rw [hz] at hk
    simp only [Option.map_some, Option.some.injEq, List.cons.injEq, and_true] at hk
    exact ⟨z, hz, hk.1.symm, hk.2.symm⟩
  simp (disch := omega) only [↓wpre, push_cast, seval, hg]
  refine xrng_om hm1 rfl ?_
  simp (disch := omega) only [↓wpre, push_cast, seval]
  refine xw_loopJ (σ := List Nat × Int × List Idn × Option Nat) (fun t => [(7, .op g 0 0), (8, outAV t.2.2.2 t.2.2.1.length), (24, .oit n2)]) (fun t H' n' => H' n2 = some ⟨m, K.length, itRows t.2.1 t.1⟩ ∧ t.2.2.1.Nodup ∧ (∀ x, x ∈ t.2.2.1 ↔ (∃ i, K[i]? = some x ∧ i ∉ t.1) ∧ joins r l x = true ∧ 2 ≤ (occ l x).length) ∧ OutIs (n2 + 1) H' t.2.2.2 55 2 (t.2.2.1.map Idn.c) n' ∧ (t.2.2.2 ≠ none → t.2.2.1 ≠ []) ∧ Qt H1 H' n2 ∧ n2 + 1 ≤ n') (fun t => t.1.length) (List.range R.length, -1, [], none) ⟨by rw [hu_same, hRl], List.nodup_nil, fun x => ?_, rfl, fun e => absurd rfl e, by exact Qt.hu (Qt.refl hl2) (Nat.le_refl _), by omega⟩ (by simp (disch := omega) only [↓wpre, push_cast, seval]; try rfl) ?_
  ·constructor
   ·intro hx; cases hx
   ·rintro ⟨⟨i, hi, hno⟩, _⟩
    exact absurd (by rw [hRl]; exact List.mem_range.2 (List.getElem?_eq_some_iff.1 hi).1) hno
  rintro ⟨idxs, k0, acc, oid⟩ fr H2 n3 ⟨hit, hnd, hmem, ho, hoe, hq, hn3⟩ hh
  simp only [has_nil, has_cons, and_true] at hh hit hnd hmem ho hoe
  have hm2 := hq.1 _ _ hm1
  have hac := hacc acc hnd fun x hx => ((hmem x).1 hx).2
  simp (disch := omega) only [↓wpre, push_cast, seval, hh]
  refine xnxt_oit hit hm2 hRl ?_ ?_
  ·rintro rfl
   have hall : ∀ x, x ∈ acc ↔ joins r l x = true ∧ 2 ≤ (occ l x).length := fun x => by
    rw [hmem x]
    constructor
    ·exact fun h => h.2
    ·intro hx
     refine ⟨?_, hx⟩
     have hxK : x ∈ K := (hv.all x).1 fun e => by have := hx.2; rw [e] at this; simp at this
     obtain ⟨i, hi⟩ := List.mem_iff_getElem?.1 hxK
     exact ⟨i, hi, by simp⟩
   simp (disch := omega) only [↓wpre, push_cast, seval, hh]
   refine ACalls.x (ACalls.lowp (sortA_c G _ oid acc (n2 + 1) n3 ho (by omega))) fun v H6 n6 ⟨⟨e1, W, hsrt, hWl, hw6, hk6⟩, hn6, hl6⟩ => ?_
   subst e1
   have hWe := joinIds_sorted hnd hall hsrt
   subst hWe
   simp (disch := omega) only [↓wpre, push_cast, seval, hh]
   refine fin_intro (Ab.Sub.refl _) ⟨oid, by rw [hWl], outW (keepO hw6 (fun o _ => rfl) (by omega)) (by omega), ?_, fun j y hy => ?_⟩
   ·intro hne e
    have := hsrt.perm.length_eq
    rw [e] at this
    exact hoe hne (List.length_eq_zero_iff.1 (by simpa using this.symm))
   ·have hj := hlow j y hy
    rw [hk6 j (fun e => by rw [e] at ho; have := ho.2.1; omega)]
    exact hq.1 _ _ (hs _ _ hy)
  ·intro k hk x y hxy
   obtain ⟨z, hz, rfl, rfl⟩ := hRk k x y hxy
   have hent : aent (hu H2 n2 (some ⟨m, K.length, itRows k (idxs.filter (· != k))⟩)) (.oit n2) = some (.tup [.agg z.c, .os (ob z) 0 (occ l z).length]) := aent_at (k := k) hu_same (by rw [hu_ne (by omega)]; exact hm2) hRl hxy
   have hlt := filter_lt hk
   have hzK : z ∈ K := List.mem_of_getElem? hz
   have hgrp2 := hgrp.sub hq.1
   have hnz : z ∉ acc := fun e => by
    obtain ⟨⟨i, hi, hno⟩, _⟩ := (hmem z).1 e
    have : i = k := (List.getElem?_inj (List.getElem?_eq_some_iff.1 hi).1 hv.keys).1 (hi.trans hz.symm)
    subst this
    exact hno hk
   have hskip : ¬ (joins r l z = true ∧ 2 ≤ (occ l z).length) → ∀ x, x ∈ acc ↔ (∃ i, K[i]? = some x ∧ i ∉ idxs.filter (· != k)) ∧ joins r l x = true ∧ 2 ≤ (occ l x).length := fun hno x => by
    rw [hmem x]
    constructor
    ·rintro ⟨⟨i, h1, h2⟩, h3⟩
     exact ⟨⟨i, h1, fun e => h2 (List.mem_filter.1 e).1⟩, h3⟩
    ·rintro ⟨⟨i, h1, h2⟩, h3⟩
     refine ⟨⟨i, h1, fun e => h2 (List.mem_filter.2 ⟨e, ?_⟩)⟩, h3⟩
     have : i ≠ k := fun e2 => by subst e2; rw [hz] at h1; cases h1; exact hno h3
     simpa using this
   by_cases h2 : 2 ≤ (occ l z).length
   ·have h2' : (2 : Int) ≤ (occ l z).length := by omega
    simp (disch := omega) only [↓wpre, push_cast, seval, hh, hent, h2']
    refine AFn.x (joins_c G _ (hgrp.sub ?hs) z) fun n4 hn4 => ?_
    case hs => exact (Qt.mono (n := n2) (by repeat (first | exact hq | refine Qt.hu ?_ (by omega))) (Nat.le_refl _)).1
    by_cases hj : joins r l z = true
    ·simp (disch := omega) only [↓wpre, push_cast, seval, hh, hj]
     refine xapp_outN (n0 := n2 + 1) (rows := acc.map Idn.c) (keepO ho (fun o e => by
      have e : oid = some o := e
      rw [e] at ho
      have := ho.2.1
      have := ho.2.2
      repeat rw [hu_ne (by omega)]) (by omega)) (by simp) (by intro r hr; simp at hr; subst hr; exact ⟨rfl, rfl⟩) (by simp only [List.length_map]; omega) fun HN hN hNj => ?_
     simp (disch := omega) only [↓wpre, push_cast, seval, hh]
     refine againJ (idxs.filter (· != k), (k : Int), acc ++ [z], some n4) hlt ⟨?_, ?_, ?_, ⟨by simp [hN], by omega, by omega⟩, fun _ => by simp, Qt.far hq (fun j hj2 => ?_), by omega⟩ (by simp (disch := omega) only [↓wpre, push_cast, seval, hh]; all_goals (try simp only [AV.lit.injEq, Value.int.injEq, Value.bool.injEq, true_and, and_true]); all_goals (try (repeat' apply And.intro)); all_goals (first | rfl | omega | simp_all | skip))
     ·rw [hNj n2 (by omega) (fun e => by
       rw [e] at ho
       have := ho.2.1
       omega)]
      repeat rw [hu_ne (by omega)]
      exact hu_same
     ·exact List.nodup_append.2 ⟨hnd, by simp, fun a ha b hb => by simp at hb; subst hb; exact fun e => hnz (e ▸ ha)⟩
     ·intro x
      dsimp only
      rw [List.mem_append, List.mem_singleton, hmem x]
      constructor
      ·rintro (⟨⟨i, h4, h5⟩, h6⟩ | rfl)
       ·exact ⟨⟨i, h4, fun e => h5 (List.mem_filter.1 e).1⟩, h6⟩
       ·exact ⟨⟨k, hz, fun e => by simpa using (List.mem_filter.1 e).2⟩, hj, h2⟩
      ·rintro ⟨⟨i, h4, h5⟩, h6⟩
       by_cases e : i = k
       ·subst e; rw [hz] at h4; cases h4; exact .inr rfl
       ·exact .inl ⟨⟨i, h4, fun e2 => h5 (List.mem_filter.2 ⟨e2, by simpa using e⟩)⟩, h6⟩
     ·rw [hNj j (by omega) (fun e => by
       rw [e] at ho
       have := ho.2.1
       omega)]
      repeat rw [hu_ne (by omega)]
    ·have hj' : joins r l z = false := by simpa using hj
     simp (disch := omega) only [↓wpre, push_cast, seval, hh, hj']
     refine againJ (idxs.filter (· != k), (k : Int), acc, oid) hlt ⟨?_, hnd, hskip (fun e => hj e.1), keepO ho (fun o e => by
      have e : oid = some o := e
      rw [e] at ho
      have := ho.2.1
      have := ho.2.2
      repeat rw [hu_ne (by omega)]) (by omega), hoe, by exact Qt.mono (n := n2) (by repeat (first | exact hq | refine Qt.hu ?_ (by omega))) (by omega), by omega⟩ (by simp (disch := omega) only [↓wpre, push_cast, seval, hh]; all_goals (try simp only [AV.lit.injEq, Value.int.injEq, Value.bool.injEq, true_and, and_true]); all_goals (try (repeat' apply And.intro)); all_goals (first | rfl | omega | simp_all | skip))
     repeat rw [hu_ne (by omega)]
     exact hu_same
   ·have h2' : ¬ (2 : Int) ≤ (occ l z).length := by omega
    simp (disch := omega) only [↓wpre, push_cast, seval, hh, hent, h2']
    refine againJ (idxs.filter (· != k), (k : Int), acc, oid) hlt ⟨?_, hnd, hskip (fun e => h2 e.2), keepO ho (fun o e => by
      have e : oid = some o := e
      rw [e] at ho
      have := ho.2.1
      have := ho.2.2
      repeat rw [hu_ne (by omega)]) (by omega), hoe, by exact Qt.mono (n := n2) (by repeat (first | exact hq | refine Qt.hu ?_ (by omega))) (by omega), by omega⟩ (by simp (disch := omega) only [↓wpre, push_cast, seval, hh]; all_goals (try simp only [AV.lit.injEq, Value.int.injEq, Value.bool.injEq, true_and, and_true]); all_goals (try (repeat' apply And.intro)); all_goals (first | rfl | omega | simp_all | skip))
    repeat rw [hu_ne (by omega)]
    exact hu_same
 ·rintro v H6 n6 ⟨oid, rfl, ho, hne, hs⟩
  refine ⟨hs, ?_, rfl⟩
  have hD : ∀ j, n ≤ j → (fun j => if n ≤ j then H6 j else none) j = H6 j := fun j hj => if_pos hj
  have e1 := frz_oids (D := fun j => if n ≤ j then H6 j else none) (cid := oid) (l := joinIds r l) (fun o e => by
   subst e
   exact (hD o ho.2.1).trans ho.1) (fun e => by
   subst e
   have h0 : (joinIds r l).map Idn.c = [] := ho
   simpa using h0) hne
  show AV.tup [frz _ 1 (outAV oid _), frz _ 1 (.int 0)] = _
  rw [e1, frz_lit]
end Go.Proofs.YtblhbafoncfhdaaGreatDoor
