/- Contracts of functions of the program: each computes what its model says; the conditions stand at each. -/
import Derived.Test.YtblhbafoncfhdaaGreatDoorA5
import Derived.Test.YtblhbafoncfhdaaGreatDoorV1
import Derived.Test.YtblhbafoncfhdaaGreatDoorR1
import Derived.Test.YtblhbafoncfhdaaGreatDoorPe4a
set_option linter.unusedSimpArgs false
set_option linter.unusedVariables false
set_option maxRecDepth 20000
namespace Go.Proofs.YtblhbafoncfhdaaGreatDoor
open Go Go.Ab Go.Pm Go.Cm Go.El Go.Rm Go.Pp Go.Uf
theorem order_lays (w : World) (blk size : Nat) : Go.Proofs.CmpLays Tryz.prog 214 #[] encI 2 cmpId blk 0 size w := by
 intro m os dk _ x y
 exact grown_of_afn (enters_of_b (by kernel_rfl)) (order_c strictG noObj x y) _ _ ⟨_, _, rfl, ⟨_, rfl, repList_lits' (encI x)⟩, _, _, rfl, ⟨_, rfl, repList_lits' (encI y)⟩, rfl⟩
theorem sortO_c (G : Nat → AV) (H : Nat → Option AObj) (l : List Idn) (jr : List (List AV)) (o : Nat) (ho : H o = some ⟨55, 2, l.map Idn.c ++ jr⟩) (hl : l.length ≤ 1000000) (n : Nat) :
  ACalls Tryz.prog G 35 [.os o 0 l.length, .fn (.func 214) []] H n fun r H' n' => r = .tup [] ∧ ∃ l', SortedI l l' ∧ l'.length = l.length ∧ H' = hu H o (some ⟨55, 2, l'.map Idn.c ++ jr⟩) := by
 refine ACalls.of_rowK (enters_of_b (by kernel_rfl)) (by decide) encI (fun _ => rfl) ho fun w blk cap h1 h2 h3 => ?_
 refine (Go.Proofs.AnyQ.slices_SortFunc Tryz.sortI 2 (fun w => Tryz.isAgg55 w) (fun w => Tryz.sizeOf55 w) encI (fun _ => rfl) (fun x v hv => ?_) cmpId cmpId_tc.swo 214 #[] blk 0 cap l.toArray w (fun args w => run_callF (enters_of_b (by kernel_rfl)) args w) (order_lays w blk _) h1 h2 (by simp; omega)).mono fun e w' ⟨k1, d', m, os, k2, k3, k4⟩ => ⟨k1, d'.toList, m, os, ⟨?_, ?_⟩, ?_, k4⟩
 ·simp only [encI, List.mem_cons, List.not_mem_nil, or_false] at hv
  rcases hv with rfl | rfl <;> rfl
 ·have hs : d'.size = l.length := by simpa using k2.1
  have := k2.2.2
  have ht : List.take l.length d'.toList = d'.toList := List.take_of_length_le (by simp [hs])
  simpa [ht] using this
 ·have hs : d'.size = l.length := by simpa using k2.1
  rw [List.pairwise_iff_getElem]
  intro i j hi hj hij
  simp only [Array.length_toList] at hi hj
  have h4 := k3 i j (Nat.zero_le _) hij (by simp; omega)
  simp only [Go.Proofs.ltOf, decide_eq_false_iff_not] at h4
  rw [getElem!_pos d' i hi, getElem!_pos d' j hj] at h4
  simp only [Array.getElem_toList]
  exact (cmpId_tc.flip _ _).2 (by omega)
 ·simpa using k2.1
variable (G : Nat → AV) (H : Nat → Option AObj)
theorem insNilG_c (fv : AV) : AFn Tryz.prog G 172 [.ls false [], .int 0, .int 0, fv] H (.tup []) := by
 refine AFn.start mix F172 (by simp) fun k hlow => ?_
 have h0 : ¬ (1 : Int) < 0 := by omega
 simp (disch := omega) only [↓wpre, push_cast, seval, c172]
 refine xw_loopJ (σ := Unit) (fun _ => [(2, .int 0), (8, .int 1)]) (fun _ H' n' => Qt H H' k) (fun _ => 0) () (.refl hlow) (by simp (disch := omega) only [↓wpre, push_cast, seval]) ?_
 rintro ⟨⟩ fr H' n1 hq hh
 simp only [has_nil, has_cons, and_true] at hh
 simp (disch := omega) only [↓wpre, push_cast, seval, hh, h0]
 exact hq.1
theorem pdqNilG_c (fv : AV) (lim : Int) : AFn Tryz.prog G 107 [.ls false [], .int 0, .int 0, .int lim, fv] H (.tup []) := by
 refine AFn.start mix F107 (by simp) fun k hlow => ?_
 simp (disch := omega) only [↓wpre, push_cast, seval, c107]
 refine xw_loopJ (σ := Unit) (fun _ => [(0, .ls false []), (1, .int 0), (2, .int 0), (4, fv)]) (fun _ H' n' => Qt H H' k) (fun _ => 0) () (.refl hlow) (by simp (disch := omega) only [↓wpre, push_cast, seval]) ?_
 rintro ⟨⟩ fr H' n1 hq hh
 simp only [has_nil, has_cons, and_true] at hh
 have h12 : (0 : Int) ≤ 12 := by omega
 simp (disch := omega) only [↓wpre, push_cast, seval, hh, Int.sub_self, h12]
 refine AFn.x (insNilG_c G _ fv) fun n2 hn2 => ?_
 simp (disch := omega) only [↓wpre, push_cast, seval, hh]
 exact hq.1
theorem len0_c : AFn Tryz.prog G 108 [.lit (.int .u64 0)] H (.int 0) := by
 have h181 : ∀ H, AFn Tryz.prog G 181 [.lit (.int .u64 0)] H (.int 0) := fun H => by
  refine AFn.start mix F181 (by simp) fun k hlow => ?_
  have a1 : ¬ (4294967296 : Int) ≤ 0 := by omega
  have a2 : ¬ (65536 : Int) ≤ 0 := by omega
  have a3 : ¬ (256 : Int) ≤ 0 := by omega
  simp (disch := omega) only [↓wpre, push_cast, seval, c181, a1, a2, a3]
  refine ⟨.lit (.int .u8 0), (achr_lit (by decide)).trans rfl, ?_⟩
  simp (disch := omega) only [↓wpre, push_cast, seval]
 refine AFn.start mix F108 (by simp) fun k hlow => ?_
 simp (disch := omega) only [↓wpre, push_cast, seval, c108]
 refine AFn.x (h181 _) fun n2 hn2 => ?_
 simp (disch := omega) only [↓wpre, push_cast, seval]
theorem sortNilG_c (fv : AV) : AFn Tryz.prog G 35 [.ls false [], fv] H (.tup []) := by
 refine AFn.start mix F35 (by simp) fun k hlow => ?_
 simp (disch := omega) only [↓wpre, push_cast, seval, c35]
 refine AFn.x (len0_c G _) fun n2 hn2 => ?_
 simp (disch := omega) only [↓wpre, push_cast, seval]
 refine AFn.x (pdqNilG_c G _ fv 0) fun n2 hn2 => ?_
 simp (disch := omega) only [↓wpre, push_cast, seval]
theorem sortNil_c : AFn Tryz.prog G 35 [.ls false [], .fn (.func 214) []] H (.tup []) := sortNilG_c G H _
theorem id_c (hG : GOk G) (hP : G 1 = .pp poolC) (nz : Bool) (l : List Int) (a : Int) (i : Nat) (hi : H i = some (strm (LL nz l) a)) (ha : 0 ≤ a ∧ a ≤ 1099511625900) : SC G H 213 [.op i 0 0] i (LL nz l) a 10 fun r => ∃ x : Idn, r = .agg x.c ∧ x.text.size ≤ 200 := by
 intro n
 refine ACalls.start mix F213 (by simp) fun hlow => ?_
 have hq := Qs.refl hi hlow
 have hin := hq.2.2
 simp (disch := omega) only [↓wpre, push_cast, seval, c213]
 refine (flip_c G _ nz l a 25 i (by simp (disch := omega) only [↓wpre, push_cast, seval, hi]) ⟨by omega, by omega⟩ (by omega)).x fun r a1 n1 hn1 k1 k2 k3 => ?_
 obtain ⟨b, rfl⟩ := k3
 simp (disch := omega) only [↓wpre, push_cast, seval, hi]
 (first | with_reducible refine cnd_ndec (fun hc => ?_) (fun hc => ?_) | with_reducible refine cnd_dec (fun hc => ?_) (fun hc => ?_) | with_reducible refine cnd_nb (fun hc => ?_) (fun hc => ?_) | with_reducible refine cnd_intro (fun hc => ?_) (fun hc => ?_)) <;> (first | (exfalso; omega) | (try simp (disch := omega) only [↓wpre, push_cast, seval, hc, hi]))
 ·refine (spoiledId_c G _ hG hP nz l a1 i (by simp (disch := omega) only [↓wpre, push_cast, seval, hi]) ⟨by omega, by omega⟩).x fun r a2 n2 hn2 m1 m2 m3 => ?_
  obtain ⟨x, hx, rfl⟩ := m3
  simp (disch := omega) only [↓wpre, push_cast, seval, hi, hu_hu]
  refine fin_intro (H' := hu H i (some (strm (LL nz l) (a2)))) (Qs.sub (n := n) (by (repeat (first | exact hq | refine Qs.put ?_ | refine Qs.new ?_ (by omega)))) (by simp (disch := omega) only [↓wpre, push_cast, seval, hq.2.2])) ⟨a2, by omega, by omega, rfl, ⟨x, rfl, hx.2.2⟩⟩
 ·refine (next_c G _ nz l a1 10 i (by simp (disch := omega) only [↓wpre, push_cast, seval, hi]) ⟨by omega, by omega⟩ (by omega)).x fun r a2 n2 hn2 m1 m2 m3 => ?_
  obtain ⟨w, rfl, hw⟩ := m3
  obtain ⟨y, hy, rest, hd⟩ := pool_at w hw.1 hw.2
  have hys := pool_small y hy
  simp (disch := omega) only [↓wpre, push_cast, seval, hi, hu_hu, hP, hd, hw]
  refine fin_intro (H' := hu H i (some (strm (LL nz l) (a2)))) (Qs.sub (n := n) (by (repeat (first | exact hq | refine Qs.put ?_ | refine Qs.new ?_ (by omega)))) (by simp (disch := omega) only [↓wpre, push_cast, seval, hq.2.2])) ⟨a2, by omega, by omega, rfl, ⟨y, rfl, Nat.le_trans hys.2.2 (by decide)⟩⟩
theorem reverse_c (o : Nat) (l : List Idn) (hl : l.length ≤ 1000000) (ho : H o = some ⟨55, 2, l.map Idn.c⟩) (n : Nat) : ACalls Tryz.prog G 215 [.os o 0 l.length] H n fun r H' n' => r = .tup [] ∧ ∃ l' : List Idn, l'.length = l.length ∧ (∀ x ∈ l', x ∈ l) ∧ H' = hu H o (some ⟨55, 2, l'.map Idn.c⟩) := by
 refine ACalls.start mix F215 (by simp) fun hlow => ?_
 simp (disch := omega) only [↓wpre, push_cast, seval, c215]
 refine xw_loopJ (σ := Nat × List Idn) (fun t => [(0, .os o 0 l.length), (2, .int t.1), (3, .int ((l.length : Int) - 1 - t.1))]) (fun t H' n' => t.2.length = l.length ∧ (∀ x ∈ t.2, x ∈ l) ∧ t.1 ≤ l.length ∧ H' = hu H o (some ⟨55, 2, t.2.map Idn.c⟩)) (fun t => l.length - t.1) (0, l) ⟨rfl, fun x hx => hx, by omega, (hu_self H ho).symm⟩ (by simp (disch := omega) only [↓wpre, push_cast, seval]; try simp) ?_
 rintro ⟨j, m⟩ fr H' n1 ⟨hml, hmm, hj, rfl⟩ hh
 simp only [has_nil, has_cons, and_true] at hh hml hmm hj
 by_cases hlt : (j : Int) < (l.length : Int) - 1 - j
 ·obtain ⟨k, hk⟩ : ∃ k : Nat, (l.length : Int) - 1 - j = (k : Int) := ⟨l.length - 1 - j, by omega⟩
  rw [hk] at hh hlt
  have hkl : k < m.length := by omega
  have hjl : j < m.length := by omega
  have gj : (m.map Idn.c)[j]? = some (m[j]).c := by rw [List.getElem?_map, List.getElem?_eq_getElem hjl]; rfl
  have gk : (m.map Idn.c)[k]? = some (m[k]).c := by rw [List.getElem?_map, List.getElem?_eq_getElem hkl]; rfl
  have hj0 : (0 : Int) ≤ j := by omega
  have hk0 : (0 : Int) ≤ k := by omega
  have hj1 : (j : Int) < l.length := by omega
  have hk1 : (k : Int) < l.length := by omega
  have hj2 : j < l.length := by omega
  have hk2 : k < l.length := by omega
  have sj : ∀ y : Idn, (m.map Idn.c).set j y.c = (m.set j y).map Idn.c := fun y => by rw [List.map_set]
  have gk2 : ∀ y : Idn, ((m.set j y).map Idn.c)[k]? = some (m[k]).c := fun y => by
   rw [List.getElem?_map, List.getElem?_set_ne (by omega), List.getElem?_eq_getElem hkl]; rfl
  have sk : ∀ y z : Idn, ((m.set j y).map Idn.c).set k z.c = ((m.set j y).set k z).map Idn.c := fun y z => by rw [List.map_set (l := m.set j y)]
  have hlk : ((m.set j m[k]).set k m[j]).length = l.length := by simpa using hml
  simp (disch := omega) only [↓wpre, push_cast, seval, hh, hlt, gj, gk, hj0, hk0, hj1, hk1, hj2, hk2, sj, gk2, sk, hu_hu, Int.toNat_natCast]
  refine anyN_intro fun n2 hn2 => ?_
  have ek : (k : Int) - 1 = (l.length : Int) - 1 - ((j + 1 : Nat) : Int) := by omega
  simp (disch := omega) only [↓wpre, push_cast, seval, hh, ek]
  refine againJ (j + 1, (m.set j m[k]).set k m[j]) (by dsimp only; omega) ⟨hlk, ?_, by dsimp only; omega, hu_hu _⟩ (by simp (disch := omega) only [↓wpre, push_cast, seval, hh, ek]; all_goals (try simp only [AV.lit.injEq, Value.int.injEq, Value.bool.injEq, true_and, and_true]); all_goals (try (repeat' apply And.intro)); all_goals (first | rfl | omega | simp_all | skip))
  intro x hx
  rcases List.mem_or_eq_of_mem_set hx with hx | rfl
  ·rcases List.mem_or_eq_of_mem_set hx with hx | rfl
   ·exact hmm x hx
   ·exact hmm _ (List.getElem_mem _)
  ·exact hmm _ (List.getElem_mem _)
 ·simp (disch := omega) only [↓wpre, push_cast, seval, hh, hlt]
  refine fin_intro (Ab.Sub.refl _) ⟨rfl, m, hml, hmm, rfl⟩
end Go.Proofs.YtblhbafoncfhdaaGreatDoor
namespace Go.Proofs.YtblhbafoncfhdaaGreatDoor
open Go Go.Ab Go.Pm Go.Cm Go.El Go.Rm Go.Pp Go.Uf
variable (G : Nat → AV) (H : Nat → Option AObj)
theorem plain_idn (l : List Idn) : ∀ r ∈ l.map Idn.c, plain r = true := fun r hr => by
 obtain ⟨s, _, rfl⟩ := List.mem_map.1 hr; rfl
set_option maxHeartbeats 6400000 in
theorem ids_run (hG : GOk G) (hP : G 1 = .pp poolC) (nz : Bool) (l : List Int) (a many : Int) (i : Nat) (hi : H i = some (strm (LL nz l) a)) (ha : 0 ≤ a ∧ a ≤ 1099511625000) (hm : 0 ≤ many ∧ many ≤ 3) (n : Nat) : ACalls Tryz.prog G 146 [.op i 0 0, .int many] H n fun r H' n' => ∃ a' d, a ≤ a' ∧ a' ≤ a + 50 ∧ (∀ x ∈ d, x.text.size ≤ 1000) ∧ d.length ≤ 3 ∧ Ab.Sub (hu H i (some (strm (LL nz l) a'))) H' ∧ ((d = [] ∧ r = .ls false []) ∨ ∃ o, r = .os o 0 d.length ∧ H' o = some ⟨55, 2, d.map Idn.c⟩ ∧ n ≤ o ∧ d ≠ []) := by
 refine ACalls.start mix F146 (by simp) fun hlow => ?_
 have hq := Qs.refl hi hlow
 have hin := hq.2.2
 simp (disch := omega) only [↓wpre, push_cast, seval, c146]
 refine xw_loopJ (σ := List Idn × Option Nat × Int × Nat) (fun t => [(0, .op i 0 0), (5, outAV t.2.1 t.1.length), (7, .int many), (8, .int t.2.2.2)]) (fun t H' n' => (∀ x ∈ t.1, x.text.size ≤ 1000) ∧ t.1.length ≤ t.2.2.2 ∧ (t.2.2.2 : Int) ≤ many ∧ OutIs n H' t.2.1 55 2 (t.1.map Idn.c) n' ∧ (t.2.1 ≠ none → t.1 ≠ []) ∧ Qs H H' i n ∧ H' i = some (strm (LL nz l) t.2.2.1) ∧ n ≤ n' ∧ a ≤ t.2.2.1 ∧ t.2.2.1 ≤ a + 10 * (t.2.2.2 : Int)) (fun t => 3 - t.2.2.2) ([], none, a, 0) ⟨by simp, by simp, by simp; omega, rfl, fun h => (h rfl).elim, hq, hi, by omega, Int.le_refl _, by simp⟩ (by simp (disch := omega) only [↓wpre, push_cast, seval, outAV]; try rfl) ?_
 clear hq
 rintro ⟨d, oid, a2, j⟩ fr H2 n2 ⟨hd, hdj, hjm, ho, hne, hq, hs, hn2, ha1, ha2⟩ hh
 simp only [has_nil, has_cons, and_true] at hh hd hdj hjm ho hne hs ha1 ha2
 have hal : alen (outAV oid d.length) = some (.int d.length) := by
  cases oid with
  | none =>
   have h : d.map Idn.c = [] := ho
   have h : d = [] := by simpa using h
   subst h; rfl
  | some o => rfl
 by_cases hlt : (j : Int) < many
 ·simp (disch := omega) only [↓wpre, push_cast, seval, hh, hlt]
  refine (id_c G _ hG hP nz l a2 i (by simp (disch := omega) only [↓wpre, push_cast, seval, hs]) ⟨by omega, by omega⟩).x fun r a3 n3 hn3 k1 k2 k3 => ?_
  obtain ⟨x, rfl, hx⟩ := k3
  simp (disch := omega) only [↓wpre, push_cast, seval, hh, hs]
  have hcon : ∀ (H3 : Nat → Option AObj) (n9 : Nat) (R : AV → (Nat → Option AObj) → Nat → Prop) (u : Wit R), (∀ o, oid = some o → H3 o = some ⟨55, 2, d.map Idn.c⟩) → (∀ n', n9 ≤ n' → R (.bool (decide (x ∈ d))) H3 n') → xcall Tryz.prog G R u 23 [outAV oid d.length, .agg x.c] H3 n9 := by
   intro H3 n9 R u h3 hR
   cases oid with
   | none =>
    have h : d.map Idn.c = [] := ho
    have h : d = [] := by simpa using h
    subst h
    exact AFn.x (containsId_c G _ false [] x (by simp)) hR
   | some o =>
    have h4 := h3 o rfl
    refine AFn.borrow (Ab.only o ⟨55, 2, d.map Idn.c⟩) 1 (only_sub h4) ?_ rfl hR
    have e : ([outAV (some o) d.length, AV.agg x.c] : List AV).map (frz (Ab.only o ⟨55, 2, d.map Idn.c⟩) 1) = [.ls true (d.map Idn.c), .agg x.c] := by
     rw [List.map_cons, List.map_cons, List.map_nil]
     have e1 : frz (Ab.only o ⟨55, 2, d.map Idn.c⟩) 1 (outAV (some o) d.length) = .ls true (d.map Idn.c) := frz_os_plain (plain_idn _) (by simp)
     rw [e1]
     rfl
    rw [e]
    exact containsId_c G _ true d x (by omega)
  refine hcon _ _ _ _ ?_ ?_
  ·intro o e
   rw [e] at ho
   have h1 := ho.1
   have h2 := ho.2.1
   have h3 := ho.2.2
   simp (disch := omega) only [↓wpre, push_cast, seval, h1]
  intro n4 hn4
  by_cases hc : x ∈ d
  ·simp (disch := omega) only [↓wpre, push_cast, seval, hh, hc, decide_true]
   refine againJ (d, oid, a3, j + 1) (by dsimp only; omega) ⟨hd, by dsimp only; omega, by dsimp only; omega, ?_, hne, ?_, ?_, by omega, by dsimp only; omega, by dsimp only; omega⟩ (by simp (disch := omega) only [↓wpre, push_cast, seval, hh]; all_goals (try simp only [AV.lit.injEq, Value.int.injEq, Value.bool.injEq, true_and, and_true]); all_goals (try (repeat' apply And.intro)); all_goals (first | rfl | omega | simp_all | skip))
   ·(refine OutIs.mono (n := n2) ?_ (by omega); repeat (first | exact ho | refine OutIs.put ?_ (by omega) | refine OutIs.far ?_ (by omega)))
   ·(repeat (first | exact hq | refine Qs.put ?_ | refine Qs.new ?_ (by omega)))
   ·simp (disch := omega) only [↓wpre, push_cast, seval, hs]
  ·simp (disch := omega) only [↓wpre, push_cast, seval, hh, hc, decide_false]
   refine xapp_out (n0 := n) (rows := d.map Idn.c) (by (refine OutIs.mono (n := n2) ?_ (by omega); repeat (first | exact ho | refine OutIs.put ?_ (by omega) | refine OutIs.far ?_ (by omega)))) (by simp) (by intro r hr; simp at hr; subst hr; exact ⟨rfl, rfl⟩) (by simp only [List.length_map]; omega) ?_
   simp (disch := omega) only [↓wpre, push_cast, seval, hh]
   refine againJ (d ++ [x], some n4, a3, j + 1) (by dsimp only; omega) ⟨?_, by simp; omega, by dsimp only; omega, by dsimp only; rw [List.map_append]; exact OutIs.new (n0 := n) (by omega), fun _ => by simp, (Qs.dropO (E := 55) (sz := 2) (rows := d.map Idn.c) (m := n4) (by (refine OutIs.mono (n := n2) ?_ (by omega); repeat (first | exact ho | refine OutIs.put ?_ (by omega) | refine OutIs.far ?_ (by omega)))) (Nat.le_refl _) (by (repeat (first | exact hq | refine Qs.put ?_ | refine Qs.new ?_ (by omega))))).new (by omega), ?_, by omega, by dsimp only; omega, by dsimp only; omega⟩ (by simp (disch := omega) only [↓wpre, push_cast, seval, hh]; (try simp [outAV]))
   ·intro y hy
    rcases List.mem_append.1 hy with hy | hy
    ·exact hd y hy
    ·simp only [List.mem_singleton] at hy
     subst hy; omega
   ·dsimp only
    rw [hu_ne (by omega), dropO_ne (n := n4) (E := 55) (sz := 2) (rows := d.map Idn.c) (by (refine OutIs.mono (n := n2) ?_ (by omega); repeat (first | exact ho | refine OutIs.put ?_ (by omega) | refine OutIs.far ?_ (by omega)))) hin]
    simp (disch := omega) only [↓wpre, push_cast, seval, hs]
 ·simp (disch := omega) only [↓wpre, push_cast, seval, hh, hlt]
  cases oid with
  | none =>
   have h : d.map Idn.c = [] := ho
   have h : d = [] := by simpa using h
   subst h
   have h01 : ¬ (1 : Int) < 0 := by omega
   have hout : ∀ x, outAV none x = .ls false [] := fun _ => rfl
   simp (disch := omega) only [↓wpre, push_cast, seval, hout]
   refine AFn.x (sortNil_c G _) fun n3 hn3 => ?_
   simp (disch := omega) only [↓wpre, push_cast, seval, hh, hout, h01]
   exact fin_intro (Ab.Sub.refl _) ⟨a2, [], by omega, by omega, by simp, by simp, Qs.sub (n := n) hq hs, .inl ⟨rfl, rfl⟩⟩
  | some o =>
   have hout : ∀ x, outAV (some o) x = .os o 0 x := fun _ => rfl
   obtain ⟨ho1, ho2, ho3⟩ := ho
   have hoi : o ≠ i := by omega
   have hdn : d ≠ [] := hne (by simp)
   simp (disch := omega) only [↓wpre, push_cast, seval, hout]
   refine ACalls.x (ACalls.lowp (sortO_c G _ d [] o (by rw [List.append_nil]; exact ho1) (by omega) _)) fun r1 H3 n3 ⟨⟨e1, l', hso, hsl, e2⟩, hn3, _⟩ => ?_
   subst e1 e2
   rw [List.append_nil]
   have hl's : ∀ x ∈ l', x.text.size ≤ 1000 := fun x hx => hd x (hso.perm.mem_iff.1 hx)
   have hl'n : l' ≠ [] := fun e => hdn (by rw [e] at hsl; exact List.length_eq_zero_iff.1 hsl.symm)
   have hfin : ∀ (a9 : Int) (m : List Idn) (HF : Nat → Option AObj) (n9 : Nat), HF o = some ⟨55, 2, m.map Idn.c⟩ → Qs H HF i n → HF i = some (strm (LL nz l) a9) → a ≤ a9 → a9 ≤ a + 50 → (∀ x ∈ m, x.text.size ≤ 1000) → m.length = d.length → ∃ a' d', a ≤ a' ∧ a' ≤ a + 50 ∧ (∀ x ∈ d', x.text.size ≤ 1000) ∧ d'.length ≤ 3 ∧ Ab.Sub (hu H i (some (strm (LL nz l) a'))) HF ∧ ((d' = [] ∧ AV.os o 0 d.length = .ls false []) ∨ ∃ o', AV.os o 0 d.length = .os o' 0 d'.length ∧ HF o' = some ⟨55, 2, d'.map Idn.c⟩ ∧ n ≤ o' ∧ d' ≠ []) := by
    intro a9 m HF n9 h1 h2 h3 h4 h5 h6 h7
    exact ⟨a9, m, h4, h5, h6, by omega, Qs.sub (n := n) h2 h3, .inr ⟨o, by rw [h7], h1, ho2, fun e => hdn (by rw [e] at h7; exact List.length_eq_zero_iff.1 h7.symm)⟩⟩
   by_cases h1 : (1 : Int) < d.length
   ·simp (disch := omega) only [↓wpre, push_cast, seval, hh, hout, h1]
    refine (flip_c G _ nz l a2 60 i (by simp (disch := omega) only [↓wpre, push_cast, seval, hs]) ⟨by omega, by omega⟩ (by omega)).x fun r a3 n4 hn4 k1 k2 k3 => ?_
    obtain ⟨b, rfl⟩ := k3
    simp (disch := omega) only [↓wpre, push_cast, seval, hh, hout, hs]
    (first | with_reducible refine cnd_ndec (fun hc => ?_) (fun hc => ?_) | with_reducible refine cnd_dec (fun hc => ?_) (fun hc => ?_) | with_reducible refine cnd_nb (fun hc => ?_) (fun hc => ?_) | with_reducible refine cnd_intro (fun hc => ?_) (fun hc => ?_)) <;> (first | (exfalso; omega) | (try simp (disch := omega) only [↓wpre, push_cast, seval, hc, hh]))
    ·rw [← hsl]
     refine ACalls.x (ACalls.lowp (reverse_c G _ o l' (by omega) (by rw [hu_ne hoi, hu_same]) _)) fun r1 H4 n5 ⟨⟨e1, l2, hl2, hl2m, e2⟩, hn5, _⟩ => ?_
     subst e1 e2
     simp (disch := omega) only [↓wpre, push_cast, seval, hh, hout]
     try rw [hsl]
     refine fin_intro (Ab.Sub.refl _) (hfin a3 l2 _ n5 hu_same (by (repeat (first | exact hq | refine Qs.put ?_ | refine Qs.new ?_ (by omega)))) (by simp (disch := omega) only [↓wpre, push_cast, seval, hs]) (by omega) (by omega) (fun x hx => hl's x (hl2m x hx)) (by omega))
    ·refine fin_intro (Ab.Sub.refl _) (hfin a3 l' _ n4 (by rw [hu_ne hoi, hu_same]) (by (repeat (first | exact hq | refine Qs.put ?_ | refine Qs.new ?_ (by omega)))) (by simp (disch := omega) only [↓wpre, push_cast, seval, hs]) (by omega) (by omega) hl's hsl)
   ·simp (disch := omega) only [↓wpre, push_cast, seval, hh, hout, h1]
    refine fin_intro (Ab.Sub.refl _) (hfin a2 l' _ n3 hu_same (by (repeat (first | exact hq | refine Qs.put ?_ | refine Qs.new ?_ (by omega)))) (by simp (disch := omega) only [↓wpre, push_cast, seval, hs]) (by omega) (by omega) hl's hsl)
theorem ids_c (hG : GOk G) (hP : G 1 = .pp poolC) (nz : Bool) (l : List Int) (a many : Int) (i : Nat) (hi : H i = some (strm (LL nz l) a)) (ha : 0 ≤ a ∧ a ≤ 1099511625000) (hm : 0 ≤ many ∧ many ≤ 3) : SC G H 146 [.op i 0 0, .int many] i (LL nz l) a 50 fun r => ∃ (b : Bool) (d : List Idn), r = .ls b (d.map Idn.c) ∧ (∀ x ∈ d, x.text.size ≤ 1000) ∧ d.length ≤ 3 := by
 intro n
 refine low_of G H fun hlow => ACalls.frz (ids_run G H hG hP nz l a many i hi ha hm n) ?_
 have hin := hlow i _ hi
 rintro r H1 n1 ⟨a', d, h1, h2, h3, h3', h4, ⟨h5, rfl⟩ | ⟨o, rfl, h5, h6, h7⟩⟩
 ·exact ⟨fun _ => none, hu H i (some (strm (LL nz l) a')), 0, fun _ _ h => (by cases h), h4, fun _ _ h => (by cases h), a', h1, h2, rfl, false, d, by rw [h5]; rfl, h3, by omega⟩
 ·refine ⟨Ab.only o ⟨55, 2, d.map Idn.c⟩, hu H i (some (strm (LL nz l) a')), 1, only_sub h5, h4, fun j x hj => ?_, a', h1, h2, rfl, true, d, ?_, h3, by omega⟩
  ·unfold Ab.only at hj
   split at hj
   ·rename_i e; subst e
    rw [hu_ne (by omega)]
    cases hx : H j with
    | none => rfl
    | some y => exact absurd (hlow j y hx) (by omega)
   ·cases hj
  ·rw [frz_os_plain (plain_idn _) (by simp)]
end Go.Proofs.YtblhbafoncfhdaaGreatDoor
