/- Contracts of functions of the program: each computes what its model says; the conditions stand at each. -/
import Derived.Test.YtblhbafoncfhdaaGreatDoorA5
import Derived.Test.YtblhbafoncfhdaaGreatDoorTw10
import Derived.Test.YtblhbafoncfhdaaGreatDoorPe4a
import Derived.Test.YtblhbafoncfhdaaGreatDoorR1
set_option linter.unusedSimpArgs false
set_option linter.unusedVariables false
set_option maxRecDepth 20000
set_option pp.deepTerms false
set_option pp.deepTerms.threshold 3
namespace Go.Proofs.YtblhbafoncfhdaaGreatDoor
open Go Go.Ab Go.Pm Go.Cm Go.El Go.Rm Go.Pp Go.Uf











theorem order_lays (w : World) (blk size : Nat) : Go.Proofs.CmpLays Tryz.prog 214 #[] encI 2 cmpId blk 0 size w := by
  intro m os dk _ x y
  exact grown_of_afn (enters_of_b (by kernel_rfl)) (order_c strictG noObj x y) _ _ ⟨_, _, rfl, ⟨_, rfl, repList_lits' (encI x)⟩, _, _, rfl, ⟨_, rfl, repList_lits' (encI y)⟩, rfl⟩
theorem sortO_c (G : Nat → AV) (H : Nat → Option AObj) (l : List Idn) (jr : List (List AV)) (o : Nat) (ho : H o = some ⟨55, 2, l.map Idn.c ++ jr⟩) (hl : l.length ≤ 1000000) (n : Nat) :
    ACalls Tryz.prog G 35 [.os o 0 l.length, .fn (.func 214) []] H n fun r H' n' => r = .tup [] ∧ ∃ l', SortedI l l' ∧ l'.length = l.length ∧ H' = hu H o (some ⟨55, 2, l'.map Idn.c ++ jr⟩) := by
  refine ACalls.of_rowK (enters_of_b (by kernel_rfl)) (by decide) encI (fun _ => rfl) ho fun w blk cap h1 h2 h3 => ?_
  refine (Go.Proofs.AnyQ.slices_SortFunc Tryz.sortI 2 (fun w => Tryz.isAgg55 w) (fun w => Tryz.sizeOf55 w) encI (fun _ => rfl) (fun x v hv => ?_) cmpId cmpId_tc.swo 214 #[] blk 0 cap l.toArray w (fun args w => run_callF (enters_of_b (by kernel_rfl)) args w) (order_lays w blk _) h1 h2 (by simp; omega)).mono fun e w' ⟨k1, d', m, os, k2, k3, k4⟩ => ⟨k1, d'.toList, m, os, ⟨?_, ?_⟩, ?_, k4⟩
  · simp only [encI, List.mem_cons, List.not_mem_nil, or_false] at hv
    rcases hv with rfl | rfl <;> rfl
  · have hs : d'.size = l.length := by simpa using k2.1
    have := k2.2.2
    have ht : List.take l.length d'.toList = d'.toList := List.take_of_length_le (by simp [hs])
    simpa [ht] using this
  · have hs : d'.size = l.length := by simpa using k2.1
    rw [List.pairwise_iff_getElem]
    intro i j hi hj hij
    simp only [Array.length_toList] at hi hj
    have h4 := k3 i j (Nat.zero_le _) hij (by simp; omega)
    simp only [Go.Proofs.ltOf, decide_eq_false_iff_not] at h4
    rw [getElem!_pos d' i hi, getElem!_pos d' j hj] at h4
    simp only [Array.getElem_toList]
    exact (cmpId_tc.flip _ _).2 (by omega)
  · simpa using k2.1

variable (G : Nat → AV) (H : Nat → Option AObj)
theorem insNil_c : AFn Tryz.prog G 172 [.ls false [], .int 0, .int 0, .fn (.func 214) []] H (.tup []) := by
  refine AFn.start mix F172 (by simp) fun k hlow => ?_
  have h0 : ¬ (1 : Int) < 0 := by omega
  simp -dsimp -implicitDefEqProofs (disch := omega) only [↓wpre, push_cast, seval, c172]
  refine xw_loopJ (σ := Unit) (fun _ => [(2, .int 0), (8, .int 1)]) (fun _ H' n' => Qt H H' k) (fun _ => 0) () (.refl hlow) (by simp -dsimp -implicitDefEqProofs (disch := omega) only [↓wpre, push_cast, seval]) ?_
  rintro ⟨⟩ fr H' n1 hq hh
  simp only [has_nil, has_cons, and_true] at hh
  simp -dsimp -implicitDefEqProofs (disch := omega) only [↓wpre, push_cast, seval, hh, h0]
  exact hq.1
theorem pdqNil_c (lim : Int) : AFn Tryz.prog G 107 [.ls false [], .int 0, .int 0, .int lim, .fn (.func 214) []] H (.tup []) := by
  refine AFn.start mix F107 (by simp) fun k hlow => ?_
  simp -dsimp -implicitDefEqProofs (disch := omega) only [↓wpre, push_cast, seval, c107]
  refine xw_loopJ (σ := Unit) (fun _ => [(0, .ls false []), (1, .int 0), (2, .int 0), (4, .fn (.func 214) [])]) (fun _ H' n' => Qt H H' k) (fun _ => 0) () (.refl hlow) (by simp -dsimp -implicitDefEqProofs (disch := omega) only [↓wpre, push_cast, seval]) ?_
  rintro ⟨⟩ fr H' n1 hq hh
  simp only [has_nil, has_cons, and_true] at hh
  have h12 : (0 : Int) ≤ 12 := by omega
  simp -dsimp -implicitDefEqProofs (disch := omega) only [↓wpre, push_cast, seval, hh, Int.sub_self, h12]
  refine AFn.x (insNil_c G _) fun n2 hn2 => ?_
  simp -dsimp -implicitDefEqProofs (disch := omega) only [↓wpre, push_cast, seval, hh]
  exact hq.1
theorem len0_c : AFn Tryz.prog G 108 [.lit (.int .u64 0)] H (.int 0) := by
  have h181 : ∀ H, AFn Tryz.prog G 181 [.lit (.int .u64 0)] H (.int 0) := fun H => by
    refine AFn.start mix F181 (by simp) fun k hlow => ?_
    have a1 : ¬ (4294967296 : Int) ≤ 0 := by omega
    have a2 : ¬ (65536 : Int) ≤ 0 := by omega
    have a3 : ¬ (256 : Int) ≤ 0 := by omega
    simp -dsimp -implicitDefEqProofs (disch := omega) only [↓wpre, push_cast, seval, c181, a1, a2, a3]
    refine ⟨.lit (.int .u8 0), (achr_lit (by decide)).trans rfl, ?_⟩
    simp -dsimp -implicitDefEqProofs (disch := omega) only [↓wpre, push_cast, seval]
  refine AFn.start mix F108 (by simp) fun k hlow => ?_
  simp -dsimp -implicitDefEqProofs (disch := omega) only [↓wpre, push_cast, seval, c108]
  refine AFn.x (h181 _) fun n2 hn2 => ?_
  simp -dsimp -implicitDefEqProofs (disch := omega) only [↓wpre, push_cast, seval]
theorem sortNil_c : AFn Tryz.prog G 35 [.ls false [], .fn (.func 214) []] H (.tup []) := by
  refine AFn.start mix F35 (by simp) fun k hlow => ?_
  simp -dsimp -implicitDefEqProofs (disch := omega) only [↓wpre, push_cast, seval, c35]
  refine AFn.x (len0_c G _) fun n2 hn2 => ?_
  simp -dsimp -implicitDefEqProofs (disch := omega) only [↓wpre, push_cast, seval]
  refine AFn.x (pdqNil_c G _ 0) fun n2 hn2 => ?_
  simp -dsimp -implicitDefEqProofs (disch := omega) only [↓wpre, push_cast, seval]
/-- An id. -/
theorem id_c (hG : GOk G) (hP : G 1 = .pp poolC) (nz : Bool) (l : List Int) (a : Int) (i : Nat) (hi : H i = some (strm (LL nz l) a)) (ha : 0 ≤ a ∧ a ≤ 1099511625900) : SC G H 213 [.op i 0 0] i (LL nz l) a 10 fun r => ∃ x : Idn, r = .agg x.c ∧ x.text.size ≤ 200 := by
  intro n
  refine ACalls.start mix F213 (by simp) fun hlow => ?_
  have hq := Qs.refl hi hlow
  have hin := hq.2.2
  simp -dsimp -implicitDefEqProofs (disch := omega) only [↓wpre, push_cast, seval, c213]
  refine (flip_c G _ nz l a 25 i (by simp -dsimp -implicitDefEqProofs (disch := omega) only [↓wpre, push_cast, seval, hi]) ⟨by omega, by omega⟩ (by omega)).x fun r a1 n1 hn1 k1 k2 k3 => ?_
  obtain ⟨b, rfl⟩ := k3
  simp -dsimp -implicitDefEqProofs (disch := omega) only [↓wpre, push_cast, seval, hi]
  (first | with_reducible refine cnd_ndec (fun hc => ?_) (fun hc => ?_) | with_reducible refine cnd_dec (fun hc => ?_) (fun hc => ?_) | with_reducible refine cnd_nb (fun hc => ?_) (fun hc => ?_) | with_reducible refine cnd_intro (fun hc => ?_) (fun hc => ?_)) <;> (first | (exfalso; omega) | (try simp -dsimp -implicitDefEqProofs (disch := omega) only [↓wpre, push_cast, seval, hc, hi]))
  · refine (spoiledId_c G _ hG hP nz l a1 i (by simp -dsimp -implicitDefEqProofs (disch := omega) only [↓wpre, push_cast, seval, hi]) ⟨by omega, by omega⟩).x fun r a2 n2 hn2 m1 m2 m3 => ?_
    obtain ⟨x, hx, rfl⟩ := m3
    simp -dsimp -implicitDefEqProofs (disch := omega) only [↓wpre, push_cast, seval, hi, hu_hu]
    refine fin_intro (H' := hu H i (some (strm (LL nz l) (a2)))) (Qs.sub (n := n) (by (repeat (first | exact hq | refine Qs.put ?_ | refine Qs.new ?_ (by omega)))) (by simp -dsimp -implicitDefEqProofs (disch := omega) only [↓wpre, push_cast, seval, hq.2.2])) ⟨a2, by omega, by omega, rfl, ⟨x, rfl, hx.2.2⟩⟩
  · refine (next_c G _ nz l a1 10 i (by simp -dsimp -implicitDefEqProofs (disch := omega) only [↓wpre, push_cast, seval, hi]) ⟨by omega, by omega⟩ (by omega)).x fun r a2 n2 hn2 m1 m2 m3 => ?_
    obtain ⟨w, rfl, hw⟩ := m3
    obtain ⟨y, hy, rest, hd⟩ := pool_at w hw.1 hw.2
    have hys := pool_small y hy
    simp -dsimp -implicitDefEqProofs (disch := omega) only [↓wpre, push_cast, seval, hi, hu_hu, hP, hd, hw]
    refine fin_intro (H' := hu H i (some (strm (LL nz l) (a2)))) (Qs.sub (n := n) (by (repeat (first | exact hq | refine Qs.put ?_ | refine Qs.new ?_ (by omega)))) (by simp -dsimp -implicitDefEqProofs (disch := omega) only [↓wpre, push_cast, seval, hq.2.2])) ⟨a2, by omega, by omega, rfl, ⟨y, rfl, Nat.le_trans hys.2.2 (by decide)⟩⟩
/-- Ids that are turned about. -/
theorem reverse_c (o : Nat) (l : List Idn) (hl : l.length ≤ 1000000) (ho : H o = some ⟨55, 2, l.map Idn.c⟩) (n : Nat) : ACalls Tryz.prog G 215 [.os o 0 l.length] H n fun r H' n' => r = .tup [] ∧ ∃ l' : List Idn, l'.length = l.length ∧ (∀ x ∈ l', x ∈ l) ∧ H' = hu H o (some ⟨55, 2, l'.map Idn.c⟩) := by
  refine ACalls.start mix F215 (by simp) fun hlow => ?_
  simp -dsimp -implicitDefEqProofs (disch := omega) only [↓wpre, push_cast, seval, c215]
  refine xw_loopJ (σ := Nat × List Idn) (fun t => [(0, .os o 0 l.length), (2, .int t.1), (3, .int ((l.length : Int) - 1 - t.1))]) (fun t H' n' => t.2.length = l.length ∧ (∀ x ∈ t.2, x ∈ l) ∧ t.1 ≤ l.length ∧ H' = hu H o (some ⟨55, 2, t.2.map Idn.c⟩)) (fun t => l.length - t.1) (0, l) ⟨rfl, fun x hx => hx, by omega, (hu_self H ho).symm⟩ (by simp -dsimp -implicitDefEqProofs (disch := omega) only [↓wpre, push_cast, seval]; try simp) ?_
  rintro ⟨j, m⟩ fr H' n1 ⟨hml, hmm, hj, rfl⟩ hh
  simp only [has_nil, has_cons, and_true] at hh hml hmm hj
  by_cases hlt : (j : Int) < (l.length : Int) - 1 - j
  · obtain ⟨k, hk⟩ : ∃ k : Nat, (l.length : Int) - 1 - j = (k : Int) := ⟨l.length - 1 - j, by omega⟩
    rw [hk] at hh hlt
    have hkl : k < m.length := by omega
    have hjl : j < m.length := by omega
    have gj : (m.map Idn.c)[j]? = some (m[j]).c := by rw [List.getElem?_map, List.getElem?_eq_getElem hjl]; rfl
    have gk : (m.map Idn.c)[k]? = some (m[k]).c := by rw [List.getElem?_map, List.getElem?_eq_getElem hkl]; rfl
    have hj0 : (0 : Int) ≤ j := by omega
    have hk0 : (0 : Int) ≤ k := by omega
    have hj1 : (j : Int) < l.length := by omega
    have hk1 : (k : Int) < l.length := by omega
    have hj2 : j < l.length := by omega
    have hk2 : k < l.length := by omega
    have sj : ∀ y : Idn, (m.map Idn.c).set j y.c = (m.set j y).map Idn.c := fun y => by rw [List.map_set]
    have gk2 : ∀ y : Idn, ((m.set j y).map Idn.c)[k]? = some (m[k]).c := fun y => by
      rw [List.getElem?_map, List.getElem?_set_ne (by omega), List.getElem?_eq_getElem hkl]; rfl
    have sk : ∀ y z : Idn, ((m.set j y).map Idn.c).set k z.c = ((m.set j y).set k z).map Idn.c := fun y z => by rw [List.map_set (l := m.set j y)]
    have hlk : ((m.set j m[k]).set k m[j]).length = l.length := by simpa using hml
    simp -dsimp -implicitDefEqProofs (disch := omega) only [↓wpre, push_cast, seval, hh, hlt, gj, gk, hj0, hk0, hj1, hk1, hj2, hk2, sj, gk2, sk, hu_hu, Int.toNat_natCast]
    refine anyN_intro fun n2 hn2 => ?_
    have ek : (k : Int) - 1 = (l.length : Int) - 1 - ((j + 1 : Nat) : Int) := by omega
    simp -dsimp -implicitDefEqProofs (disch := omega) only [↓wpre, push_cast, seval, hh, ek]
    refine againJ (j + 1, (m.set j m[k]).set k m[j]) (by dsimp only; omega) ⟨hlk, ?_, by dsimp only; omega, hu_hu _⟩ (by simp -dsimp -implicitDefEqProofs (disch := omega) only [↓wpre, push_cast, seval, hh, ek]; all_goals (try simp only [AV.lit.injEq, Value.int.injEq, Value.bool.injEq, true_and, and_true]); all_goals (try (repeat' apply And.intro)); all_goals (first | rfl | omega | simp_all | skip))
    intro x hx
    rcases List.mem_or_eq_of_mem_set hx with hx | rfl
    · rcases List.mem_or_eq_of_mem_set hx with hx | rfl
      · exact hmm x hx
      · exact hmm _ (List.getElem_mem _)
    · exact hmm _ (List.getElem_mem _)
  · simp -dsimp -implicitDefEqProofs (disch := omega) only [↓wpre, push_cast, seval, hh, hlt]
    refine fin_intro (Ab.Sub.refl _) ⟨rfl, m, hml, hmm, rfl⟩
end Go.Proofs.YtblhbafoncfhdaaGreatDoor

