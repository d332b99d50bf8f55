/- Contracts of functions of the program: each computes what its model says; the conditions stand at each. -/
import Derived.Test.YthcedgclhoggcaaGreatDoorTw4
import Derived.Test.YthcedgclhoggcaaGreatDoorTw60
import Derived.Test.YthcedgclhoggcaaGreatDoorCl10
import Derived.Test.YthcedgclhoggcaaGreatDoorTs4
set_option linter.unusedSimpArgs false
set_option linter.unusedVariables false
set_option maxRecDepth 20000
set_option pp.deepTerms false
set_option pp.deepTerms.threshold 3
namespace Go.Proofs.YthcedgclhoggcaaGreatDoor
open Go Go.Ab Go.Pm Go.Cm
variable (G : Nat → AV) (H : Nat → Option AObj)
/-! A policy as text. -/
def tab10 : List Value := Lib.pow10Tab.map (Value.int .u64)
structure GT (G : Nat → AV) : Prop where
  tab : G 1 = .pp (tab10.map .lit)
  fix : G 1000000101 = .pp []
  ns : ¬ Strict G
theorem gTab : Tryz.prog.globalNamed "internal/strconv.uint64pow10" = some 1 := by kernel_rfl
theorem tabIs {G : Nat → AV} (hT : GT G) {w : World} {g : Gh} (hg : Gl G g w) : Lib.TabIs Tryz.prog w "internal/strconv.uint64pow10" .u64 Lib.pow10Tab := by
  obtain ⟨hno, arr, E, f, h1, h2⟩ := hg.fix 1 hT.fix _ hT.tab
  have h3 := hg.at' 1
  rw [hT.tab] at h3
  obtain ⟨b, o, h4, h5⟩ := h3
  cases h4
  have e : arr = (Lib.pow10Tab.map (Value.int .u64)).toArray := by
    apply Array.ext'
    apply List.ext_getElem?
    intro i
    rcases Nat.lt_or_ge i 20 with hi | hi
    · have hx : (tab10.map AV.lit)[i]? = some (.lit (tab10[i]'(by simpa [tab10, Lib.pow10Tab] using hi))) := by
        rw [List.getElem?_map, List.getElem?_eq_getElem]; rfl
      obtain ⟨_, v, h6, h7⟩ := h5.get i _ hx
      have h7 : v = _ := h7
      rw [cell_of_heap h1, Nat.zero_add] at h6
      rw [Array.getElem?_toList, h6, h7]
      simp [tab10, Lib.pow10Tab, hi]
    · rw [List.getElem?_eq_none (by rw [Array.length_toList, h2]; simpa [tab10, Lib.pow10Tab] using hi), List.getElem?_eq_none (by simpa [Lib.pow10Tab] using hi)]
  unfold Lib.TabIs World.var?
  rw [gTab]
  simp only [Option.bind_some, h1, e]
theorem below_grown (w : World) (k : Nat) (os : Array Obj) : Go.RowKit.Below w.heap.size w (Go.Sort.grow (w.drewN k) os) :=
  ⟨rfl, rfl, rfl, by show w.heap.size ≤ (w.heap ++ os).size; rw [Array.size_append]; omega, fun j hj => by show (w.heap ++ os)[j]? = _; rw [Array.getElem?_append_left hj]⟩
theorem itoa_c (hT : GT G) (n : Int) (h : -1000000000000 ≤ n ∧ n ≤ 1000000000000) : AFn Tryz.prog G 65 [.int n] H (.str (itoaT n)) := by
  refine AFn.of_calls (xs := [.int .i64 n]) (enters_of_b (by kernel_rfl)) fun w g hI hg => ?_
  refine (Tryz.strconv_Itoa n (by omega) (by omega) w (tabIs hT hg)).mono fun e w' ⟨k1, k, os, k2⟩ => ?_
  subst k2
  obtain ⟨k3, k4⟩ := step_below hI (fun h => hT.ns (hg.dr h)) (below_grown w k os)
  exact ⟨_, k1, rfl, k4, k3⟩
theorem channelWord_c (c : Int) (h : 0 ≤ c ∧ c ≤ 4) : AFn Tryz.prog G 64 [.int c] H (.str (chWord c)) := by
  refine AFn.start mix F64 (by simp) fun k hlow => ?_
  have : c = 0 ∨ c = 1 ∨ c = 2 ∨ c = 3 ∨ c = 4 := by omega
  rcases this with rfl | rfl | rfl | rfl | rfl
  all_goals
    simp -dsimp -implicitDefEqProofs (disch := omega) only [↓wpre, push_cast, reduceCtorEq, ↓reduceIte, Nat.reduceEqDiff, Nat.reduceLeDiff, Nat.reduceAdd, Nat.reduceLT, Int.reduceEq, Int.reduceLT, Int.reduceLE, Int.reduceNeg, Int.reduceAdd, c64]
    refine pr_intro (by intro r hr; simp only [List.mem_cons, List.not_mem_nil, or_false] at hr; rcases hr with rfl | rfl | rfl | rfl | rfl <;> exact ⟨rfl, rfl⟩) ?_
    refine ⟨_, rfl, ?_⟩
    simp -dsimp -implicitDefEqProofs (disch := omega) only [↓wpre, push_cast, reduceCtorEq, ↓reduceIte, Nat.reduceEqDiff, Nat.reduceLeDiff, Nat.reduceAdd, Nat.reduceLT, Int.reduceEq, Int.reduceLT, Int.reduceLE, Int.reduceNeg, Int.reduceAdd, true_and]
    try rfl
set_option maxHeartbeats 1600000 in
theorem textPolicy_c (hT : GT G) (nz : Bool) (ps : List Purpose) (hP : PolP ps 3) (h0 : ps ≠ []) : AFn Tryz.prog G 32 [.ls nz (ps.map Purpose.c)] H (.tup [.str ⟨(polB ps).toArray⟩, .int 0]) := by
  refine AFn.start mix F32 (by simp) fun n0 hlow => ?_
  have hS : SmallP ps := fun x hx => ⟨Nat.le_trans (hP.small x hx).1 (by decide), fun t ht => Nat.le_trans ((hP.small x hx).2 t ht) (by decide)⟩
  have hpl := hP.len
  have hlen := polB_len ps fun p hp => (hP.good p hp).2
  simp -dsimp -implicitDefEqProofs (disch := omega) only [↓wpre, push_cast, reduceCtorEq, ↓reduceIte, Nat.reduceEqDiff, Nat.reduceLeDiff, Nat.reduceAdd, Nat.reduceLT, Int.reduceEq, Int.reduceLT, Int.reduceLE, Int.reduceNeg, Int.reduceAdd, c32]
  refine (checkPolicy_c G _ nz ps hS).x fun n1 hn1 => ?_
  rw [checkPolicy_zero hP h0]
  simp -dsimp -implicitDefEqProofs (disch := omega) only [↓wpre, push_cast, reduceCtorEq, ↓reduceIte, Nat.reduceEqDiff, Nat.reduceLeDiff, Nat.reduceAdd, Nat.reduceLT, Int.reduceEq, Int.reduceLT, Int.reduceLE, Int.reduceNeg, Int.reduceAdd, true_and]
  have hq0 : Qt H (hu H n1 (some ⟨117, 2, [[.lit (.pointer none), .ls false []]]⟩)) n0 := (Qt.refl hlow).hu hn1
  have hl0 : Low (hu H n1 (some ⟨117, 2, [[.lit (.pointer none), .ls false []]]⟩)) (n1 + 1) := (hlow.mono hn1).hu (Nat.le_succ _) (Nat.lt_succ_self _)
  refine xw_loopJ (σ := List Purpose × List Purpose) (fun t => [(0, .ls nz (ps.map Purpose.c)), (5, .op n1 0 0), (15, .ls nz (ps.map Purpose.c)), (16, .int ps.length), (17, .int t.1.length)]) (fun t H' n' => ps = t.1 ++ t.2 ∧ BS n0 n1 (polB t.1) H' ∧ Qt H H' n0 ∧ n1 < n' ∧ Low H' n') (fun t => t.2.length) ([], ps) ⟨rfl, .inl ⟨rfl, _, .inl rfl, hu_same⟩, hq0, Nat.lt_succ_self _, hl0⟩ (by simp -dsimp -implicitDefEqProofs (disch := omega) only [↓wpre, push_cast, reduceCtorEq, ↓reduceIte, Nat.reduceEqDiff, Nat.reduceLeDiff, Nat.reduceAdd, Nat.reduceLT, Int.reduceEq, Int.reduceLT, Int.reduceLE, Int.reduceNeg, Int.reduceAdd, true_and]) ?_
  clear hq0 hl0
  rintro ⟨a, b⟩ fr H1 n2 ⟨rfl, hB, hq, hn2, hl1⟩ hh
  simp only [has_nil, has_cons, and_true, List.length_append] at hh
  have hB : BS n0 n1 (polB a) H1 := hB
  cases b with
  | nil =>
    simp -dsimp -implicitDefEqProofs (disch := omega) only [↓wpre, push_cast, reduceCtorEq, ↓reduceIte, Nat.reduceEqDiff, Nat.reduceLeDiff, Nat.reduceAdd, Nat.reduceLT, Int.reduceEq, Int.reduceLT, Int.reduceLE, Int.reduceNeg, Int.reduceAdd, hh]
    simp only [List.append_nil] at hlen hpl ⊢
    have hlen2 : (polB a).length ≤ 200000 := by omega
    have hlen3 : ¬ (200000 : Int) < (polB a).length := by omega
    refine (bLen_c G _ n0 n1 _ hB).x fun n3 hn3 => ?_
    simp -dsimp -implicitDefEqProofs (disch := omega) only [↓wpre, push_cast, reduceCtorEq, ↓reduceIte, Nat.reduceEqDiff, Nat.reduceLeDiff, Nat.reduceAdd, Nat.reduceLT, Int.reduceEq, Int.reduceLT, Int.reduceLE, Int.reduceNeg, Int.reduceAdd, hh, hlen3]
    refine (bString_c G _ n0 n1 n3 (polB a) hB (by omega)).x fun r H2 n4 ⟨h1, h2⟩ => ?_
    subst h1
    simp -dsimp -implicitDefEqProofs (disch := omega) only [↓wpre, push_cast, reduceCtorEq, ↓reduceIte, Nat.reduceEqDiff, Nat.reduceLeDiff, Nat.reduceAdd, Nat.reduceLT, Int.reduceEq, Int.reduceLT, Int.reduceLE, Int.reduceNeg, Int.reduceAdd, hh]
    exact (h2.qt hn1 hq).1
  | cons p b =>
    have hlt : (a.length : Int) < a.length + (b.length + 1) := by omega
    obtain ⟨_, hpn, hpt⟩ := hP.good p (by simp)
    have hps := hP.small p (by simp)
    have hhl := headP_len hpn
    have htl := termsB_len p.terms fun t ht => (hpt.good t ht).1
    have htn := hpt.len
    have hal := polB_len a fun x hx => (hP.good x (by simp [hx])).2
    simp only [List.length_append, List.length_cons] at hpl
    have hn4 : p.name.size ≤ 100 := hps.1
    simp -dsimp -implicitDefEqProofs (disch := first | omega | (simp only [ByteArray.size_append, ByteArray.size_extract, size_lit, List.length_cons, List.length_nil]; omega)) only [↓wpre, push_cast, reduceCtorEq, ↓reduceIte, Nat.reduceEqDiff, Nat.reduceLeDiff, Nat.reduceAdd, Nat.reduceLT, Int.reduceEq, Int.reduceLT, Int.reduceLE, Int.reduceNeg, Int.reduceAdd, hh, hlt, even_purposes', aidx_split, bins_add, hu_hu]
    refine (writeString_c G (hu H1 n2 (some ⟨79, 2, [[.str p.name, .ls p.nz (p.terms.map Term.c)]]⟩)) n0 n1 (n2 + 1) (polB a) (headP p) (by omega) (hB.new hl1) (by omega)).lowp.x fun r H2 n3 ⟨⟨h1, h2⟩, hn3, hl2⟩ => ?_
    have hq2 := h2.qt hn1 (hq.hu (by omega))
    have hp2 : H2 n2 = some ⟨79, 2, [[.str p.name, .ls p.nz (p.terms.map Term.c)]]⟩ := h2 n2 _ (by omega) (.inl (by simp)) hu_same
    simp -dsimp -implicitDefEqProofs (disch := omega) only [↓wpre, push_cast, reduceCtorEq, ↓reduceIte, Nat.reduceEqDiff, Nat.reduceLeDiff, Nat.reduceAdd, Nat.reduceLT, Int.reduceEq, Int.reduceLT, Int.reduceLE, Int.reduceNeg, Int.reduceAdd, hh, hp2]
    clear hq hl1 h2 hp2
    refine xw_loopJ (σ := List Term × List Term) (fun t => [(0, .ls nz ((a ++ p :: b).map Purpose.c)), (5, .op n1 0 0), (15, .ls nz ((a ++ p :: b).map Purpose.c)), (16, .int (a ++ p :: b).length), (17, .int a.length), (27, .ls p.nz (p.terms.map Term.c)), (28, .int p.terms.length), (29, .int t.1.length)]) (fun t H' n' => p.terms = t.1 ++ t.2 ∧ BS n0 n1 ((polB a ++ (headP p).data.toList) ++ termsB t.1) H' ∧ Qt H H' n0 ∧ n1 < n' ∧ Low H' n') (fun t => t.2.length) ([], p.terms) ⟨rfl, by simpa [termsB] using h1, hq2, by omega, hl2⟩ (by simp -dsimp -implicitDefEqProofs (disch := omega) only [↓wpre, push_cast, reduceCtorEq, ↓reduceIte, Nat.reduceEqDiff, Nat.reduceLeDiff, Nat.reduceAdd, Nat.reduceLT, Int.reduceEq, Int.reduceLT, Int.reduceLE, Int.reduceNeg, Int.reduceAdd, hh]) ?_
    clear hq2 hl2 h1 hB
    rintro ⟨c, d⟩ fr2 H3 n4 ⟨hcd, hB, hq, hn5, hl1⟩ hh2
    simp only [has_nil, has_cons, and_true] at hh2 hcd
    have hB : BS n0 n1 ((polB a ++ (headP p).data.toList) ++ termsB c) H3 := hB
    cases d with
    | nil =>
      simp only [List.append_nil] at hcd
      subst hcd
      simp -dsimp -implicitDefEqProofs (disch := omega) only [↓wpre, push_cast, reduceCtorEq, ↓reduceIte, Nat.reduceEqDiff, Nat.reduceLeDiff, Nat.reduceAdd, Nat.reduceLT, Int.reduceEq, Int.reduceLT, Int.reduceLE, Int.reduceNeg, Int.reduceAdd, hh2]
      refine againJ (a ++ [p], b) (Nat.lt_succ_self _) ⟨by simp, by rw [polB_snoc]; exact hB, hq, hn5, hl1⟩ (by simp -dsimp -implicitDefEqProofs (disch := omega) only [↓wpre, push_cast, reduceCtorEq, ↓reduceIte, Nat.reduceEqDiff, Nat.reduceLeDiff, Nat.reduceAdd, Nat.reduceLT, Int.reduceEq, Int.reduceLT, Int.reduceLE, Int.reduceNeg, Int.reduceAdd, hh2])
    | cons t d =>
      have hlt2 : (c.length : Int) < c.length + (d.length + 1) := by omega
      have htg := (hpt.good t (by rw [hcd]; simp)).1
      have h3 := headT_len htg
      have h4 := tailT_len htg
      have h5 : t.region.size ≤ 100 := hps.2 t (by rw [hcd]; simp)
      have h6 := chWord_len t.channel
      have h7 : (termsB c).length ≤ 40 * c.length := termsB_len c fun u hu => (hpt.good u (by rw [hcd]; simp [hu])).1
      have h8 : c.length ≤ 8 := by have := htn; rw [hcd] at this; simp only [List.length_append] at this; omega
      have hch := htg.ch
      rw [hcd] at hh2
      simp -dsimp -implicitDefEqProofs (disch := first | omega | (simp only [ByteArray.size_append, ByteArray.size_extract, size_lit, List.length_cons, List.length_nil]; omega)) only [↓wpre, push_cast, reduceCtorEq, ↓reduceIte, Nat.reduceEqDiff, Nat.reduceLeDiff, Nat.reduceAdd, Nat.reduceLT, Int.reduceEq, Int.reduceLT, Int.reduceLE, Int.reduceNeg, Int.reduceAdd, hh2, hlt2, even_terms', aidx_split, bins_add, hu_hu]
      refine xw_nreg (only n4 ⟨81, 5, [t.c]⟩) (only_sub hu_same) ?_
      have hs0 : Sub (only n4 ⟨81, 5, [t.c]⟩) (hu H3 n4 (some ⟨81, 5, [t.c]⟩)) = True := eq_true (only_sub hu_same)
      have ho0 : only n4 ⟨81, 5, [t.c]⟩ n4 = some ⟨81, 5, [t.c]⟩ := if_pos rfl
      simp -dsimp -implicitDefEqProofs (disch := first | omega | (simp only [ByteArray.size_append, ByteArray.size_extract, size_lit, List.length_cons, List.length_nil]; omega)) only [↓wpre, push_cast, reduceCtorEq, ↓reduceIte, Nat.reduceEqDiff, Nat.reduceLeDiff, Nat.reduceAdd, Nat.reduceLT, Int.reduceEq, Int.reduceLT, Int.reduceLE, Int.reduceNeg, Int.reduceAdd, hh2, hs0, ho0, bins_add]
      refine AFn.x (channelWord_c G _ t.channel ⟨by omega, by omega⟩) fun n5 hn6 => ?_
      simp -dsimp -implicitDefEqProofs (disch := first | omega | (simp only [ByteArray.size_append, ByteArray.size_extract, size_lit, List.length_cons, List.length_nil]; omega)) only [↓wpre, push_cast, reduceCtorEq, ↓reduceIte, Nat.reduceEqDiff, Nat.reduceLeDiff, Nat.reduceAdd, Nat.reduceLT, Int.reduceEq, Int.reduceLT, Int.reduceLE, Int.reduceNeg, Int.reduceAdd, hh2, hs0, ho0, bins_add]
      have hlL : (polB a ++ (headP p).data.toList ++ termsB c).length ≤ 2000 := by simp only [List.length_append, tl_len]; omega
      refine (writeString_c G (hu H3 n4 (some ⟨81, 5, [t.c]⟩)) n0 n1 n5 (polB a ++ (headP p).data.toList ++ termsB c) (headT t) (by omega) (hB.new hl1) (by omega)).lowp.x fun r H4 n6 ⟨⟨k1, k2⟩, k3, k4⟩ => ?_
      have hq4 := k2.qt hn1 (hq.hu (by omega))
      have hp4 : H4 n4 = some ⟨81, 5, [t.c]⟩ := k2 n4 _ (by omega) (.inl (by simp)) hu_same
      have hs4 : Sub (only n4 ⟨81, 5, [t.c]⟩) H4 = True := eq_true (only_sub hp4)
      have hlM : ((polB a ++ (headP p).data.toList ++ termsB c) ++ (headT t).data.toList).length ≤ 3000 := by rw [List.length_append, tl_len]; omega
      clear hs0 hq hl1 hB k2
      simp -dsimp -implicitDefEqProofs (disch := omega) only [↓wpre, push_cast, reduceCtorEq, ↓reduceIte, Nat.reduceEqDiff, Nat.reduceLeDiff, Nat.reduceAdd, Nat.reduceLT, Int.reduceEq, Int.reduceLT, Int.reduceLE, Int.reduceNeg, Int.reduceAdd, hh2, hp4, hs4]
      have hend : ∀ (H5 : Nat → Option AObj) (s : T), s = tailT t → BS n0 n1 (((polB a ++ (headP p).data.toList ++ termsB c) ++ (headT t).data.toList) ++ s.data.toList) H5 → BS n0 n1 ((polB a ++ (headP p).data.toList) ++ termsB (c ++ [t])) H5 := fun H5 s hs h => by
        rw [termsB_snoc, ← hs]
        simpa only [List.append_assoc] using h
      cases hf : t.free with
      | true =>
        have hs : tFree = tailT t := by rw [tailT, if_pos hf]
        simp -dsimp -implicitDefEqProofs (disch := omega) only [↓wpre, push_cast, reduceCtorEq, ↓reduceIte, Nat.reduceEqDiff, Nat.reduceLeDiff, Nat.reduceAdd, Nat.reduceLT, Int.reduceEq, Int.reduceLT, Int.reduceLE, Int.reduceNeg, Int.reduceAdd, hf, hh2]
        refine (writeString_c G H4 n0 n1 n6 _ tFree (by omega) k1 (by have : tFree.size = 5 := rfl; omega)).lowp.x fun r H5 n7 ⟨⟨k5, k6⟩, k7, k8⟩ => ?_
        simp -dsimp -implicitDefEqProofs (disch := omega) only [↓wpre, push_cast, reduceCtorEq, ↓reduceIte, Nat.reduceEqDiff, Nat.reduceLeDiff, Nat.reduceAdd, Nat.reduceLT, Int.reduceEq, Int.reduceLT, Int.reduceLE, Int.reduceNeg, Int.reduceAdd, hh2]
        refine againJ (c ++ [t], d) (Nat.lt_succ_self _) ⟨by rw [hcd]; simp, hend _ _ hs k5, k6.qt hn1 hq4, by omega, k8⟩ (by simp -dsimp -implicitDefEqProofs (disch := omega) only [↓wpre, push_cast, reduceCtorEq, ↓reduceIte, Nat.reduceEqDiff, Nat.reduceLeDiff, Nat.reduceAdd, Nat.reduceLT, Int.reduceEq, Int.reduceLT, Int.reduceLE, Int.reduceNeg, Int.reduceAdd, hh2, hcd])
      | false =>
        have hs : ((itoaT t.days ++ tSp) ++ itoaT t.wait) ++ tNl = tailT t := by rw [tailT, if_neg (by rw [hf]; simp)]
        have h9 := itoaT_len htg.days
        have h10 := itoaT_len htg.wait
        have hdy := htg.days
        have hwt := htg.wait
        simp -dsimp -implicitDefEqProofs (disch := omega) only [↓wpre, push_cast, reduceCtorEq, ↓reduceIte, Nat.reduceEqDiff, Nat.reduceLeDiff, Nat.reduceAdd, Nat.reduceLT, Int.reduceEq, Int.reduceLT, Int.reduceLE, Int.reduceNeg, Int.reduceAdd, hf]
        refine xw_nreg (only n4 ⟨81, 5, [t.c]⟩) (only_sub hp4) ?_
        simp -dsimp -implicitDefEqProofs (disch := first | omega | (simp only [ByteArray.size_append, ByteArray.size_extract, size_lit, List.length_cons, List.length_nil]; omega)) only [↓wpre, push_cast, reduceCtorEq, ↓reduceIte, Nat.reduceEqDiff, Nat.reduceLeDiff, Nat.reduceAdd, Nat.reduceLT, Int.reduceEq, Int.reduceLT, Int.reduceLE, Int.reduceNeg, Int.reduceAdd, hh2, hs4, ho0, hp4]
        refine AFn.x (itoa_c G _ hT t.days ⟨by omega, by omega⟩) fun n7 hn7 => ?_
        simp -dsimp -implicitDefEqProofs (disch := first | omega | (simp only [ByteArray.size_append, ByteArray.size_extract, size_lit, List.length_cons, List.length_nil]; omega)) only [↓wpre, push_cast, reduceCtorEq, ↓reduceIte, Nat.reduceEqDiff, Nat.reduceLeDiff, Nat.reduceAdd, Nat.reduceLT, Int.reduceEq, Int.reduceLT, Int.reduceLE, Int.reduceNeg, Int.reduceAdd, hh2, hs4, ho0, bins_add, hp4]
        refine AFn.x (itoa_c G _ hT t.wait ⟨by omega, by omega⟩) fun n8 hn8 => ?_
        simp -dsimp -implicitDefEqProofs (disch := first | omega | (simp only [ByteArray.size_append, ByteArray.size_extract, size_lit, List.length_cons, List.length_nil]; omega)) only [↓wpre, push_cast, reduceCtorEq, ↓reduceIte, Nat.reduceEqDiff, Nat.reduceLeDiff, Nat.reduceAdd, Nat.reduceLT, Int.reduceEq, Int.reduceLT, Int.reduceLE, Int.reduceNeg, Int.reduceAdd, hh2, hs4, ho0, bins_add, hp4]
        refine (writeString_c G H4 n0 n1 n8 _ (((itoaT t.days ++ tSp) ++ itoaT t.wait) ++ tNl) (by omega) k1 (by rw [hs]; omega)).lowp.x fun r H5 n9 ⟨⟨k5, k6⟩, k7, k8⟩ => ?_
        have hs5 : Sub (only n4 ⟨81, 5, [t.c]⟩) H5 = True := eq_true (only_sub (k6 n4 _ (by omega) (.inl (by simp)) hp4))
        simp -dsimp -implicitDefEqProofs (disch := omega) only [↓wpre, push_cast, reduceCtorEq, ↓reduceIte, Nat.reduceEqDiff, Nat.reduceLeDiff, Nat.reduceAdd, Nat.reduceLT, Int.reduceEq, Int.reduceLT, Int.reduceLE, Int.reduceNeg, Int.reduceAdd, hh2, hs5]
        refine againJ (c ++ [t], d) (Nat.lt_succ_self _) ⟨by rw [hcd]; simp, hend _ _ hs k5, k6.qt hn1 hq4, by omega, k8⟩ (by simp -dsimp -implicitDefEqProofs (disch := omega) only [↓wpre, push_cast, reduceCtorEq, ↓reduceIte, Nat.reduceEqDiff, Nat.reduceLeDiff, Nat.reduceAdd, Nat.reduceLT, Int.reduceEq, Int.reduceLT, Int.reduceLE, Int.reduceNeg, Int.reduceAdd, hh2, hcd])
end Go.Proofs.YthcedgclhoggcaaGreatDoor

