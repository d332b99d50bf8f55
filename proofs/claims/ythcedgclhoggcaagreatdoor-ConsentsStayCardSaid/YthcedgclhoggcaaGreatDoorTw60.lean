/- Contracts of functions of the program: each computes what its model says; the conditions stand at each. -/
import Derived.Test.YthcedgclhoggcaaGreatDoorA5
import Derived.Test.YthcedgclhoggcaaGreatDoorTw10
set_option linter.unusedSimpArgs false
set_option linter.unusedVariables false
set_option maxRecDepth 20000
set_option pp.deepTerms false
set_option pp.deepTerms.threshold 3
namespace Go.Proofs.YthcedgclhoggcaaGreatDoor
open Go Go.Ab Go.Pm Go.Cm
variable (G : Nat → AV) (H : Nat → Option AObj)
/-! A strings.Builder, and what is written to it. -/
theorem noEscape_c (x : AV) : AFn Tryz.prog G 150 [x] H x :=
  AFn.extern Tryz.func150 (by kernel_rfl) (by kernel_rfl) (by kernel_rfl) (e := Extern.AbiNoEscape.same) (by kernel_rfl) fun w g vs h => by
    obtain ⟨v, vs', h1, h2, h3⟩ := h
    have h3 : vs' = [] := h3
    subst h3
    have : vs = #[v] := by apply Array.ext'; rw [h1]
    subst this
    exact ⟨v, rfl, h2⟩
theorem copyCheck_used (i : Nat) (b : AV) (hi : H i = some ⟨117, 2, [[.op i 0 0, b]]⟩) : AFn Tryz.prog G 99 [.op i 0 0] H (.tup []) := by
  intro n w g vs hI hH hn hG hvs
  obtain ⟨v, vs', e1, hv, hnil⟩ := hvs
  have hnil : vs' = [] := hnil
  subst hnil
  have hgi : g.H i = some ⟨117, 2, [[.op i 0 0, b]]⟩ := by rw [hH]; exact hi
  obtain ⟨_, _, hv2⟩ := hv
  obtain ⟨hv3, harr⟩ := hv2 _ hgi
  have e2 : vs = #[.pointer (some ⟨g.μ i, 0, none⟩)] := by apply Array.ext'; rw [e1, hv3]; simp
  obtain ⟨arr, h4, hob⟩ := hI.cells hgi harr
  obtain ⟨u, hu1, hu2⟩ := (hob.2 0 _ rfl).2 0 (.op i 0 0) rfl
  obtain ⟨_, _, hu3⟩ := hu2
  obtain ⟨hu4, _⟩ := hu3 _ hgi
  have h0 : w.cell? ⟨g.μ i, 0, none⟩ = some (.pointer (some ⟨g.μ i, 0, none⟩)) := by
    rw [cell_of_heap h4]
    rw [hu4] at hu1
    simpa using hu1
  have hc := Any.Builder_copyCheck_used ({ Tryz.lays105 with } : Go.Proofs.Lays.n240 Tryz.prog Tryz.lays105_ren) Tryz.Builder_Extra_105.toX72 (g.μ i) w h0
  subst e2
  exact .inl ⟨enters_of_b (by kernel_rfl), hc.mono fun e w' ⟨k1, k2⟩ => ⟨_, _, g, k1, ⟨rfl, hH⟩, ⟨#[], rfl, rfl⟩, by subst k2; exact hI, by subst k2; exact Step.refl _ _⟩⟩
theorem copyCheck_fresh (i : Nat) (b : AV) (hi : H i = some ⟨117, 2, [[.lit (.pointer none), b]]⟩) (n : Nat) : ACalls Tryz.prog G 99 [.op i 0 0] H n fun r H' n' => H' = hu H i (some ⟨117, 2, [[.op i 0 0, b]]⟩) := by
  refine ACalls.start mix F99 (by simp) fun hlow => ?_
  simp -dsimp -implicitDefEqProofs (disch := omega) only [↓wpre, push_cast, reduceCtorEq, ↓reduceIte, Nat.reduceEqDiff, Nat.reduceLeDiff, Nat.reduceAdd, Nat.reduceLT, Int.reduceEq, Int.reduceLT, Int.reduceLE, Int.reduceNeg, Int.reduceAdd, c99, hi, aupc_op hi]
  refine (noEscape_c G _ _).x fun n1 hn1 => ?_
  simp -dsimp -implicitDefEqProofs (disch := omega) only [↓wpre, push_cast, reduceCtorEq, ↓reduceIte, Nat.reduceEqDiff, Nat.reduceLeDiff, Nat.reduceAdd, Nat.reduceLT, Int.reduceEq, Int.reduceLT, Int.reduceLE, Int.reduceNeg, Int.reduceAdd, hi, aupc_op hi]
  exact fin_intro (Sub.refl _) rfl
/-- A builder's state: object i is the builder; what it holds is l, in an object of its own from n0 on. -/
def BS (n0 i : Nat) (l : List UInt8) (H : Nat → Option AObj) : Prop :=
  (l = [] ∧ ∃ a, (a = AV.lit (.pointer none) ∨ a = .op i 0 0) ∧ H i = some ⟨117, 2, [[a, .ls false []]]⟩) ∨
    (0 < l.length ∧ ∃ j, n0 ≤ j ∧ j ≠ i ∧ H i = some ⟨117, 2, [[.op i 0 0, .os j 0 l.length]]⟩ ∧ H j = some ⟨5, 1, l.map byteRow⟩)
/-- What stays: all but the builder and, from n0 on, bytes. -/
def Kp (n0 i : Nat) (H H' : Nat → Option AObj) : Prop := ∀ k o, k ≠ i → (o.E ≠ 5 ∨ k < n0) → H k = some o → H' k = some o
theorem Kp.refl (n0 i : Nat) (H : Nat → Option AObj) : Kp n0 i H H := fun _ _ _ _ h => h
theorem Kp.trans {n0 i : Nat} {A B C : Nat → Option AObj} (h : Kp n0 i A B) (k : Kp n0 i B C) : Kp n0 i A C := fun j o h1 h2 h3 => k j o h1 h2 (h j o h1 h2 h3)
theorem Kp.qt {n0 i : Nat} {H0 A B : Nat → Option AObj} (h : Kp n0 i A B) (hi : n0 ≤ i) (hq : Qt H0 A n0) : Qt H0 B n0 := ⟨fun k o hk => h k o (fun e => by have := hq.2 k o hk; omega) (.inr (hq.2 k o hk)) (hq.1 k o hk), hq.2⟩
theorem BS.new {n0 i k : Nat} {l : List UInt8} {H : Nat → Option AObj} {o : Option AObj} (h : BS n0 i l H) (hl : Low H k) : BS n0 i l (hu H k o) := by
  rcases h with ⟨h1, a, h2, h3⟩ | ⟨h1, j, h2, h3, h4, h5⟩
  · have := hl i _ h3
    exact .inl ⟨h1, a, h2, by rw [hu_ne (by omega)]; exact h3⟩
  · have := hl i _ h4
    have := hl j _ h5
    exact .inr ⟨h1, j, h2, h3, by rw [hu_ne (by omega)]; exact h4, by rw [hu_ne (by omega)]; exact h5⟩
theorem strRows_eq (s : T) : strRows s = s.data.toList.map byteRow := rfl
theorem toList_nil {s : T} (h : s.size = 0) : s.data.toList = [] := by
  have : s.data.toList.length = 0 := by rw [Array.length_toList]; exact h
  exact List.length_eq_zero_iff.1 this
theorem toList_len (s : T) : s.data.toList.length = s.size := by rw [Array.length_toList]; rfl
theorem writeString_c (n0 i n : Nat) (l : List UInt8) (s : T) (hn0 : n0 ≤ n) (hb : BS n0 i l H) (hlen : l.length + s.size ≤ 140737488355328) :
    ACalls Tryz.prog G 63 [.op i 0 0, .str s] H n fun r H' n' => BS n0 i (l ++ s.data.toList) H' ∧ Kp n0 i H H' := by
  refine ACalls.start mix F63 (by simp) fun hlow => ?_
  rcases hb with ⟨rfl, a, ha, hi⟩ | ⟨h0, j, hj1, hj2, hi, hj⟩
  · have hin := hlow i _ hi
    simp -dsimp -implicitDefEqProofs (disch := omega) only [↓wpre, push_cast, reduceCtorEq, ↓reduceIte, Nat.reduceEqDiff, Nat.reduceLeDiff, Nat.reduceAdd, Nat.reduceLT, Int.reduceEq, Int.reduceLT, Int.reduceLE, Int.reduceNeg, Int.reduceAdd, c63]
    rcases ha with rfl | rfl
    · refine (copyCheck_fresh G _ i _ hi _).le.x fun r H1 n1 ⟨h1, hn1⟩ => ?_
      subst h1
      simp -dsimp -implicitDefEqProofs (disch := omega) only [↓wpre, push_cast, reduceCtorEq, ↓reduceIte, Nat.reduceEqDiff, Nat.reduceLeDiff, Nat.reduceAdd, Nat.reduceLT, Int.reduceEq, Int.reduceLT, Int.reduceLE, Int.reduceNeg, Int.reduceAdd, hu_hu]
      rcases Nat.eq_zero_or_pos s.size with hz | hz
      · simp -dsimp -implicitDefEqProofs (disch := omega) only [↓wpre, push_cast, reduceCtorEq, ↓reduceIte, Nat.reduceEqDiff, Nat.reduceLeDiff, Nat.reduceAdd, Nat.reduceLT, Int.reduceEq, Int.reduceLT, Int.reduceLE, Int.reduceNeg, Int.reduceAdd, hu_hu, xapps_zero hz]
        exact fin_intro (Sub.refl _) ⟨.inl ⟨by simp [toList_nil hz], _, .inr rfl, hu_same⟩, fun k o h1 h2 h3 => by rw [hu_ne h1]; exact h3⟩
      · have hs : s.size ≤ 140737488355328 := by omega
        simp -dsimp -implicitDefEqProofs (disch := omega) only [↓wpre, push_cast, reduceCtorEq, ↓reduceIte, Nat.reduceEqDiff, Nat.reduceLeDiff, Nat.reduceAdd, Nat.reduceLT, Int.reduceEq, Int.reduceLT, Int.reduceLE, Int.reduceNeg, Int.reduceAdd, hu_hu, xapps_nil hs hz]
        refine fin_intro (Sub.refl _) ⟨.inr ⟨by simpa [toList_len] using hz, n1, by omega, by omega, ?_, ?_⟩, fun k o h1 h2 h3 => ?_⟩
        · rw [hu_same, List.nil_append, toList_len]
        · rw [hu_ne (by omega), hu_same, strRows_eq, List.nil_append]
        · have := hlow k o h3
          rw [hu_ne h1, hu_ne (by omega), hu_ne h1]; exact h3
    · refine (copyCheck_used G _ i _ hi).x fun n1 hn1 => ?_
      simp -dsimp -implicitDefEqProofs (disch := omega) only [↓wpre, push_cast, reduceCtorEq, ↓reduceIte, Nat.reduceEqDiff, Nat.reduceLeDiff, Nat.reduceAdd, Nat.reduceLT, Int.reduceEq, Int.reduceLT, Int.reduceLE, Int.reduceNeg, Int.reduceAdd, hi]
      rcases Nat.eq_zero_or_pos s.size with hz | hz
      · simp -dsimp -implicitDefEqProofs (disch := omega) only [↓wpre, push_cast, reduceCtorEq, ↓reduceIte, Nat.reduceEqDiff, Nat.reduceLeDiff, Nat.reduceAdd, Nat.reduceLT, Int.reduceEq, Int.reduceLT, Int.reduceLE, Int.reduceNeg, Int.reduceAdd, hi, xapps_zero hz]
        exact fin_intro (Sub.refl _) ⟨.inl ⟨by simp [toList_nil hz], _, .inr rfl, hu_same⟩, fun k o h1 h2 h3 => by rw [hu_ne h1]; exact h3⟩
      · have hs : s.size ≤ 140737488355328 := by omega
        simp -dsimp -implicitDefEqProofs (disch := omega) only [↓wpre, push_cast, reduceCtorEq, ↓reduceIte, Nat.reduceEqDiff, Nat.reduceLeDiff, Nat.reduceAdd, Nat.reduceLT, Int.reduceEq, Int.reduceLT, Int.reduceLE, Int.reduceNeg, Int.reduceAdd, hi, xapps_nil hs hz]
        refine fin_intro (Sub.refl _) ⟨.inr ⟨by simpa [toList_len] using hz, n1, by omega, by omega, ?_, ?_⟩, fun k o h1 h2 h3 => ?_⟩
        · rw [hu_same, List.nil_append, toList_len]
        · rw [hu_ne (by omega), hu_same, strRows_eq, List.nil_append]
        · have := hlow k o h3
          rw [hu_ne h1, hu_ne (by omega)]; exact h3
  · have hin := hlow i _ hi
    have hjn := hlow j _ hj
    simp -dsimp -implicitDefEqProofs (disch := omega) only [↓wpre, push_cast, reduceCtorEq, ↓reduceIte, Nat.reduceEqDiff, Nat.reduceLeDiff, Nat.reduceAdd, Nat.reduceLT, Int.reduceEq, Int.reduceLT, Int.reduceLE, Int.reduceNeg, Int.reduceAdd, c63]
    refine (copyCheck_used G _ i _ hi).x fun n1 hn1 => ?_
    simp -dsimp -implicitDefEqProofs (disch := omega) only [↓wpre, push_cast, reduceCtorEq, ↓reduceIte, Nat.reduceEqDiff, Nat.reduceLeDiff, Nat.reduceAdd, Nat.reduceLT, Int.reduceEq, Int.reduceLT, Int.reduceLE, Int.reduceNeg, Int.reduceAdd, hi]
    rw [xapps_os hj (by simp) h0 hlen]
    simp -dsimp -implicitDefEqProofs (disch := omega) only [↓wpre, push_cast, reduceCtorEq, ↓reduceIte, Nat.reduceEqDiff, Nat.reduceLeDiff, Nat.reduceAdd, Nat.reduceLT, Int.reduceEq, Int.reduceLT, Int.reduceLE, Int.reduceNeg, Int.reduceAdd, hi]
    refine fin_intro (Sub.refl _) ⟨.inr ⟨by simp only [List.length_append]; omega, n1, by omega, by omega, ?_, ?_⟩, fun k o h1 h2 h3 => ?_⟩
    · rw [hu_same, List.length_append, toList_len]
    · rw [hu_ne (by omega), hu_same, strRows_eq, List.map_append, List.take_of_length_le (by simp)]
    · have := hlow k o h3
      have hkj : k ≠ j := by
        intro e
        subst e
        rw [hj] at h3
        cases h3
        rcases h2 with h | h
        · exact h rfl
        · omega
      rw [hu_ne h1, hu_ne (by omega), hu_ne hkj]; exact h3
theorem bLen_c (n0 i : Nat) (l : List UInt8) (hb : BS n0 i l H) : AFn Tryz.prog G 66 [.op i 0 0] H (.int l.length) := by
  refine AFn.start mix F66 (by simp) fun k hlow => ?_
  rcases hb with ⟨rfl, a, ha, hi⟩ | ⟨h0, j, hj1, hj2, hi, hj⟩
  · simp -dsimp -implicitDefEqProofs (disch := omega) only [↓wpre, push_cast, reduceCtorEq, ↓reduceIte, Nat.reduceEqDiff, Nat.reduceLeDiff, Nat.reduceAdd, Nat.reduceLT, Int.reduceEq, Int.reduceLT, Int.reduceLE, Int.reduceNeg, Int.reduceAdd, c66, hi]
  · simp -dsimp -implicitDefEqProofs (disch := omega) only [↓wpre, push_cast, reduceCtorEq, ↓reduceIte, Nat.reduceEqDiff, Nat.reduceLeDiff, Nat.reduceAdd, Nat.reduceLT, Int.reduceEq, Int.reduceLT, Int.reduceLE, Int.reduceNeg, Int.reduceAdd, c66, hi]
theorem bString_c (n0 i n : Nat) (l : List UInt8) (hb : BS n0 i l H) (hlen : l.length ≤ 140737488355328) : ACalls Tryz.prog G 67 [.op i 0 0] H n fun r H' n' => r = .str ⟨l.toArray⟩ ∧ Kp n0 i H H' := by
  refine ACalls.start mix F67 (by simp) fun hlow => ?_
  rcases hb with ⟨rfl, a, ha, hi⟩ | ⟨h0, j, hj1, hj2, hi, hj⟩
  · simp -dsimp -implicitDefEqProofs (disch := omega) only [↓wpre, push_cast, reduceCtorEq, ↓reduceIte, Nat.reduceEqDiff, Nat.reduceLeDiff, Nat.reduceAdd, Nat.reduceLT, Int.reduceEq, Int.reduceLT, Int.reduceLE, Int.reduceNeg, Int.reduceAdd, c67, hi]
    refine xw_nreg noH (by rw [sub_noH]; trivial) ?_
    simp -dsimp -implicitDefEqProofs (disch := omega) only [↓wpre, push_cast, reduceCtorEq, ↓reduceIte, Nat.reduceEqDiff, Nat.reduceLeDiff, Nat.reduceAdd, Nat.reduceLT, Int.reduceEq, Int.reduceLT, Int.reduceLE, Int.reduceNeg, Int.reduceAdd, hi]
    exact fin_intro (Sub.refl _) ⟨rfl, Kp.refl _ _ _⟩
  · simp -dsimp -implicitDefEqProofs (disch := omega) only [↓wpre, push_cast, reduceCtorEq, ↓reduceIte, Nat.reduceEqDiff, Nat.reduceLeDiff, Nat.reduceAdd, Nat.reduceLT, Int.reduceEq, Int.reduceLT, Int.reduceLE, Int.reduceNeg, Int.reduceAdd, c67, hi]
    refine xw_nreg noH (by rw [sub_noH]; trivial) ?_
    simp -dsimp -implicitDefEqProofs (disch := omega) only [↓wpre, push_cast, reduceCtorEq, ↓reduceIte, Nat.reduceEqDiff, Nat.reduceLeDiff, Nat.reduceAdd, Nat.reduceLT, Int.reduceEq, Int.reduceLT, Int.reduceLE, Int.reduceNeg, Int.reduceAdd, hi, asdat_os hj h0]
    rw [xustr_op hj h0 hlen]
    simp -dsimp -implicitDefEqProofs (disch := omega) only [↓wpre, push_cast, reduceCtorEq, ↓reduceIte, Nat.reduceEqDiff, Nat.reduceLeDiff, Nat.reduceAdd, Nat.reduceLT, Int.reduceEq, Int.reduceLT, Int.reduceLE, Int.reduceNeg, Int.reduceAdd, true_and]
    refine fin_intro (Sub.refl _) ⟨rfl, fun k o h1 h2 h3 => ?_⟩
    have hkj : k ≠ j := by
      intro e
      subst e
      rw [hj] at h3
      cases h3
      rcases h2 with h | h
      · exact h rfl
      · omega
    rw [hu_ne hkj]; exact h3
end Go.Proofs.YthcedgclhoggcaaGreatDoor

