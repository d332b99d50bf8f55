/- Contracts of functions of the program: each computes what its model says; the conditions stand at each. -/
import Derived.Test.YthcedgclhoggcaaGreatDoorTw16
namespace Go.Proofs.YthcedgclhoggcaaGreatDoor
open Go Go.Ab Go.Pm Go.Cm
open Go.ChangeShapes Go.WideShapes Go.ChangeAt Go.RowKit Go.WideMaps Go.WideElems
set_option linter.unusedVariables false
theorem gPool : Tryz.prog.globalNamed "handbill/handmake.idPool" = some 0 := by kernel_rfl
theorem tPool : (Tryz.prog.globals[0]?).map (·.type) = some 93 := by kernel_rfl
theorem cells93 : Tryz.prog.cellsOf 93 = 20 := by kernel_rfl
theorem cells32 : Tryz.prog.cellsOf 32 = 2 := by kernel_rfl
theorem cells3 : Tryz.prog.cellsOf 3 = 1 := by kernel_rfl
theorem cells9 : Tryz.prog.cellsOf 9 = 1 := by kernel_rfl
abbrev laidL : List (String × DataW Unit) := [("unicode/utf8.acceptRanges", Rows.laid_unicode_utf8_acceptRanges), ("handbill/handmake.idPool", Rows.laid_handbill_handmake_idPool), ("unicode/utf8.first", Rows.laid_unicode_utf8_first)]
theorem chunks : ∀ (ps : List Idn) (L : List Value), L.length = 2 * ps.length → (∀ i x, ps[i]? = some x → (L.drop (i * 2)).take 2 = [.int .i64 x.kind, .string x.text]) → L = ps.flatMap fun x => [.int .i64 x.kind, .string x.text]
  | [], L, h, _ => by simpa using h
  | p :: ps, L, h, hh => by
    have h0 := hh 0 p rfl
    simp only [Nat.zero_mul, List.drop_zero] at h0
    have hs := chunks ps (L.drop 2) (by simp only [List.length_drop, List.length_cons] at h ⊢; omega) fun i x hi => by
      have := hh (i + 1) x (by simpa using hi)
      rwa [show (i + 1) * 2 = 2 + i * 2 from by omega, ← List.drop_drop] at this
    rw [← List.take_append_drop 2 L, h0, hs]
    rfl
set_option maxRecDepth 100000 in
theorem of_laid {W : World} (h : laidMetH Tryz.prog laidL W) : ∀ i v, poolV[i]? = some v → W.cell? ⟨0, i, none⟩ = some v := by
  rw [MakeChecks.laidMetH_plain _ _ _ (by kernel_rfl)] at h
  obtain ⟨ps, ⟨ga, ta, csa, fa, pa, qa, hga, hta, hva, hda, ⟨g1, t1, cs1, f1, p1, q1, hg1, ht1, hv1, hd1, _⟩, _⟩, _⟩ := h
  obtain rfl := Option.some.inj (gPool.symm.trans hg1)
  obtain rfl := Option.some.inj (tPool.symm.trans ht1)
  obtain ⟨xs, m1, rfl, hx1, hlen, hn3, hel⟩ := DataW.trod_array Tryz.underlying93 hd1
  rw [cells93] at hlen
  rw [cells32] at hel
  have hD : xs.map (fun x => x.fst) = pool.map fun x => DataW.agg [.lit (.int .i64 x.kind), .lit (.string x.text.data.toList)] := by
    have := (Prod.mk.inj hx1).1
    injection this with this
    exact this.symm.trans rfl
  have hcs : cs1.toList = poolV := by
    refine chunks pool _ (by rw [hlen]; rfl) fun i x hi => ?_
    have hi10 : i < 10 := by
      rcases Nat.lt_or_ge i 10 with h | h
      · exact h
      · rw [List.getElem?_eq_none (by exact h)] at hi; cases hi
    have hxi : (xs.map (fun x => x.fst))[i]? = some (DataW.agg [.lit (.int .i64 x.kind), .lit (.string x.text.data.toList)]) := by rw [hD, List.getElem?_map, hi]; rfl
    rw [List.getElem?_map] at hxi
    obtain ⟨y, hy, hy1⟩ := Option.map_eq_some_iff.1 hxi
    have he := hel i hi10
    rw [hy] at he
    obtain ⟨zs, m2, rfl, hz1, hzl, hzn, hzf⟩ := DataW.trod_struct Tryz.underlying32 he
    rw [cells32] at hzl
    have e0 := hzf 0 _ rfl
    have e1 := hzf 1 _ rfl
    have e0 : DataW.trod _ Tryz.prog W 0 _ false m2 3 ((List.drop 0 _).take (Tryz.prog.cellsOf 3)) = zs[0]? := e0
    have e1 : DataW.trod _ Tryz.prog W 0 _ false m2 9 ((List.drop 1 _).take (Tryz.prog.cellsOf 9)) = zs[1]? := e1
    rw [cells3] at e0
    rw [cells9] at e1
    have hzn2 : zs.length = 2 := hzn
    match zs, hzn2, hz1, e0, e1 with
    | [u0, u1], _, hz1, e0, e1 =>
      obtain ⟨k, q0, q1', _⟩ := DataW.trod_int Tryz.underlying3 (show DataW.trod _ Tryz.prog W 0 _ false m2 3 _ = some u0 from e0)
      obtain ⟨s, r0, r1', _⟩ := DataW.trod_string Tryz.underlying9 (show DataW.trod _ Tryz.prog W 0 _ false m2 9 _ = some u1 from e1)
      rw [hz1, q1', r1'] at hy1
      simp only [List.map_cons, List.map_nil, DataW.agg.injEq, List.cons.injEq, DataW.lit.injEq, Lit.int.injEq, Lit.string.injEq, true_and, and_true] at hy1
      obtain ⟨hk, hs⟩ := hy1
      have hsx : s = x.text := by
        obtain ⟨⟨sl⟩⟩ := s
        obtain ⟨kx, ⟨⟨tl⟩⟩⟩ := x
        have hs : sl = tl := hs
        rw [hs]
      subst hk hsx
      generalize List.take 2 (List.drop (i * 2) cs1.toList) = L2 at q0 r0 hzl
      match L2, hzl, q0, r0 with
      | [a, b], _, q0, r0 =>
        simp only [List.drop_zero, List.take_succ_cons, List.take_zero, List.cons.injEq, and_true, List.drop_succ_cons] at q0 r0
        rw [q0, r0]
  intro i v hi
  have := World.var?_cell hg1 hv1 i
  rw [this, ← Array.getElem?_toList, hcs]
  exact hi
end Go.Proofs.YthcedgclhoggcaaGreatDoor
