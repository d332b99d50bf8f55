/- Contracts of functions of the program: each computes what its model says; the conditions stand at each. -/
import Derived.Test.YthcedgclhoggcaaGreatDoorA5
import Derived.Test.YthcedgclhoggcaaGreatDoorTw11
import Derived.Test.YthcedgclhoggcaaGreatDoorCl9
set_option linter.unusedSimpArgs false
set_option linter.unusedVariables false
set_option maxRecDepth 20000
set_option pp.deepTerms false
set_option pp.deepTerms.threshold 3
namespace Go.Proofs.YthcedgclhoggcaaGreatDoor
open Go Go.Ab Go.Pm Go.Cm
variable (G : Nat → AV) (H : Nat → Option AObj)
abbrev names3 : List T := [⟨#[98, 105, 108, 108]⟩, ⟨#[110, 101, 119, 115]⟩, ⟨#[115, 97, 108, 101]⟩]
abbrev regs2 : List T := [⟨#[101, 117]⟩, ⟨#[117, 115]⟩]
theorem plain_terms (ts : List Term) : ∀ r ∈ ts.map Term.c, plain r = true := by
  intro r hr
  obtain ⟨s, _, rfl⟩ := List.mem_map.1 hr
  rfl
theorem purposes_frz {D : Nat → Option AObj} {k : Nat} (ps : List Purpose) : (ps.map Purpose.c).map (List.map (frz D (k + 1))) = ps.map Purpose.c := by
  rw [List.map_map]
  refine List.map_congr_left fun p _ => ?_
  show [frz D (k + 1) (.str p.name), frz D (k + 1) (.ls p.nz _)] = _
  rw [frz_lit, frz_ls_plain (plain_terms _)]
set_option maxHeartbeats 1600000 in
theorem rightPolicy_run (nz : Bool) (l : List Int) (a : Int) (i : Nat) (hi : H i = some (strm (LL nz l) a)) (ha : 0 ≤ a ∧ a ≤ 1099511625000) (n : Nat) : ACalls Tryz.prog G 9 [.op i 0 0] H n fun r H' n' => ∃ a' ps, a ≤ a' ∧ a' ≤ a + 120 ∧ (PolP ps 3 ∧ ps ≠ []) ∧ Sub (hu H i (some (strm (LL nz l) a'))) H' ∧ ((r = .ls true (ps.map Purpose.c)) ∨ ∃ o, r = .os o 0 ps.length ∧ H' o = some ⟨79, 2, ps.map Purpose.c⟩ ∧ n ≤ o ∧ ps ≠ []) := by
  refine ACalls.start mix F9 (by simp) fun hlow => ?_
  have hq := Qs.refl hi hlow
  have hin := hq.2.2
  simp -dsimp -implicitDefEqProofs (disch := omega) only [↓wpre, push_cast, reduceCtorEq, ↓reduceIte, Nat.reduceEqDiff, Nat.reduceLeDiff, Nat.reduceAdd, Nat.reduceLT, Int.reduceEq, Int.reduceLT, Int.reduceLE, Int.reduceNeg, Int.reduceAdd, c9]
  refine xw_loopJ (σ := Nat × List Purpose × Option Nat × Int) (fun t => [(0, .op i 0 0), (3, outAV t.2.2.1 t.2.1.length), (11, LS true names3), (12, .int 3), (13, .int t.1)]) (fun t H' n' => PolP t.2.1 t.1 ∧ t.2.1.length ≤ t.1 ∧ t.1 ≤ 3 ∧ OutIs n H' t.2.2.1 79 2 (t.2.1.map Purpose.c) n' ∧ Qs H H' i n ∧ H' i = some (strm (LL nz l) t.2.2.2) ∧ n ≤ n' ∧ a ≤ t.2.2.2 ∧ t.2.2.2 ≤ a + 40 * t.1 ∧ (t.2.2.1 ≠ none → t.2.1 ≠ [])) (fun t => 3 - t.1) (0, [], none, a) ⟨PolP.nil, Nat.le_refl _, by simp, rfl, hq, hi, Nat.le_refl _, by simp, by simp, fun h => (h rfl).elim⟩ (by simp -dsimp -implicitDefEqProofs (disch := omega) only [↓wpre, push_cast, reduceCtorEq, ↓reduceIte, Nat.reduceEqDiff, Nat.reduceLeDiff, Nat.reduceAdd, Nat.reduceLT, Int.reduceEq, Int.reduceLT, Int.reduceLE, Int.reduceNeg, Int.reduceAdd, outAV]; rfl) ?_
  clear hq
  rintro ⟨k, ps, oid, a1⟩ fr H' n1 ⟨hps, hpk, hk3, ho, hq, hs, hn1, ha1, ha2, hne⟩ hh
  simp only [has_nil, has_cons, and_true] at hh hne hps hpk hk3 ho hs ha1 ha2
  by_cases hk : (k : Int) < 3
  · have hkl : k < names3.length := by simp only [names3, List.length_cons, List.length_nil]; omega
    have hx := List.getElem?_eq_getElem hkl
    have hnm : (names3[k] = nBill ∨ names3[k] = nNews ∨ names3[k] = nSale) ∧ rankN names3[k] = k := by
      have : k = 0 ∨ k = 1 ∨ k = 2 := by omega
      rcases this with rfl | rfl | rfl
      · exact ⟨.inl rfl, by show rankN nBill = 0; decide +kernel⟩
      · exact ⟨.inr (.inl rfl), by show rankN nNews = 1; decide +kernel⟩
      · exact ⟨.inr (.inr rfl), by show rankN nSale = 2; decide +kernel⟩
    generalize names3[k] = nm at hx hnm
    simp -dsimp -implicitDefEqProofs (disch := omega) only [↓wpre, push_cast, reduceCtorEq, ↓reduceIte, Nat.reduceEqDiff, Nat.reduceLeDiff, Nat.reduceAdd, Nat.reduceLT, Int.reduceEq, Int.reduceLT, Int.reduceLE, Int.reduceNeg, Int.reduceAdd, hh, hk, even_txts, aidx_at _ hx]
    refine (flip_c G _ nz l a1 4 i hs ⟨by omega, by omega⟩ (by omega)).x fun r a2 n2 hn2 k1 k2 k3 => ?_
    obtain ⟨b, rfl⟩ := k3
    cases b with
    | true =>
      simp -dsimp -implicitDefEqProofs (disch := omega) only [↓wpre, push_cast, reduceCtorEq, ↓reduceIte, Nat.reduceEqDiff, Nat.reduceLeDiff, Nat.reduceAdd, Nat.reduceLT, Int.reduceEq, Int.reduceLT, Int.reduceLE, Int.reduceNeg, Int.reduceAdd, hh]
      refine againJ (k + 1, ps, oid, a2) (by dsimp only; omega) ⟨hps.mono (by dsimp only; omega), by dsimp only; omega, by dsimp only; omega, ho.put hin |>.mono (by omega), hq.put, hu_same, by omega, by dsimp only; omega, by dsimp only; omega, hne⟩ (by simp -dsimp -implicitDefEqProofs (disch := omega) only [↓wpre, push_cast, reduceCtorEq, ↓reduceIte, Nat.reduceEqDiff, Nat.reduceLeDiff, Nat.reduceAdd, Nat.reduceLT, Int.reduceEq, Int.reduceLT, Int.reduceLE, Int.reduceNeg, Int.reduceAdd, hh])
    | false =>
      simp -dsimp -implicitDefEqProofs (disch := omega) only [↓wpre, push_cast, reduceCtorEq, ↓reduceIte, Nat.reduceEqDiff, Nat.reduceLeDiff, Nat.reduceAdd, Nat.reduceLT, Int.reduceEq, Int.reduceLT, Int.reduceLE, Int.reduceNeg, Int.reduceAdd, hh]
      refine xw_loopJ (σ := Nat × Option Nat × List Term × Int) (fun t => [(0, .op i 0 0), (3, outAV oid ps.length), (6, .op n2 0 0), (11, LS true names3), (12, .int 3), (13, .int k), (21, LS true regs2), (22, .int 2), (23, .int t.1)]) (fun t H' n' => H' n2 = some ⟨79, 2, [[.str nm, outAV t.2.1 t.2.2.1.length]]⟩ ∧ OutIs (n2 + 1) H' t.2.1 81 5 (t.2.2.1.map Term.c) n' ∧ PolT t.2.2.1 (4 * t.1) ∧ OutIs n H' oid 79 2 (ps.map Purpose.c) n2 ∧ Qs H H' i n ∧ H' i = some (strm (LL nz l) t.2.2.2) ∧ n2 < n' ∧ t.2.2.1.length ≤ 4 * t.1 ∧ t.1 ≤ 2 ∧ a2 ≤ t.2.2.2 ∧ t.2.2.2 ≤ a2 + 16 * t.1) (fun t => 2 - t.1) (0, none, [], a2) ⟨by simp -dsimp -implicitDefEqProofs (disch := omega) only [↓wpre, push_cast, reduceCtorEq, ↓reduceIte, Nat.reduceEqDiff, Nat.reduceLeDiff, Nat.reduceAdd, Nat.reduceLT, Int.reduceEq, Int.reduceLT, Int.reduceLE, Int.reduceNeg, Int.reduceAdd, outAV], rfl, PolT.nil, ((ho.put hin).mono (by omega)).far (Nat.le_refl _) |>.far (Nat.le_refl _), (hq.put.new (by omega)).new (by omega), by simp -dsimp -implicitDefEqProofs (disch := omega) only [↓wpre, push_cast, reduceCtorEq, ↓reduceIte, Nat.reduceEqDiff, Nat.reduceLeDiff, Nat.reduceAdd, Nat.reduceLT, Int.reduceEq, Int.reduceLT, Int.reduceLE, Int.reduceNeg, Int.reduceAdd], Nat.lt_succ_self _, by simp, by simp, by simp, by simp⟩ (by simp -dsimp -implicitDefEqProofs (disch := omega) only [↓wpre, push_cast, reduceCtorEq, ↓reduceIte, Nat.reduceEqDiff, Nat.reduceLeDiff, Nat.reduceAdd, Nat.reduceLT, Int.reduceEq, Int.reduceLT, Int.reduceLE, Int.reduceNeg, Int.reduceAdd, hh]; rfl) ?_
      clear hq ho hs hh fr
      rintro ⟨j, cur, ts, a3⟩ fr H2 n3 ⟨hc6, hcu, hts, ho, hq, hs, hn3, htl, hj2, ha3, ha4⟩ hh
      simp only [has_nil, has_cons, and_true] at hh hc6 hcu hts ho hs htl hj2 ha3 ha4
      by_cases hj : (j : Int) < 2
      · have hjl : j < regs2.length := by simp only [regs2, List.length_cons, List.length_nil]; omega
        have hx := List.getElem?_eq_getElem hjl
        have hrg : (regs2[j] = regEu ∨ regs2[j] = regUs) ∧ (if regs2[j] = regUs then 4 else 0) = 4 * j := by
          have : j = 0 ∨ j = 1 := by omega
          rcases this with rfl | rfl
          · exact ⟨.inl rfl, by show (if regEu = regUs then 4 else 0) = 4 * 0; decide +kernel⟩
          · exact ⟨.inr rfl, by show (if regUs = regUs then 4 else 0) = 4 * 1; decide +kernel⟩
        generalize regs2[j] = rg at hx hrg
        simp -dsimp -implicitDefEqProofs (disch := omega) only [↓wpre, push_cast, reduceCtorEq, ↓reduceIte, Nat.reduceEqDiff, Nat.reduceLeDiff, Nat.reduceAdd, Nat.reduceLT, Int.reduceEq, Int.reduceLT, Int.reduceLE, Int.reduceNeg, Int.reduceAdd, hh, hj, even_txts, aidx_at _ hx]
        refine xw_loopJ (σ := Nat × Option Nat × List Term × Int) (fun t => [(0, .op i 0 0), (3, outAV oid ps.length), (6, .op n2 0 0), (8, .str rg), (9, .int ((t.1 : Int) + 1)), (11, LS true names3), (12, .int 3), (13, .int k), (21, LS true regs2), (22, .int 2), (23, .int j)]) (fun t H' n' => H' n2 = some ⟨79, 2, [[.str nm, outAV t.2.1 t.2.2.1.length]]⟩ ∧ OutIs (n2 + 1) H' t.2.1 81 5 (t.2.2.1.map Term.c) n' ∧ PolT t.2.2.1 (4 * j + t.1) ∧ OutIs n H' oid 79 2 (ps.map Purpose.c) n2 ∧ Qs H H' i n ∧ H' i = some (strm (LL nz l) t.2.2.2) ∧ n2 < n' ∧ t.2.2.1.length ≤ 4 * j + t.1 ∧ t.1 ≤ 4 ∧ a3 ≤ t.2.2.2 ∧ t.2.2.2 ≤ a3 + 4 * t.1) (fun t => 4 - t.1) (0, cur, ts, a3) ⟨hc6, hcu, hts, ho, hq, hs, hn3, by dsimp only; omega, by dsimp only; omega, by simp, by simp⟩ (by simp -dsimp -implicitDefEqProofs (disch := omega) only [↓wpre, push_cast, reduceCtorEq, ↓reduceIte, Nat.reduceEqDiff, Nat.reduceLeDiff, Nat.reduceAdd, Nat.reduceLT, Int.reduceEq, Int.reduceLT, Int.reduceLE, Int.reduceNeg, Int.reduceAdd, hh]) ?_
        clear hc6 hcu hts hq hs hn3 htl hh fr ho
        rintro ⟨c, cur, ts, a4⟩ fr H3 n4 ⟨hc6, hcu, hts, ho, hq, hs, hn4, htl, hc4, ha5, ha6⟩ hh
        simp only [has_nil, has_cons, and_true] at hh hc6 hcu hts ho hs htl hc4 ha5 ha6
        by_cases hcl : (c : Int) + 1 ≤ 4
        · simp -dsimp -implicitDefEqProofs (disch := omega) only [↓wpre, push_cast, reduceCtorEq, ↓reduceIte, Nat.reduceEqDiff, Nat.reduceLeDiff, Nat.reduceAdd, Nat.reduceLT, Int.reduceEq, Int.reduceLT, Int.reduceLE, Int.reduceNeg, Int.reduceAdd, hh, hcl]
          refine (flip_c G _ nz l a4 3 i hs ⟨by omega, by omega⟩ (by omega)).x fun r a5 n5 hn5 k5 k6 k => ?_
          obtain ⟨b, rfl⟩ := k
          cases b with
          | true =>
            simp -dsimp -implicitDefEqProofs (disch := omega) only [↓wpre, push_cast, reduceCtorEq, ↓reduceIte, Nat.reduceEqDiff, Nat.reduceLeDiff, Nat.reduceAdd, Nat.reduceLT, Int.reduceEq, Int.reduceLT, Int.reduceLE, Int.reduceNeg, Int.reduceAdd, hh]
            refine againJ (c + 1, cur, ts, a5) (by dsimp only; omega) ⟨by simp -dsimp -implicitDefEqProofs (disch := omega) only [↓wpre, push_cast, reduceCtorEq, ↓reduceIte, Nat.reduceEqDiff, Nat.reduceLeDiff, Nat.reduceAdd, Nat.reduceLT, Int.reduceEq, Int.reduceLT, Int.reduceLE, Int.reduceNeg, Int.reduceAdd, hc6], (hcu.put (by omega)).mono (by omega), hts.mono (by dsimp only; omega), ho.put hin, hq.put, hu_same, by omega, by dsimp only; omega, by dsimp only; omega, by dsimp only; omega, by dsimp only; omega⟩ (by simp -dsimp -implicitDefEqProofs (disch := omega) only [↓wpre, push_cast, reduceCtorEq, ↓reduceIte, Nat.reduceEqDiff, Nat.reduceLeDiff, Nat.reduceAdd, Nat.reduceLT, Int.reduceEq, Int.reduceLT, Int.reduceLE, Int.reduceNeg, Int.reduceAdd, hh])
          | false =>
            simp -dsimp -implicitDefEqProofs (disch := omega) only [↓wpre, push_cast, reduceCtorEq, ↓reduceIte, Nat.reduceEqDiff, Nat.reduceLeDiff, Nat.reduceAdd, Nat.reduceLT, Int.reduceEq, Int.reduceLT, Int.reduceLE, Int.reduceNeg, Int.reduceAdd, hh]
            refine (flip_c G _ nz l a5 4 i hu_same ⟨by omega, by omega⟩ (by omega)).x fun r a6 n6 hn6 k7 k8 k => ?_
            obtain ⟨fre, rfl⟩ := k
            cases fre with
            | true =>
              simp -dsimp -implicitDefEqProofs (disch := omega) only [↓wpre, push_cast, reduceCtorEq, ↓reduceIte, Nat.reduceEqDiff, Nat.reduceLeDiff, Nat.reduceAdd, Nat.reduceLT, Int.reduceEq, Int.reduceLT, Int.reduceLE, Int.reduceNeg, Int.reduceAdd, hh, hu_hu, hc6]
              refine xapp_outK (n0 := n2 + 1) (rows := ts.map Term.c) (by (refine OutIs.mono (n := n4) ?_ (by omega); repeat (first | exact hcu | refine OutIs.put ?_ (by omega) | refine OutIs.far ?_ (by omega)))) (by simp) (by intro r hr; simp at hr; subst hr; exact ⟨rfl, rfl⟩) (by simp only [List.length_map]; omega) (by omega) fun HN hN hlo hqs => ?_
              have hc6N : HN n2 = some ⟨79, 2, [[.str nm, outAV cur ts.length]]⟩ := by rw [hlo _ (by omega)]; simp -dsimp -implicitDefEqProofs (disch := omega) only [↓wpre, push_cast, reduceCtorEq, ↓reduceIte, Nat.reduceEqDiff, Nat.reduceLeDiff, Nat.reduceAdd, Nat.reduceLT, Int.reduceEq, Int.reduceLT, Int.reduceLE, Int.reduceNeg, Int.reduceAdd, hc6]
              simp -dsimp -implicitDefEqProofs (disch := omega) only [↓wpre, push_cast, reduceCtorEq, ↓reduceIte, Nat.reduceEqDiff, Nat.reduceLeDiff, Nat.reduceAdd, Nat.reduceLT, Int.reduceEq, Int.reduceLT, Int.reduceLE, Int.reduceNeg, Int.reduceAdd, hh, hc6N]
              refine againJ (c + 1, some (n6 + 1), ts ++ [⟨rg, (c : Int) + 1, true, 0, 0⟩], a6) (by dsimp only; omega) ⟨by rw [hu_same]; simp, ⟨by rw [hu_ne (by omega), List.map_append]; exact hN, by omega, by omega⟩, ?_, ((OutIs.low (by (repeat (first | exact ho | refine OutIs.put ?_ (by omega) | refine OutIs.far ?_ (by omega)))) (Nat.le_succ _) hlo).far (Nat.le_refl _)), (hqs _ _ _ (by omega) (by (repeat (first | exact hq | refine Qs.put ?_ | refine Qs.new ?_ (by omega))))).new (by omega), ?_, by omega, by simp only [List.length_append, List.length_cons, List.length_nil]; omega, by dsimp only; omega, by dsimp only; omega, by dsimp only; omega⟩ (by simp -dsimp -implicitDefEqProofs (disch := omega) only [↓wpre, push_cast, reduceCtorEq, ↓reduceIte, Nat.reduceEqDiff, Nat.reduceLeDiff, Nat.reduceAdd, Nat.reduceLT, Int.reduceEq, Int.reduceLT, Int.reduceLE, Int.reduceNeg, Int.reduceAdd, hh])
              · exact hts.add ⟨hrg.1, by dsimp only; omega, by dsimp only; omega, by dsimp only; omega, fun _ => ⟨rfl, rfl⟩⟩ (by simp only [rankT, hrg.2]; omega)
              · rw [hu_ne (by omega), hlo _ (by omega)]
                simp -dsimp -implicitDefEqProofs (disch := omega) only [↓wpre, push_cast, reduceCtorEq, ↓reduceIte, Nat.reduceEqDiff, Nat.reduceLeDiff, Nat.reduceAdd, Nat.reduceLT, Int.reduceEq, Int.reduceLT, Int.reduceLE, Int.reduceNeg, Int.reduceAdd, hin]
            | false =>
              simp -dsimp -implicitDefEqProofs (disch := omega) only [↓wpre, push_cast, reduceCtorEq, ↓reduceIte, Nat.reduceEqDiff, Nat.reduceLeDiff, Nat.reduceAdd, Nat.reduceLT, Int.reduceEq, Int.reduceLT, Int.reduceLE, Int.reduceNeg, Int.reduceAdd, hh, hu_hu, hc6]
              refine (pick_c G _ nz true l a6 i (by simp -dsimp -implicitDefEqProofs (disch := omega) only [↓wpre, push_cast, reduceCtorEq, ↓reduceIte, Nat.reduceEqDiff, Nat.reduceLeDiff, Nat.reduceAdd, Nat.reduceLT, Int.reduceEq, Int.reduceLT, Int.reduceLE, Int.reduceNeg, Int.reduceAdd, hin]) ⟨by omega, by omega⟩ [0, 0, 1, 2, 100] (by simp) (by simp)).x fun r a7 n7 hn7 k9 k10 k => ?_
              obtain ⟨dd, rfl, hdd⟩ := k
              simp -dsimp -implicitDefEqProofs (disch := omega) only [↓wpre, push_cast, reduceCtorEq, ↓reduceIte, Nat.reduceEqDiff, Nat.reduceLeDiff, Nat.reduceAdd, Nat.reduceLT, Int.reduceEq, Int.reduceLT, Int.reduceLE, Int.reduceNeg, Int.reduceAdd, hh, hu_hu, hc6]
              refine (pick_c G _ nz true l a7 i (by simp -dsimp -implicitDefEqProofs (disch := omega) only [↓wpre, push_cast, reduceCtorEq, ↓reduceIte, Nat.reduceEqDiff, Nat.reduceLeDiff, Nat.reduceAdd, Nat.reduceLT, Int.reduceEq, Int.reduceLT, Int.reduceLE, Int.reduceNeg, Int.reduceAdd, hin]) ⟨by omega, by omega⟩ [0, 0, 30, 100] (by simp) (by simp)).x fun r a8 n8 hn8 k11 k12 k => ?_
              obtain ⟨ww, rfl, hww⟩ := k
              simp -dsimp -implicitDefEqProofs (disch := omega) only [↓wpre, push_cast, reduceCtorEq, ↓reduceIte, Nat.reduceEqDiff, Nat.reduceLeDiff, Nat.reduceAdd, Nat.reduceLT, Int.reduceEq, Int.reduceLT, Int.reduceLE, Int.reduceNeg, Int.reduceAdd, hh, hu_hu, hc6]
              refine xapp_outK (n0 := n2 + 1) (rows := ts.map Term.c) (by (refine OutIs.mono (n := n4) ?_ (by omega); repeat (first | exact hcu | refine OutIs.put ?_ (by omega) | refine OutIs.far ?_ (by omega)))) (by simp) (by intro r hr; simp at hr; subst hr; exact ⟨rfl, rfl⟩) (by simp only [List.length_map]; omega) (by omega) fun HN hN hlo hqs => ?_
              have hc6N : HN n2 = some ⟨79, 2, [[.str nm, outAV cur ts.length]]⟩ := by rw [hlo _ (by omega)]; simp -dsimp -implicitDefEqProofs (disch := omega) only [↓wpre, push_cast, reduceCtorEq, ↓reduceIte, Nat.reduceEqDiff, Nat.reduceLeDiff, Nat.reduceAdd, Nat.reduceLT, Int.reduceEq, Int.reduceLT, Int.reduceLE, Int.reduceNeg, Int.reduceAdd, hc6]
              simp -dsimp -implicitDefEqProofs (disch := omega) only [↓wpre, push_cast, reduceCtorEq, ↓reduceIte, Nat.reduceEqDiff, Nat.reduceLeDiff, Nat.reduceAdd, Nat.reduceLT, Int.reduceEq, Int.reduceLT, Int.reduceLE, Int.reduceNeg, Int.reduceAdd, hh, hc6N]
              refine againJ (c + 1, some n8, ts ++ [⟨rg, (c : Int) + 1, false, dd, ww⟩], a8) (by dsimp only; omega) ⟨by rw [hu_same]; simp, ⟨by rw [hu_ne (by omega), List.map_append]; exact hN, by omega, by omega⟩, ?_, ((OutIs.low (by (repeat (first | exact ho | refine OutIs.put ?_ (by omega) | refine OutIs.far ?_ (by omega)))) (Nat.le_succ _) hlo).far (Nat.le_refl _)), (hqs _ _ _ (by omega) (by (repeat (first | exact hq | refine Qs.put ?_ | refine Qs.new ?_ (by omega))))).new (by omega), ?_, by omega, by simp only [List.length_append, List.length_cons, List.length_nil]; omega, by dsimp only; omega, by dsimp only; omega, by dsimp only; omega⟩ (by simp -dsimp -implicitDefEqProofs (disch := omega) only [↓wpre, push_cast, reduceCtorEq, ↓reduceIte, Nat.reduceEqDiff, Nat.reduceLeDiff, Nat.reduceAdd, Nat.reduceLT, Int.reduceEq, Int.reduceLT, Int.reduceLE, Int.reduceNeg, Int.reduceAdd, hh])
              · simp only [List.mem_cons, List.not_mem_nil, or_false] at hdd hww
                exact hts.add ⟨hrg.1, by dsimp only; omega, by dsimp only; omega, by dsimp only; omega, fun h => by cases h⟩ (by simp only [rankT, hrg.2]; omega)
              · rw [hu_ne (by omega), hlo _ (by omega)]
                simp -dsimp -implicitDefEqProofs (disch := omega) only [↓wpre, push_cast, reduceCtorEq, ↓reduceIte, Nat.reduceEqDiff, Nat.reduceLeDiff, Nat.reduceAdd, Nat.reduceLT, Int.reduceEq, Int.reduceLT, Int.reduceLE, Int.reduceNeg, Int.reduceAdd, hin]
        · simp -dsimp -implicitDefEqProofs (disch := omega) only [↓wpre, push_cast, reduceCtorEq, ↓reduceIte, Nat.reduceEqDiff, Nat.reduceLeDiff, Nat.reduceAdd, Nat.reduceLT, Int.reduceEq, Int.reduceLT, Int.reduceLE, Int.reduceNeg, Int.reduceAdd, hh, hcl]
          refine againJ (j + 1, cur, ts, a4) (by dsimp only; omega) ⟨hc6, hcu, hts.mono (by dsimp only; omega), ho, hq, hs, hn4, by dsimp only; omega, by dsimp only; omega, by dsimp only; omega, by dsimp only; omega⟩ (by simp -dsimp -implicitDefEqProofs (disch := omega) only [↓wpre, push_cast, reduceCtorEq, ↓reduceIte, Nat.reduceEqDiff, Nat.reduceLeDiff, Nat.reduceAdd, Nat.reduceLT, Int.reduceEq, Int.reduceLT, Int.reduceLE, Int.reduceNeg, Int.reduceAdd, hh])
      · simp -dsimp -implicitDefEqProofs (disch := omega) only [↓wpre, push_cast, reduceCtorEq, ↓reduceIte, Nat.reduceEqDiff, Nat.reduceLeDiff, Nat.reduceAdd, Nat.reduceLT, Int.reduceEq, Int.reduceLT, Int.reduceLE, Int.reduceNeg, Int.reduceAdd, hh, hj, hc6]
        have hj2' : j = 2 := by omega
        subst hj2'
        refine xapp_out (n0 := n) (rows := ps.map Purpose.c) (ho.mono (by omega)) (by simp) (by intro r hr; simp at hr; subst hr; exact ⟨rfl, by simp [one_str, outAV_one]⟩) (by simp only [List.length_map]; omega) ?_
        simp -dsimp -implicitDefEqProofs (disch := omega) only [↓wpre, push_cast, reduceCtorEq, ↓reduceIte, Nat.reduceEqDiff, Nat.reduceLeDiff, Nat.reduceAdd, Nat.reduceLT, Int.reduceEq, Int.reduceLT, Int.reduceLE, Int.reduceNeg, Int.reduceAdd, hh]
        have hqd := Qs.dropO ho (Nat.le_refl _) hq
        have hsd : dropO H2 oid i = some (strm (LL nz l) a3) := by rw [dropO_ne ho hin]; exact hs
        have hmem : ∀ nzc, PolP (ps ++ [⟨nm, nzc, ts⟩]) (k + 1) := fun nzc => hps.add ⟨hnm.1, hts⟩ hnm.2
        cases cur with
        | none =>
          have ht0 : ts = [] := by
            have : ts.map Term.c = [] := hcu
            simpa using this
          refine againJ (k + 1, ps ++ [⟨nm, false, ts⟩], some n3, a3) (by dsimp only; omega) ⟨hmem _, by simp only [List.length_append, List.length_cons, List.length_nil]; omega, by dsimp only; omega, ⟨?_, by omega, by omega⟩, hqd.new (by omega), by rw [hu_ne (by omega)]; exact hsd, by omega, by dsimp only; omega, by dsimp only; omega, fun _ => by simp⟩ (by simp -dsimp -implicitDefEqProofs (disch := omega) only [↓wpre, push_cast, reduceCtorEq, ↓reduceIte, Nat.reduceEqDiff, Nat.reduceLeDiff, Nat.reduceAdd, Nat.reduceLT, Int.reduceEq, Int.reduceLT, Int.reduceLE, Int.reduceNeg, Int.reduceAdd, hh]; try simp [outAV])
          rw [hu_same, List.map_append, ht0]
          rfl
        | some t =>
          obtain ⟨hc1, hc2, hc3⟩ := hcu
          have hdt : dropO H2 oid t = some ⟨81, 5, ts.map Term.c⟩ := by rw [dropO_hi ho (by omega)]; exact hc1
          refine againZ (σ := Nat × List Purpose × Option Nat × Int) (only t ⟨81, 5, ts.map Term.c⟩) 3 (k + 1, ps ++ [(⟨nm, true, ts⟩ : Purpose)], some n3, a3) (hu (hu (dropO H2 oid) t none) n3 (some ⟨79, 2, (ps ++ [(⟨nm, true, ts⟩ : Purpose)]).map Purpose.c⟩)) (by dsimp only; omega) (only_sub (by rw [hu_ne (by omega)]; exact hdt)) ?_ ?_ ?_ (by simp -dsimp -implicitDefEqProofs (disch := omega) only [↓wpre, push_cast, reduceCtorEq, ↓reduceIte, Nat.reduceEqDiff, Nat.reduceLeDiff, Nat.reduceAdd, Nat.reduceLT, Int.reduceEq, Int.reduceLT, Int.reduceLE, Int.reduceNeg, Int.reduceAdd, hh]; try simp [outAV])
          · intro j o hj
            unfold only at hj
            split at hj
            · rename_i e; subst e; rw [hu_ne (by omega), hu_same]
            · cases hj
          · intro j o' hj
            by_cases h : j = n3
            · subst h
              rw [hu_same] at hj
              cases hj
              refine ⟨_, hu_same, rfl, rfl, .inr ?_⟩
              rw [List.map_append, List.map_append, purposes_frz]
              show _ = _ ++ [[frz _ 3 (.str nm), frz _ 3 (.os t 0 ts.length)]]
              rw [frz_lit, frz_os_plain (plain_terms ts) (by simp)]
              rfl
            · rw [hu_ne h] at hj
              refine ⟨o', ?_, rfl, rfl, .inl rfl⟩
              rw [hu_ne h]
              by_cases h2 : j = t
              · subst h2; rw [hu_same] at hj; cases hj
              · rwa [hu_ne h2] at hj
          · exact ⟨hmem _, by simp only [List.length_append, List.length_cons, List.length_nil]; omega, by dsimp only; omega, ⟨hu_same, by omega, by omega⟩, (hqd.new (by omega)).new (by omega), by rw [hu_ne (by omega), hu_ne (by omega)]; exact hsd, by omega, by dsimp only; omega, by dsimp only; omega, fun _ => by simp⟩
  · cases oid with
    | none =>
      have hp0 : ps = [] := by
        have : ps.map Purpose.c = [] := ho
        simpa using this
      simp -dsimp -implicitDefEqProofs (disch := omega) only [↓wpre, push_cast, reduceCtorEq, ↓reduceIte, Nat.reduceEqDiff, Nat.reduceLeDiff, Nat.reduceAdd, Nat.reduceLT, Int.reduceEq, Int.reduceLT, Int.reduceLE, Int.reduceNeg, Int.reduceAdd, hh, hk, outAV]
      exact fin_intro (Sub.refl _) ⟨a1, [⟨⟨#[110, 101, 119, 115]⟩, true, [⟨⟨#[101, 117]⟩, 1, false, 0, 0⟩]⟩], by omega, by omega, ⟨polP_news, by simp⟩, Qs.sub hq hs, .inl rfl⟩
    | some o =>
      have hp0 := hne (by simp)
      have hpl := List.length_pos_iff.2 hp0
      have h0 : ¬ (ps.length : Int) = 0 := by omega
      simp -dsimp -implicitDefEqProofs (disch := omega) only [↓wpre, push_cast, reduceCtorEq, ↓reduceIte, Nat.reduceEqDiff, Nat.reduceLeDiff, Nat.reduceAdd, Nat.reduceLT, Int.reduceEq, Int.reduceLT, Int.reduceLE, Int.reduceNeg, Int.reduceAdd, hh, hk, outAV, h0]
      exact fin_intro (Sub.refl _) ⟨a1, ps, by omega, by omega, ⟨hps.mono (by omega), hp0⟩, Qs.sub hq hs, .inr ⟨o, rfl, ho.1, ho.2.1, hp0⟩⟩
end Go.Proofs.YthcedgclhoggcaaGreatDoor

