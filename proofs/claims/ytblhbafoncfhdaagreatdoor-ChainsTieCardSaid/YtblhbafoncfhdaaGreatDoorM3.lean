/- Contracts of functions of the program: each computes what its model says; the conditions stand at each. -/
import Derived.Test.YtblhbafoncfhdaaGreatDoorTc3
import Derived.Test.YtblhbafoncfhdaaGreatDoorMk3
set_option linter.unusedSimpArgs false
set_option linter.unusedVariables false
set_option maxRecDepth 20000
namespace Go.Proofs.YtblhbafoncfhdaaGreatDoor
open Go Go.Ab Go.Pm Go.Cm Go.El Go.Rm Go.Pp Go.Uf
variable (G : Nat → AV) (H : Nat → Option AObj)
set_option maxHeartbeats 6400000 in
theorem rightTouches_run (hU : GU G) (hP : G 1 = .pp poolC) (nz : Bool) (l : List Int) (a many : Int) (i : Nat) (hi : H i = some (strm (LL nz l) a)) (ha : 0 ≤ a ∧ a ≤ 1099511620000) (hm : 1 ≤ many ∧ many ≤ 10) (n : Nat) : ACalls Tryz.prog G 20 [.op i 0 0, .int many] H n fun r H' n' => ∃ a' d, a ≤ a' ∧ a' ≤ a + 1300 ∧ TouchesOk d ∧ d.length ≤ 10 ∧ Ab.Sub (hu H i (some (strm (LL nz l) a'))) H' ∧ ((d = [] ∧ r = .ls false []) ∨ ∃ o, r = .os o 0 d.length ∧ H' o = some ⟨53, 5, d.map Tch.c⟩ ∧ n ≤ o ∧ d ≠ []) := by
 have hG := hU.ok
 refine ACalls.start mix F20 (by simp) fun hlow => ?_
 have hq := Qs.refl hi hlow
 have hin := hq.2.2
 simp (disch := omega) only [↓wpre, push_cast, seval, c20]
 refine xw_loopJ (σ := List Tch × Option Nat × Int × Nat) (fun t => [(0, .op i 0 0), (5, outAV t.2.1 t.1.length), (9, .int many), (10, .int t.2.2.2)]) (fun t H' n' => TouchesOk t.1 ∧ (∀ x ∈ t.1, x.no ≤ 1 + 2 * (t.1.length : Int)) ∧ t.1.length ≤ t.2.2.2 ∧ (t.2.2.2 : Int) ≤ many ∧ OutIs n H' t.2.1 53 5 (t.1.map Tch.c) n' ∧ (t.2.1 ≠ none → t.1 ≠ []) ∧ Qs H H' i n ∧ H' i = some (strm (LL nz l) t.2.2.1) ∧ n ≤ n' ∧ a ≤ t.2.2.1 ∧ t.2.2.1 ≤ a + 125 * (t.2.2.2 : Int)) (fun t => 10 - t.2.2.2) ([], none, a, 0) ⟨⟨by simp, by simp, .nil⟩, by simp, by simp, by simp; omega, rfl, fun h => (h rfl).elim, hq, hi, by omega, Int.le_refl _, by simp⟩ (by simp (disch := omega) only [↓wpre, push_cast, seval, outAV]; try rfl) ?_
 clear hq
 rintro ⟨d, oid, a2, j⟩ fr H2 n2 ⟨hd, hdn, hdj, hjm, ho, hne, hq, hs, hn2, ha1, ha2⟩ hh
 simp only [has_nil, has_cons, and_true] at hh hd hdn hdj hjm ho hne hs ha1 ha2
 have hal : alen (outAV oid d.length) = some (.int d.length) := by
  cases oid with
  | none =>
   have h : d.map Tch.c = [] := ho
   have h : d = [] := by simpa using h
   subst h; rfl
  | some o => rfl
 by_cases hlt : (j : Int) < many
 ·have htail : ∀ (no a3 : Int) (fr : Nat → AV) (n3 : Nat), True := fun _ _ _ _ => trivial
  by_cases h0 : (0 : Int) < d.length
  ·obtain ⟨q, hqd⟩ : ∃ q, d.length = q + 1 := ⟨d.length - 1, by omega⟩
   obtain ⟨p, hp⟩ : ∃ p, d[q]? = some p := ⟨_, List.getElem?_eq_getElem (by omega)⟩
   obtain ⟨o, hoe⟩ : ∃ o, oid = some o := by
    cases oid with
    | none =>
     have h : d.map Tch.c = [] := ho
     have h : d = [] := by simpa using h
     rw [h] at h0; simp at h0
    | some o => exact ⟨o, rfl⟩
   have ho1 : H2 o = some ⟨53, 5, d.map Tch.c⟩ := by rw [hoe] at ho; exact ho.1
   have ho2 : n ≤ o := by rw [hoe] at ho; exact ho.2.1
   have hpm : p ∈ d := List.mem_of_getElem? hp
   have hpn := hdn p hpm
   have hp1 := (hd.each p hpm).no
   have hout : outAV oid d.length = .os o 0 d.length := by rw [hoe]; rfl
   have e1 : (d.length : Int) - 1 = (q : Int) := by omega
   have hg : (d.map Tch.c)[q]? = some p.c := by rw [List.getElem?_map, hp]; rfl
   have hon : Ab.only o ⟨53, 5, d.map Tch.c⟩ o = some ⟨53, 5, d.map Tch.c⟩ := if_pos rfl
   have hso : ∀ x, Ab.Sub (Ab.only o ⟨53, 5, d.map Tch.c⟩) (hu H2 i x) = True := fun x => eq_true (only_sub (by rw [hu_ne (by omega)]; exact ho1))
   have hso0 : Ab.Sub (Ab.only o ⟨53, 5, d.map Tch.c⟩) H2 = True := eq_true (only_sub ho1)
   have hl0 : (0 : Int) ≤ (q : Int) := by omega
   have hl1 : (q : Int) < d.length := by omega
   have hl2 : q < d.length := by omega
   have hdl : (d.length : Int) ≤ 10 := by omega
   simp (disch := omega) only [↓wpre, push_cast, seval, hh, hlt, hal, h0]
   refine xw_nreg (Ab.only o ⟨53, 5, d.map Tch.c⟩) (only_sub ho1) ?_
   simp (disch := omega) only [↓wpre, push_cast, seval, hh, hout, e1, hon, hso0, hg, hl0, hl1, hl2, Int.toNat_natCast]
   refine (pick_c G _ nz true l a2 i (by simp (disch := omega) only [↓wpre, push_cast, seval, hs]) ⟨by omega, by omega⟩ [1, 1, 2] (by simp) (by simp)).x fun r a3 n3 hn3 k1 k1' k => ?_
   obtain ⟨st, rfl, hst⟩ := k
   have hst2 : 1 ≤ st ∧ st ≤ 2 := by simp at hst; omega
   simp (disch := omega) only [↓wpre, push_cast, seval, hh, hs, hso]
   have hbef : ∀ x ∈ d, x.no ≤ p.no := by
    intro x hx
    obtain ⟨k, hk⟩ := List.mem_iff_getElem?.1 hx
    have hkl := (List.getElem?_eq_some_iff.1 hk).1
    by_cases e : k = q
    ·rw [e, hp] at hk; cases hk; exact Int.le_refl _
    ·have h1 := List.pairwise_iff_getElem.1 hd.rise k q hkl (by omega) (by omega)
     rw [List.getElem?_eq_getElem hkl] at hk
     rw [List.getElem?_eq_getElem (by omega)] at hp
     cases hk; cases hp; omega
   refine (touch_c G _ hG hP nz l a3 (p.no + st) i (by first | exact hu_same | simp (disch := omega) only [↓wpre, push_cast, seval, hs]) ⟨by omega, by omega⟩).x fun r a4 n4 hn4 k4 k4' k => ?_
   obtain ⟨t, rfl, htm⟩ := k
   simp (disch := omega) only [↓wpre, push_cast, seval, hh, hs, hu_hu]
   refine AFn.x (touchesFault1_c G _ hU t htm) fun n5 hn5 => ?_
   by_cases hf : rTouch t 0 = 0
   ·obtain ⟨hto, _⟩ := touch_of hf htm
    by_cases hno : t.no = (p.no + st)
    ·simp (disch := omega) only [↓wpre, push_cast, seval, hh, hs, hf, hno, hu_hu]
     refine xapp_out (n0 := n) (rows := d.map Tch.c) (by (refine OutIs.mono (n := n2) ?_ (by omega); repeat (first | exact ho | refine OutIs.put ?_ (by omega) | refine OutIs.far ?_ (by omega)))) (by simp) (by intro r hr; simp at hr; subst hr; exact ⟨rfl, rfl⟩) (by simp only [List.length_map]; omega) ?_
     simp (disch := omega) only [↓wpre, push_cast, seval, hh]
     have hd2 : TouchesOk (d ++ [t]) := ⟨by simp; omega, fun x hx => by
      rcases List.mem_append.1 hx with hx | hx
      ·exact hd.each x hx
      ·simp only [List.mem_singleton] at hx; subst hx; exact hto, by
      rw [List.pairwise_append]
      refine ⟨hd.rise, List.pairwise_singleton _ _, fun x hx y hy => ?_⟩
      simp only [List.mem_singleton] at hy
      subst hy
      have hb := hbef x hx
      omega⟩
     have hdn2 : ∀ x ∈ d ++ [t], x.no ≤ 1 + 2 * (((d ++ [t]).length : Nat) : Int) := fun x hx => by
      rcases List.mem_append.1 hx with hx | hx
      ·have := hdn x hx; simp; omega
      ·simp only [List.mem_singleton] at hx; subst hx; simp; omega
     have hrow : [AV.int (p.no + st), .int t.at', .str t.src, .ls t.nzi (t.ids.map Idn.c), .ls t.nzf (t.fs.map Fld.c)] = t.c := by rw [← hno]
     try rw [hrow]
     refine againJ (d ++ [t], some n5, a4, j + 1) (by dsimp only; omega) ⟨hd2, hdn2, by simp; omega, by dsimp only; omega, by dsimp only; rw [List.map_append]; exact OutIs.new (n0 := n) (by omega), fun _ => by simp, (Qs.dropO (E := 53) (sz := 5) (rows := d.map Tch.c) (m := n5) (by (refine OutIs.mono (n := n2) ?_ (by omega); repeat (first | exact ho | refine OutIs.put ?_ (by omega) | refine OutIs.far ?_ (by omega)))) (Nat.le_refl _) (by (repeat (first | exact hq | refine Qs.put ?_ | refine Qs.new ?_ (by omega))))).new (by omega), ?_, by omega, by dsimp only; omega, by dsimp only; omega⟩ (by simp (disch := omega) only [↓wpre, push_cast, seval, hh]; (try simp [outAV]))
     dsimp only
     rw [hu_ne (by omega), dropO_ne (n := n5) (E := 53) (sz := 5) (rows := d.map Tch.c) (by (refine OutIs.mono (n := n2) ?_ (by omega); repeat (first | exact ho | refine OutIs.put ?_ (by omega) | refine OutIs.far ?_ (by omega)))) hin]
     simp (disch := omega) only [↓wpre, push_cast, seval, hs]
    ·simp (disch := omega) only [↓wpre, push_cast, seval, hh, hs, hf, hno, hu_hu]
     refine againJ (d, oid, a4, j + 1) (by dsimp only; omega) ⟨hd, hdn, by dsimp only; omega, by dsimp only; omega, by (refine OutIs.mono (n := n2) ?_ (by omega); repeat (first | exact ho | refine OutIs.put ?_ (by omega) | refine OutIs.far ?_ (by omega))), hne, by (repeat (first | exact hq | refine Qs.put ?_ | refine Qs.new ?_ (by omega))), by simp (disch := omega) only [↓wpre, push_cast, seval, hs], by omega, by dsimp only; omega, by dsimp only; omega⟩ (by simp (disch := omega) only [↓wpre, push_cast, seval, hh]; all_goals (try simp only [AV.lit.injEq, Value.int.injEq, Value.bool.injEq, true_and, and_true]); all_goals (try (repeat' apply And.intro)); all_goals (first | rfl | omega | simp_all | skip))
   ·simp (disch := omega) only [↓wpre, push_cast, seval, hh, hs, hf, hu_hu]
    refine againJ (d, oid, a4, j + 1) (by dsimp only; omega) ⟨hd, hdn, by dsimp only; omega, by dsimp only; omega, by (refine OutIs.mono (n := n2) ?_ (by omega); repeat (first | exact ho | refine OutIs.put ?_ (by omega) | refine OutIs.far ?_ (by omega))), hne, by (repeat (first | exact hq | refine Qs.put ?_ | refine Qs.new ?_ (by omega))), by simp (disch := omega) only [↓wpre, push_cast, seval, hs], by omega, by dsimp only; omega, by dsimp only; omega⟩ (by simp (disch := omega) only [↓wpre, push_cast, seval, hh]; all_goals (try simp only [AV.lit.injEq, Value.int.injEq, Value.bool.injEq, true_and, and_true]); all_goals (try (repeat' apply And.intro)); all_goals (first | rfl | omega | simp_all | skip))
  ·have hbef : ∀ x ∈ d, x.no ≤ 0 := by
    intro x hx
    have := List.length_pos_of_mem hx
    omega
   simp (disch := omega) only [↓wpre, push_cast, seval, hh, hlt, hal, h0]
   refine (touch_c G _ hG hP nz l a2 1 i (by first | exact hu_same | simp (disch := omega) only [↓wpre, push_cast, seval, hs]) ⟨by omega, by omega⟩).x fun r a4 n4 hn4 k4 k4' k => ?_
   obtain ⟨t, rfl, htm⟩ := k
   simp (disch := omega) only [↓wpre, push_cast, seval, hh, hs, hu_hu]
   refine AFn.x (touchesFault1_c G _ hU t htm) fun n5 hn5 => ?_
   by_cases hf : rTouch t 0 = 0
   ·obtain ⟨hto, _⟩ := touch_of hf htm
    by_cases hno : t.no = 1
    ·simp (disch := omega) only [↓wpre, push_cast, seval, hh, hs, hf, hno, hu_hu]
     refine xapp_out (n0 := n) (rows := d.map Tch.c) (by (refine OutIs.mono (n := n2) ?_ (by omega); repeat (first | exact ho | refine OutIs.put ?_ (by omega) | refine OutIs.far ?_ (by omega)))) (by simp) (by intro r hr; simp at hr; subst hr; exact ⟨rfl, rfl⟩) (by simp only [List.length_map]; omega) ?_
     simp (disch := omega) only [↓wpre, push_cast, seval, hh]
     have hd2 : TouchesOk (d ++ [t]) := ⟨by simp; omega, fun x hx => by
      rcases List.mem_append.1 hx with hx | hx
      ·exact hd.each x hx
      ·simp only [List.mem_singleton] at hx; subst hx; exact hto, by
      rw [List.pairwise_append]
      refine ⟨hd.rise, List.pairwise_singleton _ _, fun x hx y hy => ?_⟩
      simp only [List.mem_singleton] at hy
      subst hy
      have hb := hbef x hx
      omega⟩
     have hdn2 : ∀ x ∈ d ++ [t], x.no ≤ 1 + 2 * (((d ++ [t]).length : Nat) : Int) := fun x hx => by
      rcases List.mem_append.1 hx with hx | hx
      ·have := hdn x hx; simp; omega
      ·simp only [List.mem_singleton] at hx; subst hx; simp; omega
     have hrow : [AV.int 1, .int t.at', .str t.src, .ls t.nzi (t.ids.map Idn.c), .ls t.nzf (t.fs.map Fld.c)] = t.c := by rw [← hno]
     try rw [hrow]
     refine againJ (d ++ [t], some n5, a4, j + 1) (by dsimp only; omega) ⟨hd2, hdn2, by simp; omega, by dsimp only; omega, by dsimp only; rw [List.map_append]; exact OutIs.new (n0 := n) (by omega), fun _ => by simp, (Qs.dropO (E := 53) (sz := 5) (rows := d.map Tch.c) (m := n5) (by (refine OutIs.mono (n := n2) ?_ (by omega); repeat (first | exact ho | refine OutIs.put ?_ (by omega) | refine OutIs.far ?_ (by omega)))) (Nat.le_refl _) (by (repeat (first | exact hq | refine Qs.put ?_ | refine Qs.new ?_ (by omega))))).new (by omega), ?_, by omega, by dsimp only; omega, by dsimp only; omega⟩ (by simp (disch := omega) only [↓wpre, push_cast, seval, hh]; (try simp [outAV]))
     dsimp only
     rw [hu_ne (by omega), dropO_ne (n := n5) (E := 53) (sz := 5) (rows := d.map Tch.c) (by (refine OutIs.mono (n := n2) ?_ (by omega); repeat (first | exact ho | refine OutIs.put ?_ (by omega) | refine OutIs.far ?_ (by omega)))) hin]
     simp (disch := omega) only [↓wpre, push_cast, seval, hs]
    ·simp (disch := omega) only [↓wpre, push_cast, seval, hh, hs, hf, hno, hu_hu]
     refine againJ (d, oid, a4, j + 1) (by dsimp only; omega) ⟨hd, hdn, by dsimp only; omega, by dsimp only; omega, by (refine OutIs.mono (n := n2) ?_ (by omega); repeat (first | exact ho | refine OutIs.put ?_ (by omega) | refine OutIs.far ?_ (by omega))), hne, by (repeat (first | exact hq | refine Qs.put ?_ | refine Qs.new ?_ (by omega))), by simp (disch := omega) only [↓wpre, push_cast, seval, hs], by omega, by dsimp only; omega, by dsimp only; omega⟩ (by simp (disch := omega) only [↓wpre, push_cast, seval, hh]; all_goals (try simp only [AV.lit.injEq, Value.int.injEq, Value.bool.injEq, true_and, and_true]); all_goals (try (repeat' apply And.intro)); all_goals (first | rfl | omega | simp_all | skip))
   ·simp (disch := omega) only [↓wpre, push_cast, seval, hh, hs, hf, hu_hu]
    refine againJ (d, oid, a4, j + 1) (by dsimp only; omega) ⟨hd, hdn, by dsimp only; omega, by dsimp only; omega, by (refine OutIs.mono (n := n2) ?_ (by omega); repeat (first | exact ho | refine OutIs.put ?_ (by omega) | refine OutIs.far ?_ (by omega))), hne, by (repeat (first | exact hq | refine Qs.put ?_ | refine Qs.new ?_ (by omega))), by simp (disch := omega) only [↓wpre, push_cast, seval, hs], by omega, by dsimp only; omega, by dsimp only; omega⟩ (by simp (disch := omega) only [↓wpre, push_cast, seval, hh]; all_goals (try simp only [AV.lit.injEq, Value.int.injEq, Value.bool.injEq, true_and, and_true]); all_goals (try (repeat' apply And.intro)); all_goals (first | rfl | omega | simp_all | skip))
 ·simp (disch := omega) only [↓wpre, push_cast, seval, hh, hlt]
  refine fin_intro (Ab.Sub.refl _) ⟨a2, d, by omega, by omega, hd, by omega, Qs.sub (n := n) hq hs, ?_⟩
  cases oid with
  | none =>
   have : d.map Tch.c = [] := ho
   exact .inl ⟨by simpa using this, rfl⟩
  | some o => exact .inr ⟨o, rfl, ho.1, ho.2.1, hne (by simp)⟩
theorem frz_ls_p {D : Nat → Option AObj} {k : Nat} {nz : Bool} {rows : List (List AV)} (h : ∀ r ∈ rows, plain r = true) : frz D (k + 1) (.ls nz rows) = .ls nz rows := by
 simp only [frz, rows_plain h]
theorem tchs_frz {D : Nat → Option AObj} {k : Nat} (l : List Tch) : (l.map Tch.c).map (List.map (frz D (k + 1))) = l.map Tch.c := by
 rw [List.map_map]
 refine List.map_congr_left fun t _ => ?_
 show [frz D (k + 1) (.int t.no), frz D (k + 1) (.int t.at'), frz D (k + 1) (.str t.src), frz D (k + 1) (.ls t.nzi _), frz D (k + 1) (.ls t.nzf _)] = _
 rw [frz_lit, frz_lit, frz_lit, frz_ls_p (plain_idn _), frz_ls_p (plain_fld _)]
theorem rightTouches_c (hU : GU G) (hP : G 1 = .pp poolC) (nz : Bool) (l : List Int) (a many : Int) (i : Nat) (hi : H i = some (strm (LL nz l) a)) (ha : 0 ≤ a ∧ a ≤ 1099511620000) (hm : 1 ≤ many ∧ many ≤ 10) : SC G H 20 [.op i 0 0, .int many] i (LL nz l) a 1300 fun r => ∃ (b : Bool) (d : List Tch), r = .ls b (d.map Tch.c) ∧ TouchesOk d ∧ d.length ≤ 10 := by
 intro n
 refine low_of G H fun hlow => ACalls.frz (rightTouches_run G H hU hP nz l a many i hi ha hm n) ?_
 have hin := hlow i _ hi
 rintro r H1 n1 ⟨a', d, h1, h2, h3, h3', h4, ⟨h5, rfl⟩ | ⟨o, rfl, h5, h6, h7⟩⟩
 ·exact ⟨fun _ => none, hu H i (some (strm (LL nz l) a')), 0, fun _ _ h => (by cases h), h4, fun _ _ h => (by cases h), a', h1, h2, rfl, false, d, by rw [h5]; rfl, h3, h3'⟩
 ·refine ⟨Ab.only o ⟨53, 5, d.map Tch.c⟩, hu H i (some (strm (LL nz l) a')), 2, only_sub h5, h4, fun j x hj => ?_, a', h1, h2, rfl, true, d, ?_, h3, h3'⟩
  ·unfold Ab.only at hj
   split at hj
   ·rename_i e; subst e
    rw [hu_ne (by omega)]
    cases hx : H j with
    | none => rfl
    | some y => exact absurd (hlow j y hx) (by omega)
   ·cases hj
  ·simp only [frz, Ab.only, if_true, Nat.zero_add, List.length_map, Nat.le_refl, List.drop_zero]
   rw [List.take_of_length_le (by simp), tchs_frz]
end Go.Proofs.YtblhbafoncfhdaaGreatDoor
