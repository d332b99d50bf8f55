/- Contracts of functions of the program: each computes what its model says; the conditions stand at each. -/
import Derived.Test.YtblhbafoncfhdaaGreatDoorPe3
set_option linter.unusedSimpArgs false
set_option linter.unusedVariables false
set_option maxRecDepth 20000
set_option pp.deepTerms false
set_option pp.deepTerms.threshold 3
namespace Go.Proofs.YtblhbafoncfhdaaGreatDoor
open Go Go.Ab Go.Pm Go.Cm Go.El Go.Rm Go.Pp Go.Uf
variable (G : Nat → AV) (H : Nat → Option AObj)


/-- What a group is in memory. -/
structure Grp (H : Nat → Option AObj) (g m : Nat) (r : Rls) (nz : Bool) (l : List Tch) (K : List Idn) (ob : Idn → Nat) (N : Nat) : Prop where
  row : H g = some ⟨152, 6, [grpRow r nz l m]⟩
  hv : Hv H m (occ l) K ob N
  lt : g < N
  ok : RulesOk r
  few : l.length ≤ 2000
theorem Grp.keep {H H2 : Nat → Option AObj} {g m : Nat} {r : Rls} {nz : Bool} {l : List Tch} {K : List Idn} {ob : Idn → Nat} {N : Nat} (h : Grp H g m r nz l K ob N) (hk : ∀ j, j < N → H2 j = H j) : Grp H2 g m r nz l K ob N := ⟨by rw [hk _ h.lt]; exact h.row, h.hv.keep hk, h.lt, h.ok, h.few⟩
theorem Grp.sub {H H2 : Nat → Option AObj} {g m : Nat} {r : Rls} {nz : Bool} {l : List Tch} {K : List Idn} {ob : Idn → Nat} {N : Nat} (h : Grp H g m r nz l K ob N) (hk : Sub H H2) : Grp H2 g m r nz l K ob N := ⟨hk _ _ h.row, ⟨hk _ _ h.hv.map, fun x hx => hk _ _ (h.hv.obj x hx), h.hv.keys, h.hv.all, h.hv.inj, h.hv.low⟩, h.lt, h.ok, h.few⟩
set_option maxHeartbeats 1600000 in
theorem joins_c {g m : Nat} {r : Rls} {nz : Bool} {l : List Tch} {K : List Idn} {ob : Idn → Nat} {N : Nat} (h : Grp H g m r nz l K ob N) (x : Idn) : AFn Tryz.prog G 104 [.op g 0 0, .agg x.c] H (.bool (joins r l x)) := by
  obtain ⟨hg, hv, hlt, hok, hl⟩ := h
  have hw := hok.wfew
  have hkn : r.kinds.length ≤ 1000000 := by
    have := kinds_few r.kinds 0 (fun k hk => by have := hok.kin k hk; omega) hok.kasc
    rcases this with e | e
    · omega
    · simp [e]
  have hm := hv.map
  have hlen : ∃ v, lookRes false (.ls false []) (mget (K.map fun x => [AV.agg x.c, .os (ob x) 0 (occ l x).length]) (.agg x.c)) = v ∧ alen v = some (.int (occ l x).length) := by
    by_cases hx : x ∈ K
    · rw [hv.look hx]; exact ⟨_, rfl, rfl⟩
    · have : occ l x = [] := Classical.byContradiction fun h0 => hx ((hv.all x).1 h0)
      rw [hv.lookN hx, this]; exact ⟨_, rfl, rfl⟩
  obtain ⟨v, hlv, hal⟩ := hlen
  refine AFn.start mix F104 (by simp) fun k hlow => ?_
  simp -dsimp -implicitDefEqProofs (disch := omega) only [↓wpre, push_cast, seval, c104, hg]
  (first | with_reducible refine (bsId_c _ _ r.nzw r.weak x (by omega)).x fun n' hn' => ?_ | with_reducible refine xfn_intro (bsId_c _ _ r.nzw r.weak x (by omega)) ?_); try simp -dsimp -implicitDefEqProofs (disch := omega) only [↓wpre, push_cast, seval, true_and]
  refine anyN_intro fun n2 hn2 => ?_
  simp -dsimp -implicitDefEqProofs (disch := omega) only [↓wpre, push_cast, seval, hg]
  repeat' (first | ((first | with_reducible refine cnd_ndec (fun hc => ?_) (fun hc => ?_) | with_reducible refine cnd_dec (fun hc => ?_) (fun hc => ?_) | with_reducible refine cnd_nb (fun hc => ?_) (fun hc => ?_) | with_reducible refine cnd_intro (fun hc => ?_) (fun hc => ?_)) <;> (first | (exfalso; omega) | (try simp -dsimp -implicitDefEqProofs (disch := omega) only [↓wpre, push_cast, seval, hc, hg, hm, hlv, hal]))) | (with_reducible refine anyN_intro fun n' hn' => ?_; try simp -dsimp -implicitDefEqProofs (disch := omega) only [↓wpre, push_cast, seval, hg, hm, hlv, hal]) | ((first | with_reducible refine (containsI_c _ _ r.nzk r.kinds x.kind hkn).x fun n' hn' => ?_ | with_reducible refine xfn_intro (containsI_c _ _ r.nzk r.kinds x.kind hkn) ?_); try simp -dsimp -implicitDefEqProofs (disch := omega) only [↓wpre, push_cast, seval, hg, hm, hlv, hal]))
  all_goals (simp only [AV.lit.injEq, Value.bool.injEq, joins, isWeak]; simp_all)
/-- The first id that joins. -/
theorem find_none {J : Idn → Bool} : ∀ {l : List Idn}, (∀ x ∈ l, J x = false) → l.find? J = none := fun h => List.find?_eq_none.2 fun x hx => by simp [h x hx]
set_option maxHeartbeats 1600000 in
theorem keyOf_c {g m : Nat} {r : Rls} {nz : Bool} {l : List Tch} {K : List Idn} {ob : Idn → Nat} {N : Nat} (h : Grp H g m r nz l K ob N) (t : Tch) (ht : TouchOk t) : AFn Tryz.prog G 153 [.op g 0 0, .agg t.c] H (.agg (Pp.keyOf (joins r l) t).c) := by
  have hfew := ht.few
  have hsome := ht.some
  refine AFn.start mix F153 (by simp) fun k hlow => ?_
  have hq := Qt.refl hlow
  simp -dsimp -implicitDefEqProofs (disch := omega) only [↓wpre, push_cast, seval, c153]
  refine xw_loopJ (σ := List Idn × List Idn) (fun u => [(0, .op g 0 0), (3, .pp t.c), (4, .op k 0 0), (8, .ls t.nzi (t.ids.map Idn.c)), (9, .int t.ids.length), (10, .int u.1.length)]) (fun u H' n' => t.ids = u.1 ++ u.2 ∧ (∀ x ∈ u.1, joins r l x = false) ∧ H' k = some ⟨55, 2, [[.int 0, .str ⟨#[]⟩]]⟩ ∧ Qt H H' k ∧ k + 1 ≤ n') (fun u => u.2.length) ([], t.ids) ⟨rfl, fun x hx => (by cases hx), hu_same, (by exact Qt.mono (n := k) (by repeat (first | exact hq | refine Qt.hu ?_ (by omega))) (by omega)), by omega⟩ (by simp -dsimp -implicitDefEqProofs (disch := omega) only [↓wpre, push_cast, seval]) ?_
  clear hq
  rintro ⟨d, s⟩ fr H' n1 ⟨hab, hno, hres, hq, hn⟩ hh
  simp only [has_nil, has_cons, and_true] at hh hab hno hres
  have hll : t.ids.length = d.length + s.length := by rw [hab]; simp
  cases s with
  | nil =>
    have hlt : ¬ (d.length : Int) < t.ids.length := by rw [hll]; simp
    obtain ⟨y, ys, hy⟩ : ∃ y ys, t.ids = y :: ys := by
      cases hi : t.ids with
      | nil => exact absurd hi hsome
      | cons y ys => exact ⟨y, ys, rfl⟩
    have hy0 : t.ids[0]? = some y := by rw [hy]; rfl
    have hkey : Pp.keyOf (joins r l) t = y := by
      unfold Pp.keyOf
      rw [find_none (by rw [hab]; simpa using hno), hy]; rfl
    have e0 : (0 : Int) = ((0 : Nat) : Int) := rfl
    rw [hkey]
    simp -dsimp -implicitDefEqProofs (disch := omega) only [↓wpre, push_cast, seval, hh, hlt, even_ids, aidx_at e0 hy0, hres]
    exact (Qt.mono (n := k) (by repeat (first | exact hq | refine Qt.hu ?_ (by omega))) (Nat.le_refl _)).1
  | cons x s =>
    have hlt : (d.length : Int) < t.ids.length := by rw [hll]; simp only [List.length_cons]; omega
    have hx : t.ids[d.length]? = some x := by rw [hab]; simp
    simp -dsimp -implicitDefEqProofs (disch := omega) only [↓wpre, push_cast, seval, hh, hlt, even_ids, aidx_at rfl hx]
    refine AFn.x (joins_c G _ (h.sub ?hs) x) fun n3 hn3 => ?_
    case hs => exact (Qt.mono (n := k) (by repeat (first | exact hq | refine Qt.hu ?_ (by omega))) (Nat.le_refl _)).1
    simp -dsimp -implicitDefEqProofs (disch := omega) only [↓wpre, push_cast, seval, hh]
    (first | with_reducible refine cnd_ndec (fun hc => ?_) (fun hc => ?_) | with_reducible refine cnd_dec (fun hc => ?_) (fun hc => ?_) | with_reducible refine cnd_nb (fun hc => ?_) (fun hc => ?_) | with_reducible refine cnd_intro (fun hc => ?_) (fun hc => ?_)) <;> (first | (exfalso; omega) | (try simp -dsimp -implicitDefEqProofs (disch := omega) only [↓wpre, push_cast, seval, hc, hh]))
    · have hkey : Pp.keyOf (joins r l) t = x := by
        unfold Pp.keyOf
        rw [hab, List.find?_append, find_none hno]
        simp [hc]
      rw [hkey]
      simp -dsimp -implicitDefEqProofs (disch := omega) only [↓wpre, push_cast, seval, hh, hres]
      exact (Qt.mono (n := k) (by repeat (first | exact hq | refine Qt.hu ?_ (by omega))) (Nat.le_refl _)).1
    · refine againJ (d ++ [x], s) (Nat.lt_succ_self _) ⟨by rw [hab]; simp, ?_, by simp -dsimp -implicitDefEqProofs (disch := omega) only [↓wpre, push_cast, seval, hres], by exact Qt.mono (n := k) (by repeat (first | exact hq | refine Qt.hu ?_ (by omega))) (by omega), by omega⟩ (by simp -dsimp -implicitDefEqProofs (disch := omega) only [↓wpre, push_cast, seval, hh]; all_goals (try simp only [AV.lit.injEq, Value.int.injEq, Value.bool.injEq, true_and, and_true]); all_goals (try (repeat' apply And.intro)); all_goals (first | rfl | omega | simp_all | skip))
      intro z hz
      rcases List.mem_append.1 hz with hz | hz
      · exact hno z hz
      · simp only [List.mem_singleton] at hz
        subst hz
        simpa using hc
end Go.Proofs.YtblhbafoncfhdaaGreatDoor

