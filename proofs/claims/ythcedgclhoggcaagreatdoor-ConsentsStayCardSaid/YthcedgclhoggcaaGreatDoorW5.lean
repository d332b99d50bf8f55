/- Contracts of functions of the program: each computes what its model says; the conditions stand at each. -/
import Derived.Test.YthcedgclhoggcaaGreatDoorTw10
import Derived.Test.YthcedgclhoggcaaGreatDoorTw13
set_option linter.unusedSimpArgs false
set_option linter.unusedVariables false
set_option maxRecDepth 20000
set_option pp.deepTerms false
set_option pp.deepTerms.threshold 3
namespace Go.Proofs.YthcedgclhoggcaaGreatDoor
open Go Go.Ab Go.Pm Go.Cm
variable (G : Nat → AV) (H : Nat → Option AObj)
/-! Ids, each once: the first walk of a map. -/
def onceL (l : List Idn) : List Idn := l.foldl (fun acc x => if x ∈ acc then acc else acc ++ [x]) []
theorem onceL_app (l : List Idn) (x : Idn) : onceL (l ++ [x]) = if x ∈ onceL l then onceL l else onceL l ++ [x] := by
  unfold onceL
  rw [List.foldl_append]
  rfl
theorem onceL_len (l : List Idn) : (onceL l).length ≤ l.length := by
  have key : ∀ (l acc : List Idn), (l.foldl (fun acc x => if x ∈ acc then acc else acc ++ [x]) acc).length ≤ acc.length + l.length := by
    intro l
    induction l with
    | nil => intro acc; simp
    | cons y l ih =>
      intro acc
      have h1 := ih (if y ∈ acc then acc else acc ++ [y])
      simp only [List.foldl_cons, List.length_cons]
      by_cases hy : y ∈ acc
      · rw [if_pos hy] at h1 ⊢; omega
      · rw [if_neg hy] at h1 ⊢
        simp only [List.length_append, List.length_cons, List.length_nil] at h1
        omega
  have := key l []
  simpa [onceL] using this
theorem even_idsI (l : List Idn) : Even 2 (l.map Idn.c) = True := eq_true fun r hr => by
  obtain ⟨s, _, rfl⟩ := List.mem_map.1 hr
  exact ⟨rfl, rfl⟩
set_option maxHeartbeats 800000 in
theorem once_run (nz : Bool) (ids : List Idn) (hl : ids.length ≤ 1000000) (n : Nat) : ACalls Tryz.prog G 69 [.ls nz (ids.map Idn.c)] H n fun r H' n' => ∃ oid, r = outAV oid (onceL ids).length ∧ OutIs (n + 1) H' oid 32 2 ((onceL ids).map Idn.c) n' ∧ Sub H H' := by
  refine ACalls.start mix F69 (by simp) fun hlow => ?_
  have hq := Qt.refl hlow
  simp -dsimp -implicitDefEqProofs (disch := omega) only [↓wpre, push_cast, reduceCtorEq, ↓reduceIte, Nat.reduceEqDiff, Nat.reduceLeDiff, Nat.reduceAdd, Nat.reduceLT, Int.reduceEq, Int.reduceLT, Int.reduceLE, Int.reduceNeg, Int.reduceAdd, c69]
  refine xw_loopJ (σ := List Idn × List Idn × Option Nat) (fun t => [(3, outAV t.2.2 (onceL t.1).length), (4, .om n), (8, .ls nz (ids.map Idn.c)), (9, .int ids.length), (10, .int t.1.length)]) (fun t H' n' => ids = t.1 ++ t.2.1 ∧ (∃ rows, H' n = some ⟨308, 100, rows⟩ ∧ ∀ x : Idn, mget rows (.agg [.int x.kind, .str x.text]) = if x ∈ onceL t.1 then some (.bool true) else none) ∧ OutIs (n + 1) H' t.2.2 32 2 ((onceL t.1).map Idn.c) n' ∧ Qt H H' n ∧ n < n') (fun t => t.2.1.length) ([], ids, none) ⟨rfl, ⟨[], hu_same, fun x => by rw [mget_nil, if_neg (by simp [onceL])]⟩, rfl, by exact Qt.mono (n := n) (by repeat (first | exact hq | refine Qt.hu ?_ (by omega))) (by omega), Nat.lt_succ_self _⟩ (by simp -dsimp -implicitDefEqProofs (disch := omega) only [↓wpre, push_cast, reduceCtorEq, ↓reduceIte, Nat.reduceEqDiff, Nat.reduceLeDiff, Nat.reduceAdd, Nat.reduceLT, Int.reduceEq, Int.reduceLT, Int.reduceLE, Int.reduceNeg, Int.reduceAdd, true_and]; try rfl) ?_
  rintro ⟨d, e, oid⟩ fr H' n1 ⟨hde, ⟨rows, hro, hmg⟩, ho, hqt, hn1⟩ hh
  simp only [has_nil, has_cons, and_true] at hh hde ho hmg
  have hdl : ids.length = d.length + e.length := by rw [hde]; simp
  have hol := onceL_len d
  cases e with
  | nil =>
    rw [List.append_nil] at hde
    subst hde
    simp -dsimp -implicitDefEqProofs (disch := omega) only [↓wpre, push_cast, reduceCtorEq, ↓reduceIte, Nat.reduceEqDiff, Nat.reduceLeDiff, Nat.reduceAdd, Nat.reduceLT, Int.reduceEq, Int.reduceLT, Int.reduceLE, Int.reduceNeg, Int.reduceAdd, hh]
    exact fin_intro (Sub.refl _) ⟨oid, rfl, ho, hqt.1⟩
  | cons x e =>
    have hlt : (d.length : Int) < ids.length := by rw [hdl]; simp only [List.length_cons]; omega
    have hget : ids[d.length]? = some x := by rw [hde]; simp
    have hmx := hmg x
    have hap := onceL_app d x
    simp -dsimp -implicitDefEqProofs (disch := omega) only [↓wpre, push_cast, reduceCtorEq, ↓reduceIte, Nat.reduceEqDiff, Nat.reduceLeDiff, Nat.reduceAdd, Nat.reduceLT, Int.reduceEq, Int.reduceLT, Int.reduceLE, Int.reduceNeg, Int.reduceAdd, hh, hlt, even_idsI, aidx_at _ hget]
    have hnn : n ≠ n1 := by omega
    by_cases hx : x ∈ onceL d
    · rw [if_pos hx] at hmx hap
      simp -dsimp -implicitDefEqProofs (disch := omega) only [↓wpre, push_cast, reduceCtorEq, ↓reduceIte, Nat.reduceEqDiff, Nat.reduceLeDiff, Nat.reduceAdd, Nat.reduceLT, Int.reduceEq, Int.reduceLT, Int.reduceLE, Int.reduceNeg, Int.reduceAdd, hh, hro, hmx, hu_hu]
      refine againJ (d ++ [x], e, oid) (Nat.lt_succ_self _) ⟨by rw [hde]; simp, ⟨rows, by rw [hu_ne (by omega)]; exact hro, fun y => by dsimp only; rw [hap]; exact hmg y⟩, by dsimp only; rw [hap]; exact ho.hu (Nat.le_refl _) (by omega), hqt.hu (by omega), by (first | omega | (dsimp only; omega))⟩ (by simp -dsimp -implicitDefEqProofs (disch := omega) only [↓wpre, push_cast, reduceCtorEq, ↓reduceIte, Nat.reduceEqDiff, Nat.reduceLeDiff, Nat.reduceAdd, Nat.reduceLT, Int.reduceEq, Int.reduceLT, Int.reduceLE, Int.reduceNeg, Int.reduceAdd, hh, hap]; try simp [hap])
    · rw [if_neg hx] at hmx hap
      simp -dsimp -implicitDefEqProofs (disch := omega) only [↓wpre, push_cast, reduceCtorEq, ↓reduceIte, Nat.reduceEqDiff, Nat.reduceLeDiff, Nat.reduceAdd, Nat.reduceLT, Int.reduceEq, Int.reduceLT, Int.reduceLE, Int.reduceNeg, Int.reduceAdd, hh, hro, hmx, hu_hu]
      have hoX : ∀ v1 v2, OutIs (n + 1) (hu (hu H' n1 v1) n v2) oid 32 2 ((onceL d).map Idn.c) (n1 + 1) := fun v1 v2 => OutIs.put (ho.hu (Nat.le_refl _) (by omega)) (by omega)
      have hqX : ∀ v1 v2, Qt H (dropO (hu (hu H' n1 v1) n v2) oid) n := fun v1 v2 => ⟨(Qt.dropO (n0 := n + 1) (hoX v1 v2) (Qt.mono (n := n) ((hqt.hu (by omega)).hu (Nat.le_refl _)) (by omega))).1, hlow⟩
      refine xapp_out (n0 := n + 1) (rows := (onceL d).map Idn.c) (hoX _ _) (by simp) (by intro r hr; simp at hr; subst hr; exact ⟨rfl, rfl⟩) (by simp only [List.length_map]; omega) ?_
      simp -dsimp -implicitDefEqProofs (disch := omega) only [↓wpre, push_cast, reduceCtorEq, ↓reduceIte, Nat.reduceEqDiff, Nat.reduceLeDiff, Nat.reduceAdd, Nat.reduceLT, Int.reduceEq, Int.reduceLT, Int.reduceLE, Int.reduceNeg, Int.reduceAdd, hh]
      have hmp : ∀ y : Idn, mget (mput rows (.agg [.int x.kind, .str x.text]) (.bool true)) (.agg [.int y.kind, .str y.text]) = if y ∈ onceL d ++ [x] then some (.bool true) else none := fun y => by
        rw [mget_put]
        by_cases hyx : y = x
        · subst hyx; rw [if_pos rfl, if_pos (by simp)]
        · have hne : ¬ (AV.agg [.int y.kind, .str y.text] = AV.agg [.int x.kind, .str x.text]) := fun h => by
            simp only [AV.agg.injEq, List.cons.injEq, AV.lit.injEq, Value.int.injEq, Value.string.injEq, true_and, and_true] at h
            apply hyx
            cases y; cases x
            simp only at h
            obtain ⟨rfl, rfl⟩ := h
            rfl
          rw [if_neg hne, hmg y]
          by_cases hyd : y ∈ onceL d
          · rw [if_pos hyd, if_pos (by simp [hyd])]
          · rw [if_neg hyd, if_neg (by simp [hyd, hyx])]
      refine againJ (d ++ [x], e, some (n1 + 1)) (Nat.lt_succ_self _) ⟨by rw [hde]; simp, ⟨_, ?_, fun y => by dsimp only; rw [hap]; exact hmp y⟩, ⟨by dsimp only; rw [hu_same, hap, List.map_append]; rfl, by omega, by omega⟩, (hqX _ _).hu (by omega), by (first | omega | (dsimp only; omega))⟩ (by simp -dsimp -implicitDefEqProofs (disch := omega) only [↓wpre, push_cast, reduceCtorEq, ↓reduceIte, Nat.reduceEqDiff, Nat.reduceLeDiff, Nat.reduceAdd, Nat.reduceLT, Int.reduceEq, Int.reduceLT, Int.reduceLE, Int.reduceNeg, Int.reduceAdd, hh, hap]; try simp [hap])
      rw [hu_ne (by omega), dropO_ne (hoX _ _) (by omega), hu_same]
end Go.Proofs.YthcedgclhoggcaaGreatDoor

set_option linter.unusedSimpArgs false
set_option linter.unusedVariables false
set_option maxRecDepth 20000
set_option pp.deepTerms false
set_option pp.deepTerms.threshold 3
namespace Go.Proofs.YthcedgclhoggcaaGreatDoor
open Go Go.Ab Go.Pm Go.Cm
variable (G : Nat → AV) (H : Nat → Option AObj)
/-! Ids that are left out. -/
def idxI (p : Idn → Bool) : Int → List Idn → Int
  | _, [] => -1
  | i, y :: r => if p y = true then i else idxI p (i + 1) r
theorem idxI_spec (p : Idn → Bool) : ∀ (l : List Idn) (i : Int), ((∀ y ∈ l, p y = false) ∧ idxI p i l = -1) ∨ ∃ pre x post, l = pre ++ x :: post ∧ (∀ y ∈ pre, p y = false) ∧ p x = true ∧ idxI p i l = i + pre.length
  | [], i => .inl ⟨by simp, rfl⟩
  | y :: r, i => by
    by_cases h : p y = true
    · exact .inr ⟨[], y, r, rfl, by simp, h, by simp [idxI, h]⟩
    · have h' : p y = false := by simpa using h
      rcases idxI_spec p r (i + 1) with ⟨h1, h2⟩ | ⟨pre, x, post, h1, h2, h3, h4⟩
      · exact .inl ⟨by simpa [h'] using h1, by rw [idxI, if_neg h]; exact h2⟩
      · refine .inr ⟨y :: pre, x, post, by simp [h1], by simpa [h'] using h2, h3, ?_⟩
        rw [idxI, if_neg h, h4]
        simp only [List.length_cons]
        omega
theorem indexIds_c (o : Nat) (l : List Idn) (hl : l.length ≤ 1000000) (f : FuncId) (caps : List AV) (p : Idn → Bool) (hp : ∀ x, AFn Tryz.prog G f (.agg x.c :: caps) H (.bool (p x))) (ho : H o = some ⟨32, 2, l.map Idn.c⟩) : AFn Tryz.prog G 101 [.os o 0 l.length, .fn (.func f) caps] H (.int (idxI p 0 l)) := by
  refine AFn.start mix F101 (by simp) fun k hlow => ?_
  simp -dsimp -implicitDefEqProofs (disch := omega) only [↓wpre, push_cast, reduceCtorEq, ↓reduceIte, Nat.reduceEqDiff, Nat.reduceLeDiff, Nat.reduceAdd, Nat.reduceLT, Int.reduceEq, Int.reduceLT, Int.reduceLE, Int.reduceNeg, Int.reduceAdd, c101]
  refine xw_loopJ (σ := List Idn × List Idn) (fun t => [(0, .os o 0 l.length), (1, .fn (.func f) caps), (6, .os o 0 l.length), (7, .int l.length), (8, .int t.1.length)]) (fun t H' n' => l = t.1 ++ t.2 ∧ idxI p t.1.length t.2 = idxI p 0 l ∧ H' = H) (fun t => t.2.length) ([], l) ⟨rfl, rfl, rfl⟩ (by simp -dsimp -implicitDefEqProofs (disch := omega) only [↓wpre, push_cast, reduceCtorEq, ↓reduceIte, Nat.reduceEqDiff, Nat.reduceLeDiff, Nat.reduceAdd, Nat.reduceLT, Int.reduceEq, Int.reduceLT, Int.reduceLE, Int.reduceNeg, Int.reduceAdd, true_and]; try rfl) ?_
  rintro ⟨a, b⟩ fr H' n ⟨rfl, hf, rfl⟩ hh
  simp only [has_nil, has_cons, and_true, List.length_append] at hh hl hf
  cases b with
  | nil =>
    simp -dsimp -implicitDefEqProofs (disch := omega) only [↓wpre, push_cast, reduceCtorEq, ↓reduceIte, Nat.reduceEqDiff, Nat.reduceLeDiff, Nat.reduceAdd, Nat.reduceLT, Int.reduceEq, Int.reduceLT, Int.reduceLE, Int.reduceNeg, Int.reduceAdd, hh]
    simp only [List.append_nil] at hf
    rw [← hf]; rfl
  | cons y b =>
    simp only [List.length_cons] at hl
    have hlt : (a.length : Int) < a.length + (b.length + 1) := by omega
    have hg := at_mid Idn.c a b y
    rw [idxI] at hf
    simp -dsimp -implicitDefEqProofs (disch := omega) only [↓wpre, push_cast, reduceCtorEq, ↓reduceIte, Nat.reduceEqDiff, Nat.reduceLeDiff, Nat.reduceAdd, Nat.reduceLT, Int.reduceEq, Int.reduceLT, Int.reduceLE, Int.reduceNeg, Int.reduceAdd, hh, hlt, ho, hg, Int.toNat_natCast]
    refine AFn.x (hp y) fun n' hn' => ?_
    simp -dsimp -implicitDefEqProofs (disch := omega) only [↓wpre, push_cast, reduceCtorEq, ↓reduceIte, Nat.reduceEqDiff, Nat.reduceLeDiff, Nat.reduceAdd, Nat.reduceLT, Int.reduceEq, Int.reduceLT, Int.reduceLE, Int.reduceNeg, Int.reduceAdd, hh]
    (first | with_reducible refine cnd_ndec (fun hc => ?_) (fun hc => ?_) | with_reducible refine cnd_dec (fun hc => ?_) (fun hc => ?_) | with_reducible refine cnd_nb (fun hc => ?_) (fun hc => ?_) | with_reducible refine cnd_intro (fun hc => ?_) (fun hc => ?_)) <;> (first | (exfalso; omega) | (try simp -dsimp -implicitDefEqProofs (disch := omega) only [↓wpre, push_cast, reduceCtorEq, ↓reduceIte, Nat.reduceEqDiff, Nat.reduceLeDiff, Nat.reduceAdd, Nat.reduceLT, Int.reduceEq, Int.reduceLT, Int.reduceLE, Int.reduceNeg, Int.reduceAdd, hc, hh]))
    · rw [if_pos hc] at hf
      rw [← hf]
    · refine againJ (a ++ [y], b) (Nat.lt_succ_self _) ⟨by simp, ?_, rfl⟩ (by simp -dsimp -implicitDefEqProofs (disch := omega) only [↓wpre, push_cast, reduceCtorEq, ↓reduceIte, Nat.reduceEqDiff, Nat.reduceLeDiff, Nat.reduceAdd, Nat.reduceLT, Int.reduceEq, Int.reduceLT, Int.reduceLE, Int.reduceNeg, Int.reduceAdd, hh]; try simp)
      rw [← hf, if_neg (by simpa using hc)]
      simp
theorem deleteNilIds_c (f : FuncId) (caps : List AV) : AFn Tryz.prog G 68 [.ls false [], .fn (.func f) caps] H (.ls false []) := by
  refine AFn.start mix F68 (by simp) fun k hlow => ?_
  simp -dsimp -implicitDefEqProofs (disch := omega) only [↓wpre, push_cast, reduceCtorEq, ↓reduceIte, Nat.reduceEqDiff, Nat.reduceLeDiff, Nat.reduceAdd, Nat.reduceLT, Int.reduceEq, Int.reduceLT, Int.reduceLE, Int.reduceNeg, Int.reduceAdd, c68]
  have h : AFn Tryz.prog G 101 [.ls false [], .fn (.func f) caps] H (.int (-1)) := by
    refine AFn.start mix F101 (by simp) fun k hlow => ?_
    simp -dsimp -implicitDefEqProofs (disch := omega) only [↓wpre, push_cast, reduceCtorEq, ↓reduceIte, Nat.reduceEqDiff, Nat.reduceLeDiff, Nat.reduceAdd, Nat.reduceLT, Int.reduceEq, Int.reduceLT, Int.reduceLE, Int.reduceNeg, Int.reduceAdd, c101]
    refine xw_loopJ (σ := Unit) (fun t => [(7, .int 0), (8, .int 0)]) (fun t H' n' => H' = H) (fun t => 0) () rfl (by simp -dsimp -implicitDefEqProofs (disch := omega) only [↓wpre, push_cast, reduceCtorEq, ↓reduceIte, Nat.reduceEqDiff, Nat.reduceLeDiff, Nat.reduceAdd, Nat.reduceLT, Int.reduceEq, Int.reduceLT, Int.reduceLE, Int.reduceNeg, Int.reduceAdd, true_and]; try rfl) ?_
    rintro ⟨⟩ fr H' n rfl hh
    simp only [has_nil, has_cons, and_true] at hh
    simp -dsimp -implicitDefEqProofs (disch := omega) only [↓wpre, push_cast, reduceCtorEq, ↓reduceIte, Nat.reduceEqDiff, Nat.reduceLeDiff, Nat.reduceAdd, Nat.reduceLT, Int.reduceEq, Int.reduceLT, Int.reduceLE, Int.reduceNeg, Int.reduceAdd, hh]
  refine h.x fun n' hn' => ?_
  simp -dsimp -implicitDefEqProofs (disch := omega) only [↓wpre, push_cast, reduceCtorEq, ↓reduceIte, Nat.reduceEqDiff, Nat.reduceLeDiff, Nat.reduceAdd, Nat.reduceLT, Int.reduceEq, Int.reduceLT, Int.reduceLE, Int.reduceNeg, Int.reduceAdd, true_and]
set_option maxHeartbeats 1600000 in
theorem deleteIds_c (o i : Nat) (oq : AObj) (hio : i ≠ o) (hiq : H i = some oq) (l : List Idn) (hl : l.length ≤ 1000000) (f : FuncId) (caps : List AV) (p : Idn → Bool) (hp : ∀ H2 x, H2 i = some oq → AFn Tryz.prog G f (.agg x.c :: caps) H2 (.bool (p x))) (ho : H o = some ⟨32, 2, l.map Idn.c⟩) (n : Nat) : ACalls Tryz.prog G 68 [.os o 0 l.length, .fn (.func f) caps] H n fun r H' n' => r = .os o 0 (l.filter fun x => !p x).length ∧ ∃ jr', Sub (hu H o (some ⟨32, 2, (l.filter fun x => !p x).map Idn.c ++ jr'⟩)) H' := by
  refine ACalls.start mix F68 (by simp) fun hlow => ?_
  simp -dsimp -implicitDefEqProofs (disch := omega) only [↓wpre, push_cast, reduceCtorEq, ↓reduceIte, Nat.reduceEqDiff, Nat.reduceLeDiff, Nat.reduceAdd, Nat.reduceLT, Int.reduceEq, Int.reduceLT, Int.reduceLE, Int.reduceNeg, Int.reduceAdd, c68]
  refine (indexIds_c G H o l hl f caps p (fun x => hp H x hiq) ho).x fun n' hn' => ?_
  simp -dsimp -implicitDefEqProofs (disch := omega) only [↓wpre, push_cast, reduceCtorEq, ↓reduceIte, Nat.reduceEqDiff, Nat.reduceLeDiff, Nat.reduceAdd, Nat.reduceLT, Int.reduceEq, Int.reduceLT, Int.reduceLE, Int.reduceNeg, Int.reduceAdd, true_and]
  rcases idxI_spec p l 0 with ⟨h1, h2⟩ | ⟨pre, x, post, rfl, h1, h2, h3⟩
  · have hfl : l.filter (fun x => !p x) = l := by
      rw [List.filter_eq_self]; intro y hy; simp [h1 y hy]
    simp -dsimp -implicitDefEqProofs (disch := omega) only [↓wpre, push_cast, reduceCtorEq, ↓reduceIte, Nat.reduceEqDiff, Nat.reduceLeDiff, Nat.reduceAdd, Nat.reduceLT, Int.reduceEq, Int.reduceLT, Int.reduceLE, Int.reduceNeg, Int.reduceAdd, h2]
    refine fin_intro (Sub.refl _) ⟨by rw [hfl], [], ?_⟩
    rw [hfl, List.append_nil, hu_self H ho]
    exact Sub.refl _
  · rw [Int.zero_add] at h3
    have hm1 : ¬ (pre.length : Int) = -1 := by omega
    simp -dsimp -implicitDefEqProofs (disch := omega) only [↓wpre, push_cast, reduceCtorEq, ↓reduceIte, Nat.reduceEqDiff, Nat.reduceLeDiff, Nat.reduceAdd, Nat.reduceLT, Int.reduceEq, Int.reduceLT, Int.reduceLE, Int.reduceNeg, Int.reduceAdd, h3, hm1]
    have hof : pre.filter (fun x => !p x) = pre := by
      rw [List.filter_eq_self]; intro y hy; simp [h1 y hy]
    refine xw_loopJ (σ := List Idn × List Idn × List Idn × List Idn) (fun t => [(0, .os o 0 (pre ++ x :: post).length), (1, .fn (.func f) caps), (5, .int t.2.1.length), (6, .int t.1.length)]) (fun t H' n' => pre ++ x :: post = t.1 ++ t.2.2.2 ∧ t.1.filter (fun x => !p x) = t.2.1 ∧ t.2.1.length + t.2.2.1.length = t.1.length ∧ t.2.2.1 ≠ [] ∧ H' o = some ⟨32, 2, (t.2.1 ++ (t.2.2.1 ++ t.2.2.2)).map Idn.c⟩ ∧ Qs H H' o n ∧ n ≤ n') (fun t => t.2.2.2.length) (pre ++ [x], pre, [x], post) ⟨by simp, by rw [List.filter_append, hof]; simp [h2], by simp, by simp, by rw [show pre ++ ([x] ++ post) = pre ++ x :: post by simp]; exact ho, Qs.refl ho hlow, hn'⟩ (by simp only [List.length_append, List.length_cons] at hl; simp -dsimp -implicitDefEqProofs (disch := omega) only [↓wpre, push_cast, reduceCtorEq, ↓reduceIte, Nat.reduceEqDiff, Nat.reduceLeDiff, Nat.reduceAdd, Nat.reduceLT, Int.reduceEq, Int.reduceLT, Int.reduceLE, Int.reduceNeg, Int.reduceAdd, h3]; try simp) ?_
    generalize pre ++ x :: post = l0 at hl ho ⊢
    clear h1 h2 h3 hm1 hof
    rintro ⟨a, kept, junk, b⟩ fr H' n1 ⟨rfl, hf, hlen, hj, hR, hqs, hn1⟩ hh
    simp only [has_nil, has_cons, and_true, List.length_append] at hh hl hlen
    dsimp only at hR hf hj
    have hq2 := hqs.1 i oq hio hiq
    cases b with
    | nil =>
      have hjl : 0 < junk.length := List.length_pos_iff.2 hj
      simp only [List.append_nil, List.length_nil, Nat.add_zero] at hh hl hR
      have hf2 : (a ++ []).filter (fun x => !p x) = kept := by rw [List.append_nil]; exact hf
      generalize hRR : List.map Idn.c (kept ++ junk) = R at hR
      have hrl : a.length = R.length := by rw [← hRR]; simp; omega
      have htk : R.take kept.length = kept.map Idn.c := by
        rw [← hRR, List.map_append, List.take_append_of_le_length (by simp), List.take_of_length_le (by simp)]
      have hcut : ∀ len, CutOk H' 2 (.os o 0 len) = True := fun _ => eq_true ⟨_, hR, rfl⟩
      have hcut2 : ∀ x len, CutOk (hu H' o (some ⟨32, 2, x⟩)) 2 (.os o 0 len) = True := fun _ _ => eq_true ⟨_, hu_same, rfl⟩
      have hkl : kept.length < a.length := by omega
      have key : ∀ X, Sub (hu H o (some ⟨32, 2, X⟩)) (hu H' o (some ⟨32, 2, X⟩)) := fun X => Qs.sub (Qs.put hqs) hu_same
      by_cases h0 : kept.length = 0
      · have hz : kept = [] := List.length_eq_zero_iff.1 h0
        have ht0 : Int.toNat 0 = 0 := rfl
        simp -dsimp -implicitDefEqProofs (disch := omega) only [↓wpre, push_cast, reduceCtorEq, ↓reduceIte, Nat.reduceEqDiff, Nat.reduceLeDiff, Nat.reduceAdd, Nat.reduceLT, Int.reduceEq, Int.reduceLT, Int.reduceLE, Int.reduceNeg, Int.reduceAdd, hh, Int.toNat_natCast, hcut, h0, ht0]
        rw [xclear_os hR rfl (by decide) (by omega)]
        simp -dsimp -implicitDefEqProofs (disch := omega) only [↓wpre, push_cast, reduceCtorEq, ↓reduceIte, Nat.reduceEqDiff, Nat.reduceLeDiff, Nat.reduceAdd, Nat.reduceLT, Int.reduceEq, Int.reduceLT, Int.reduceLE, Int.reduceNeg, Int.reduceAdd, hh, Int.toNat_natCast, hcut2, h0, ht0]
        refine fin_intro (Sub.refl _) ⟨by rw [hf2, hz]; rfl, ?jr, ?fin⟩
        case fin =>
          rw [hf2, hz]
          exact key _
      · simp -dsimp -implicitDefEqProofs (disch := omega) only [↓wpre, push_cast, reduceCtorEq, ↓reduceIte, Nat.reduceEqDiff, Nat.reduceLeDiff, Nat.reduceAdd, Nat.reduceLT, Int.reduceEq, Int.reduceLT, Int.reduceLE, Int.reduceNeg, Int.reduceAdd, hh, Int.toNat_natCast, hcut]
        rw [xclear_os hR rfl (by decide) (by omega)]
        simp -dsimp -implicitDefEqProofs (disch := omega) only [↓wpre, push_cast, reduceCtorEq, ↓reduceIte, Nat.reduceEqDiff, Nat.reduceLeDiff, Nat.reduceAdd, Nat.reduceLT, Int.reduceEq, Int.reduceLT, Int.reduceLE, Int.reduceNeg, Int.reduceAdd, hh, Int.toNat_natCast, hcut2]
        rw [htk]
        refine fin_intro (Sub.refl _) ⟨by rw [hf2], ?jr2, ?fin2⟩
        case fin2 =>
          rw [hf2]
          exact key _
    | cons y b =>
      simp only [List.length_cons] at hl
      have hlt : (a.length : Int) < a.length + (b.length + 1) := by omega
      cases junk with
      | nil => exact absurd rfl hj
      | cons z junk =>
        simp only [List.length_cons] at hlen
        simp only [List.cons_append] at hR
        have hg : ((kept ++ z :: (junk ++ y :: b)).map Idn.c)[a.length]? = some y.c := by
          rw [← hlen, show kept ++ z :: (junk ++ y :: b) = (kept ++ z :: junk) ++ y :: b by simp, show kept.length + (junk.length + 1) = (kept ++ z :: junk).length by simp]
          exact at_mid Idn.c (kept ++ z :: junk) b y
        have hg2 := at_mid Idn.c kept (junk ++ y :: b) z
        have hset := set_mid Idn.c kept (junk ++ y :: b) z y
        have hon : o < n1 := Nat.lt_of_lt_of_le hqs.2.2 hn1
        simp -dsimp -implicitDefEqProofs (disch := omega) only [↓wpre, push_cast, reduceCtorEq, ↓reduceIte, Nat.reduceEqDiff, Nat.reduceLeDiff, Nat.reduceAdd, Nat.reduceLT, Int.reduceEq, Int.reduceLT, Int.reduceLE, Int.reduceNeg, Int.reduceAdd, hh, hlt, hR, hg, Int.toNat_natCast, hu_hu]
        refine AFn.x (hp _ y (by rw [hu_ne (by have := hlow i oq hiq; omega)]; exact hq2)) fun n2 hn2 => ?_
        have hR2 : ∀ v, hu H' n1 v o = some ⟨32, 2, (kept ++ z :: (junk ++ y :: b)).map Idn.c⟩ := fun v => by rw [hu_ne (by omega)]; exact hR
        simp -dsimp -implicitDefEqProofs (disch := omega) only [↓wpre, push_cast, reduceCtorEq, ↓reduceIte, Nat.reduceEqDiff, Nat.reduceLeDiff, Nat.reduceAdd, Nat.reduceLT, Int.reduceEq, Int.reduceLT, Int.reduceLE, Int.reduceNeg, Int.reduceAdd, hh]
        by_cases hc : p y = true
        · have hfy : (a ++ [y]).filter (fun x => !p x) = kept := by rw [List.filter_append, hf]; simp [hc]
          simp -dsimp -implicitDefEqProofs (disch := omega) only [↓wpre, push_cast, reduceCtorEq, ↓reduceIte, Nat.reduceEqDiff, Nat.reduceLeDiff, Nat.reduceAdd, Nat.reduceLT, Int.reduceEq, Int.reduceLT, Int.reduceLE, Int.reduceNeg, Int.reduceAdd, hh, hc]
          refine againJ (a ++ [y], kept, z :: (junk ++ [y]), b) (Nat.lt_succ_self _) ⟨by simp, hfy, by simp only [List.length_append, List.length_cons, List.length_nil]; omega, by simp, by rw [hR2]; simp, hqs.new hn1, by omega⟩ (by simp -dsimp -implicitDefEqProofs (disch := omega) only [↓wpre, push_cast, reduceCtorEq, ↓reduceIte, Nat.reduceEqDiff, Nat.reduceLeDiff, Nat.reduceAdd, Nat.reduceLT, Int.reduceEq, Int.reduceLT, Int.reduceLE, Int.reduceNeg, Int.reduceAdd, hh]; try simp)
        · have hc : p y = false := by simpa using hc
          have hfy : (a ++ [y]).filter (fun x => !p x) = kept ++ [y] := by rw [List.filter_append, hf]; simp [hc]
          simp -dsimp -implicitDefEqProofs (disch := omega) only [↓wpre, push_cast, reduceCtorEq, ↓reduceIte, Nat.reduceEqDiff, Nat.reduceLeDiff, Nat.reduceAdd, Nat.reduceLT, Int.reduceEq, Int.reduceLT, Int.reduceLE, Int.reduceNeg, Int.reduceAdd, hh, hc, hR2, hg2, hset, Int.toNat_natCast]
          refine againJ (a ++ [y], kept ++ [y], junk ++ [y], b) (Nat.lt_succ_self _) ⟨by simp, hfy, by simp only [List.length_append, List.length_cons, List.length_nil]; omega, by simp, by rw [hu_same]; simp, (hqs.new hn1).put, by omega⟩ (by simp -dsimp -implicitDefEqProofs (disch := omega) only [↓wpre, push_cast, reduceCtorEq, ↓reduceIte, Nat.reduceEqDiff, Nat.reduceLeDiff, Nat.reduceAdd, Nat.reduceLT, Int.reduceEq, Int.reduceLT, Int.reduceLE, Int.reduceNeg, Int.reduceAdd, hh]; try simp)
end Go.Proofs.YthcedgclhoggcaaGreatDoor

set_option linter.unusedSimpArgs false
set_option linter.unusedVariables false
set_option maxRecDepth 20000
set_option pp.deepTerms false
set_option pp.deepTerms.threshold 3
namespace Go.Proofs.YthcedgclhoggcaaGreatDoor
open Go Go.Ab Go.Pm Go.Cm
variable (G : Nat → AV) (H : Nat → Option AObj)
/-! Audience. -/
theorem mayNot_c (q : Q) (nz : Bool) (l : List Stm) (x : Idn) (n : Nat) (hn : H n = some ⟨85, 5, [q.c]⟩) (hl : l.length ≤ 19) (hpl : q.p.length ≤ 1000000) (h0 : checkAll q l 1 [x] = 0 ∨ (Cm.check q.p l = 0 ∧ q.check = 0)) :
    AFn Tryz.prog G 70 [.agg x.c, .op n 0 0, .pp [.ls nz (l.map Stm.c)], .pp [.int q.at']] H (.bool (!(answer q l x q.at').may)) := by
  refine AFn.start mix F70 (by simp) fun k hlow => ?_
  have h1 : Cm.check q.p l = 0 := by rcases h0 with h | h; grind [checkAll]; exact h.1
  have h2 : q.check = 0 := by rcases h0 with h | h; grind [checkAll]; exact h.2
  have h3 := check_all h1
  have h4 := checkPolicy_all h3.1
  have h5 := qcheck_all h2
  simp -dsimp -implicitDefEqProofs (disch := omega) only [↓wpre, push_cast, reduceCtorEq, ↓reduceIte, Nat.reduceEqDiff, Nat.reduceLeDiff, Nat.reduceAdd, Nat.reduceLT, Int.reduceEq, Int.reduceLT, Int.reduceLE, Int.reduceNeg, Int.reduceAdd, c70, hn]
  refine xfn_intro (ask_c G _ nz q l x hl hpl (fun p hp => by have := (h4 p hp).1; omega)) ?_
  simp -dsimp -implicitDefEqProofs (disch := omega) only [↓wpre, push_cast, reduceCtorEq, ↓reduceIte, Nat.reduceEqDiff, Nat.reduceLeDiff, Nat.reduceAdd, Nat.reduceLT, Int.reduceEq, Int.reduceLT, Int.reduceLE, Int.reduceNeg, Int.reduceAdd, lsOf]
  refine xfn_intro (answer_c G _ _ (termOf q.p q.purpose q.region q.channel) q.purpose (saidBy l x q.channel) q.at' (by rw [saidBy, isort_length]; exact Nat.le_trans (List.length_filter_le _ _) (by omega)) (fun u hu => ?_) (fun s hs => ?_) (by omega)) ?_
  · obtain ⟨p, hp, ht⟩ := termOf_mem hu
    have := (h4 p hp).2 u ht
    omega
  · have := h3.2 s (saidBy_mem hs)
    omega
  · simp -dsimp -implicitDefEqProofs (disch := omega) only [↓wpre, push_cast, reduceCtorEq, ↓reduceIte, Nat.reduceEqDiff, Nat.reduceLeDiff, Nat.reduceAdd, Nat.reduceLT, Int.reduceEq, Int.reduceLT, Int.reduceLE, Int.reduceNeg, Int.reduceAdd, true_and]
    refine anyN_intro fun n3 hn3 => ?_
    simp -dsimp -implicitDefEqProofs (disch := omega) only [↓wpre, push_cast, reduceCtorEq, ↓reduceIte, Nat.reduceEqDiff, Nat.reduceLeDiff, Nat.reduceAdd, Nat.reduceLT, Int.reduceEq, Int.reduceLT, Int.reduceLE, Int.reduceNeg, Int.reduceAdd, true_and]
    first | rfl | exact ⟨rfl, Sub.refl _⟩
set_option maxHeartbeats 800000 in
theorem audience_run (hG : GOk G) (nzp nz nzi : Bool) (p : List Purpose) (l : List Stm) (ids : List Idn) (purpose region : T) (channel at' : Int) (hP : SmallP p) (hpl : p.length ≤ 1000000) (hS : SmallS l) (hl : l.length ≤ 19) (hr : region.size ≤ 9223372036854775807) (hil : ids.length ≤ 1000000) (hx : ∀ x ∈ ids, x.text.size < 4294967281) (n : Nat) :
    ACalls Tryz.prog G 33 [.ls nzp (p.map Purpose.c), .ls nz (l.map Stm.c), .ls nzi (ids.map Idn.c), .str purpose, .str region, .int channel, .int at'] H n fun r H' n' => Sub H H' := by
  refine ACalls.start mix F33 (by simp) fun hlow => ?_
  generalize hq : (⟨p, nzp, purpose, region, channel, at'⟩ : Q) = q
  have e1 : q.p = p := by rw [← hq]
  have e2 : q.nz = nzp := by rw [← hq]
  have e3 : q.purpose = purpose := by rw [← hq]
  have e4 : q.region = region := by rw [← hq]
  have e5 : q.channel = channel := by rw [← hq]
  have e6 : q.at' = at' := by rw [← hq]
  clear hq
  subst e1 e2 e3 e4 e5 e6
  have hq := Qt.refl hlow
  obtain ⟨m, cs, hGm⟩ := hG.maxLen
  have hchk : ∀ H, AFn Tryz.prog G 40 [.agg q.c, .ls nz (l.map Stm.c), .int 2000, .ls nzi (ids.map Idn.c)] H (.int (checkAll q l 2000 ids)) := fun H => checkAll_c G H hGm nz nzi q l 2000 ids hP hpl hS hr hil hx
  simp -dsimp -implicitDefEqProofs (disch := omega) only [↓wpre, push_cast, reduceCtorEq, ↓reduceIte, Nat.reduceEqDiff, Nat.reduceLeDiff, Nat.reduceAdd, Nat.reduceLT, Int.reduceEq, Int.reduceLT, Int.reduceLE, Int.reduceNeg, Int.reduceAdd, c33]
  refine (hchk _).x fun n1 hn1 => ?_
  by_cases h0 : checkAll q l 2000 ids = 0
  case neg =>
    simp -dsimp -implicitDefEqProofs (disch := omega) only [↓wpre, push_cast, reduceCtorEq, ↓reduceIte, Nat.reduceEqDiff, Nat.reduceLeDiff, Nat.reduceAdd, Nat.reduceLT, Int.reduceEq, Int.reduceLT, Int.reduceLE, Int.reduceNeg, Int.reduceAdd, h0]
    exact fin_intro (Sub.refl _) (by exact (Qt.mono (n := n) (by repeat (first | exact hq | refine Qt.hu ?_ (by omega))) (Nat.le_refl _)).1)
  have h1 : Cm.check q.p l = 0 := by grind [checkAll]
  have h2 : q.check = 0 := by grind [checkAll]
  simp -dsimp -implicitDefEqProofs (disch := omega) only [↓wpre, push_cast, reduceCtorEq, ↓reduceIte, Nat.reduceEqDiff, Nat.reduceLeDiff, Nat.reduceAdd, Nat.reduceLT, Int.reduceEq, Int.reduceLT, Int.reduceLE, Int.reduceNeg, Int.reduceAdd, h0]
  refine (once_run G _ nzi ids hil _).le.x fun r H2 n2 ⟨⟨oid, hr1, ho, hs⟩, hn2⟩ => ?_
  subst hr1
  have hqn : H2 n = some ⟨85, 5, [q.c]⟩ := hs n _ (by simp -dsimp -implicitDefEqProofs (disch := omega) only [↓wpre, push_cast, reduceCtorEq, ↓reduceIte, Nat.reduceEqDiff, Nat.reduceLeDiff, Nat.reduceAdd, Nat.reduceLT, Int.reduceEq, Int.reduceLT, Int.reduceLE, Int.reduceNeg, Int.reduceAdd, true_and])
  have hsH : Sub H H2 := (show Sub H _ by exact (Qt.mono (n := n) (by repeat (first | exact hq | refine Qt.hu ?_ (by omega))) (Nat.le_refl _)).1).trans hs
  cases oid with
  | none =>
    have hnil : onceL ids = [] := by
      have : (onceL ids).map Idn.c = [] := ho
      simpa using this
    simp -dsimp -implicitDefEqProofs (disch := omega) only [↓wpre, push_cast, reduceCtorEq, ↓reduceIte, Nat.reduceEqDiff, Nat.reduceLeDiff, Nat.reduceAdd, Nat.reduceLT, Int.reduceEq, Int.reduceLT, Int.reduceLE, Int.reduceNeg, Int.reduceAdd, outAV, hnil]
    refine AFn.x (deleteNilIds_c G _ 70 _) fun n3 hn3 => ?_
    simp -dsimp -implicitDefEqProofs (disch := omega) only [↓wpre, push_cast, reduceCtorEq, ↓reduceIte, Nat.reduceEqDiff, Nat.reduceLeDiff, Nat.reduceAdd, Nat.reduceLT, Int.reduceEq, Int.reduceLT, Int.reduceLE, Int.reduceNeg, Int.reduceAdd, true_and]
    exact fin_intro (Sub.refl _) hsH
  | some o =>
    obtain ⟨o1, o2, o3⟩ := ho
    have hol := onceL_len ids
    simp -dsimp -implicitDefEqProofs (disch := omega) only [↓wpre, push_cast, reduceCtorEq, ↓reduceIte, Nat.reduceEqDiff, Nat.reduceLeDiff, Nat.reduceAdd, Nat.reduceLT, Int.reduceEq, Int.reduceLT, Int.reduceLE, Int.reduceNeg, Int.reduceAdd, outAV]
    refine (deleteIds_c G _ o n ⟨85, 5, [q.c]⟩ (by omega) hqn (onceL ids) (by omega) 70 [.op n 0 0, .pp [.ls nz (l.map Stm.c)], .pp [.int q.at']] (fun x => !(answer q l x q.at').may) (fun H3 x h3 => mayNot_c G H3 q nz l x n h3 hl hpl (.inr ⟨h1, h2⟩)) o1 _).x fun r H3 n3 ⟨hr2, jr, hs3⟩ => ?_
    subst hr2
    simp -dsimp -implicitDefEqProofs (disch := omega) only [↓wpre, push_cast, reduceCtorEq, ↓reduceIte, Nat.reduceEqDiff, Nat.reduceLeDiff, Nat.reduceAdd, Nat.reduceLT, Int.reduceEq, Int.reduceLT, Int.reduceLE, Int.reduceNeg, Int.reduceAdd, true_and]
    refine fin_intro (Sub.refl _) (fun j y hj => hs3 j y ?_)
    have hjo : j ≠ o := fun e => by
      have := hlow j y hj
      omega
    rw [hu_ne hjo]
    exact hsH j y hj
end Go.Proofs.YthcedgclhoggcaaGreatDoor

