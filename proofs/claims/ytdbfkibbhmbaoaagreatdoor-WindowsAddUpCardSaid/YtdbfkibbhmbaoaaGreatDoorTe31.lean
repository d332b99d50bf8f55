/- Contracts of functions of the program: each computes what its model says; the conditions stand at each. -/
import Derived.Test.YtdbfkibbhmbaoaaGreatDoorTe27
set_option linter.unusedSimpArgs false
set_option linter.unusedVariables false
set_option maxRecDepth 20000
set_option pp.deepTerms false
set_option pp.deepTerms.threshold 4
namespace Go.Proofs.YtdbfkibbhmbaoaaGreatDoor
open Go Go.Ab Go.Pm Go.Cm Go.El Go.Em Go.Rm
variable (G : Nat → AV) (H : Nat → Option AObj)
theorem checkWindow_c (a b : Int) (h : 0 ≤ a ∧ a ≤ b ∧ b ≤ 4321440) : AFn Tryz.prog G 111 [.agg [.int a, .int b]] H (.int 0) := by
  refine AFn.start mix F111 (by simp) fun k hlow => ?_
  have h1 : ¬ a < 0 := by omega
  have h2 : ¬ b < a := by omega
  have h3 : ¬ 4321440 < b := by omega
  simp -dsimp -implicitDefEqProofs (disch := omega) only [↓wpre, push_cast, reduceCtorEq, ↓reduceIte, Nat.reduceEqDiff, Nat.reduceLeDiff, Nat.reduceAdd, Nat.reduceLT, Int.reduceEq, Int.reduceLT, Int.reduceLE, Int.reduceNeg, Int.reduceAdd, c111, h1, h2, h3]
theorem checkNamed_c (hU : GU G) (nz nz' : Bool) (l : List Evt) (hg : Em.Good l) (a b : Int) (h : 0 ≤ a ∧ a ≤ b ∧ b ≤ 4321440) (ns : List T) (hns : ∀ s ∈ ns, isKey s = true ∧ s.size ≤ 1000) (hnl : ns.length ≤ 100) : AFn Tryz.prog G 50 [.ls nz (l.map Evt.c), .agg [.int a, .int b], LS nz' ns] H (.int 0) := by
  refine AFn.start mix F50 (by simp) fun k hlow => ?_
  simp -dsimp -implicitDefEqProofs (disch := omega) only [↓wpre, push_cast, reduceCtorEq, ↓reduceIte, Nat.reduceEqDiff, Nat.reduceLeDiff, Nat.reduceAdd, Nat.reduceLT, Int.reduceEq, Int.reduceLT, Int.reduceLE, Int.reduceNeg, Int.reduceAdd, c50]
  (first | with_reducible refine (check_c _ _ hU nz l hg).x fun n' hn' => ?_ | with_reducible refine xfn_intro (check_c _ _ hU nz l hg) ?_); try simp -dsimp -implicitDefEqProofs (disch := omega) only [↓wpre, push_cast, reduceCtorEq, ↓reduceIte, Nat.reduceEqDiff, Nat.reduceLeDiff, Nat.reduceAdd, Nat.reduceLT, Int.reduceEq, Int.reduceLT, Int.reduceLE, Int.reduceNeg, Int.reduceAdd, true_and]
  refine xw_loopJ (σ := List T × List T) (fun t => [(4, .pp [.int a, .int b]), (15, LS nz' ns), (16, .int ns.length), (17, .int t.1.length)]) (fun t H' n' => ns = t.1 ++ t.2 ∧ Qt H H' k) (fun t => t.2.length) ([], ns) ⟨rfl, .refl hlow⟩ (by simp -dsimp -implicitDefEqProofs (disch := omega) only [↓wpre, push_cast, reduceCtorEq, ↓reduceIte, Nat.reduceEqDiff, Nat.reduceLeDiff, Nat.reduceAdd, Nat.reduceLT, Int.reduceEq, Int.reduceLT, Int.reduceLE, Int.reduceNeg, Int.reduceAdd]) ?_
  rintro ⟨d, r⟩ fr H' n1 ⟨hab, hq⟩ hh
  simp only [has_nil, has_cons, and_true] at hh hab
  have hll : ns.length = d.length + r.length := by rw [hab]; simp
  cases r with
  | nil =>
    have hlt : ¬ (d.length : Int) < ns.length := by rw [hll]; simp
    simp -dsimp -implicitDefEqProofs (disch := omega) only [↓wpre, push_cast, reduceCtorEq, ↓reduceIte, Nat.reduceEqDiff, Nat.reduceLeDiff, Nat.reduceAdd, Nat.reduceLT, Int.reduceEq, Int.reduceLT, Int.reduceLE, Int.reduceNeg, Int.reduceAdd, hh, hlt]
    (first | with_reducible refine (checkWindow_c _ _ a b h).x fun n' hn' => ?_ | with_reducible refine xfn_intro (checkWindow_c _ _ a b h) ?_); try simp -dsimp -implicitDefEqProofs (disch := omega) only [↓wpre, push_cast, reduceCtorEq, ↓reduceIte, Nat.reduceEqDiff, Nat.reduceLeDiff, Nat.reduceAdd, Nat.reduceLT, Int.reduceEq, Int.reduceLT, Int.reduceLE, Int.reduceNeg, Int.reduceAdd, true_and]
    exact (Qt.mono (n := k) (by repeat (first | exact hq | refine Qt.hu ?_ (by omega))) (Nat.le_refl _)).1
  | cons s r =>
    have hlt : (d.length : Int) < ns.length := by rw [hll]; simp only [List.length_cons]; omega
    have hx : ns[d.length]? = some s := by rw [hab]; simp
    obtain ⟨hk, hs⟩ := hns s (by rw [hab]; simp)
    simp -dsimp -implicitDefEqProofs (disch := omega) only [↓wpre, push_cast, reduceCtorEq, ↓reduceIte, Nat.reduceEqDiff, Nat.reduceLeDiff, Nat.reduceAdd, Nat.reduceLT, Int.reduceEq, Int.reduceLT, Int.reduceLE, Int.reduceNeg, Int.reduceAdd, hh, hlt, even_txts, aidx_at rfl hx]
    (first | with_reducible refine (isKey_c _ _ s (by omega)).x fun n' hn' => ?_ | with_reducible refine xfn_intro (isKey_c _ _ s (by omega)) ?_); try simp -dsimp -implicitDefEqProofs (disch := omega) only [↓wpre, push_cast, reduceCtorEq, ↓reduceIte, Nat.reduceEqDiff, Nat.reduceLeDiff, Nat.reduceAdd, Nat.reduceLT, Int.reduceEq, Int.reduceLT, Int.reduceLE, Int.reduceNeg, Int.reduceAdd, hh, hk]
    refine againJ (d ++ [s], r) (Nat.lt_succ_self _) ⟨by rw [hab]; simp, by exact Qt.mono (n := k) (by repeat (first | exact hq | refine Qt.hu ?_ (by omega))) (by omega)⟩ (by simp -dsimp -implicitDefEqProofs (disch := omega) only [↓wpre, push_cast, reduceCtorEq, ↓reduceIte, Nat.reduceEqDiff, Nat.reduceLeDiff, Nat.reduceAdd, Nat.reduceLT, Int.reduceEq, Int.reduceLT, Int.reduceLE, Int.reduceNeg, Int.reduceAdd, hh])
theorem named_run (nz : Bool) (l : List Evt) (hl : l.length ≤ 5000) (name : T) (a b : Int) (n : Nat) : ACalls Tryz.prog G 52 [.ls nz (l.map Evt.c), .str name, .agg [.int a, .int b]] H n fun r H' n' => ∃ oid, r = outAV oid (namedE l name a b).length ∧ OutIs n H' oid 42 6 ((namedE l name a b).map Evt.c) n' ∧ (oid ≠ none → namedE l name a b ≠ []) ∧ Sub H H' := by
  refine ACalls.start mix F52 (by simp) fun hlow => ?_
  simp -dsimp -implicitDefEqProofs (disch := omega) only [↓wpre, push_cast, reduceCtorEq, ↓reduceIte, Nat.reduceEqDiff, Nat.reduceLeDiff, Nat.reduceAdd, Nat.reduceLT, Int.reduceEq, Int.reduceLT, Int.reduceLE, Int.reduceNeg, Int.reduceAdd, c52]
  refine xw_loopJ (σ := List Evt × List Evt × Option Nat) (fun t => [(1, .str name), (5, .pp [.int a, .int b]), (7, outAV t.2.2 (namedE t.1 name a b).length), (10, .ls nz (l.map Evt.c)), (11, .int l.length), (12, .int t.1.length)]) (fun t H' n' => l = t.1 ++ t.2.1 ∧ OutIs n H' t.2.2 42 6 ((namedE t.1 name a b).map Evt.c) n' ∧ (t.2.2 ≠ none → namedE t.1 name a b ≠ []) ∧ Qt H H' n ∧ n ≤ n') (fun t => t.2.1.length) ([], l, none) ⟨rfl, rfl, fun h => (h rfl).elim, .refl hlow, by omega⟩ (by simp -dsimp -implicitDefEqProofs (disch := omega) only [↓wpre, push_cast, reduceCtorEq, ↓reduceIte, Nat.reduceEqDiff, Nat.reduceLeDiff, Nat.reduceAdd, Nat.reduceLT, Int.reduceEq, Int.reduceLT, Int.reduceLE, Int.reduceNeg, Int.reduceAdd, outAV, namedE, List.filter_nil]) ?_
  rintro ⟨d, r, oid⟩ fr H' n1 ⟨hab, ho, hne, hq, hn⟩ hh
  simp only [has_nil, has_cons, and_true] at hh hab ho hne
  have hll : l.length = d.length + r.length := by rw [hab]; simp
  cases r with
  | nil =>
    have hlt : ¬ (d.length : Int) < l.length := by rw [hll]; simp
    rw [List.append_nil] at hab
    subst hab
    simp -dsimp -implicitDefEqProofs (disch := omega) only [↓wpre, push_cast, reduceCtorEq, ↓reduceIte, Nat.reduceEqDiff, Nat.reduceLeDiff, Nat.reduceAdd, Nat.reduceLT, Int.reduceEq, Int.reduceLT, Int.reduceLE, Int.reduceNeg, Int.reduceAdd, hh, hlt]
    exact fin_intro (Sub.refl _) ⟨oid, rfl, ho, hne, hq.1⟩
  | cons e r =>
    have hlt : (d.length : Int) < l.length := by rw [hll]; simp only [List.length_cons]; omega
    have hx : l[d.length]? = some e := by rw [hab]; simp
    have hfl : (namedE d name a b).length ≤ 5000 := by have := List.length_filter_le (inW name a b) d; unfold namedE; omega
    have hsn : namedE (d ++ [e]) name a b = namedE d name a b ++ (if inW name a b e then [e] else []) := by
      unfold namedE; rw [List.filter_append]; congr 1; rw [List.filter_cons, List.filter_nil]
    simp -dsimp -implicitDefEqProofs (disch := omega) only [↓wpre, push_cast, reduceCtorEq, ↓reduceIte, Nat.reduceEqDiff, Nat.reduceLeDiff, Nat.reduceAdd, Nat.reduceLT, Int.reduceEq, Int.reduceLT, Int.reduceLE, Int.reduceNeg, Int.reduceAdd, hh, hlt, even_evts, aidx_at rfl hx]
    by_cases hin : inW name a b e = true
    · rw [hin, if_pos rfl] at hsn
      have hin' := hin
      simp only [inW, Bool.and_eq_true, decide_eq_true_eq] at hin'
      obtain ⟨q1, q2, q3⟩ := hin'
      have q1' : decide (e.name = name) = true := by simp [q1]
      simp -dsimp -implicitDefEqProofs (disch := omega) only [↓wpre, push_cast, reduceCtorEq, ↓reduceIte, Nat.reduceEqDiff, Nat.reduceLeDiff, Nat.reduceAdd, Nat.reduceLT, Int.reduceEq, Int.reduceLT, Int.reduceLE, Int.reduceNeg, Int.reduceAdd, hh, q1', q2, q3]
      refine xapp_out (n0 := n) (i := oid) (rows := (namedE d name a b).map Evt.c) (n := n1 + 1) (by (refine OutIs.mono (n := n1) ?_ (by omega); repeat (first | exact ho | refine OutIs.put ?_ (by omega) | refine OutIs.far ?_ (by omega)))) (by simp) (by intro r hr; simp at hr; subst hr; exact ⟨rfl, rfl⟩) (by simp; omega) ?_
      simp -dsimp -implicitDefEqProofs (disch := omega) only [↓wpre, push_cast, reduceCtorEq, ↓reduceIte, Nat.reduceEqDiff, Nat.reduceLeDiff, Nat.reduceAdd, Nat.reduceLT, Int.reduceEq, Int.reduceLT, Int.reduceLE, Int.reduceNeg, Int.reduceAdd, hh]
      refine againJ (d ++ [e], r, some (n1 + 1)) (Nat.lt_succ_self _) ⟨by rw [hab]; simp, ?_, fun _ => by rw [hsn]; simp, ?_, by omega⟩ (by simp -dsimp -implicitDefEqProofs (disch := omega) only [↓wpre, push_cast, reduceCtorEq, ↓reduceIte, Nat.reduceEqDiff, Nat.reduceLeDiff, Nat.reduceAdd, Nat.reduceLT, Int.reduceEq, Int.reduceLT, Int.reduceLE, Int.reduceNeg, Int.reduceAdd, hh, hsn])
      · rw [hsn, List.map_append, List.map_cons, List.map_nil]; exact (show OutIs n _ (some (n1 + 1)) 42 6 _ _ from ⟨hu_same, by omega, by omega⟩)
      · refine Qt.hu ?_ (by omega)
        exact Qt.dropO (E := 42) (sz := 6) (n := n1 + 1) (rows := (namedE d name a b).map Evt.c) (by (refine OutIs.mono (n := n1) ?_ (by omega); repeat (first | exact ho | refine OutIs.put ?_ (by omega) | refine OutIs.far ?_ (by omega)))) (by exact Qt.mono (n := n) (by repeat (first | exact hq | refine Qt.hu ?_ (by omega))) (by omega))
    · have hin' : inW name a b e = false := by simpa using hin
      rw [hin', if_neg (by simp), List.append_nil] at hsn
      simp only [inW, Bool.and_eq_false_iff, decide_eq_false_iff_not] at hin'
      repeat' (first | ((first | with_reducible refine cnd_ndec (fun hc => ?_) (fun hc => ?_) | with_reducible refine cnd_dec (fun hc => ?_) (fun hc => ?_) | with_reducible refine cnd_nb (fun hc => ?_) (fun hc => ?_) | with_reducible refine cnd_intro (fun hc => ?_) (fun hc => ?_)) <;> (first | (exfalso; omega) | (try simp -dsimp -implicitDefEqProofs (disch := omega) only [↓wpre, push_cast, reduceCtorEq, ↓reduceIte, Nat.reduceEqDiff, Nat.reduceLeDiff, Nat.reduceAdd, Nat.reduceLT, Int.reduceEq, Int.reduceLT, Int.reduceLE, Int.reduceNeg, Int.reduceAdd, hc, hh]))) | (with_reducible refine anyN_intro fun n' hn' => ?_; try simp -dsimp -implicitDefEqProofs (disch := omega) only [↓wpre, push_cast, reduceCtorEq, ↓reduceIte, Nat.reduceEqDiff, Nat.reduceLeDiff, Nat.reduceAdd, Nat.reduceLT, Int.reduceEq, Int.reduceLT, Int.reduceLE, Int.reduceNeg, Int.reduceAdd, hh]) | fail)
      all_goals first
        | (exfalso; rcases hin' with h | h | h <;> first | exact h ‹_› | omega)
        | refine againJ (d ++ [e], r, oid) (Nat.lt_succ_self _) ⟨by rw [hab]; simp, by rw [hsn]; (refine OutIs.mono (n := n1) ?_ (by omega); repeat (first | exact ho | refine OutIs.put ?_ (by omega) | refine OutIs.far ?_ (by omega))), by rw [hsn]; exact hne, by exact Qt.mono (n := n) (by repeat (first | exact hq | refine Qt.hu ?_ (by omega))) (by omega), by omega⟩ (by simp -dsimp -implicitDefEqProofs (disch := omega) only [↓wpre, push_cast, reduceCtorEq, ↓reduceIte, Nat.reduceEqDiff, Nat.reduceLeDiff, Nat.reduceAdd, Nat.reduceLT, Int.reduceEq, Int.reduceLT, Int.reduceLE, Int.reduceNeg, Int.reduceAdd, hh, hsn])
def lsOf (rows : List (List AV)) : AV := .ls (!rows.isEmpty) rows
theorem frz_out {oid : Option Nat} {E : TypeId} {sz n n0 : Nat} {rows : List (List AV)} {H1 : Nat → Option AObj} (hlow : Low H n0) (ho : OutIs n0 H1 oid E sz rows n) (hne : oid ≠ none → rows ≠ []) (hs : Sub H H1) (len : Nat) (hl : len = rows.length) :
    ∃ D, Sub D H1 ∧ (∀ i o, D i = some o → H i = none) ∧ ∀ k, frz D (k + 1) (outAV oid len) = .ls (!rows.isEmpty) (rows.map (List.map (frz D k))) := by
  subst hl
  cases oid with
  | none =>
    have ho : rows = [] := ho
    subst ho
    exact ⟨noObj, fun i o h => (by cases h), fun i o h => (by cases h), fun k => rfl⟩
  | some o =>
    obtain ⟨h1, h2, h3⟩ := ho
    refine ⟨Ab.only o ⟨E, sz, rows⟩, only_sub h1, fun j x hj => ?_, fun k => ?_⟩
    · unfold Ab.only at hj
      split at hj
      · rename_i e; subst e
        cases hx : H j with
        | none => rfl
        | some y => exact absurd (hlow j y hx) (by omega)
      · cases hj
    · have hr : (!rows.isEmpty) = true := by
        cases rows with
        | nil => exact absurd rfl (hne (by simp))
        | cons r rs => rfl
      simp only [outAV, frz, Ab.only, if_true, Nat.zero_add, Nat.le_refl, List.drop_zero, List.take_length, hr]
theorem named_c (nz : Bool) (l : List Evt) (hl : l.length ≤ 5000) (name : T) (a b : Int) : AFn Tryz.prog G 52 [.ls nz (l.map Evt.c), .str name, .agg [.int a, .int b]] H (lsOf ((namedE l name a b).map Evt.c)) := by
  intro n
  refine low_of G H fun hlow => ACalls.frz (named_run G H nz l hl name a b n) ?_
  rintro r H1 n1 ⟨oid, rfl, ho, hne, hs⟩
  obtain ⟨D, d1, d2, d3⟩ := frz_out H hlow ho (fun h => by simpa using hne h) hs (namedE l name a b).length (by simp)
  refine ⟨D, H, 2, d1, hs, d2, ?_, rfl⟩
  rw [d3, evts_frz]
  rfl
theorem cloneF_c (nz : Bool) (l : List Fld) (hl : l.length ≤ 100000) (hz : nz = false → l = []) : AFn Tryz.prog G 73 [.ls nz (l.map Fld.c)] H (.ls nz (l.map Fld.c)) := by
  cases nz with
  | false =>
    obtain rfl := hz rfl
    refine AFn.start mix F73 (by simp) fun k hlow => ?_
    simp -dsimp -implicitDefEqProofs (disch := omega) only [↓wpre, push_cast, reduceCtorEq, ↓reduceIte, Nat.reduceEqDiff, Nat.reduceLeDiff, Nat.reduceAdd, Nat.reduceLT, Int.reduceEq, Int.reduceLT, Int.reduceLE, Int.reduceNeg, Int.reduceAdd, c73]
    simp
  | true =>
    intro n
    refine low_of G H fun hlow => ACalls.frz (R := fun r H' n' => ∃ o, r = .os o 0 l.length ∧ H' o = some ⟨119, 4, l.map Fld.c⟩ ∧ n ≤ o ∧ Sub H H') ?_ ?_
    · refine ACalls.start mix F73 (by simp) fun hlow => ?_
      have hq := Qt.refl hlow
      simp -dsimp -implicitDefEqProofs (disch := omega) only [↓wpre, push_cast, reduceCtorEq, ↓reduceIte, Nat.reduceEqDiff, Nat.reduceLeDiff, Nat.reduceAdd, Nat.reduceLT, Int.reduceEq, Int.reduceLT, Int.reduceLE, Int.reduceNeg, Int.reduceAdd, c73]
      have hsrc : ∀ H' : Nat → Option AObj, srcRows H' (.ls true (l.map Fld.c)) = some (l.map Fld.c) := fun H' => rfl
      cases l with
      | nil =>
        rw [xapp_zero (hsrc _)]
        simp -dsimp -implicitDefEqProofs (disch := omega) only [↓wpre, push_cast, reduceCtorEq, ↓reduceIte, Nat.reduceEqDiff, Nat.reduceLeDiff, Nat.reduceAdd, Nat.reduceLT, Int.reduceEq, Int.reduceLT, Int.reduceLE, Int.reduceNeg, Int.reduceAdd, true_and]
        exact fin_intro (Sub.refl _) ⟨n, rfl, hu_same, Nat.le_refl _, hq.1.hu hlow (Nat.le_refl _)⟩
      | cons x l =>
        rw [xapp_src (ho := hu_same) (by simp) (hsrc _) (by have := even_flds (x :: l); simpa using this) (by simp) (by simp at hl ⊢; omega)]
        simp -dsimp -implicitDefEqProofs (disch := omega) only [↓wpre, push_cast, reduceCtorEq, ↓reduceIte, Nat.reduceEqDiff, Nat.reduceLeDiff, Nat.reduceAdd, Nat.reduceLT, Int.reduceEq, Int.reduceLT, Int.reduceLE, Int.reduceNeg, Int.reduceAdd, true_and]
        refine fin_intro (Sub.refl _) ⟨n + 1, by simp, hu_same, by omega, ((hq.1.hu hlow (Nat.le_refl _)).hu hlow (Nat.le_refl _)).hu hlow (by omega)⟩
    · rintro r H1 n1 ⟨o, rfl, h1, h2, hs⟩
      refine ⟨Ab.only o ⟨119, 4, l.map Fld.c⟩, H, 1, only_sub h1, hs, fun j x hj => ?_, ?_, rfl⟩
      · unfold Ab.only at hj
        split at hj
        · rename_i e; subst e
          cases hx : H j with
          | none => rfl
          | some y => exact absurd (hlow j y hx) (by omega)
        · cases hj
      · exact frz_os_plain (plain_fld l) (by simp)
theorem AFn.vac {f : FuncId} {args : List AV} {v : AV} (h : ∀ w g vs, ¬ RepList w g args vs) : AFn Tryz.prog G f args H v := fun n w g vs _ _ _ _ h5 => (h w g _ h5).elim
theorem ls_false {w : World} {g : Gh} {rows : List (List AV)} {v : Value} (h : Rep w g (.ls false rows) v) : rows = [] := by
  obtain ⟨a, cap, _, _, _, h4, h5, _⟩ := h
  cases a with
  | none => exact (h5 rfl).2
  | some a => simp at h4
theorem evt_ok {w : World} {g : Gh} {e : Evt} {v : Value} (h : Rep w g (.agg e.c) v) : e.nz = false → e.fs = [] := fun hz => by
  obtain ⟨vs, _, h2⟩ := h
  obtain ⟨v, _, h3⟩ := RepList.get h2 5 (.ls e.nz (e.fs.map Fld.c)) rfl
  rw [hz] at h3
  simpa using ls_false h3
theorem copy_c (e : Evt) (hl : e.fs.length ≤ 100000) : AFn Tryz.prog G 75 [.agg e.c] H (.agg e.c) := by
  by_cases hz : e.nz = false → e.fs = []
  case neg => exact AFn.vac G H fun w g vs ⟨v, vs', _, h, _⟩ => hz (evt_ok h)
  refine AFn.start mix F75 (by simp) fun k hlow => ?_
  have hq := Qt.refl hlow
  simp -dsimp -implicitDefEqProofs (disch := omega) only [↓wpre, push_cast, reduceCtorEq, ↓reduceIte, Nat.reduceEqDiff, Nat.reduceLeDiff, Nat.reduceAdd, Nat.reduceLT, Int.reduceEq, Int.reduceLT, Int.reduceLE, Int.reduceNeg, Int.reduceAdd, c75]
  (first | with_reducible refine (cloneF_c _ _ e.nz e.fs hl hz).x fun n' hn' => ?_ | with_reducible refine xfn_intro (cloneF_c _ _ e.nz e.fs hl hz) ?_); try simp -dsimp -implicitDefEqProofs (disch := omega) only [↓wpre, push_cast, reduceCtorEq, ↓reduceIte, Nat.reduceEqDiff, Nat.reduceLeDiff, Nat.reduceAdd, Nat.reduceLT, Int.reduceEq, Int.reduceLT, Int.reduceLE, Int.reduceNeg, Int.reduceAdd, true_and]
  exact (Qt.mono (n := k) (by repeat (first | exact hq | refine Qt.hu ?_ (by omega))) (Nat.le_refl _)).1
theorem cloneEv_run (nz : Bool) (l : List Evt) (hl : l.length ≤ 100000) (hz : nz = false → l = []) (n : Nat) : ACalls Tryz.prog G 72 [.ls nz (l.map Evt.c)] H n fun r H' n' => ∃ oid, r = outAV oid l.length ∧ Sub H H' ∧ (oid = none ↔ nz = false) ∧ ∀ o, oid = some o → H' o = some ⟨42, 6, l.map Evt.c⟩ ∧ n ≤ o ∧ o < n' := by
  refine ACalls.start mix F72 (by simp) fun hlow => ?_
  have hq := Qt.refl hlow
  cases nz with
  | false =>
    obtain rfl := hz rfl
    simp -dsimp -implicitDefEqProofs (disch := omega) only [↓wpre, push_cast, reduceCtorEq, ↓reduceIte, Nat.reduceEqDiff, Nat.reduceLeDiff, Nat.reduceAdd, Nat.reduceLT, Int.reduceEq, Int.reduceLT, Int.reduceLE, Int.reduceNeg, Int.reduceAdd, c72]
    exact fin_intro (Sub.refl _) ⟨none, rfl, Sub.refl _, by simp, fun o h => (by cases h)⟩
  | true =>
    simp -dsimp -implicitDefEqProofs (disch := omega) only [↓wpre, push_cast, reduceCtorEq, ↓reduceIte, Nat.reduceEqDiff, Nat.reduceLeDiff, Nat.reduceAdd, Nat.reduceLT, Int.reduceEq, Int.reduceLT, Int.reduceLE, Int.reduceNeg, Int.reduceAdd, c72]
    have hsrc : ∀ H' : Nat → Option AObj, srcRows H' (.ls true (l.map Evt.c)) = some (l.map Evt.c) := fun H' => rfl
    cases l with
    | nil =>
      rw [xapp_zero (hsrc _)]
      simp -dsimp -implicitDefEqProofs (disch := omega) only [↓wpre, push_cast, reduceCtorEq, ↓reduceIte, Nat.reduceEqDiff, Nat.reduceLeDiff, Nat.reduceAdd, Nat.reduceLT, Int.reduceEq, Int.reduceLT, Int.reduceLE, Int.reduceNeg, Int.reduceAdd, true_and]
      exact fin_intro (Sub.refl _) ⟨some n, rfl, hq.1.hu hlow (Nat.le_refl _), by simp, fun o h => by cases h; exact ⟨hu_same, by omega, by omega⟩⟩
    | cons x l =>
      rw [xapp_src (ho := hu_same) (by simp) (hsrc _) (by have := even_evts (x :: l); simpa using this) (by simp) (by simp at hl ⊢; omega)]
      simp -dsimp -implicitDefEqProofs (disch := omega) only [↓wpre, push_cast, reduceCtorEq, ↓reduceIte, Nat.reduceEqDiff, Nat.reduceLeDiff, Nat.reduceAdd, Nat.reduceLT, Int.reduceEq, Int.reduceLT, Int.reduceLE, Int.reduceNeg, Int.reduceAdd, true_and]
      refine fin_intro (Sub.refl _) ⟨some (n + 1), by simp [outAV], ((hq.1.hu hlow (Nat.le_refl _)).hu hlow (Nat.le_refl _)).hu hlow (by omega), by simp, fun o h => ?_⟩
      cases h
      exact ⟨hu_same, by omega, by omega⟩
abbrev FineE (e : Evt) : Prop := e.fs.length ≤ 100000
theorem copyAll_run (nz : Bool) (l : List Evt) (hl : l.length ≤ 100000) (hz : nz = false → l = []) (hf : ∀ e ∈ l, FineE e) (n : Nat) : ACalls Tryz.prog G 51 [.ls nz (l.map Evt.c)] H n fun r H' n' => ∃ oid, r = outAV oid l.length ∧ Sub H H' ∧ (oid = none ↔ nz = false) ∧ ∀ o, oid = some o → H' o = some ⟨42, 6, l.map Evt.c⟩ ∧ n ≤ o ∧ o < n' := by
  refine ACalls.start mix F51 (by simp) fun hlow => ?_
  simp -dsimp -implicitDefEqProofs (disch := omega) only [↓wpre, push_cast, reduceCtorEq, ↓reduceIte, Nat.reduceEqDiff, Nat.reduceLeDiff, Nat.reduceAdd, Nat.reduceLT, Int.reduceEq, Int.reduceLT, Int.reduceLE, Int.reduceNeg, Int.reduceAdd, c51]
  refine (cloneEv_run G H nz l hl hz n).le.x fun r H1 n1 ⟨⟨oid, hr, hs, hnz, ho⟩, hn1⟩ => ?_
  subst hr
  have hlen : alen (outAV oid l.length) = some (.int l.length) := by
    cases oid with
    | none => obtain rfl := hz (hnz.1 rfl); rfl
    | some o => rfl
  simp -dsimp -implicitDefEqProofs (disch := omega) only [↓wpre, push_cast, reduceCtorEq, ↓reduceIte, Nat.reduceEqDiff, Nat.reduceLeDiff, Nat.reduceAdd, Nat.reduceLT, Int.reduceEq, Int.reduceLT, Int.reduceLE, Int.reduceNeg, Int.reduceAdd, hlen]
  refine xw_loopJ (σ := List Evt × List Evt) (fun t => [(3, outAV oid l.length), (8, outAV oid l.length), (9, .int l.length), (10, .int t.1.length)]) (fun t H' n' => l = t.1 ++ t.2 ∧ Qt H H' n ∧ n1 ≤ n' ∧ ∀ o, oid = some o → H' o = some ⟨42, 6, l.map Evt.c⟩ ∧ n ≤ o ∧ o < n1) (fun t => t.2.length) ([], l) ⟨rfl, ⟨hs, hlow⟩, by omega, ho⟩ (by simp -dsimp -implicitDefEqProofs (disch := omega) only [↓wpre, push_cast, reduceCtorEq, ↓reduceIte, Nat.reduceEqDiff, Nat.reduceLeDiff, Nat.reduceAdd, Nat.reduceLT, Int.reduceEq, Int.reduceLT, Int.reduceLE, Int.reduceNeg, Int.reduceAdd]) ?_
  rintro ⟨d, r⟩ fr H' n2 ⟨hab, hq, hn2, ho2⟩ hh
  simp only [has_nil, has_cons, and_true] at hh hab
  have hll : l.length = d.length + r.length := by rw [hab]; simp
  cases r with
  | nil =>
    have hlt : ¬ (d.length : Int) < l.length := by rw [hll]; simp
    simp -dsimp -implicitDefEqProofs (disch := omega) only [↓wpre, push_cast, reduceCtorEq, ↓reduceIte, Nat.reduceEqDiff, Nat.reduceLeDiff, Nat.reduceAdd, Nat.reduceLT, Int.reduceEq, Int.reduceLT, Int.reduceLE, Int.reduceNeg, Int.reduceAdd, hh, hlt]
    exact fin_intro (Sub.refl _) ⟨oid, rfl, hq.1, hnz, fun o h => by obtain ⟨q1, q2, q3⟩ := ho2 o h; exact ⟨q1, q2, by omega⟩⟩
  | cons e r =>
    have hlt : (d.length : Int) < l.length := by rw [hll]; simp only [List.length_cons]; omega
    have hx : l[d.length]? = some e := by rw [hab]; simp
    have he := hf e (by rw [hab]; simp)
    obtain ⟨o, rfl⟩ : ∃ o, oid = some o := by
      cases oid with
      | none => obtain rfl := hz (hnz.1 rfl); simp at hx
      | some o => exact ⟨o, rfl⟩
    obtain ⟨q1, q2, q3⟩ := ho2 o rfl
    have hon : o ≠ n2 := by omega
    have hxc : (l.map Evt.c)[d.length]? = some e.c := by rw [List.getElem?_map, hx]; rfl
    have hset : (l.map Evt.c).set d.length e.c = l.map Evt.c := by
      apply List.ext_getElem?
      intro i
      rw [List.getElem?_set]
      split
      · rename_i h; subst h
        split
        · exact hxc.symm
        · rw [List.getElem?_eq_none (by omega)]
      · rfl
    simp -dsimp -implicitDefEqProofs (disch := omega) only [↓wpre, push_cast, reduceCtorEq, ↓reduceIte, Nat.reduceEqDiff, Nat.reduceLeDiff, Nat.reduceAdd, Nat.reduceLT, Int.reduceEq, Int.reduceLT, Int.reduceLE, Int.reduceNeg, Int.reduceAdd, hh, hlt, outAV, q1, Int.toNat_natCast, hxc]
    (first | with_reducible refine (copy_c _ _ e he).x fun n' hn' => ?_ | with_reducible refine xfn_intro (copy_c _ _ e he) ?_); try simp -dsimp -implicitDefEqProofs (disch := omega) only [↓wpre, push_cast, reduceCtorEq, ↓reduceIte, Nat.reduceEqDiff, Nat.reduceLeDiff, Nat.reduceAdd, Nat.reduceLT, Int.reduceEq, Int.reduceLT, Int.reduceLE, Int.reduceNeg, Int.reduceAdd, hh, outAV, q1, Int.toNat_natCast, hxc, hset]
    refine againJ (d ++ [e], r) (Nat.lt_succ_self _) ⟨by rw [hab]; simp, by exact Qt.mono (n := n) (by repeat (first | exact hq | refine Qt.hu ?_ (by omega))) (by omega), by omega, fun o' h => by cases h; exact ⟨hu_same, q2, q3⟩⟩ (by simp -dsimp -implicitDefEqProofs (disch := omega) only [↓wpre, push_cast, reduceCtorEq, ↓reduceIte, Nat.reduceEqDiff, Nat.reduceLeDiff, Nat.reduceAdd, Nat.reduceLT, Int.reduceEq, Int.reduceLT, Int.reduceLE, Int.reduceNeg, Int.reduceAdd, hh, outAV])
theorem copyAll_c (l : List Evt) (hl : l.length ≤ 100000) (hf : ∀ e ∈ l, FineE e) : AFn Tryz.prog G 51 [lsOf (l.map Evt.c)] H (lsOf (l.map Evt.c)) := by
  intro n
  refine low_of G H fun hlow => ACalls.frz (copyAll_run G H (!(l.map Evt.c).isEmpty) l hl (by cases l <;> simp) hf n) ?_
  rintro r H1 n1 ⟨oid, rfl, hs, hnz, ho⟩
  obtain ⟨D, d1, d2, d3⟩ := frz_out (n := n1) H hlow (n0 := n) (oid := oid) (E := 42) (sz := 6) (rows := l.map Evt.c) (H1 := H1) (by
    cases oid with
    | none => have := hnz.1 rfl; cases l <;> simp_all [OutIs]
    | some o => exact ho o rfl) (fun h => by cases l <;> simp_all) hs l.length (by simp)
  refine ⟨D, H, 2, d1, hs, d2, ?_, rfl⟩
  rw [d3, evts_frz]
  rfl
theorem small_fine {l : List Evt} (h : ∀ e ∈ l, SmallE e) : ∀ e ∈ l, FineE e := fun e he => Nat.le_trans (h e he).2.2.2.1 (by decide)
theorem eventNamed_c (hU : GU G) (nz : Bool) (l : List Evt) (hg : Em.Good l) (name : T) (hk : isKey name = true ∧ name.size ≤ 1000) (a b : Int) (h : 0 ≤ a ∧ a ≤ b ∧ b ≤ 4321440) : AFn Tryz.prog G 16 [.ls nz (l.map Evt.c), .str name, .agg [.int a, .int b]] H (.tup [lsOf ((namedE l name a b).map Evt.c), .int 0]) := by
  have hfew := hg.few
  have hlen : (namedE l name a b).length ≤ 100000 := by have := List.length_filter_le (inW name a b) l; unfold namedE; omega
  have hfin : ∀ e ∈ namedE l name a b, FineE e := fun e he => small_fine hg.small e (List.mem_filter.1 he).1
  refine AFn.start mix F16 (by simp) fun k hlow => ?_
  have hq := Qt.refl hlow
  simp -dsimp -implicitDefEqProofs (disch := omega) only [↓wpre, push_cast, reduceCtorEq, ↓reduceIte, Nat.reduceEqDiff, Nat.reduceLeDiff, Nat.reduceAdd, Nat.reduceLT, Int.reduceEq, Int.reduceLT, Int.reduceLE, Int.reduceNeg, Int.reduceAdd, c16]
  refine (checkNamed_c G _ hU nz true l hg a b h [name] (by intro s hs; simp at hs; subst hs; exact hk) (by simp)).x fun n1 hn1 => ?_
  simp -dsimp -implicitDefEqProofs (disch := omega) only [↓wpre, push_cast, reduceCtorEq, ↓reduceIte, Nat.reduceEqDiff, Nat.reduceLeDiff, Nat.reduceAdd, Nat.reduceLT, Int.reduceEq, Int.reduceLT, Int.reduceLE, Int.reduceNeg, Int.reduceAdd, true_and]
  (first | with_reducible refine (named_c _ _ nz l hfew name a b).x fun n' hn' => ?_ | with_reducible refine xfn_intro (named_c _ _ nz l hfew name a b) ?_); try simp -dsimp -implicitDefEqProofs (disch := omega) only [↓wpre, push_cast, reduceCtorEq, ↓reduceIte, Nat.reduceEqDiff, Nat.reduceLeDiff, Nat.reduceAdd, Nat.reduceLT, Int.reduceEq, Int.reduceLT, Int.reduceLE, Int.reduceNeg, Int.reduceAdd, true_and]
  (first | with_reducible refine (copyAll_c _ _ (namedE l name a b) hlen hfin).x fun n' hn' => ?_ | with_reducible refine xfn_intro (copyAll_c _ _ (namedE l name a b) hlen hfin) ?_); try simp -dsimp -implicitDefEqProofs (disch := omega) only [↓wpre, push_cast, reduceCtorEq, ↓reduceIte, Nat.reduceEqDiff, Nat.reduceLeDiff, Nat.reduceAdd, Nat.reduceLT, Int.reduceEq, Int.reduceLT, Int.reduceLE, Int.reduceNeg, Int.reduceAdd, true_and]
end Go.Proofs.YtdbfkibbhmbaoaaGreatDoor

