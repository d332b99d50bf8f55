/- Contracts of functions of the program: each computes what its model says; the conditions stand at each. -/
import Derived.Test.YtdbfkibbhmbaoaaGreatDoorTe31
set_option linter.unusedSimpArgs false
set_option linter.unusedVariables false
set_option maxRecDepth 20000
set_option pp.deepTerms false
set_option pp.deepTerms.threshold 4
namespace Go.Proofs.YtdbfkibbhmbaoaaGreatDoor
open Go Go.Ab Go.Pm Go.Cm Go.El Go.Em Go.Rm
variable (G : Nat → AV) (H : Nat → Option AObj)
theorem sameFields_c (nz nz' : Bool) (l : List Fld) (hl : l.length ≤ 100000) : AFn Tryz.prog G 116 [.ls nz (l.map Fld.c), .ls nz' (l.map Fld.c)] H (.bool true) := by
  refine AFn.start mix F116 (by simp) fun k hlow => ?_
  simp -dsimp -implicitDefEqProofs (disch := omega) only [↓wpre, push_cast, reduceCtorEq, ↓reduceIte, Nat.reduceEqDiff, Nat.reduceLeDiff, Nat.reduceAdd, Nat.reduceLT, Int.reduceEq, Int.reduceLT, Int.reduceLE, Int.reduceNeg, Int.reduceAdd, c116]
  refine xw_loopJ (σ := List Fld × List Fld) (fun t => [(0, .ls nz (l.map Fld.c)), (1, .ls nz' (l.map Fld.c)), (12, .int l.length), (13, .int t.1.length)]) (fun t H' n' => l = t.1 ++ t.2 ∧ Qt H H' k) (fun t => t.2.length) ([], l) ⟨rfl, .refl hlow⟩ (by simp -dsimp -implicitDefEqProofs (disch := omega) only [↓wpre, push_cast, reduceCtorEq, ↓reduceIte, Nat.reduceEqDiff, Nat.reduceLeDiff, Nat.reduceAdd, Nat.reduceLT, Int.reduceEq, Int.reduceLT, Int.reduceLE, Int.reduceNeg, Int.reduceAdd]) ?_
  rintro ⟨d, r⟩ fr H' n1 ⟨hab, hq⟩ hh
  simp only [has_nil, has_cons, and_true] at hh hab
  have hll : l.length = d.length + r.length := by rw [hab]; simp
  cases r with
  | nil =>
    have hlt : ¬ (d.length : Int) < l.length := by rw [hll]; simp
    simp -dsimp -implicitDefEqProofs (disch := omega) only [↓wpre, push_cast, reduceCtorEq, ↓reduceIte, Nat.reduceEqDiff, Nat.reduceLeDiff, Nat.reduceAdd, Nat.reduceLT, Int.reduceEq, Int.reduceLT, Int.reduceLE, Int.reduceNeg, Int.reduceAdd, hh, hlt]
    exact (Qt.mono (n := k) (by repeat (first | exact hq | refine Qt.hu ?_ (by omega))) (Nat.le_refl _)).1
  | cons e r =>
    have hlt : (d.length : Int) < l.length := by rw [hll]; simp only [List.length_cons]; omega
    have hx : l[d.length]? = some e := by rw [hab]; simp
    simp -dsimp -implicitDefEqProofs (disch := omega) only [↓wpre, push_cast, reduceCtorEq, ↓reduceIte, Nat.reduceEqDiff, Nat.reduceLeDiff, Nat.reduceAdd, Nat.reduceLT, Int.reduceEq, Int.reduceLT, Int.reduceLE, Int.reduceNeg, Int.reduceAdd, hh, hlt, even_flds, aidx_at rfl hx]
    refine anyN_intro fun n2 hn2 => ?_
    simp -dsimp -implicitDefEqProofs (disch := omega) only [↓wpre, push_cast, reduceCtorEq, ↓reduceIte, Nat.reduceEqDiff, Nat.reduceLeDiff, Nat.reduceAdd, Nat.reduceLT, Int.reduceEq, Int.reduceLT, Int.reduceLE, Int.reduceNeg, Int.reduceAdd, hh]
    refine againJ (d ++ [e], r) (Nat.lt_succ_self _) ⟨by rw [hab]; simp, by exact Qt.mono (n := k) (by repeat (first | exact hq | refine Qt.hu ?_ (by omega))) (by omega)⟩ (by simp -dsimp -implicitDefEqProofs (disch := omega) only [↓wpre, push_cast, reduceCtorEq, ↓reduceIte, Nat.reduceEqDiff, Nat.reduceLeDiff, Nat.reduceAdd, Nat.reduceLT, Int.reduceEq, Int.reduceLT, Int.reduceLE, Int.reduceNeg, Int.reduceAdd, hh])
theorem sameEvent_c (e : Evt) (hl : e.fs.length ≤ 100000) : AFn Tryz.prog G 57 [.agg e.c, .agg e.c] H (.bool true) := by
  refine AFn.start mix F57 (by simp) fun k hlow => ?_
  have hq := Qt.refl hlow
  simp -dsimp -implicitDefEqProofs (disch := omega) only [↓wpre, push_cast, reduceCtorEq, ↓reduceIte, Nat.reduceEqDiff, Nat.reduceLeDiff, Nat.reduceAdd, Nat.reduceLT, Int.reduceEq, Int.reduceLT, Int.reduceLE, Int.reduceNeg, Int.reduceAdd, c57]
  (first | with_reducible refine (sameFields_c _ _ e.nz e.nz e.fs hl).x fun n' hn' => ?_ | with_reducible refine xfn_intro (sameFields_c _ _ e.nz e.nz e.fs hl) ?_); try simp -dsimp -implicitDefEqProofs (disch := omega) only [↓wpre, push_cast, reduceCtorEq, ↓reduceIte, Nat.reduceEqDiff, Nat.reduceLeDiff, Nat.reduceAdd, Nat.reduceLT, Int.reduceEq, Int.reduceLT, Int.reduceLE, Int.reduceNeg, Int.reduceAdd, true_and]
theorem sameEvents_c (nz nz' : Bool) (l : List Evt) (hl : l.length ≤ 100000) (hf : ∀ e ∈ l, FineE e) : AFn Tryz.prog G 19 [.ls nz (l.map Evt.c), .ls nz' (l.map Evt.c)] H (.bool true) := by
  have h56 : AFn Tryz.prog G 56 [.ls nz (l.map Evt.c), .ls nz' (l.map Evt.c), .fn (.func 57) []] H (.bool true) := by
    refine AFn.start mix F56 (by simp) fun k hlow => ?_
    simp -dsimp -implicitDefEqProofs (disch := omega) only [↓wpre, push_cast, reduceCtorEq, ↓reduceIte, Nat.reduceEqDiff, Nat.reduceLeDiff, Nat.reduceAdd, Nat.reduceLT, Int.reduceEq, Int.reduceLT, Int.reduceLE, Int.reduceNeg, Int.reduceAdd, c56]
    refine xw_loopJ (σ := List Evt × List Evt) (fun t => [(1, .ls nz' (l.map Evt.c)), (2, .fn (.func 57) []), (15, .ls nz (l.map Evt.c)), (16, .int l.length), (17, .int t.1.length)]) (fun t H' n' => l = t.1 ++ t.2 ∧ Qt H H' k ∧ k ≤ n') (fun t => t.2.length) ([], l) ⟨rfl, .refl hlow, Nat.le_refl _⟩ (by simp -dsimp -implicitDefEqProofs (disch := omega) only [↓wpre, push_cast, reduceCtorEq, ↓reduceIte, Nat.reduceEqDiff, Nat.reduceLeDiff, Nat.reduceAdd, Nat.reduceLT, Int.reduceEq, Int.reduceLT, Int.reduceLE, Int.reduceNeg, Int.reduceAdd]) ?_
    rintro ⟨d, r⟩ fr H' n1 ⟨hab, hq, hn⟩ hh
    simp only [has_nil, has_cons, and_true] at hh hab
    have hll : l.length = d.length + r.length := by rw [hab]; simp
    cases r with
    | nil =>
      have hlt : ¬ (d.length : Int) < l.length := by rw [hll]; simp
      simp -dsimp -implicitDefEqProofs (disch := omega) only [↓wpre, push_cast, reduceCtorEq, ↓reduceIte, Nat.reduceEqDiff, Nat.reduceLeDiff, Nat.reduceAdd, Nat.reduceLT, Int.reduceEq, Int.reduceLT, Int.reduceLE, Int.reduceNeg, Int.reduceAdd, hh, hlt]
      exact hq.1
    | cons e r =>
      have hlt : (d.length : Int) < l.length := by rw [hll]; simp only [List.length_cons]; omega
      have hx : l[d.length]? = some e := by rw [hab]; simp
      have he := hf e (by rw [hab]; simp)
      have hn12 : n1 ≠ n1 + 1 := by omega
      simp -dsimp -implicitDefEqProofs (disch := omega) only [↓wpre, push_cast, reduceCtorEq, ↓reduceIte, Nat.reduceEqDiff, Nat.reduceLeDiff, Nat.reduceAdd, Nat.reduceLT, Int.reduceEq, Int.reduceLT, Int.reduceLE, Int.reduceNeg, Int.reduceAdd, hh, hlt, even_evts, aidx_at rfl hx]
      (first | with_reducible refine (sameEvent_c _ _ e he).x fun n' hn' => ?_ | with_reducible refine xfn_intro (sameEvent_c _ _ e he) ?_); try simp -dsimp -implicitDefEqProofs (disch := omega) only [↓wpre, push_cast, reduceCtorEq, ↓reduceIte, Nat.reduceEqDiff, Nat.reduceLeDiff, Nat.reduceAdd, Nat.reduceLT, Int.reduceEq, Int.reduceLT, Int.reduceLE, Int.reduceNeg, Int.reduceAdd, hh]
      refine againJ (d ++ [e], r) (Nat.lt_succ_self _) ⟨by rw [hab]; simp, by exact Qt.mono (n := k) (by repeat (first | exact hq | refine Qt.hu ?_ (by omega))) (by omega), by omega⟩ (by simp -dsimp -implicitDefEqProofs (disch := omega) only [↓wpre, push_cast, reduceCtorEq, ↓reduceIte, Nat.reduceEqDiff, Nat.reduceLeDiff, Nat.reduceAdd, Nat.reduceLT, Int.reduceEq, Int.reduceLT, Int.reduceLE, Int.reduceNeg, Int.reduceAdd, hh])
  refine AFn.start mix F19 (by simp) fun k hlow => ?_
  simp -dsimp -implicitDefEqProofs (disch := omega) only [↓wpre, push_cast, reduceCtorEq, ↓reduceIte, Nat.reduceEqDiff, Nat.reduceLeDiff, Nat.reduceAdd, Nat.reduceLT, Int.reduceEq, Int.reduceLT, Int.reduceLE, Int.reduceNeg, Int.reduceAdd, c19]
  refine (show AFn Tryz.prog G 56 _ _ _ from h56).x fun n1 hn1 => ?_
  simp -dsimp -implicitDefEqProofs (disch := omega) only [↓wpre, push_cast, reduceCtorEq, ↓reduceIte, Nat.reduceEqDiff, Nat.reduceLeDiff, Nat.reduceAdd, Nat.reduceLT, Int.reduceEq, Int.reduceLT, Int.reduceLE, Int.reduceNeg, Int.reduceAdd, true_and]
theorem bsGo_le (c : Nat → Int) : ∀ (k lo hi : Nat), lo ≤ hi → bsGo c k lo hi ≤ hi
  | 0, lo, hi, h => h
  | k + 1, lo, hi, h => by
    simp only [bsGo]
    split
    · split
      · exact bsGo_le c k _ _ (by omega)
      · exact Nat.le_trans (bsGo_le c k _ _ (by omega)) (by omega)
    · exact h
theorem bsAt_le {α : Type} (f : α → Int) (l : List α) : bsAt f l ≤ l.length := bsGo_le _ _ _ _ (Nat.zero_le _)
theorem bsAt_get {α : Type} {f : α → Int} {l : List α} (h : bsHas f l = true) : bsAt f l < l.length := by
  simp only [bsHas, Bool.and_eq_true, decide_eq_true_eq] at h; exact h.1
theorem nameOf1_c (f : Fld) (name : T) : AFn Tryz.prog G 113 [.agg f.c, .str name] H (.int (cmpS f.name name)) := by
  refine AFn.start mix F113 (by simp) fun k hlow => ?_
  simp -dsimp -implicitDefEqProofs (disch := omega) only [↓wpre, push_cast, reduceCtorEq, ↓reduceIte, Nat.reduceEqDiff, Nat.reduceLeDiff, Nat.reduceAdd, Nat.reduceLT, Int.reduceEq, Int.reduceLT, Int.reduceLE, Int.reduceNeg, Int.reduceAdd, c113]
  (first | with_reducible refine (cmpS_c _ _ _ _).x fun n' hn' => ?_ | with_reducible refine xfn_intro (cmpS_c _ _ _ _) ?_); try simp -dsimp -implicitDefEqProofs (disch := omega) only [↓wpre, push_cast, reduceCtorEq, ↓reduceIte, Nat.reduceEqDiff, Nat.reduceLeDiff, Nat.reduceAdd, Nat.reduceLT, Int.reduceEq, Int.reduceLT, Int.reduceLE, Int.reduceNeg, Int.reduceAdd, true_and]
theorem bsField_c (nz : Bool) (l : List Fld) (name : T) (hl : l.length ≤ 1000000) : AFn Tryz.prog G 112 [.ls nz (l.map Fld.c), .str name, .fn (.func 113) []] H (.tup [.int (bsAt (fun f => cmpS f.name name) l), .bool (bsHas (fun f => cmpS f.name name) l)]) := by
  have hle := bsAt_le (fun f => cmpS f.name name) l
  refine AFn.start mix F112 (by simp) fun k hlow => ?_
  simp -dsimp -implicitDefEqProofs (disch := omega) only [↓wpre, push_cast, reduceCtorEq, ↓reduceIte, Nat.reduceEqDiff, Nat.reduceLeDiff, Nat.reduceAdd, Nat.reduceLT, Int.reduceEq, Int.reduceLT, Int.reduceLE, Int.reduceNeg, Int.reduceAdd, c112]
  refine xw_loopJ (σ := Nat × Nat × Nat) (fun t => [(0, .ls nz (l.map Fld.c)), (1, .str name), (2, .fn (.func 113) []), (8, .int l.length), (9, .int t.2.1), (10, .int t.2.2)]) (fun t H' n' => t.2.1 ≤ t.2.2 ∧ t.2.2 ≤ l.length ∧ t.2.2 - t.2.1 ≤ t.1 ∧ bsGo (at0 (fun f => cmpS f.name name) l) t.1 t.2.1 t.2.2 = bsAt (fun f => cmpS f.name name) l ∧ Qt H H' n') (fun t => t.2.2 - t.2.1) (l.length, 0, l.length) ⟨Nat.zero_le _, Nat.le_refl _, by simp, rfl, .refl hlow⟩ (by simp -dsimp -implicitDefEqProofs (disch := omega) only [↓wpre, push_cast, reduceCtorEq, ↓reduceIte, Nat.reduceEqDiff, Nat.reduceLeDiff, Nat.reduceAdd, Nat.reduceLT, Int.reduceEq, Int.reduceLT, Int.reduceLE, Int.reduceNeg, Int.reduceAdd]) ?_
  rintro ⟨m, lo, hi⟩ fr H' n ⟨h1, h2, h3, hf, hq⟩ hh
  simp only [has_nil, has_cons, and_true] at hh h1 h2 h3 hf
  by_cases hlt : (lo : Int) < hi
  · obtain ⟨m, rfl⟩ : ∃ k, m = k + 1 := ⟨m - 1, by omega⟩
    have hmid : (lo + hi) / 2 < l.length := by omega
    have hx := List.getElem?_eq_getElem hmid
    have hat : at0 (fun f => cmpS f.name name) l ((lo + hi) / 2) = cmpS (l[(lo + hi) / 2]).name name := by simp only [at0, hx]
    have e1 : ((lo : Int) + hi) / 2 = (((lo + hi) / 2 : Nat) : Int) := by omega
    rw [bsGo, if_pos (by omega), hat] at hf
    simp -dsimp -implicitDefEqProofs (disch := omega) only [↓wpre, push_cast, reduceCtorEq, ↓reduceIte, Nat.reduceEqDiff, Nat.reduceLeDiff, Nat.reduceAdd, Nat.reduceLT, Int.reduceEq, Int.reduceLT, Int.reduceLE, Int.reduceNeg, Int.reduceAdd, hh, hlt, even_flds, aidx_at _ hx]
    (first | with_reducible refine (nameOf1_c _ _ _ _).x fun n' hn' => ?_ | with_reducible refine xfn_intro (nameOf1_c _ _ _ _) ?_); try simp -dsimp -implicitDefEqProofs (disch := omega) only [↓wpre, push_cast, reduceCtorEq, ↓reduceIte, Nat.reduceEqDiff, Nat.reduceLeDiff, Nat.reduceAdd, Nat.reduceLT, Int.reduceEq, Int.reduceLT, Int.reduceLE, Int.reduceNeg, Int.reduceAdd, true_and]
    (first | with_reducible refine cnd_ndec (fun hc => ?_) (fun hc => ?_) | with_reducible refine cnd_dec (fun hc => ?_) (fun hc => ?_) | with_reducible refine cnd_nb (fun hc => ?_) (fun hc => ?_) | with_reducible refine cnd_intro (fun hc => ?_) (fun hc => ?_)) <;> (first | (exfalso; omega) | (try simp -dsimp -implicitDefEqProofs (disch := omega) only [↓wpre, push_cast, reduceCtorEq, ↓reduceIte, Nat.reduceEqDiff, Nat.reduceLeDiff, Nat.reduceAdd, Nat.reduceLT, Int.reduceEq, Int.reduceLT, Int.reduceLE, Int.reduceNeg, Int.reduceAdd, hc, hh]))
    · rw [if_pos hc] at hf
      refine againJ (m, (lo + hi) / 2 + 1, hi) (by dsimp only; omega) ⟨by dsimp only; omega, h2, by dsimp only; omega, hf, ?_⟩ ?_
      · exact Qt.mono (n := n) (by repeat (first | exact hq | refine Qt.hu ?_ (by omega))) (by omega)
      · simp -dsimp -implicitDefEqProofs (disch := omega) only [↓wpre, push_cast, reduceCtorEq, ↓reduceIte, Nat.reduceEqDiff, Nat.reduceLeDiff, Nat.reduceAdd, Nat.reduceLT, Int.reduceEq, Int.reduceLT, Int.reduceLE, Int.reduceNeg, Int.reduceAdd, hh]
    · rw [if_neg hc] at hf
      refine againJ (m, lo, (lo + hi) / 2) (by dsimp only; omega) ⟨by dsimp only; omega, by dsimp only; omega, by dsimp only; omega, hf, ?_⟩ ?_
      · exact Qt.mono (n := n) (by repeat (first | exact hq | refine Qt.hu ?_ (by omega))) (by omega)
      · simp -dsimp -implicitDefEqProofs (disch := omega) only [↓wpre, push_cast, reduceCtorEq, ↓reduceIte, Nat.reduceEqDiff, Nat.reduceLeDiff, Nat.reduceAdd, Nat.reduceLT, Int.reduceEq, Int.reduceLT, Int.reduceLE, Int.reduceNeg, Int.reduceAdd, hh]
  · have hres : lo = bsAt (fun f => cmpS f.name name) l := by
      rw [← hf]; cases m <;> simp only [bsGo]; rw [if_neg (by omega)]
    rw [← hres] at hle ⊢
    rw [bsHas, ← hres]
    by_cases hn : lo < l.length
    · have hx := List.getElem?_eq_getElem hn
      have hat : at0 (fun f => cmpS f.name name) l lo = cmpS (l[lo]).name name := by simp only [at0, hx]
      have hlt2 : (lo : Int) < l.length := by omega
      simp -dsimp -implicitDefEqProofs (disch := omega) only [↓wpre, push_cast, reduceCtorEq, ↓reduceIte, Nat.reduceEqDiff, Nat.reduceLeDiff, Nat.reduceAdd, Nat.reduceLT, Int.reduceEq, Int.reduceLT, Int.reduceLE, Int.reduceNeg, Int.reduceAdd, hh, hlt, hlt2, even_flds, aidx_at _ hx]
      (first | with_reducible refine (nameOf1_c _ _ _ _).x fun n' hn' => ?_ | with_reducible refine xfn_intro (nameOf1_c _ _ _ _) ?_); try simp -dsimp -implicitDefEqProofs (disch := omega) only [↓wpre, push_cast, reduceCtorEq, ↓reduceIte, Nat.reduceEqDiff, Nat.reduceLeDiff, Nat.reduceAdd, Nat.reduceLT, Int.reduceEq, Int.reduceLT, Int.reduceLE, Int.reduceNeg, Int.reduceAdd, hat]
      refine ⟨?_, hq.1⟩
      simp [hat, hn]
    · have hlt2 : ¬ (lo : Int) < l.length := by omega
      simp -dsimp -implicitDefEqProofs (disch := omega) only [↓wpre, push_cast, reduceCtorEq, ↓reduceIte, Nat.reduceEqDiff, Nat.reduceLeDiff, Nat.reduceAdd, Nat.reduceLT, Int.reduceEq, Int.reduceLT, Int.reduceLE, Int.reduceNeg, Int.reduceAdd, hh, hlt, hlt2]
      refine ⟨?_, hq.1⟩
      simp [hn]
def findV (fs : List Fld) (name : T) : AV := match findF fs name with
  | some v => .tup [.agg v.c, .bool true]
  | none => .tup [.agg [.int 0, .str ⟨#[]⟩, .int 0], .bool false]
theorem find_c (nz : Bool) (l : List Fld) (name : T) (hl : l.length ≤ 1000000) : AFn Tryz.prog G 53 [.ls nz (l.map Fld.c), .str name] H (findV l name) := by
  refine AFn.start mix F53 (by simp) fun k hlow => ?_
  have hq := Qt.refl hlow
  simp -dsimp -implicitDefEqProofs (disch := omega) only [↓wpre, push_cast, reduceCtorEq, ↓reduceIte, Nat.reduceEqDiff, Nat.reduceLeDiff, Nat.reduceAdd, Nat.reduceLT, Int.reduceEq, Int.reduceLT, Int.reduceLE, Int.reduceNeg, Int.reduceAdd, c53]
  refine (bsField_c G _ nz l name hl).x fun n1 hn1 => ?_
  by_cases hb : bsHas (fun f => cmpS f.name name) l = true
  · have hx := List.getElem?_eq_getElem (bsAt_get hb)
    generalize l[bsAt (fun f => cmpS f.name name) l]'(bsAt_get hb) = f at hx
    have hv : findV l name = .tup [.agg f.val.c, .bool true] := by unfold findV findF; rw [if_pos hb, hx]; rfl
    rw [hv]
    simp -dsimp -implicitDefEqProofs (disch := omega) only [↓wpre, push_cast, reduceCtorEq, ↓reduceIte, Nat.reduceEqDiff, Nat.reduceLeDiff, Nat.reduceAdd, Nat.reduceLT, Int.reduceEq, Int.reduceLT, Int.reduceLE, Int.reduceNeg, Int.reduceAdd, hb, even_flds, aidx_at rfl hx]
    exact (Qt.mono (n := k) (by repeat (first | exact hq | refine Qt.hu ?_ (by omega))) (Nat.le_refl _)).1
  · have hb' : bsHas (fun f => cmpS f.name name) l = false := by simpa using hb
    have hv : findV l name = .tup [.agg [.int 0, .str ⟨#[]⟩, .int 0], .bool false] := by unfold findV findF; rw [if_neg hb]
    rw [hv]
    simp -dsimp -implicitDefEqProofs (disch := omega) only [↓wpre, push_cast, reduceCtorEq, ↓reduceIte, Nat.reduceEqDiff, Nat.reduceLeDiff, Nat.reduceAdd, Nat.reduceLT, Int.reduceEq, Int.reduceLT, Int.reduceLE, Int.reduceNeg, Int.reduceAdd, hb']
    exact (Qt.mono (n := k) (by repeat (first | exact hq | refine Qt.hu ?_ (by omega))) (Nat.le_refl _)).1
/-- No field's number is great. -/
def TameE (field : T) (e : Evt) : Prop := -1000000000000 ≤ addOf field e ∧ addOf field e ≤ 1000000000000
theorem tame_sum (field : T) : ∀ (l : List Evt), (∀ e ∈ l, TameE field e) → -1000000000000 * (l.length : Int) ≤ (l.map (addOf field)).sum ∧ (l.map (addOf field)).sum ≤ 1000000000000 * (l.length : Int)
  | [], _ => by simp
  | e :: l, h => by
    obtain ⟨h1, h2⟩ := tame_sum field l fun x hx => h x (by simp [hx])
    obtain ⟨h3, h4⟩ := h e (by simp)
    simp only [List.map_cons, List.sum_cons, List.length_cons]
    omega
theorem checkFieldsGo_each : ∀ (l : List Fld) (p : Option Fld), checkFieldsGo p l = 0 → ∀ f ∈ l, checkValue f.val = 0
  | [], _, _, f, hf => by cases hf
  | x :: l, p, h, f, hf => by
    rw [checkFieldsGo] at h
    split at h
    · rename_i h1; exact absurd h h1
    · rename_i h1
      rcases List.mem_cons.1 hf with rfl | hf
      · have h1 : fieldErr p f = 0 := by simpa using h1
        unfold fieldErr at h1
        split at h1
        · cases h1
        · split at h1
          · exact h1
          · rename_i h2; simpa using h2
      · exact checkFieldsGo_each l (some x) h f hf
theorem tame_of {e : Evt} (h : checkOne e = 0) (field : T) : TameE field e := by
  have h1 : checkFields e.fs = 0 := by
    unfold checkOne at h
    split at h
    · cases h
    · split at h
      · cases h
      · split at h
        · cases h
        · split at h
          · rename_i h4; exact absurd h h4
          · exact h
  have h2 : checkFieldsGo none e.fs = 0 := by
    unfold checkFields at h1
    split at h1
    · cases h1
    · exact h1
  unfold TameE addOf findF
  split
  · rename_i v hv
    split at hv
    · obtain ⟨f, hf, rfl⟩ := Option.map_eq_some_iff.1 hv
      have h3 := checkFieldsGo_each _ _ h2 f (List.mem_of_getElem? hf)
      unfold checkValue at h3
      split
      · omega
      · rename_i hk
        rw [if_neg hk] at h3
        repeat' split at h3
        all_goals first
          | (exfalso; exact absurd h3 (by decide))
          | (simp only [within, Bool.and_eq_false_iff, decide_eq_false_iff_not] at *; omega)
    · cases hv
  · omega
theorem sum_c (hU : GU G) (nz : Bool) (l : List Evt) (hg : Em.Good l) (name field : T) (hk : isKey name = true ∧ name.size ≤ 1000) (hk2 : isKey field = true ∧ field.size ≤ 1000) (a b : Int) (h : 0 ≤ a ∧ a ≤ b ∧ b ≤ 4321440) : AFn Tryz.prog G 17 [.ls nz (l.map Evt.c), .str name, .str field, .agg [.int a, .int b]] H (.tup [.int (sumE l name field a b), .int 0]) := by
  have hfew := hg.few
  have hlen : (namedE l name a b).length ≤ 5000 := by have := List.length_filter_le (inW name a b) l; unfold namedE; omega
  have hmem : ∀ e ∈ namedE l name a b, e ∈ l := fun e he => (List.mem_filter.1 he).1
  have htame : ∀ e ∈ namedE l name a b, TameE field e := fun e he => tame_of (hg.ok e (hmem e he)) field
  have hsmall : ∀ e ∈ namedE l name a b, e.fs.length ≤ 100000 := fun e he => small_fine hg.small e (hmem e he)
  refine AFn.start mix F17 (by simp) fun k hlow => ?_
  simp -dsimp -implicitDefEqProofs (disch := omega) only [↓wpre, push_cast, reduceCtorEq, ↓reduceIte, Nat.reduceEqDiff, Nat.reduceLeDiff, Nat.reduceAdd, Nat.reduceLT, Int.reduceEq, Int.reduceLT, Int.reduceLE, Int.reduceNeg, Int.reduceAdd, c17]
  refine (checkNamed_c G _ hU nz true l hg a b h [name, field] (by intro s hs; simp at hs; rcases hs with rfl | rfl <;> assumption) (by simp)).x fun n1 hn1 => ?_
  simp -dsimp -implicitDefEqProofs (disch := omega) only [↓wpre, push_cast, reduceCtorEq, ↓reduceIte, Nat.reduceEqDiff, Nat.reduceLeDiff, Nat.reduceAdd, Nat.reduceLT, Int.reduceEq, Int.reduceLT, Int.reduceLE, Int.reduceNeg, Int.reduceAdd, true_and]
  (first | with_reducible refine (named_c _ _ nz l hfew name a b).x fun n' hn' => ?_ | with_reducible refine xfn_intro (named_c _ _ nz l hfew name a b) ?_); try simp -dsimp -implicitDefEqProofs (disch := omega) only [↓wpre, push_cast, reduceCtorEq, ↓reduceIte, Nat.reduceEqDiff, Nat.reduceLeDiff, Nat.reduceAdd, Nat.reduceLT, Int.reduceEq, Int.reduceLT, Int.reduceLE, Int.reduceNeg, Int.reduceAdd, lsOf]
  unfold sumE
  generalize namedE l name a b = L at hlen hmem htame hsmall
  refine xw_loopJ (σ := List Evt × List Evt) (fun t => [(2, .str field), (11, .int ((t.1.map (addOf field)).sum)), (28, lsOf (L.map Evt.c)), (29, .int L.length), (30, .int t.1.length)]) (fun t H' n' => L = t.1 ++ t.2 ∧ Qt H H' k ∧ k ≤ n') (fun t => t.2.length) ([], L) ⟨rfl, .refl hlow, by omega⟩ (by simp -dsimp -implicitDefEqProofs (disch := omega) only [↓wpre, push_cast, reduceCtorEq, ↓reduceIte, Nat.reduceEqDiff, Nat.reduceLeDiff, Nat.reduceAdd, Nat.reduceLT, Int.reduceEq, Int.reduceLT, Int.reduceLE, Int.reduceNeg, Int.reduceAdd, lsOf, List.map_nil, List.sum_nil]) ?_
  rintro ⟨d, r⟩ fr H' n2 ⟨hab, hq, hn2⟩ hh
  simp only [has_nil, has_cons, and_true] at hh hab
  have hll : L.length = d.length + r.length := by rw [hab]; simp
  cases r with
  | nil =>
    have hlt : ¬ (d.length : Int) < L.length := by rw [hll]; simp
    rw [List.append_nil] at hab
    subst hab
    simp -dsimp -implicitDefEqProofs (disch := omega) only [↓wpre, push_cast, reduceCtorEq, ↓reduceIte, Nat.reduceEqDiff, Nat.reduceLeDiff, Nat.reduceAdd, Nat.reduceLT, Int.reduceEq, Int.reduceLT, Int.reduceLE, Int.reduceNeg, Int.reduceAdd, hh, hlt]
    exact hq.1
  | cons e r =>
    have hlt : (d.length : Int) < L.length := by rw [hll]; simp only [List.length_cons]; omega
    have hx : L[d.length]? = some e := by rw [hab]; simp
    have heL : e ∈ L := by rw [hab]; simp
    have hs := tame_sum field d fun x hx => htame x (by rw [hab]; simp [hx])
    have ht := htame e heL
    unfold TameE at ht
    have hsn : ((d ++ [e]).map (addOf field)).sum = (d.map (addOf field)).sum + addOf field e := by simp
    generalize (d.map (addOf field)).sum = S at hs hsn hh
    simp -dsimp -implicitDefEqProofs (disch := omega) only [↓wpre, push_cast, reduceCtorEq, ↓reduceIte, Nat.reduceEqDiff, Nat.reduceLeDiff, Nat.reduceAdd, Nat.reduceLT, Int.reduceEq, Int.reduceLT, Int.reduceLE, Int.reduceNeg, Int.reduceAdd, hh, hlt, lsOf, even_evts, aidx_at rfl hx]
    refine (find_c G _ e.nz e.fs field (by have := hsmall e heL; omega)).x fun n3 hn3 => ?_
    have hn23 : n2 ≠ n3 := by omega
    unfold findV
    cases hf : findF e.fs field with
    | none =>
      have ha : addOf field e = 0 := by unfold addOf; rw [hf]
      rw [ha] at hsn ht
      simp -dsimp -implicitDefEqProofs (disch := omega) only [↓wpre, push_cast, reduceCtorEq, ↓reduceIte, Nat.reduceEqDiff, Nat.reduceLeDiff, Nat.reduceAdd, Nat.reduceLT, Int.reduceEq, Int.reduceLT, Int.reduceLE, Int.reduceNeg, Int.reduceAdd, hh, lsOf]
      refine againJ (d ++ [e], r) (Nat.lt_succ_self _) ⟨by rw [hab]; simp, by exact Qt.mono (n := k) (by repeat (first | exact hq | refine Qt.hu ?_ (by omega))) (by omega), by omega⟩ (by simp -dsimp -implicitDefEqProofs (disch := omega) only [↓wpre, push_cast, reduceCtorEq, ↓reduceIte, Nat.reduceEqDiff, Nat.reduceLeDiff, Nat.reduceAdd, Nat.reduceLT, Int.reduceEq, Int.reduceLT, Int.reduceLE, Int.reduceNeg, Int.reduceAdd, hh, hsn, Int.add_zero])
    | some v =>
      by_cases hv : v.kind = 1
      · have ha : addOf field e = 0 := by unfold addOf; rw [hf]; exact if_pos hv
        rw [ha] at hsn ht
        simp -dsimp -implicitDefEqProofs (disch := omega) only [↓wpre, push_cast, reduceCtorEq, ↓reduceIte, Nat.reduceEqDiff, Nat.reduceLeDiff, Nat.reduceAdd, Nat.reduceLT, Int.reduceEq, Int.reduceLT, Int.reduceLE, Int.reduceNeg, Int.reduceAdd, hh, lsOf, hv]
        refine againJ (d ++ [e], r) (Nat.lt_succ_self _) ⟨by rw [hab]; simp, by exact Qt.mono (n := k) (by repeat (first | exact hq | refine Qt.hu ?_ (by omega))) (by omega), by omega⟩ (by simp -dsimp -implicitDefEqProofs (disch := omega) only [↓wpre, push_cast, reduceCtorEq, ↓reduceIte, Nat.reduceEqDiff, Nat.reduceLeDiff, Nat.reduceAdd, Nat.reduceLT, Int.reduceEq, Int.reduceLT, Int.reduceLE, Int.reduceNeg, Int.reduceAdd, hh, hsn, Int.add_zero])
      · have ha : addOf field e = v.num := by unfold addOf; rw [hf]; exact if_neg hv
        rw [ha] at hsn ht
        simp -dsimp -implicitDefEqProofs (disch := omega) only [↓wpre, push_cast, reduceCtorEq, ↓reduceIte, Nat.reduceEqDiff, Nat.reduceLeDiff, Nat.reduceAdd, Nat.reduceLT, Int.reduceEq, Int.reduceLT, Int.reduceLE, Int.reduceNeg, Int.reduceAdd, hh, lsOf, hv]
        refine againJ (d ++ [e], r) (Nat.lt_succ_self _) ⟨by rw [hab]; simp, by exact Qt.mono (n := k) (by repeat (first | exact hq | refine Qt.hu ?_ (by omega))) (by omega), by omega⟩ (by simp -dsimp -implicitDefEqProofs (disch := omega) only [↓wpre, push_cast, reduceCtorEq, ↓reduceIte, Nat.reduceEqDiff, Nat.reduceLeDiff, Nat.reduceAdd, Nat.reduceLT, Int.reduceEq, Int.reduceLT, Int.reduceLE, Int.reduceNeg, Int.reduceAdd, hh, hsn])
end Go.Proofs.YtdbfkibbhmbaoaaGreatDoor

