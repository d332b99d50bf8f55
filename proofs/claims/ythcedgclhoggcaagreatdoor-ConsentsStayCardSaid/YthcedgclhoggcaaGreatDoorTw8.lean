/- Contracts of functions of the program: each computes what its model says; the conditions stand at each. -/
import Derived.Test.YthcedgclhoggcaaGreatDoorTw7
set_option linter.unusedSimpArgs false
set_option linter.unusedVariables false
set_option maxRecDepth 20000
set_option pp.deepTerms false
set_option pp.deepTerms.threshold 3
namespace Go.Proofs.YthcedgclhoggcaaGreatDoor
open Go Go.Ab Go.Pm Go.Cm
variable (G : Nat → AV) (H : Nat → Option AObj)
theorem dropO_ne {H : Nat → Option AObj} {n0 n : Nat} {i : Option Nat} {E : TypeId} {sz : Nat} {rows : List (List AV)} (h : OutIs n0 H i E sz rows n) {k : Nat} (hk : k < n0) : dropO H i k = H k := by
  cases i with
  | none => rfl
  | some i => exact hu_ne (by have := h.2.1; omega)
theorem Qt.dropO' {H0 H : Nat → Option AObj} {n0 n m : Nat} {i : Option Nat} {E : TypeId} {sz : Nat} {rows : List (List AV)} (h : OutIs n0 H i E sz rows n) (hm : m ≤ n0) (hq : Qt H0 H m) : Qt H0 (Ab.dropO H i) m := by
  cases i with
  | none => exact hq
  | some i => exact hq.hu (Nat.le_trans hm h.2.1)
def grP (w : Option Stm) (purpose : T) (s : Stm) : Bool := decide (s.what = 1) && decide (s.purpose = purpose) && (match w with | some w => decide (w.at' < s.at') | none => true)
theorem grants_run (nz : Bool) (l : List Stm) (purpose : T) (hl : l.length ≤ 1000000) (n : Nat) : ACalls Tryz.prog G 109 [.ls nz (l.map Stm.c), .str purpose] H n fun r H' n' => (grants l purpose = [] ∧ r = .tup [.ls false [], .agg ((withdrawal l purpose).getD noStm).c, .bool (withdrawal l purpose).isSome] ∧ H' = H) ∨ ∃ i, r = .tup [.os i 0 (grants l purpose).length, .agg ((withdrawal l purpose).getD noStm).c, .bool (withdrawal l purpose).isSome] ∧ H' i = some ⟨43, 8, (grants l purpose).map Stm.c⟩ ∧ Sub H H' ∧ H i = none ∧ grants l purpose ≠ [] := by
  refine ACalls.start mix F109 (by simp) fun hlow => ?_
  simp -dsimp -implicitDefEqProofs (disch := omega) only [↓wpre, push_cast, reduceCtorEq, ↓reduceIte, Nat.reduceEqDiff, Nat.reduceLeDiff, Nat.reduceAdd, Nat.reduceLT, Int.reduceEq, Int.reduceLT, Int.reduceLE, Int.reduceNeg, Int.reduceAdd, c109]
  refine xw_loopJ (σ := List Stm × List Stm × Option Stm) (fun t => [(0, .ls nz (l.map Stm.c)), (1, .str purpose), (4, .ls false []), (5, .op n 0 0), (6, .bool t.2.2.isSome), (11, .ls nz (l.map Stm.c)), (12, .int l.length), (13, .int t.1.length)]) (fun t H' n' => l = t.1 ++ t.2.1 ∧ t.1.foldl (wdStep purpose) none = t.2.2 ∧ H' n = some ⟨43, 8, [(t.2.2.getD noStm).c]⟩ ∧ Qt H H' n ∧ n < n') (fun t => t.2.1.length) ([], l, none) ⟨rfl, rfl, hu_same, (Qt.refl hlow).hu (Nat.le_refl _), Nat.lt_succ_self _⟩ (by simp -dsimp -implicitDefEqProofs (disch := omega) only [↓wpre, push_cast, reduceCtorEq, ↓reduceIte, Nat.reduceEqDiff, Nat.reduceLeDiff, Nat.reduceAdd, Nat.reduceLT, Int.reduceEq, Int.reduceLT, Int.reduceLE, Int.reduceNeg, Int.reduceAdd]; rfl) ?_
  rintro ⟨a, b, acc⟩ fr H' n1 ⟨rfl, hf, hkk, hq, hk⟩ hh
  simp only [has_nil, has_cons, and_true, List.length_append] at hh hl hf hkk
  cases b with
  | nil =>
    simp only [List.append_nil, List.length_nil, Nat.add_zero] at hh hl
    rw [List.append_nil]
    have hw : withdrawal a purpose = acc := hf
    rw [hw]
    clear hf
    simp -dsimp -implicitDefEqProofs (disch := omega) only [↓wpre, push_cast, reduceCtorEq, ↓reduceIte, Nat.reduceEqDiff, Nat.reduceLeDiff, Nat.reduceAdd, Nat.reduceLT, Int.reduceEq, Int.reduceLT, Int.reduceLE, Int.reduceNeg, Int.reduceAdd, hh]
    refine xw_loopJ (σ := List Stm × List Stm × Option Nat) (fun t => [(1, .str purpose), (4, outAV t.2.2 (t.1.filter (grP acc purpose)).length), (5, .op n 0 0), (6, .bool acc.isSome), (39, .ls nz (a.map Stm.c)), (40, .int a.length), (41, .int t.1.length)]) (fun t H' n' => a = t.1 ++ t.2.1 ∧ OutIs (n + 1) H' t.2.2 43 8 ((t.1.filter (grP acc purpose)).map Stm.c) n' ∧ H' n = some ⟨43, 8, [(acc.getD noStm).c]⟩ ∧ Qt H H' n ∧ n < n' ∧ (t.2.2 ≠ none → t.1.filter (grP acc purpose) ≠ [])) (fun t => t.2.1.length) ([], a, none) ⟨rfl, rfl, hkk, hq, hk, fun h => (h rfl).elim⟩ (by simp -dsimp -implicitDefEqProofs (disch := omega) only [↓wpre, push_cast, reduceCtorEq, ↓reduceIte, Nat.reduceEqDiff, Nat.reduceLeDiff, Nat.reduceAdd, Nat.reduceLT, Int.reduceEq, Int.reduceLT, Int.reduceLE, Int.reduceNeg, Int.reduceAdd, hh, outAV]) ?_
    clear hkk hq hk hh fr n1 H'
    rintro ⟨a, b, oid⟩ fr H' n1 ⟨rfl, ho, hkk, hq, hk, hne⟩ hh
    have hge : grants (a ++ b) purpose = (a ++ b).filter (grP acc purpose) := by
      rw [← hw]; rfl
    rw [hge]
    clear hw hge
    simp only [has_nil, has_cons, and_true, List.length_append] at hh hl hkk hne
    cases b with
    | nil =>
      simp only [List.append_nil, List.length_nil, Nat.add_zero] at hh hl ⊢
      cases oid with
      | none =>
        have ho' : a.filter (grP acc purpose) = [] := by
          have : (a.filter (grP acc purpose)).map Stm.c = [] := ho
          simpa using this
        simp -dsimp -implicitDefEqProofs (disch := omega) only [↓wpre, push_cast, reduceCtorEq, ↓reduceIte, Nat.reduceEqDiff, Nat.reduceLeDiff, Nat.reduceAdd, Nat.reduceLT, Int.reduceEq, Int.reduceLT, Int.reduceLE, Int.reduceNeg, Int.reduceAdd, hh, hkk, outAV]
        refine anyN_intro fun n2 hn2 => ?_
        simp -dsimp -implicitDefEqProofs (disch := omega) only [↓wpre, push_cast, reduceCtorEq, ↓reduceIte, Nat.reduceEqDiff, Nat.reduceLeDiff, Nat.reduceAdd, Nat.reduceLT, Int.reduceEq, Int.reduceLT, Int.reduceLE, Int.reduceNeg, Int.reduceAdd, hh, hkk]
        exact fin_intro (by exact (Qt.mono (n := n) (by repeat (first | exact hq | refine Qt.hu ?_ (by omega))) (Nat.le_refl _)).1) (.inl ⟨by rw [List.append_nil]; exact ho', rfl, rfl⟩)
      | some i =>
        have hi := ho.1
        have hi2 := ho.2.1
        have hHi : H i = none := by
          cases hx : H i with
          | none => rfl
          | some o => exact absurd (hq.2 i o hx) (by omega)
        simp -dsimp -implicitDefEqProofs (disch := omega) only [↓wpre, push_cast, reduceCtorEq, ↓reduceIte, Nat.reduceEqDiff, Nat.reduceLeDiff, Nat.reduceAdd, Nat.reduceLT, Int.reduceEq, Int.reduceLT, Int.reduceLE, Int.reduceNeg, Int.reduceAdd, hh, hkk, outAV]
        refine anyN_intro fun n2 hn2 => ?_
        simp -dsimp -implicitDefEqProofs (disch := omega) only [↓wpre, push_cast, reduceCtorEq, ↓reduceIte, Nat.reduceEqDiff, Nat.reduceLeDiff, Nat.reduceAdd, Nat.reduceLT, Int.reduceEq, Int.reduceLT, Int.reduceLE, Int.reduceNeg, Int.reduceAdd, hh, hkk]
        refine fin_intro (Sub.refl _) (.inr ⟨i, by simp only [List.append_nil], ?_, by exact (Qt.mono (n := n) (by repeat (first | exact hq | refine Qt.hu ?_ (by omega))) (Nat.le_refl _)).1, hHi, by rw [List.append_nil]; exact hne (by simp)⟩)
        simp -dsimp -implicitDefEqProofs (disch := omega) only [↓wpre, push_cast, reduceCtorEq, ↓reduceIte, Nat.reduceEqDiff, Nat.reduceLeDiff, Nat.reduceAdd, Nat.reduceLT, Int.reduceEq, Int.reduceLT, Int.reduceLE, Int.reduceNeg, Int.reduceAdd, hi]
    | cons s b =>
      simp only [List.length_cons] at hl
      have hlt : (a.length : Int) < a.length + (b.length + 1) := by omega
      have hfl := List.length_filter_le (grP acc purpose) a
      have hT : grP acc purpose s = true → (a ++ [s]).filter (grP acc purpose) = a.filter (grP acc purpose) ++ [s] := fun h => by simp [h]
      have hF : grP acc purpose s = false → (a ++ [s]).filter (grP acc purpose) = a.filter (grP acc purpose) := fun h => by simp [h]
      have ho2 : ∀ o1 o2, OutIs (n + 1) (hu (hu H' n1 o1) n1 o2) oid 43 8 ((a.filter (grP acc purpose)).map Stm.c) (n1 + 1) := fun o1 o2 => (ho.hu (Nat.le_refl _) (Nat.le_refl _)).hu (Nat.le_refl _) (Nat.le_succ _)
      simp -dsimp -implicitDefEqProofs (disch := omega) only [↓wpre, push_cast, reduceCtorEq, ↓reduceIte, Nat.reduceEqDiff, Nat.reduceLeDiff, Nat.reduceAdd, Nat.reduceLT, Int.reduceEq, Int.reduceLT, Int.reduceLE, Int.reduceNeg, Int.reduceAdd, hh, hlt, even_stms', aidx_split, hkk]
      repeat' (first | ((first | with_reducible refine cnd_ndec (fun hc => ?_) (fun hc => ?_) | with_reducible refine cnd_dec (fun hc => ?_) (fun hc => ?_) | with_reducible refine cnd_nb (fun hc => ?_) (fun hc => ?_) | with_reducible refine cnd_intro (fun hc => ?_) (fun hc => ?_)) <;> (first | (exfalso; omega) | (try simp -dsimp -implicitDefEqProofs (disch := omega) only [↓wpre, push_cast, reduceCtorEq, ↓reduceIte, Nat.reduceEqDiff, Nat.reduceLeDiff, Nat.reduceAdd, Nat.reduceLT, Int.reduceEq, Int.reduceLT, Int.reduceLE, Int.reduceNeg, Int.reduceAdd, hc, hh, hkk]))) | (with_reducible refine anyN_intro fun n' hn' => ?_; try simp -dsimp -implicitDefEqProofs (disch := omega) only [↓wpre, push_cast, reduceCtorEq, ↓reduceIte, Nat.reduceEqDiff, Nat.reduceLeDiff, Nat.reduceAdd, Nat.reduceLT, Int.reduceEq, Int.reduceLT, Int.reduceLE, Int.reduceNeg, Int.reduceAdd, hh, hkk]) | (refine xapp_out (n0 := n + 1) (ho2 _ _) (by simp) (by intro r hr; simp at hr; subst hr; exact ⟨rfl, rfl⟩) (by simp only [List.length_map]; omega) ?_; simp -dsimp -implicitDefEqProofs (disch := omega) only [↓wpre, push_cast, reduceCtorEq, ↓reduceIte, Nat.reduceEqDiff, Nat.reduceLeDiff, Nat.reduceAdd, Nat.reduceLT, Int.reduceEq, Int.reduceLT, Int.reduceLE, Int.reduceNeg, Int.reduceAdd, hh]))
      all_goals first
        | (have hx := hF (by (clear hh hT hF hne ho2 ho; cases acc <;> grind [grP]))
           refine againJ (a ++ [s], b, oid) (Nat.lt_succ_self _) ⟨by simp, ?_, ?_, by exact Qt.mono (n := n) (by repeat (first | exact hq | refine Qt.hu ?_ (by omega))) (by omega), by omega, by rw [hx]; exact hne⟩ (by simp -dsimp -implicitDefEqProofs (disch := omega) only [↓wpre, push_cast, reduceCtorEq, ↓reduceIte, Nat.reduceEqDiff, Nat.reduceLeDiff, Nat.reduceAdd, Nat.reduceLT, Int.reduceEq, Int.reduceLT, Int.reduceLE, Int.reduceNeg, Int.reduceAdd, hh]; simp [hx])
           · dsimp only
             rw [hx]
             exact ho2 _ _
           · simp -dsimp -implicitDefEqProofs (disch := omega) only [↓wpre, push_cast, reduceCtorEq, ↓reduceIte, Nat.reduceEqDiff, Nat.reduceLeDiff, Nat.reduceAdd, Nat.reduceLT, Int.reduceEq, Int.reduceLT, Int.reduceLE, Int.reduceNeg, Int.reduceAdd, hkk])
        | skip
      all_goals
        have hx := hT (by (clear hh hT hF hne ho2 ho; cases acc <;> grind [grP]))
        refine againJ (a ++ [s], b, some (n1 + 1)) (Nat.lt_succ_self _) ⟨by simp, ?_, ?_, (Qt.dropO' (ho2 _ _) (Nat.le_succ _) (by exact Qt.mono (n := n) (by repeat (first | exact hq | refine Qt.hu ?_ (by omega))) (by omega))).hu (by omega), by omega, ?_⟩ (by simp -dsimp -implicitDefEqProofs (disch := omega) only [↓wpre, push_cast, reduceCtorEq, ↓reduceIte, Nat.reduceEqDiff, Nat.reduceLeDiff, Nat.reduceAdd, Nat.reduceLT, Int.reduceEq, Int.reduceLT, Int.reduceLE, Int.reduceNeg, Int.reduceAdd, hh]; simp [hx, outAV])
        · dsimp only
          rw [hx, List.map_append]
          exact OutIs.new (n0 := n + 1) (n := n1 + 1) (by omega)
        · rw [hu_ne (by omega), dropO_ne (ho2 _ _) (Nat.lt_succ_self _)]
          simp -dsimp -implicitDefEqProofs (disch := omega) only [↓wpre, push_cast, reduceCtorEq, ↓reduceIte, Nat.reduceEqDiff, Nat.reduceLeDiff, Nat.reduceAdd, Nat.reduceLT, Int.reduceEq, Int.reduceLT, Int.reduceLE, Int.reduceNeg, Int.reduceAdd, hkk]
        · intro _; rw [hx]; simp
  | cons s b =>
    simp only [List.length_cons] at hl
    have hlt : (a.length : Int) < a.length + (b.length + 1) := by omega
    have hfs : (a ++ [s]).foldl (wdStep purpose) none = wdStep purpose acc s := by rw [List.foldl_append, hf]; rfl
    simp -dsimp -implicitDefEqProofs (disch := omega) only [↓wpre, push_cast, reduceCtorEq, ↓reduceIte, Nat.reduceEqDiff, Nat.reduceLeDiff, Nat.reduceAdd, Nat.reduceLT, Int.reduceEq, Int.reduceLT, Int.reduceLE, Int.reduceNeg, Int.reduceAdd, hh, hlt, even_stms', aidx_split, hkk]
    repeat' (first | ((first | with_reducible refine cnd_ndec (fun hc => ?_) (fun hc => ?_) | with_reducible refine cnd_dec (fun hc => ?_) (fun hc => ?_) | with_reducible refine cnd_nb (fun hc => ?_) (fun hc => ?_) | with_reducible refine cnd_intro (fun hc => ?_) (fun hc => ?_)) <;> (first | (exfalso; omega) | (try simp -dsimp -implicitDefEqProofs (disch := omega) only [↓wpre, push_cast, reduceCtorEq, ↓reduceIte, Nat.reduceEqDiff, Nat.reduceLeDiff, Nat.reduceAdd, Nat.reduceLT, Int.reduceEq, Int.reduceLT, Int.reduceLE, Int.reduceNeg, Int.reduceAdd, hc, hh, hkk]))) | (with_reducible refine anyN_intro fun n' hn' => ?_; try simp -dsimp -implicitDefEqProofs (disch := omega) only [↓wpre, push_cast, reduceCtorEq, ↓reduceIte, Nat.reduceEqDiff, Nat.reduceLeDiff, Nat.reduceAdd, Nat.reduceLT, Int.reduceEq, Int.reduceLT, Int.reduceLE, Int.reduceNeg, Int.reduceAdd, hh, hkk]) | fail)
    all_goals first
      | (have e : wdStep purpose acc s = acc := by (clear hh hf hfs; cases acc <;> grind [wdStep])
         rw [e] at hfs
         refine againJ (a ++ [s], b, acc) (Nat.lt_succ_self _) ⟨by simp, hfs, ?_, by exact Qt.mono (n := n) (by repeat (first | exact hq | refine Qt.hu ?_ (by omega))) (by omega), by omega⟩ (by simp -dsimp -implicitDefEqProofs (disch := omega) only [↓wpre, push_cast, reduceCtorEq, ↓reduceIte, Nat.reduceEqDiff, Nat.reduceLeDiff, Nat.reduceAdd, Nat.reduceLT, Int.reduceEq, Int.reduceLT, Int.reduceLE, Int.reduceNeg, Int.reduceAdd, hh])
         simp -dsimp -implicitDefEqProofs (disch := omega) only [↓wpre, push_cast, reduceCtorEq, ↓reduceIte, Nat.reduceEqDiff, Nat.reduceLeDiff, Nat.reduceAdd, Nat.reduceLT, Int.reduceEq, Int.reduceLT, Int.reduceLE, Int.reduceNeg, Int.reduceAdd, hkk])
      | (have e : wdStep purpose acc s = some s := by (clear hh hf hfs; cases acc <;> grind [wdStep])
         rw [e] at hfs
         refine againJ (a ++ [s], b, some s) (Nat.lt_succ_self _) ⟨by simp, hfs, ?_, by exact Qt.mono (n := n) (by repeat (first | exact hq | refine Qt.hu ?_ (by omega))) (by omega), by omega⟩ (by simp -dsimp -implicitDefEqProofs (disch := omega) only [↓wpre, push_cast, reduceCtorEq, ↓reduceIte, Nat.reduceEqDiff, Nat.reduceLeDiff, Nat.reduceAdd, Nat.reduceLT, Int.reduceEq, Int.reduceLT, Int.reduceLE, Int.reduceNeg, Int.reduceAdd, hh, Option.isSome_some])
         rw [hu_same]
         simp_all [Stm.c])
theorem grants_c (nz : Bool) (l : List Stm) (purpose : T) (hl : l.length ≤ 1000000) : AFn Tryz.prog G 109 [.ls nz (l.map Stm.c), .str purpose] H (.tup [lsOf ((grants l purpose).map Stm.c), .agg ((withdrawal l purpose).getD noStm).c, .bool (withdrawal l purpose).isSome]) := by
  intro n
  refine ACalls.frz (grants_run G H nz l purpose hl n) ?_
  rintro r H1 n1 (⟨h, rfl, rfl⟩ | ⟨i, rfl, h1, h2, h3, h4⟩)
  · refine ⟨fun _ => none, H1, 0, fun _ _ h => (by cases h), Sub.refl _, fun _ _ h => (by cases h), ?_, rfl⟩
    rw [h]; rfl
  · refine ⟨only i ⟨43, 8, (grants l purpose).map Stm.c⟩, H, 2, only_sub h1, h2, fun j o hj => ?_, ?_, rfl⟩
    · unfold only at hj
      split at hj
      · rename_i e; subst e; exact h3
      · cases hj
    · show AV.tup [frz _ 1 (.os i 0 _), frz _ 1 (.agg _), frz _ 1 (.lit _)] = _
      rw [frz_os_plain (plain_stm _) (by simp)]
      cases hx : grants l purpose with
      | nil => exact absurd hx h4
      | cons s r => rfl
theorem answer_le {l : List Stm} {P : Stm → Prop} (h : ∀ s ∈ l, P s) {purpose : T} : ∀ s ∈ grants l purpose, P s := fun s hs => h s (List.mem_filter.1 hs).1
theorem allowed_c (nz : Bool) (l : List Stm) (t : Term) (purpose : T) (at' : Int) (hl : l.length ≤ 1000000) (ht : 0 ≤ t.days ∧ t.days ≤ 100000 ∧ 0 ≤ t.wait ∧ t.wait ≤ 1000000) (hg : ∀ s ∈ l, 0 ≤ s.at' ∧ s.at' ≤ 10000000) : AFn Tryz.prog G 76 [.ls nz (l.map Stm.c), .agg t.c, .str purpose, .int at'] H (.agg (allowed l t purpose at').c) := by
  refine AFn.start mix F76 (by simp) fun k hlow => ?_
  have hgr : ∀ s ∈ grants l purpose, 0 ≤ s.at' ∧ s.at' ≤ 10000000 := answer_le hg
  have hgl : (grants l purpose).length ≤ 1000000 := Nat.le_trans (List.length_filter_le _ _) hl
  simp -dsimp -implicitDefEqProofs (disch := omega) only [↓wpre, push_cast, reduceCtorEq, ↓reduceIte, Nat.reduceEqDiff, Nat.reduceLeDiff, Nat.reduceAdd, Nat.reduceLT, Int.reduceEq, Int.reduceLT, Int.reduceLE, Int.reduceNeg, Int.reduceAdd, c76]
  (first | with_reducible refine (grants_c _ _ nz l purpose hl).x fun n' hn' => ?_ | with_reducible refine xfn_intro (grants_c _ _ nz l purpose hl) ?_); try simp -dsimp -implicitDefEqProofs (disch := omega) only [↓wpre, push_cast, reduceCtorEq, ↓reduceIte, Nat.reduceEqDiff, Nat.reduceLeDiff, Nat.reduceAdd, Nat.reduceLT, Int.reduceEq, Int.reduceLT, Int.reduceLE, Int.reduceNeg, Int.reduceAdd, lsOf]
  repeat' (first | ((first | with_reducible refine cnd_ndec (fun hc => ?_) (fun hc => ?_) | with_reducible refine cnd_dec (fun hc => ?_) (fun hc => ?_) | with_reducible refine cnd_nb (fun hc => ?_) (fun hc => ?_) | with_reducible refine cnd_intro (fun hc => ?_) (fun hc => ?_)) <;> (first | (exfalso; omega) | (try simp -dsimp -implicitDefEqProofs (disch := omega) only [↓wpre, push_cast, reduceCtorEq, ↓reduceIte, Nat.reduceEqDiff, Nat.reduceLeDiff, Nat.reduceAdd, Nat.reduceLT, Int.reduceEq, Int.reduceLT, Int.reduceLE, Int.reduceNeg, Int.reduceAdd, hc, lsOf]))) | (with_reducible refine anyN_intro fun n' hn' => ?_; try simp -dsimp -implicitDefEqProofs (disch := omega) only [↓wpre, push_cast, reduceCtorEq, ↓reduceIte, Nat.reduceEqDiff, Nat.reduceLeDiff, Nat.reduceAdd, Nat.reduceLT, Int.reduceEq, Int.reduceLT, Int.reduceLE, Int.reduceNeg, Int.reduceAdd, lsOf]) | fail)
  all_goals have hq := Qt.refl hlow
  any_goals (refine ⟨?_, by exact (Qt.mono (n := k) (by repeat (first | exact hq | refine Qt.hu ?_ (by omega))) (Nat.le_refl _)).1⟩; clear hq; simp only [AV.agg.injEq, Answer.c, List.cons.injEq, AV.lit.injEq, Value.int.injEq, Value.bool.injEq, and_true]; grind [allowed]; done)
  all_goals
    have hne : ¬ (grants l purpose).length = 0 := by omega
    have hal : allowed l t purpose at' = ⟨decide (((grants l purpose).foldl (bestStep l t at') (noStm, 0)).2 = 2), ((grants l purpose).foldl (bestStep l t at') (noStm, 0)).2, ((grants l purpose).foldl (bestStep l t at') (noStm, 0)).1.no⟩ := by
      clear hq; grind [allowed]
    rw [hal]
    clear hal
    generalize grants l purpose = gl at hgr hgl hne ⊢
    refine xw_loopJ (σ := List Stm × List Stm × Stm × Int) (fun s => [(0, .ls nz (l.map Stm.c)), (3, .int at'), (5, .pp t.c), (8, .op k 0 0), (12, .op (n' + 1) 0 0), (13, .int s.2.2.2), (43, lsOf (gl.map Stm.c)), (44, .int gl.length), (45, .int s.1.length)]) (fun s H' n2 => gl = s.1 ++ s.2.1 ∧ s.1.foldl (bestStep l t at') (noStm, 0) = s.2.2 ∧ H' (n' + 1) = some ⟨43, 8, [s.2.2.1.c]⟩ ∧ H' k = some ⟨37, 3, [[.bool false, .int 0, .int 0]]⟩ ∧ Qt H H' k ∧ n' + 1 < n2) (fun s => s.2.1.length) ([], gl, noStm, 0) ⟨rfl, rfl, hu_same, by simp -dsimp -implicitDefEqProofs (disch := omega) only [↓wpre, push_cast, reduceCtorEq, ↓reduceIte, Nat.reduceEqDiff, Nat.reduceLeDiff, Nat.reduceAdd, Nat.reduceLT, Int.reduceEq, Int.reduceLT, Int.reduceLE, Int.reduceNeg, Int.reduceAdd], by exact Qt.mono (n := k) (by repeat (first | exact hq | refine Qt.hu ?_ (by omega))) (by omega), Nat.lt_succ_self _⟩ (by simp -dsimp -implicitDefEqProofs (disch := omega) only [↓wpre, push_cast, reduceCtorEq, ↓reduceIte, Nat.reduceEqDiff, Nat.reduceLeDiff, Nat.reduceAdd, Nat.reduceLT, Int.reduceEq, Int.reduceLT, Int.reduceLE, Int.reduceNeg, Int.reduceAdd, lsOf]) ?_
    clear hq
    rintro ⟨a, b, acc⟩ fr H' n2 ⟨rfl, hf, hm, hk, hq, hn2⟩ hh
    simp only [has_nil, has_cons, and_true, List.length_append] at hh hgl hm hf
    cases b with
    | nil =>
      simp only [List.append_nil, List.length_nil, Nat.add_zero] at hh
      simp -dsimp -implicitDefEqProofs (disch := omega) only [↓wpre, push_cast, reduceCtorEq, ↓reduceIte, Nat.reduceEqDiff, Nat.reduceLeDiff, Nat.reduceAdd, Nat.reduceLT, Int.reduceEq, Int.reduceLT, Int.reduceLE, Int.reduceNeg, Int.reduceAdd, hh, hm, hk, lsOf]
      rw [hf]
      refine ⟨?_, by exact (Qt.mono (n := k) (by repeat (first | exact hq | refine Qt.hu ?_ (by omega))) (Nat.le_refl _)).1⟩
      rfl
    | cons g b =>
      have hgg := hgr g (by simp)
      simp only [List.length_cons] at hgl
      have hlt : (a.length : Int) < a.length + (b.length + 1) := by omega
      have hfs : (a ++ [g]).foldl (bestStep l t at') (noStm, 0) = bestStep l t at' acc g := by rw [List.foldl_append, hf]; rfl
      simp -dsimp -implicitDefEqProofs (disch := omega) only [↓wpre, push_cast, reduceCtorEq, ↓reduceIte, Nat.reduceEqDiff, Nat.reduceLeDiff, Nat.reduceAdd, Nat.reduceLT, Int.reduceEq, Int.reduceLT, Int.reduceLE, Int.reduceNeg, Int.reduceAdd, hh, hlt, even_stms', aidx_split, hm, hk, lsOf]
      refine (stateOf_c _ _ nz l t g at' hl ht hgg).x fun n3 hn3 => ?_
      simp -dsimp -implicitDefEqProofs (disch := omega) only [↓wpre, push_cast, reduceCtorEq, ↓reduceIte, Nat.reduceEqDiff, Nat.reduceLeDiff, Nat.reduceAdd, Nat.reduceLT, Int.reduceEq, Int.reduceLT, Int.reduceLE, Int.reduceNeg, Int.reduceAdd, hh, hm, hk, lsOf]
      repeat' (first | ((first | with_reducible refine cnd_ndec (fun hc => ?_) (fun hc => ?_) | with_reducible refine cnd_dec (fun hc => ?_) (fun hc => ?_) | with_reducible refine cnd_nb (fun hc => ?_) (fun hc => ?_) | with_reducible refine cnd_intro (fun hc => ?_) (fun hc => ?_)) <;> (first | (exfalso; omega) | (try simp -dsimp -implicitDefEqProofs (disch := omega) only [↓wpre, push_cast, reduceCtorEq, ↓reduceIte, Nat.reduceEqDiff, Nat.reduceLeDiff, Nat.reduceAdd, Nat.reduceLT, Int.reduceEq, Int.reduceLT, Int.reduceLE, Int.reduceNeg, Int.reduceAdd, hc, hh, hm, hk]))) | (with_reducible refine anyN_intro fun n' hn' => ?_; try simp -dsimp -implicitDefEqProofs (disch := omega) only [↓wpre, push_cast, reduceCtorEq, ↓reduceIte, Nat.reduceEqDiff, Nat.reduceLeDiff, Nat.reduceAdd, Nat.reduceLT, Int.reduceEq, Int.reduceLT, Int.reduceLE, Int.reduceNeg, Int.reduceAdd, hh, hm, hk]) | ((first | with_reducible refine (rank_c _ _ _).x fun n' hn' => ?_ | with_reducible refine xfn_intro (rank_c _ _ _) ?_); try simp -dsimp -implicitDefEqProofs (disch := omega) only [↓wpre, push_cast, reduceCtorEq, ↓reduceIte, Nat.reduceEqDiff, Nat.reduceLeDiff, Nat.reduceAdd, Nat.reduceLT, Int.reduceEq, Int.reduceLT, Int.reduceLE, Int.reduceNeg, Int.reduceAdd, hh, hm, hk]))
      all_goals first
        | (have e : bestStep l t at' acc g = acc := by (clear hh hf hfs hm hk hq hgr; grind [bestStep])
           rw [e] at hfs
           refine againJ (a ++ [g], b, acc) (Nat.lt_succ_self _) ⟨by simp, hfs, ?_, ?_, by exact Qt.mono (n := k) (by repeat (first | exact hq | refine Qt.hu ?_ (by omega))) (by omega), by omega⟩ (by simp -dsimp -implicitDefEqProofs (disch := omega) only [↓wpre, push_cast, reduceCtorEq, ↓reduceIte, Nat.reduceEqDiff, Nat.reduceLeDiff, Nat.reduceAdd, Nat.reduceLT, Int.reduceEq, Int.reduceLT, Int.reduceLE, Int.reduceNeg, Int.reduceAdd, hh])
           · simp -dsimp -implicitDefEqProofs (disch := omega) only [↓wpre, push_cast, reduceCtorEq, ↓reduceIte, Nat.reduceEqDiff, Nat.reduceLeDiff, Nat.reduceAdd, Nat.reduceLT, Int.reduceEq, Int.reduceLT, Int.reduceLE, Int.reduceNeg, Int.reduceAdd, hm]
           · simp -dsimp -implicitDefEqProofs (disch := omega) only [↓wpre, push_cast, reduceCtorEq, ↓reduceIte, Nat.reduceEqDiff, Nat.reduceLeDiff, Nat.reduceAdd, Nat.reduceLT, Int.reduceEq, Int.reduceLT, Int.reduceLE, Int.reduceNeg, Int.reduceAdd, hk])
        | (have e : bestStep l t at' acc g = (g, stateOf l t g at') := by (clear hh hf hfs hm hk hq hgr; grind [bestStep])
           rw [e] at hfs
           refine againJ (a ++ [g], b, g, stateOf l t g at') (Nat.lt_succ_self _) ⟨by simp, hfs, ?_, ?_, by exact Qt.mono (n := k) (by repeat (first | exact hq | refine Qt.hu ?_ (by omega))) (by omega), by omega⟩ (by simp -dsimp -implicitDefEqProofs (disch := omega) only [↓wpre, push_cast, reduceCtorEq, ↓reduceIte, Nat.reduceEqDiff, Nat.reduceLeDiff, Nat.reduceAdd, Nat.reduceLT, Int.reduceEq, Int.reduceLT, Int.reduceLE, Int.reduceNeg, Int.reduceAdd, hh]; try simp_all)
           · simp -dsimp -implicitDefEqProofs (disch := omega) only [↓wpre, push_cast, reduceCtorEq, ↓reduceIte, Nat.reduceEqDiff, Nat.reduceLeDiff, Nat.reduceAdd, Nat.reduceLT, Int.reduceEq, Int.reduceLT, Int.reduceLE, Int.reduceNeg, Int.reduceAdd, hm]
           · simp -dsimp -implicitDefEqProofs (disch := omega) only [↓wpre, push_cast, reduceCtorEq, ↓reduceIte, Nat.reduceEqDiff, Nat.reduceLeDiff, Nat.reduceAdd, Nat.reduceLT, Int.reduceEq, Int.reduceLT, Int.reduceLE, Int.reduceNeg, Int.reduceAdd, hk])
end Go.Proofs.YthcedgclhoggcaaGreatDoor

