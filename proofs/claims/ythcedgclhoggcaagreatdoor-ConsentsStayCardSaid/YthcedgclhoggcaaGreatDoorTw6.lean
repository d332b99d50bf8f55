/- Contracts of functions of the program: each computes what its model says; the conditions stand at each. -/
import Derived.Test.YthcedgclhoggcaaGreatDoorTw5
set_option linter.unusedSimpArgs false
set_option linter.unusedVariables false
set_option maxRecDepth 20000
set_option pp.deepTerms false
set_option pp.deepTerms.threshold 3
namespace Go.Proofs.YthcedgclhoggcaaGreatDoor
open Go Go.Ab Go.Pm Go.Cm
variable (G : Nat → AV) (H : Nat → Option AObj)
theorem stmCmp_c (x y : Stm) : AFn Tryz.prog G 108 [.agg (Stm.c x), .agg (Stm.c y)] H (.int (stmCmp x y)) := by
  refine AFn.start mix F108 (by simp) fun k hlow => ?_
  simp -dsimp -implicitDefEqProofs (disch := omega) only [↓wpre, push_cast, reduceCtorEq, ↓reduceIte, Nat.reduceEqDiff, Nat.reduceLeDiff, Nat.reduceAdd, Nat.reduceLT, Int.reduceEq, Int.reduceLT, Int.reduceLE, Int.reduceNeg, Int.reduceAdd, c108]
  repeat' (first | ((first | with_reducible refine cnd_ndec (fun hc => ?_) (fun hc => ?_) | with_reducible refine cnd_dec (fun hc => ?_) (fun hc => ?_) | with_reducible refine cnd_nb (fun hc => ?_) (fun hc => ?_) | with_reducible refine cnd_intro (fun hc => ?_) (fun hc => ?_)) <;> (first | (exfalso; omega) | (try simp -dsimp -implicitDefEqProofs (disch := omega) only [↓wpre, push_cast, reduceCtorEq, ↓reduceIte, Nat.reduceEqDiff, Nat.reduceLeDiff, Nat.reduceAdd, Nat.reduceLT, Int.reduceEq, Int.reduceLT, Int.reduceLE, Int.reduceNeg, Int.reduceAdd, hc, true_and]))) | (with_reducible refine anyN_intro fun n' hn' => ?_; try simp -dsimp -implicitDefEqProofs (disch := omega) only [↓wpre, push_cast, reduceCtorEq, ↓reduceIte, Nat.reduceEqDiff, Nat.reduceLeDiff, Nat.reduceAdd, Nat.reduceLT, Int.reduceEq, Int.reduceLT, Int.reduceLE, Int.reduceNeg, Int.reduceAdd, true_and]) | ((first | with_reducible refine (cmpI_c _ _ _ _).x fun n' hn' => ?_ | with_reducible refine xfn_intro (cmpI_c _ _ _ _) ?_); try simp -dsimp -implicitDefEqProofs (disch := omega) only [↓wpre, push_cast, reduceCtorEq, ↓reduceIte, Nat.reduceEqDiff, Nat.reduceLeDiff, Nat.reduceAdd, Nat.reduceLT, Int.reduceEq, Int.reduceLT, Int.reduceLE, Int.reduceNeg, Int.reduceAdd, true_and]) | ((first | with_reducible refine (cmpOr_c _ _ [cmpI x.at' y.at', cmpI x.no y.no] (by simp)).x fun n' hn' => ?_ | with_reducible refine xfn_intro (cmpOr_c _ _ [cmpI x.at' y.at', cmpI x.no y.no] (by simp)) ?_); try simp -dsimp -implicitDefEqProofs (disch := omega) only [↓wpre, push_cast, reduceCtorEq, ↓reduceIte, Nat.reduceEqDiff, Nat.reduceLeDiff, Nat.reduceAdd, Nat.reduceLT, Int.reduceEq, Int.reduceLT, Int.reduceLE, Int.reduceNeg, Int.reduceAdd, true_and]))
  rfl
def saidP (x : Idn) (channel : Int) (s : Stm) : Bool := decide (s.id = x) && decide (s.channel = channel)
theorem saidP_eq (x : Idn) (channel : Int) (s : Stm) : saidP x channel s = ((decide (s.id.kind = x.kind) && decide (s.id.text = x.text)) && decide (s.channel = channel)) := by
  obtain ⟨k, t⟩ := x
  obtain ⟨no, at', ⟨k', t'⟩, p, r, c, wh⟩ := s
  simp [saidP, Idn.mk.injEq, Bool.decide_and]
/-- A slice as it is read. -/
def lsOf (rows : List (List AV)) : AV := .ls (!rows.isEmpty) rows
theorem plain_stm (l : List Stm) : ∀ r ∈ l.map Stm.c, plain r = true := by
  intro r hr
  obtain ⟨s, _, rfl⟩ := List.mem_map.1 hr
  rfl
theorem foldl_insRev_length {α : Type} (f : α → α → Int) : ∀ (l r : List α), (l.foldl (fun r x => insRev f x r) r).length = r.length + l.length
  | [], r => by simp
  | x :: l, r => by rw [List.foldl_cons, foldl_insRev_length f l, insRev_length]; simp; omega
theorem isort_length {α : Type} (f : α → α → Int) (l : List α) : (isort f l).length = l.length := by simp [isort, foldl_insRev_length]
/-- A slice of nothing is sorted. -/
theorem insort0_c (f : FuncId) (n : Nat) : ACalls Tryz.prog G 141 [.ls false [], .int 0, .int 0, .fn (.func f) []] H n fun r H' n' => H' = H := by
  refine ACalls.start mix F141 (by simp) fun hlow => ?_
  simp -dsimp -implicitDefEqProofs (disch := omega) only [↓wpre, push_cast, reduceCtorEq, ↓reduceIte, Nat.reduceEqDiff, Nat.reduceLeDiff, Nat.reduceAdd, Nat.reduceLT, Int.reduceEq, Int.reduceLT, Int.reduceLE, Int.reduceNeg, Int.reduceAdd, c141]
  refine xw_loopJ (σ := Unit) (fun _ => [(2, .int 0), (8, .int 1)]) (fun _ H' n' => H' = H) (fun _ => 0) () rfl (by simp -dsimp -implicitDefEqProofs (disch := omega) only [↓wpre, push_cast, reduceCtorEq, ↓reduceIte, Nat.reduceEqDiff, Nat.reduceLeDiff, Nat.reduceAdd, Nat.reduceLT, Int.reduceEq, Int.reduceLT, Int.reduceLE, Int.reduceNeg, Int.reduceAdd]) ?_
  rintro ⟨⟩ fr H' n' rfl hh
  simp only [has_nil, has_cons, and_true] at hh
  simp -dsimp -implicitDefEqProofs (disch := omega) only [↓wpre, push_cast, reduceCtorEq, ↓reduceIte, Nat.reduceEqDiff, Nat.reduceLeDiff, Nat.reduceAdd, Nat.reduceLT, Int.reduceEq, Int.reduceLT, Int.reduceLE, Int.reduceNeg, Int.reduceAdd, hh]
  exact fin_intro (Sub.refl _) rfl
theorem stable0_c (f : FuncId) (n : Nat) : ACalls Tryz.prog G 156 [.ls false [], .int 0, .fn (.func f) []] H n fun r H' n' => H' = H := by
  refine ACalls.start mix F156 (by simp) fun hlow => ?_
  simp -dsimp -implicitDefEqProofs (disch := omega) only [↓wpre, push_cast, reduceCtorEq, ↓reduceIte, Nat.reduceEqDiff, Nat.reduceLeDiff, Nat.reduceAdd, Nat.reduceLT, Int.reduceEq, Int.reduceLT, Int.reduceLE, Int.reduceNeg, Int.reduceAdd, c156]
  refine xw_loopJ (σ := Unit) (fun _ => [(0, .ls false []), (1, .int 0), (2, .fn (.func f) []), (6, .int 20), (7, .int 0), (8, .int 20)]) (fun _ H' n' => H' = H) (fun _ => 0) () rfl (by simp -dsimp -implicitDefEqProofs (disch := omega) only [↓wpre, push_cast, reduceCtorEq, ↓reduceIte, Nat.reduceEqDiff, Nat.reduceLeDiff, Nat.reduceAdd, Nat.reduceLT, Int.reduceEq, Int.reduceLT, Int.reduceLE, Int.reduceNeg, Int.reduceAdd]) ?_
  rintro ⟨⟩ fr H' n' rfl hh
  simp only [has_nil, has_cons, and_true] at hh
  simp -dsimp -implicitDefEqProofs (disch := omega) only [↓wpre, push_cast, reduceCtorEq, ↓reduceIte, Nat.reduceEqDiff, Nat.reduceLeDiff, Nat.reduceAdd, Nat.reduceLT, Int.reduceEq, Int.reduceLT, Int.reduceLE, Int.reduceNeg, Int.reduceAdd, hh]
  refine (insort0_c G H' f _).x fun r H2 n2 h => ?_
  subst h
  simp -dsimp -implicitDefEqProofs (disch := omega) only [↓wpre, push_cast, reduceCtorEq, ↓reduceIte, Nat.reduceEqDiff, Nat.reduceLeDiff, Nat.reduceAdd, Nat.reduceLT, Int.reduceEq, Int.reduceLT, Int.reduceLE, Int.reduceNeg, Int.reduceAdd, hh]
  refine xw_loopJ (σ := Unit) (fun _ => [(1, .int 0), (6, .int 20)]) (fun _ H3 n' => H3 = H2) (fun _ => 0) () rfl (by simp -dsimp -implicitDefEqProofs (disch := omega) only [↓wpre, push_cast, reduceCtorEq, ↓reduceIte, Nat.reduceEqDiff, Nat.reduceLeDiff, Nat.reduceAdd, Nat.reduceLT, Int.reduceEq, Int.reduceLT, Int.reduceLE, Int.reduceNeg, Int.reduceAdd, hh]) ?_
  rintro ⟨⟩ fr2 H3 n3 rfl hh2
  simp only [has_nil, has_cons, and_true] at hh2
  simp -dsimp -implicitDefEqProofs (disch := omega) only [↓wpre, push_cast, reduceCtorEq, ↓reduceIte, Nat.reduceEqDiff, Nat.reduceLeDiff, Nat.reduceAdd, Nat.reduceLT, Int.reduceEq, Int.reduceLT, Int.reduceLE, Int.reduceNeg, Int.reduceAdd, hh2]
  exact fin_intro (Sub.refl _) rfl
theorem sortStable0_c (f : FuncId) (n : Nat) : ACalls Tryz.prog G 107 [.ls false [], .fn (.func f) []] H n fun r H' n' => H' = H := by
  refine ACalls.start mix F107 (by simp) fun hlow => ?_
  simp -dsimp -implicitDefEqProofs (disch := omega) only [↓wpre, push_cast, reduceCtorEq, ↓reduceIte, Nat.reduceEqDiff, Nat.reduceLeDiff, Nat.reduceAdd, Nat.reduceLT, Int.reduceEq, Int.reduceLT, Int.reduceLE, Int.reduceNeg, Int.reduceAdd, c107]
  refine (stable0_c G H f _).x fun r H2 n2 h => ?_
  subst h
  simp -dsimp -implicitDefEqProofs (disch := omega) only [↓wpre, push_cast, reduceCtorEq, ↓reduceIte, Nat.reduceEqDiff, Nat.reduceLeDiff, Nat.reduceAdd, Nat.reduceLT, Int.reduceEq, Int.reduceLT, Int.reduceLE, Int.reduceNeg, Int.reduceAdd]
  exact fin_intro (Sub.refl _) rfl
theorem saidBy_run (nz : Bool) (l : List Stm) (x : Idn) (channel : Int) (hl : l.length ≤ 19) (n : Nat) : ACalls Tryz.prog G 74 [.ls nz (l.map Stm.c), .agg x.c, .int channel] H n fun r H' n' => (r = .ls false [] ∧ H' = H ∧ saidBy l x channel = []) ∨ ∃ i, r = .os i 0 (saidBy l x channel).length ∧ H' i = some ⟨43, 8, (saidBy l x channel).map Stm.c⟩ ∧ Sub H H' ∧ H i = none ∧ saidBy l x channel ≠ [] := by
  refine ACalls.start mix F74 (by simp) fun hlow => ?_
  simp -dsimp -implicitDefEqProofs (disch := omega) only [↓wpre, push_cast, reduceCtorEq, ↓reduceIte, Nat.reduceEqDiff, Nat.reduceLeDiff, Nat.reduceAdd, Nat.reduceLT, Int.reduceEq, Int.reduceLT, Int.reduceLE, Int.reduceNeg, Int.reduceAdd, c74]
  refine xw_loopJ (σ := List Stm × List Stm × Option Nat) (fun t => [(2, .int channel), (4, .pp x.c), (6, .ls false []), (7, outAV t.2.2 (t.1.filter (saidP x channel)).length), (10, .ls nz (l.map Stm.c)), (11, .int l.length), (12, .int t.1.length)]) (fun t H' n' => l = t.1 ++ t.2.1 ∧ OutIs n H' t.2.2 43 8 ((t.1.filter (saidP x channel)).map Stm.c) n' ∧ Qt H H' n ∧ n ≤ n' ∧ (t.2.2 ≠ none → t.1.filter (saidP x channel) ≠ [])) (fun t => t.2.1.length) ([], l, none) ⟨rfl, rfl, .refl hlow, Nat.le_refl _, fun h => (h rfl).elim⟩ (by simp -dsimp -implicitDefEqProofs (disch := omega) only [↓wpre, push_cast, reduceCtorEq, ↓reduceIte, Nat.reduceEqDiff, Nat.reduceLeDiff, Nat.reduceAdd, Nat.reduceLT, Int.reduceEq, Int.reduceLT, Int.reduceLE, Int.reduceNeg, Int.reduceAdd, outAV]) ?_
  rintro ⟨a, b, oid⟩ fr H' n1 ⟨rfl, ho, hq, hn1, hne⟩ hh
  simp only [has_nil, has_cons, and_true, List.length_append] at hh hl ho hne
  cases b with
  | nil =>
    have hfl := List.length_filter_le (saidP x channel) a
    simp only [List.length_nil] at hl
    simp -dsimp -implicitDefEqProofs (disch := omega) only [↓wpre, push_cast, reduceCtorEq, ↓reduceIte, Nat.reduceEqDiff, Nat.reduceLeDiff, Nat.reduceAdd, Nat.reduceLT, Int.reduceEq, Int.reduceLT, Int.reduceLE, Int.reduceNeg, Int.reduceAdd, hh]
    rw [List.append_nil]
    cases oid with
    | none =>
      have ho' : a.filter (saidP x channel) = [] := by
        have : (a.filter (saidP x channel)).map Stm.c = [] := ho
        simpa using this
      have hs : saidBy a x channel = [] := by
        show isort stmCmp (a.filter (saidP x channel)) = []
        rw [ho']; rfl
      refine (sortStable0_c G _ 108 _).x fun r H2 n2 h => ?_
      subst h
      simp -dsimp -implicitDefEqProofs (disch := omega) only [↓wpre, push_cast, reduceCtorEq, ↓reduceIte, Nat.reduceEqDiff, Nat.reduceLeDiff, Nat.reduceAdd, Nat.reduceLT, Int.reduceEq, Int.reduceLT, Int.reduceLE, Int.reduceNeg, Int.reduceAdd, outAV, hh]
      exact fin_intro hq.1 (.inl ⟨rfl, rfl, hs⟩)
    | some i =>
      obtain ⟨h1, h2, h3⟩ := ho
      have hlen : (saidBy a x channel).length = (a.filter (saidP x channel)).length := isort_length _ _
      refine (sortStable_c G _ i (a.filter (saidP x channel)) (by omega) 108 stmCmp (fun H x y => stmCmp_c G H x y) _ h1).x fun r H2 n2 h => ?_
      subst h
      simp -dsimp -implicitDefEqProofs (disch := omega) only [↓wpre, push_cast, reduceCtorEq, ↓reduceIte, Nat.reduceEqDiff, Nat.reduceLeDiff, Nat.reduceAdd, Nat.reduceLT, Int.reduceEq, Int.reduceLT, Int.reduceLE, Int.reduceNeg, Int.reduceAdd, outAV, hh]
      have hi : H i = none := by
        cases hx : H i with
        | none => rfl
        | some o => exact absurd (hq.2 i o hx) (by omega)
      refine fin_intro (Sub.refl _) (.inr ⟨i, by rw [hlen], hu_same, (hq.hu h2).1, hi, ?_⟩)
      intro h0
      apply hne (by simp)
      rw [h0] at hlen
      exact List.length_eq_zero_iff.1 hlen.symm
  | cons s b =>
    simp only [List.length_cons] at hl
    have hlt : (a.length : Int) < a.length + (b.length + 1) := by omega
    have hfl := List.length_filter_le (saidP x channel) a
    have hs := saidP_eq x channel s
    have hT : saidP x channel s = true → (a ++ [s]).filter (saidP x channel) = a.filter (saidP x channel) ++ [s] := fun h => by simp [h]
    have hF : saidP x channel s = false → (a ++ [s]).filter (saidP x channel) = a.filter (saidP x channel) := fun h => by simp [h]
    simp -dsimp -implicitDefEqProofs (disch := omega) only [↓wpre, push_cast, reduceCtorEq, ↓reduceIte, Nat.reduceEqDiff, Nat.reduceLeDiff, Nat.reduceAdd, Nat.reduceLT, Int.reduceEq, Int.reduceLT, Int.reduceLE, Int.reduceNeg, Int.reduceAdd, hh, hlt, even_stms', aidx_split]
    repeat' (first | ((first | with_reducible refine cnd_ndec (fun hc => ?_) (fun hc => ?_) | with_reducible refine cnd_dec (fun hc => ?_) (fun hc => ?_) | with_reducible refine cnd_nb (fun hc => ?_) (fun hc => ?_) | with_reducible refine cnd_intro (fun hc => ?_) (fun hc => ?_)) <;> (first | (exfalso; omega) | (try simp -dsimp -implicitDefEqProofs (disch := omega) only [↓wpre, push_cast, reduceCtorEq, ↓reduceIte, Nat.reduceEqDiff, Nat.reduceLeDiff, Nat.reduceAdd, Nat.reduceLT, Int.reduceEq, Int.reduceLT, Int.reduceLE, Int.reduceNeg, Int.reduceAdd, hc, hh]))) | (with_reducible refine anyN_intro fun n' hn' => ?_; try simp -dsimp -implicitDefEqProofs (disch := omega) only [↓wpre, push_cast, reduceCtorEq, ↓reduceIte, Nat.reduceEqDiff, Nat.reduceLeDiff, Nat.reduceAdd, Nat.reduceLT, Int.reduceEq, Int.reduceLT, Int.reduceLE, Int.reduceNeg, Int.reduceAdd, hh]) | (refine xapp_out (n0 := n) ((ho.hu (by omega) (Nat.le_refl _)).hu (by omega) (by omega)) (by simp) (by intro r hr; simp at hr; subst hr; exact ⟨rfl, rfl⟩) (by simp only [List.length_map]; omega) ?_; simp -dsimp -implicitDefEqProofs (disch := omega) only [↓wpre, push_cast, reduceCtorEq, ↓reduceIte, Nat.reduceEqDiff, Nat.reduceLeDiff, Nat.reduceAdd, Nat.reduceLT, Int.reduceEq, Int.reduceLT, Int.reduceLE, Int.reduceNeg, Int.reduceAdd, hh]))
    · have hx := hT (by rw [hs]; simp_all)
      have ho2 : ∀ o1 o2, OutIs n (hu (hu H' n1 o1) n1 o2) oid 43 8 ((a.filter (saidP x channel)).map Stm.c) (n1 + 1) := fun o1 o2 => (ho.hu (Nat.le_refl _) (Nat.le_refl _)).hu (Nat.le_refl _) (Nat.le_succ _)
      refine againJ (a ++ [s], b, some (n1 + 1)) (Nat.lt_succ_self _) ⟨by simp, ?_, (Qt.dropO (ho2 _ _) ((hq.hu hn1).hu hn1)).hu (by omega), by omega, ?_⟩ (by simp -dsimp -implicitDefEqProofs (disch := omega) only [↓wpre, push_cast, reduceCtorEq, ↓reduceIte, Nat.reduceEqDiff, Nat.reduceLeDiff, Nat.reduceAdd, Nat.reduceLT, Int.reduceEq, Int.reduceLT, Int.reduceLE, Int.reduceNeg, Int.reduceAdd, hh]; simp [hx, outAV])
      · dsimp only
        rw [hx, List.map_append]
        have e : [AV.int s.no, AV.int s.at', AV.int s.id.kind, AV.str s.id.text, AV.str s.purpose, AV.str s.region, AV.int channel, AV.int s.what] = Stm.c s := by rw [Stm.c, hc]
        rw [show List.map Stm.c [s] = [Stm.c s] from rfl, ← e]
        exact OutIs.new (n0 := n) (n := n1 + 1) (by omega)
      · intro _; dsimp only; rw [hx]; simp
    · have hx := hF (by rw [hs]; simp_all)
      refine againJ (a ++ [s], b, oid) (Nat.lt_succ_self _) ⟨by simp, ?_, (hq.hu hn1).hu hn1, by omega, ?_⟩ (by simp -dsimp -implicitDefEqProofs (disch := omega) only [↓wpre, push_cast, reduceCtorEq, ↓reduceIte, Nat.reduceEqDiff, Nat.reduceLeDiff, Nat.reduceAdd, Nat.reduceLT, Int.reduceEq, Int.reduceLT, Int.reduceLE, Int.reduceNeg, Int.reduceAdd, hh]; simp [hx])
      · dsimp only
        rw [hx]
        exact (ho.hu (Nat.le_refl _) (Nat.le_refl _)).hu (Nat.le_refl _) (Nat.le_succ _)
      · dsimp only; rw [hx]; exact hne
    · have hx := hF (by rw [hs]; simp_all)
      refine againJ (a ++ [s], b, oid) (Nat.lt_succ_self _) ⟨by simp, ?_, (hq.hu hn1).hu hn1, by omega, ?_⟩ (by simp -dsimp -implicitDefEqProofs (disch := omega) only [↓wpre, push_cast, reduceCtorEq, ↓reduceIte, Nat.reduceEqDiff, Nat.reduceLeDiff, Nat.reduceAdd, Nat.reduceLT, Int.reduceEq, Int.reduceLT, Int.reduceLE, Int.reduceNeg, Int.reduceAdd, hh]; simp [hx])
      · dsimp only
        rw [hx]
        exact (ho.hu (Nat.le_refl _) (Nat.le_refl _)).hu (Nat.le_refl _) (Nat.le_succ _)
      · dsimp only; rw [hx]; exact hne
theorem saidBy_c (nz : Bool) (l : List Stm) (x : Idn) (channel : Int) (hl : l.length ≤ 19) : AFn Tryz.prog G 74 [.ls nz (l.map Stm.c), .agg x.c, .int channel] H (lsOf ((saidBy l x channel).map Stm.c)) := by
  intro n
  refine ACalls.frz (saidBy_run G H nz l x channel hl n) ?_
  rintro r H1 n1 (⟨rfl, rfl, h⟩ | ⟨i, rfl, h1, h2, h3, h4⟩)
  · refine ⟨fun _ => none, H1, 0, fun _ _ h => (by cases h), Sub.refl _, fun _ _ h => (by cases h), ?_, rfl⟩
    rw [h]; rfl
  · refine ⟨only i ⟨43, 8, (saidBy l x channel).map Stm.c⟩, H, 1, only_sub h1, h2, fun j o hj => ?_, ?_, rfl⟩
    · unfold only at hj
      split at hj
      · rename_i e; subst e; exact h3
      · cases hj
    · rw [frz_os_plain (plain_stm _) (by simp)]
      cases hx : saidBy l x channel with
      | nil => exact absurd hx h4
      | cons s r => rfl
end Go.Proofs.YthcedgclhoggcaaGreatDoor

