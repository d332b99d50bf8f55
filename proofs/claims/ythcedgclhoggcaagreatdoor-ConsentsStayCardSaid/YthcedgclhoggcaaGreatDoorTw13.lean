/- Contracts of functions of the program: each computes what its model says; the conditions stand at each. -/
import Derived.Test.YthcedgclhoggcaaGreatDoorTw12
set_option linter.unusedSimpArgs false
set_option linter.unusedVariables false
set_option maxRecDepth 20000
set_option pp.deepTerms false
set_option pp.deepTerms.threshold 3
namespace Go.Proofs.YthcedgclhoggcaaGreatDoor
open Go Go.Ab Go.Pm Go.Cm
variable (G : Nat → AV) (H : Nat → Option AObj)
theorem low_of {P : Program} {f : FuncId} {args : List AV} {n : Nat} {R : AV → (Nat → Option AObj) → Nat → Prop} (h : Low H n → ACalls P G f args H n R) : ACalls P G f args H n R := by
  intro w g vs h1 h2 h3 h4 h5
  exact h (fun i o hi => by rw [← h3]; exact (h1.lt i o (by rw [h2]; exact hi)).1) w g vs h1 h2 h3 h4 h5
theorem rightPolicyS_c (nz : Bool) (l : List Int) (a : Int) (i : Nat) (hi : H i = some (strm (LL nz l) a)) (ha : 0 ≤ a ∧ a ≤ 1099511625000) : SC G H 9 [.op i 0 0] i (LL nz l) a 120 fun r => ∃ ps, r = .ls true (ps.map Purpose.c) ∧ PolP ps 3 ∧ ps ≠ [] := by
  intro n
  refine low_of G H fun hlow => ACalls.frz (rightPolicy_run G H nz l a i hi ha n) ?_
  have hin := hlow i _ hi
  rintro r H1 n1 ⟨a', ps, h1, h2, h3, h4, rfl | ⟨o, rfl, h5, h6, h7⟩⟩
  · exact ⟨fun _ => none, hu H i (some (strm (LL nz l) a')), 0, fun _ _ h => (by cases h), h4, fun _ _ h => (by cases h), a', h1, h2, rfl, ps, rfl, h3⟩
  · refine ⟨only o ⟨79, 2, ps.map Purpose.c⟩, hu H i (some (strm (LL nz l) a')), 3, only_sub h5, h4, fun j x hj => ?_, a', h1, h2, rfl, ps, ?_, h3⟩
    · unfold only at hj
      split at hj
      · rename_i e; subst e
        rw [hu_ne (by omega)]
        cases hx : H j with
        | none => rfl
        | some y => exact absurd (hlow j y hx) (by omega)
      · cases hj
    · simp only [frz, only, if_true, Nat.zero_add, List.length_map, Nat.le_refl, List.drop_zero]
      rw [List.take_of_length_le (by simp), purposes_frz]
theorem polSmallN {ps : List Purpose} (h : PolP ps 3) : SmallN ps := ⟨by have := h.len; omega, fun x hx => h.small x hx⟩
theorem rightStatements_c (hG : GOk G) (nz nzp : Bool) (p : List Purpose) (hp : p.length ≤ 1000) (l : List Int) (a many : Int) (i : Nat) (hi : H i = some (strm (LL nz l) a)) (ha : 0 ≤ a ∧ a ≤ 1099511625000) (hm : 0 ≤ many ∧ many ≤ 100) : SC G H 10 [.op i 0 0, .ls nzp (p.map Purpose.c), .int many] i (LL nz l) a (8 * many) fun r => ∃ lst : List Stm, r = lsOf (lst.map Stm.c) ∧ RightL p lst ∧ (lst.length : Int) = many := by
  intro n
  refine low_of G H fun hlow => ACalls.frz (rightStatements_run G H hG nz nzp p hp l a many i hi ha hm n) ?_
  have hin := hlow i _ hi
  rintro r H1 n1 ⟨a', lst, h1, h2, h3, h3', h4, ⟨h5, rfl⟩ | ⟨o, rfl, h5, h6, h7⟩⟩
  · exact ⟨fun _ => none, hu H i (some (strm (LL nz l) a')), 0, fun _ _ h => (by cases h), h4, fun _ _ h => (by cases h), a', h1, h2, rfl, lst, by rw [h5]; rfl, h3, h3'⟩
  · refine ⟨only o ⟨43, 8, lst.map Stm.c⟩, hu H i (some (strm (LL nz l) a')), 1, only_sub h5, h4, fun j x hj => ?_, a', h1, h2, rfl, lst, ?_, h3, h3'⟩
    · unfold only at hj
      split at hj
      · rename_i e; subst e
        rw [hu_ne (by omega)]
        cases hx : H j with
        | none => rfl
        | some y => exact absurd (hlow j y hx) (by omega)
      · cases hj
    · rw [frz_os_plain (plain_stm _) (by simp)]
      cases lst with
      | nil => exact absurd rfl h7
      | cons s r => rfl
abbrev askedC (t : Option Term) (purpose : T) (l : AV) : List AV := [.str (t.getD noTerm).region, .int (t.getD noTerm).channel, .bool (t.getD noTerm).free, .int (t.getD noTerm).days, .int (t.getD noTerm).wait, .bool t.isSome, .str purpose, l]
theorem ask_c (nz : Bool) (q : Q) (l : List Stm) (x : Idn) (hl : l.length ≤ 19) (hpl : q.p.length ≤ 1000000) (hp : ∀ p ∈ q.p, p.terms.length ≤ 1000000) : AFn Tryz.prog G 41 [.agg q.c, .ls nz (l.map Stm.c), .agg x.c] H (.agg (askedC (termOf q.p q.purpose q.region q.channel) q.purpose (lsOf ((saidBy l x q.channel).map Stm.c)))) := by
  refine AFn.start mix F41 (by simp) fun k hlow => ?_
  simp -dsimp -implicitDefEqProofs (disch := omega) only [↓wpre, push_cast, reduceCtorEq, ↓reduceIte, Nat.reduceEqDiff, Nat.reduceLeDiff, Nat.reduceAdd, Nat.reduceLT, Int.reduceEq, Int.reduceLT, Int.reduceLE, Int.reduceNeg, Int.reduceAdd, c41]
  repeat' (first | ((first | with_reducible refine cnd_ndec (fun hc => ?_) (fun hc => ?_) | with_reducible refine cnd_dec (fun hc => ?_) (fun hc => ?_) | with_reducible refine cnd_nb (fun hc => ?_) (fun hc => ?_) | with_reducible refine cnd_intro (fun hc => ?_) (fun hc => ?_)) <;> (first | (exfalso; omega) | (try simp -dsimp -implicitDefEqProofs (disch := omega) only [↓wpre, push_cast, reduceCtorEq, ↓reduceIte, Nat.reduceEqDiff, Nat.reduceLeDiff, Nat.reduceAdd, Nat.reduceLT, Int.reduceEq, Int.reduceLT, Int.reduceLE, Int.reduceNeg, Int.reduceAdd, hc, lsOf]))) | (with_reducible refine anyN_intro fun n' hn' => ?_; try simp -dsimp -implicitDefEqProofs (disch := omega) only [↓wpre, push_cast, reduceCtorEq, ↓reduceIte, Nat.reduceEqDiff, Nat.reduceLeDiff, Nat.reduceAdd, Nat.reduceLT, Int.reduceEq, Int.reduceLT, Int.reduceLE, Int.reduceNeg, Int.reduceAdd, lsOf]) | ((first | with_reducible refine (termOf_c _ _ _ q.p _ _ _ hpl hp).x fun n' hn' => ?_ | with_reducible refine xfn_intro (termOf_c _ _ _ q.p _ _ _ hpl hp) ?_); try simp -dsimp -implicitDefEqProofs (disch := omega) only [↓wpre, push_cast, reduceCtorEq, ↓reduceIte, Nat.reduceEqDiff, Nat.reduceLeDiff, Nat.reduceAdd, Nat.reduceLT, Int.reduceEq, Int.reduceLT, Int.reduceLE, Int.reduceNeg, Int.reduceAdd, true_and]) | ((first | with_reducible refine (saidBy_c _ _ nz l x q.channel hl).x fun n' hn' => ?_ | with_reducible refine xfn_intro (saidBy_c _ _ nz l x q.channel hl) ?_); try simp -dsimp -implicitDefEqProofs (disch := omega) only [↓wpre, push_cast, reduceCtorEq, ↓reduceIte, Nat.reduceEqDiff, Nat.reduceLeDiff, Nat.reduceAdd, Nat.reduceLT, Int.reduceEq, Int.reduceLT, Int.reduceLE, Int.reduceNeg, Int.reduceAdd, lsOf]))
  have hq := Qt.refl hlow
  exact (Qt.mono (n := k) (by repeat (first | exact hq | refine Qt.hu ?_ (by omega))) (Nat.le_refl _)).1
theorem answer_c (nz : Bool) (t : Option Term) (purpose : T) (l : List Stm) (at' : Int) (hl : l.length ≤ 1000000) (ht : ∀ u, t = some u → 0 ≤ u.days ∧ u.days ≤ 100000 ∧ 0 ≤ u.wait ∧ u.wait ≤ 1000000) (hg : ∀ s ∈ l, 0 ≤ s.at' ∧ s.at' ≤ 10000000) (ha : -4611686018427387904 ≤ at' ∧ at' ≤ 4611686018427387904) : AFn Tryz.prog G 42 [.agg (askedC t purpose (.ls nz (l.map Stm.c))), .int at'] H (.agg (answerL t purpose l at').c) := by
  refine AFn.start mix F42 (by simp) fun k hlow => ?_
  have hul : (upTo l at').length ≤ 1000000 := (by rw [upTo, List.length_take]; omega)
  have hug : ∀ s ∈ upTo l at', 0 ≤ s.at' ∧ s.at' ≤ 10000000 := fun s hs => hg s (List.mem_of_mem_take hs)
  cases t with
  | none =>
    simp -dsimp -implicitDefEqProofs (disch := omega) only [↓wpre, push_cast, reduceCtorEq, ↓reduceIte, Nat.reduceEqDiff, Nat.reduceLeDiff, Nat.reduceAdd, Nat.reduceLT, Int.reduceEq, Int.reduceLT, Int.reduceLE, Int.reduceNeg, Int.reduceAdd, c42, askedC, Option.isSome_none]
    exact ⟨rfl, (Qt.refl hlow).hu (Nat.le_refl _) |>.hu (Nat.le_refl _) |>.1⟩
  | some u =>
    have hu' := ht u rfl
    simp -dsimp -implicitDefEqProofs (disch := omega) only [↓wpre, push_cast, reduceCtorEq, ↓reduceIte, Nat.reduceEqDiff, Nat.reduceLeDiff, Nat.reduceAdd, Nat.reduceLT, Int.reduceEq, Int.reduceLT, Int.reduceLE, Int.reduceNeg, Int.reduceAdd, c42, askedC, Option.isSome_some, Option.getD_some]
    repeat' (first | ((first | with_reducible refine cnd_ndec (fun hc => ?_) (fun hc => ?_) | with_reducible refine cnd_dec (fun hc => ?_) (fun hc => ?_) | with_reducible refine cnd_nb (fun hc => ?_) (fun hc => ?_) | with_reducible refine cnd_intro (fun hc => ?_) (fun hc => ?_)) <;> (first | (exfalso; omega) | (try simp -dsimp -implicitDefEqProofs (disch := omega) only [↓wpre, push_cast, reduceCtorEq, ↓reduceIte, Nat.reduceEqDiff, Nat.reduceLeDiff, Nat.reduceAdd, Nat.reduceLT, Int.reduceEq, Int.reduceLT, Int.reduceLE, Int.reduceNeg, Int.reduceAdd, hc, true_and]))) | (with_reducible refine anyN_intro fun n' hn' => ?_; try simp -dsimp -implicitDefEqProofs (disch := omega) only [↓wpre, push_cast, reduceCtorEq, ↓reduceIte, Nat.reduceEqDiff, Nat.reduceLeDiff, Nat.reduceAdd, Nat.reduceLT, Int.reduceEq, Int.reduceLT, Int.reduceLE, Int.reduceNeg, Int.reduceAdd, true_and]) | ((first | with_reducible refine (upTo_c _ _ nz l at' hl ha).x fun n' hn' => ?_ | with_reducible refine xfn_intro (upTo_c _ _ nz l at' hl ha) ?_); try simp -dsimp -implicitDefEqProofs (disch := omega) only [↓wpre, push_cast, reduceCtorEq, ↓reduceIte, Nat.reduceEqDiff, Nat.reduceLeDiff, Nat.reduceAdd, Nat.reduceLT, Int.reduceEq, Int.reduceLT, Int.reduceLE, Int.reduceNeg, Int.reduceAdd, true_and]) | ((first | with_reducible refine (objected_c _ _ nz (upTo l at') hul).x fun n' hn' => ?_ | with_reducible refine xfn_intro (objected_c _ _ nz (upTo l at') hul) ?_); try simp -dsimp -implicitDefEqProofs (disch := omega) only [↓wpre, push_cast, reduceCtorEq, ↓reduceIte, Nat.reduceEqDiff, Nat.reduceLeDiff, Nat.reduceAdd, Nat.reduceLT, Int.reduceEq, Int.reduceLT, Int.reduceLE, Int.reduceNeg, Int.reduceAdd, true_and]) | ((first | with_reducible refine (allowed_c _ _ nz (upTo l at') u purpose at' hul hu' hug).x fun n' hn' => ?_ | with_reducible refine xfn_intro (allowed_c _ _ nz (upTo l at') u purpose at' hul hu' hug) ?_); try simp -dsimp -implicitDefEqProofs (disch := omega) only [↓wpre, push_cast, reduceCtorEq, ↓reduceIte, Nat.reduceEqDiff, Nat.reduceLeDiff, Nat.reduceAdd, Nat.reduceLT, Int.reduceEq, Int.reduceLT, Int.reduceLE, Int.reduceNeg, Int.reduceAdd, true_and]))
    all_goals have hq := Qt.refl hlow
    · exact ⟨by simp [answerL, hc], by exact (Qt.mono (n := k) (by repeat (first | exact hq | refine Qt.hu ?_ (by omega))) (Nat.le_refl _)).1⟩
    · exact ⟨by simp [answerL, hc], by exact (Qt.mono (n := k) (by repeat (first | exact hq | refine Qt.hu ?_ (by omega))) (Nat.le_refl _)).1⟩
theorem checkTermsGo_all : ∀ (prev : Option Term) (l : List Term), checkTermsGo prev l = 0 → ∀ t ∈ l, ∃ p, termErr p t = 0
  | _, [], _, t, ht => by simp at ht
  | prev, x :: r, h, t, ht => by
    rw [checkTermsGo] at h
    split at h
    · rename_i h1; exact absurd h h1
    · rename_i h1
      rcases List.mem_cons.1 ht with rfl | h2
      · exact ⟨prev, by simpa using h1⟩
      · exact checkTermsGo_all _ r h t h2
theorem checkTerms_all {l : List Term} (h : checkTerms l = 0) : l.length ≤ 160 ∧ ∀ t ∈ l, 0 ≤ t.days ∧ t.days ≤ 2000 ∧ 0 ≤ t.wait ∧ t.wait ≤ 100000 := by
  rw [checkTerms] at h
  split at h
  · simp at h
  · refine ⟨by omega, fun t ht => ?_⟩
    obtain ⟨p, hp⟩ := checkTermsGo_all _ _ h t ht
    have : Pm.within t.days 0 2000 = true ∧ Pm.within t.wait 0 100000 = true := by cases p <;> grind [termErr]
    simp only [Pm.within, Bool.and_eq_true, decide_eq_true_eq] at this
    omega
theorem checkPolicyGo_all : ∀ (prev : Option Purpose) (l : List Purpose), checkPolicyGo prev l = 0 → ∀ t ∈ l, ∃ p, purposeErr p t = 0
  | _, [], _, t, ht => by simp at ht
  | prev, x :: r, h, t, ht => by
    rw [checkPolicyGo] at h
    split at h
    · rename_i h1; exact absurd h h1
    · rename_i h1
      rcases List.mem_cons.1 ht with rfl | h2
      · exact ⟨prev, by simpa using h1⟩
      · exact checkPolicyGo_all _ r h t h2
theorem checkPolicy_all {l : List Purpose} (h : checkPolicy l = 0) : ∀ p ∈ l, p.terms.length ≤ 160 ∧ ∀ t ∈ p.terms, 0 ≤ t.days ∧ t.days ≤ 2000 ∧ 0 ≤ t.wait ∧ t.wait ≤ 100000 := by
  rw [checkPolicy] at h
  split at h
  · simp at h
  · split at h
    · simp at h
    · intro p hp
      obtain ⟨q, hq⟩ := checkPolicyGo_all _ _ h p hp
      exact checkTerms_all (by cases q <;> grind [purposeErr])
theorem checkGo_all (ps : List Purpose) : ∀ (prev : Option Stm) (l : List Stm), checkGo ps prev l = 0 → ∀ t ∈ l, ∃ p, stmErr ps p t = 0
  | _, [], _, t, ht => by simp at ht
  | prev, x :: r, h, t, ht => by
    rw [checkGo] at h
    split at h
    · rename_i h1; exact absurd h h1
    · rename_i h1
      rcases List.mem_cons.1 ht with rfl | h2
      · exact ⟨prev, by simpa using h1⟩
      · exact checkGo_all ps _ r h t h2
theorem check_all {ps : List Purpose} {l : List Stm} (h : Cm.check ps l = 0) : checkPolicy ps = 0 ∧ ∀ s ∈ l, 0 ≤ s.at' ∧ s.at' ≤ 4321439 := by
  rw [Cm.check] at h
  split at h
  · rename_i h1; exact absurd h h1
  · rename_i h1
    split at h
    · simp at h
    · refine ⟨by simpa using h1, fun s hs => ?_⟩
      obtain ⟨p, hp⟩ := checkGo_all ps _ _ h s hs
      have : Pm.within s.at' 0 4321439 = true := by cases p <;> grind [stmErr]
      simpa only [Pm.within, Bool.and_eq_true, decide_eq_true_eq] using this
theorem purposeOf_mem {l : List Purpose} {name : T} {p : Purpose} (h : purposeOf l name = some p) : p ∈ l := by
  rw [purposeOf] at h
  split at h
  · exact List.mem_of_getElem? h
  · cases h
theorem termOf_mem {l : List Purpose} {purpose region : T} {channel : Int} {t : Term} (h : termOf l purpose region channel = some t) : ∃ p ∈ l, t ∈ p.terms := by
  simp only [termOf] at h
  split at h
  · have h2 := List.mem_of_getElem? h
    cases hp : purposeOf l purpose with
    | none => rw [hp] at h2; simp [noPurpose] at h2
    | some p => rw [hp] at h2; exact ⟨p, purposeOf_mem hp, h2⟩
  · cases h
theorem qcheck_all {q : Q} (h : q.check = 0) : 0 ≤ q.at' ∧ q.at' ≤ 4321439 := by
  have : Pm.within q.at' 0 4321439 = true := by grind [Q.check]
  simpa only [Pm.within, Bool.and_eq_true, decide_eq_true_eq] using this
theorem saidBy_mem {l : List Stm} {x : Idn} {c : Int} {s : Stm} (h : s ∈ saidBy l x c) : s ∈ l := by
  have key : ∀ (xs r : List Stm) (s : Stm), s ∈ xs.foldl (fun r x => insRev stmCmp x r) r → s ∈ xs ∨ s ∈ r := by
    intro xs
    induction xs with
    | nil => intro r s h; exact .inr h
    | cons y xs ih =>
      intro r s h
      rcases ih _ s h with h | h
      · exact .inl (List.mem_cons_of_mem _ h)
      · have ins : ∀ r : List Stm, s ∈ insRev stmCmp y r → s = y ∨ s ∈ r := by
          intro r
          induction r with
          | nil => intro h; simpa [insRev] using h
          | cons p r ih2 =>
            intro h
            simp only [insRev] at h
            split at h
            · rcases List.mem_cons.1 h with h | h
              · exact .inr (by simp [h])
              · rcases ih2 h with h | h
                · exact .inl h
                · exact .inr (List.mem_cons_of_mem _ h)
            · rcases List.mem_cons.1 h with h | h
              · exact .inl h
              · exact .inr h
        rcases ins r h with h | h
        · exact .inl (by simp [h])
        · exact .inr h
  unfold saidBy isort at h
  rcases key _ _ s (List.mem_reverse.1 h) with h | h
  · exact (List.mem_filter.1 h).1
  · simp at h
theorem may_c (hG : GOk G) (nzp nz : Bool) (p : List Purpose) (l : List Stm) (x : Idn) (purpose region : T) (channel at' : Int) (hP : SmallP p) (hpl : p.length ≤ 1000000) (hS : SmallS l) (hl : l.length ≤ 19) (hr : region.size ≤ 9223372036854775807) (hx : x.text.size < 4294967281) : AFn Tryz.prog G 13 [.ls nzp (p.map Purpose.c), .ls nz (l.map Stm.c), .agg x.c, .str purpose, .str region, .int channel, .int at'] H (.tup [.agg (may ⟨p, nzp, purpose, region, channel, at'⟩ l x).1.c, .int (may ⟨p, nzp, purpose, region, channel, at'⟩ l x).2]) := by
  refine AFn.start mix F13 (by simp) fun k hlow => ?_
  obtain ⟨m, cs, hGm⟩ := hG.maxLen
  generalize hq : (⟨p, nzp, purpose, region, channel, at'⟩ : Q) = q
  have e1 : q.p = p := by rw [← hq]
  have e2 : q.nz = nzp := by rw [← hq]
  have e3 : q.purpose = purpose := by rw [← hq]
  have e4 : q.region = region := by rw [← hq]
  have e5 : q.channel = channel := by rw [← hq]
  have e6 : q.at' = at' := by rw [← hq]
  clear hq
  subst e1 e2 e3 e4 e5 e6
  have hchk : ∀ H, AFn Tryz.prog G 40 [.agg q.c, .ls nz (l.map Stm.c), .int 1, .ls true [[.int x.kind, .str x.text]]] H (.int (checkAll q l 1 [x])) := fun H => checkAll_c G H hGm nz true q l 1 [x] hP hpl hS hr (by simp) (by simpa using hx)
  simp -dsimp -implicitDefEqProofs (disch := omega) only [↓wpre, push_cast, reduceCtorEq, ↓reduceIte, Nat.reduceEqDiff, Nat.reduceLeDiff, Nat.reduceAdd, Nat.reduceLT, Int.reduceEq, Int.reduceLT, Int.reduceLE, Int.reduceNeg, Int.reduceAdd, c13]
  (first | with_reducible refine (hchk _).x fun n' hn' => ?_ | with_reducible refine xfn_intro (hchk _) ?_); try simp -dsimp -implicitDefEqProofs (disch := omega) only [↓wpre, push_cast, reduceCtorEq, ↓reduceIte, Nat.reduceEqDiff, Nat.reduceLeDiff, Nat.reduceAdd, Nat.reduceLT, Int.reduceEq, Int.reduceLT, Int.reduceLE, Int.reduceNeg, Int.reduceAdd, true_and]
  (first | with_reducible refine cnd_ndec (fun hc => ?_) (fun hc => ?_) | with_reducible refine cnd_dec (fun hc => ?_) (fun hc => ?_) | with_reducible refine cnd_nb (fun hc => ?_) (fun hc => ?_) | with_reducible refine cnd_intro (fun hc => ?_) (fun hc => ?_)) <;> (first | (exfalso; omega) | (try simp -dsimp -implicitDefEqProofs (disch := omega) only [↓wpre, push_cast, reduceCtorEq, ↓reduceIte, Nat.reduceEqDiff, Nat.reduceLeDiff, Nat.reduceAdd, Nat.reduceLT, Int.reduceEq, Int.reduceLT, Int.reduceLE, Int.reduceNeg, Int.reduceAdd, hc, true_and]))
  · have hq := Qt.refl hlow
    have e : may q l x = (⟨false, 0, 0⟩, checkAll q l 1 [x]) := by rw [may, if_pos (by simpa using hc)]
    exact ⟨by rw [e], by exact (Qt.mono (n := k) (by repeat (first | exact hq | refine Qt.hu ?_ (by omega))) (Nat.le_refl _)).1⟩
  · have hq := Qt.refl hlow
    have h0 : checkAll q l 1 [x] = 0 := by simpa using hc
    have e : may q l x = (answer q l x q.at', 0) := by rw [may, if_neg (by simpa using hc)]
    have h1 : Cm.check q.p l = 0 := by grind [checkAll]
    have h2 : q.check = 0 := by grind [checkAll]
    have h3 := check_all h1
    have h4 := checkPolicy_all h3.1
    have h5 := qcheck_all h2
    refine AFn.x (ask_c G _ nz q l x hl hpl (fun p hp => by have := (h4 p hp).1; omega)) fun n2 hn2 => ?_
    simp -dsimp -implicitDefEqProofs (disch := omega) only [↓wpre, push_cast, reduceCtorEq, ↓reduceIte, Nat.reduceEqDiff, Nat.reduceLeDiff, Nat.reduceAdd, Nat.reduceLT, Int.reduceEq, Int.reduceLT, Int.reduceLE, Int.reduceNeg, Int.reduceAdd, lsOf]
    refine AFn.x (answer_c G _ _ (termOf q.p q.purpose q.region q.channel) q.purpose (saidBy l x q.channel) q.at' (by rw [saidBy, isort_length]; exact Nat.le_trans (List.length_filter_le _ _) (by omega)) (fun u hu => ?_) (fun s hs => ?_) (by omega)) fun n3 hn3 => ?_
    · obtain ⟨p, hp, ht⟩ := termOf_mem hu
      have := (h4 p hp).2 u ht
      omega
    · have := h3.2 s (saidBy_mem hs)
      omega
    · simp -dsimp -implicitDefEqProofs (disch := omega) only [↓wpre, push_cast, reduceCtorEq, ↓reduceIte, Nat.reduceEqDiff, Nat.reduceLeDiff, Nat.reduceAdd, Nat.reduceLT, Int.reduceEq, Int.reduceLT, Int.reduceLE, Int.reduceNeg, Int.reduceAdd, true_and]
      exact ⟨by rw [e]; rfl, by exact (Qt.mono (n := k) (by repeat (first | exact hq | refine Qt.hu ?_ (by omega))) (Nat.le_refl _)).1⟩
end Go.Proofs.YthcedgclhoggcaaGreatDoor

