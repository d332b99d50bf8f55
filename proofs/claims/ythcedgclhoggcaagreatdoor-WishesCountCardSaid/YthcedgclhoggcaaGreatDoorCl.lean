/- Plain laws over what package consent computes; the conditions stand at each. -/
import Derived.Test.YthcedgclhoggcaaGreatDoorTw14
/-! The laws over what package consent computes. -/
set_option linter.unusedVariables false
set_option linter.unusedSimpArgs false
namespace Go.Proofs.YthcedgclhoggcaaGreatDoor
open Go Go.Ab Go.Pm Go.Cm
/-! The order of texts. -/
theorem bl_irrefl : ∀ x : List UInt8, Op.bytesLess x x = false
  | [] => rfl
  | a :: x => by simp [Op.bytesLess, bl_irrefl x]
theorem bl_trans : ∀ x y z : List UInt8, Op.bytesLess x y = true → Op.bytesLess y z = true → Op.bytesLess x z = true
  | _, [], _, h, _ => by simp [Op.bytesLess] at h
  | [], _ :: _, [], _, h => by simp [Op.bytesLess] at h
  | _ :: _, _ :: _, [], _, h => by simp [Op.bytesLess] at h
  | [], _ :: _, _ :: _, _, _ => rfl
  | a :: x, b :: y, c :: z, h, k => by
    simp only [Op.bytesLess, Bool.or_eq_true, decide_eq_true_eq, Bool.and_eq_true, beq_iff_eq] at h k ⊢
    rcases h with h | ⟨h1, h2⟩ <;> rcases k with k | ⟨k1, k2⟩
    · exact .inl (UInt8.lt_trans h k)
    · subst k1; exact .inl h
    · subst h1; exact .inl k
    · subst h1 k1; exact .inr ⟨rfl, bl_trans x y z h2 k2⟩
theorem bl_total : ∀ x y : List UInt8, Op.bytesLess x y = false → x ≠ y → Op.bytesLess y x = true
  | [], [], _, h => (h rfl).elim
  | [], _ :: _, h, _ => by simp [Op.bytesLess] at h
  | _ :: _, [], _, _ => rfl
  | a :: x, b :: y, h, k => by
    simp only [Op.bytesLess, Bool.or_eq_false_iff, decide_eq_false_iff_not, Bool.and_eq_false_iff, beq_eq_false_iff_ne] at h
    simp only [Op.bytesLess, Bool.or_eq_true, decide_eq_true_eq, Bool.and_eq_true, beq_iff_eq]
    by_cases hab : a = b
    · subst hab
      refine .inr ⟨rfl, bl_total x y ?_ (fun e => k (by rw [e]))⟩
      rcases h.2 with h2 | h2
      · exact absurd rfl h2
      · exact h2
    · left
      have h1 := h.1
      rcases UInt8.lt_or_lt_of_ne hab with h2 | h2
      · exact absurd h2 h1
      · exact h2
theorem toList_inj {a b : T} (h : a.toList = b.toList) : a = b := by
  have := toList_dec a b
  rw [beq_iff_eq.2 h] at this
  simpa using this.symm
theorem strLt_irrefl (a : T) : strLt a a = false := bl_irrefl _
theorem strLt_trans {a b c : T} (h : strLt a b = true) (k : strLt b c = true) : strLt a c = true := bl_trans _ _ _ h k
theorem strLt_total {a b : T} (h : strLt a b = false) (k : a ≠ b) : strLt b a = true := bl_total _ _ h fun e => k (toList_inj e)
theorem strLt_asymm {a b : T} (h : strLt a b = true) : strLt b a = false := by
  cases hb : strLt b a with
  | false => rfl
  | true => have := strLt_trans h hb; rw [strLt_irrefl] at this; cases this
theorem strLt_ne {a b : T} (h : strLt a b = true) : a ≠ b := fun e => by subst e; rw [strLt_irrefl] at h; cases h
theorem cmpS_self (a : T) : cmpS a a = 0 := by simp [cmpS, strLt_irrefl]
theorem cmpS_lt {a b : T} (h : strLt a b = true) : cmpS a b = -1 := by simp [cmpS, h]
theorem cmpS_gt {a b : T} (h : strLt b a = true) : cmpS a b = 1 := by simp [cmpS, strLt_asymm h, (strLt_ne h).symm]
/-! The search by halves. -/
theorem bsGo_eq {c : Nat → Int} {k n : Nat} (hk : k ≤ n) (h1 : ∀ i, i < k → c i < 0) (h2 : ∀ i, k ≤ i → i < n → ¬ c i < 0) : ∀ (m lo hi : Nat), lo ≤ k → k ≤ hi → hi ≤ n → hi - lo ≤ m → bsGo c m lo hi = k
  | 0, lo, hi, h3, h4, h5, h6 => by simp only [bsGo]; omega
  | m + 1, lo, hi, h3, h4, h5, h6 => by
    simp only [bsGo]
    by_cases h : lo < hi
    · rw [if_pos h]
      by_cases hc : c ((lo + hi) / 2) < 0
      · rw [if_pos hc]
        refine bsGo_eq hk h1 h2 m _ _ ?_ h4 h5 (by omega)
        rcases Nat.lt_or_ge ((lo + hi) / 2) k with h7 | h7
        · omega
        · exact absurd hc (h2 _ h7 (by omega))
      · rw [if_neg hc]
        refine bsGo_eq hk h1 h2 m _ _ h3 ?_ (by omega) (by omega)
        rcases Nat.lt_or_ge ((lo + hi) / 2) k with h7 | h7
        · exact absurd (h1 _ h7) hc
        · exact h7
    · rw [if_neg h]; omega
theorem bsAt_eq {α : Type} {f : α → Int} {l : List α} {k : Nat} (hk : k ≤ l.length) (h1 : ∀ i, i < k → at0 f l i < 0) (h2 : ∀ i, k ≤ i → i < l.length → ¬ at0 f l i < 0) : bsAt f l = k := bsGo_eq hk h1 h2 _ _ _ (Nat.zero_le _) hk (Nat.le_refl _) (by omega)
/-! Policies. -/
theorem policy_sorted : ∀ (prev : Option Purpose) (l : List Purpose), checkPolicyGo prev l = 0 → l.Pairwise (fun a b => strLt a.name b.name = true) ∧ ∀ p, prev = some p → ∀ x ∈ l, strLt p.name x.name = true
  | _, [], _ => ⟨.nil, by simp⟩
  | prev, x :: r, h => by
    rw [checkPolicyGo] at h
    split at h
    · rename_i h1; exact absurd h h1
    · rename_i h1
      have h1 : purposeErr prev x = 0 := by simpa using h1
      obtain ⟨k1, k2⟩ := policy_sorted (some x) r h
      refine ⟨List.pairwise_cons.2 ⟨k2 x rfl, k1⟩, fun p hp y hy => ?_⟩
      subst hp
      have hpx : strLt p.name x.name = true := by
        have : (strLt x.name p.name || decide (x.name = p.name)) = false := by grind [purposeErr]
        simp only [Bool.or_eq_false_iff, decide_eq_false_iff_not] at this
        exact strLt_total this.1 this.2
      rcases List.mem_cons.1 hy with rfl | hy
      · exact hpx
      · exact strLt_trans hpx (k2 x rfl y hy)
theorem policy_pairs {l : List Purpose} (h : checkPolicy l = 0) : l.Pairwise (fun a b => strLt a.name b.name = true) := by
  rw [checkPolicy] at h
  split at h
  · simp at h
  · split at h
    · simp at h
    · exact (policy_sorted _ _ h).1
theorem purposeOf_some {l : List Purpose} (h : checkPolicy l = 0) {x : Purpose} (hx : x ∈ l) : (purposeOf l x.name).isSome = true := by
  have hp := policy_pairs h
  obtain ⟨k, hk, rfl⟩ := List.getElem_of_mem hx
  have hget := List.pairwise_iff_getElem.1 hp
  have hat : ∀ i (hi : i < l.length), at0 (fun p => cmpS p.name l[k].name) l i = cmpS l[i].name l[k].name := fun i hi => by
    simp only [at0, List.getElem?_eq_getElem hi]
  have hb : bsAt (fun p => cmpS p.name l[k].name) l = k := by
    refine bsAt_eq (Nat.le_of_lt hk) (fun i hi => ?_) (fun i hi hi2 => ?_)
    · rw [hat i (by omega), cmpS_lt (hget i k (by omega) hk hi)]; decide
    · rw [hat i hi2]
      rcases Nat.lt_or_ge k i with h1 | h1
      · rw [cmpS_gt (hget k i hk hi2 h1)]; decide
      · have : i = k := by omega
        subst this
        rw [cmpS_self]; decide
  have hh : bsHas (fun p => cmpS p.name l[k].name) l = true := by
    simp only [bsHas, hb, hat k hk, cmpS_self, hk, decide_true, Bool.and_self]
  rw [purposeOf, if_pos hh, hb, List.getElem?_eq_getElem hk]
  rfl
theorem policy_ne {l : List Purpose} (h : checkPolicy l = 0) : l ≠ [] := by
  intro e
  subst e
  simp [checkPolicy] at h
/-! Right statements. -/
theorem regions_key : isKey ⟨#[101, 117]⟩ = true ∧ isKey ⟨#[117, 115]⟩ = true := by decide +kernel
theorem pool_check {x : Idn} (h : x ∈ pool) : checkId x.kind x.text = 0 := by
  have := List.all_eq_true.1 pool_ok x h
  simpa using this
theorem right_err {p : List Purpose} (hp : checkPolicy p = 0) {s : Stm} (hs : RightS p s) (hn : 1 ≤ s.no ∧ s.no ≤ 1000) {prev : Option Stm} (hv : ∀ q, prev = some q → q.no < s.no) : stmErr p prev s = 0 := by
  have h1 : Pm.within s.no 1 1000000 = true := by simp [Pm.within]; omega
  have h2 : Pm.within s.at' 0 4321439 = true := by have := hs.at'; simp [Pm.within]; omega
  have h3 := pool_check hs.id
  have h4 : Pm.within s.channel 1 4 = true := by have := hs.channel; simp [Pm.within]; omega
  have h5 : Pm.within s.what 1 5 = true := by have := hs.what; simp [Pm.within]; omega
  have h6 : isKey s.region = true := by rcases hs.region with h | h <;> rw [h]; exact regions_key.1; exact regions_key.2
  have h8 : ofCh s.what = true → s.purpose = ⟨#[]⟩ := fun h => hs.none (by simp [ofCh] at h; omega)
  have h9 : ofCh s.what = false → (purposeOf p s.purpose).isSome = true := fun h => by
    have hw := hs.what
    simp [ofCh] at h
    obtain ⟨x, hx, e⟩ := hs.of (by omega) (policy_ne hp)
    rw [e]
    exact purposeOf_some hp hx
  unfold stmErr
  rw [if_neg (by simp [h1])]
  rw [if_neg (by
    cases prev with
    | none => simp
    | some q => have := hv q rfl; simp; omega)]
  rw [if_neg (by simp [h2]), if_neg (by simp [h3]), if_neg (by simp [h4, h5])]
  cases h : ofCh s.what with
  | true => simp [h8 h, h6]
  | false => simp [h9 h, h6]
theorem right_go {p : List Purpose} (hp : checkPolicy p = 0) : ∀ (l : List Stm) (prev : Option Stm), RightL p l → (∀ q, prev = some q → ∀ s ∈ l, q.no < s.no) → checkGo p prev l = 0
  | [], _, _, _ => rfl
  | s :: r, prev, h, hv => by
    rw [checkGo, right_err hp (h.each s (by simp)).1 (h.each s (by simp)).2 (fun q hq => hv q hq s (by simp))]
    simp only [ne_eq, not_true_eq_false, if_false]
    have hr := List.pairwise_cons.1 h.rise
    exact right_go hp r (some s) ⟨fun x hx => h.each x (by simp [hx]), hr.2⟩ fun q hq x hx => by cases hq; exact hr.1 x hx
theorem right_check {p : List Purpose} {l : List Stm} (h : RightL p l) (hl : l.length ≤ 3000) : Cm.check p l = checkPolicy p := by
  rw [Cm.check]
  by_cases hp : checkPolicy p = 0
  · rw [if_neg (by simpa using hp), if_neg (by omega), right_go hp l none h (by simp), hp]
  · rw [if_pos hp]
theorem RightL.filter {p : List Purpose} {l : List Stm} (h : RightL p l) (f : Stm → Bool) : RightL p (l.filter f) := ⟨fun s hs => h.each s (List.mem_filter.1 hs).1, h.rise.filter f⟩
/-! What was said, in order. -/
theorem stmCmp_lt {a b : Stm} (h : stmCmp a b < 0) : a.at' ≤ b.at' := by
  simp only [stmCmp, cmpOr, cmpI] at h
  grind
theorem stmCmp_ge {a b : Stm} (h : ¬ stmCmp a b < 0) : b.at' ≤ a.at' := by
  simp only [stmCmp, cmpOr, cmpI] at h
  grind
theorem insRev_filter (f : Stm → Stm → Int) (p : Stm → Bool) (hd : ∀ a b, p a = true → p b = false → f a b < 0) (x : Stm) : ∀ r : List Stm, (insRev f x r).filter p = if p x = true then insRev f x (r.filter p) else r.filter p
  | [] => by by_cases h : p x = true <;> simp [insRev, h]
  | y :: r => by
    have ih := insRev_filter f p hd x r
    simp only [insRev]
    by_cases hxy : f x y < 0
    · rw [if_pos hxy]
      by_cases hy : p y = true
      · rw [List.filter_cons_of_pos hy, ih, List.filter_cons_of_pos hy]
        by_cases hx : p x = true
        · rw [if_pos hx, if_pos hx, insRev, if_pos hxy]
        · rw [if_neg hx, if_neg hx]
      · rw [List.filter_cons_of_neg hy, ih, List.filter_cons_of_neg hy]
    · rw [if_neg hxy]
      by_cases hx : p x = true
      · have hy : p y = true := by
          cases h : p y with
          | true => rfl
          | false => exact absurd (hd x y hx h) hxy
        rw [List.filter_cons_of_pos hx, List.filter_cons_of_pos hy, if_pos hx, insRev, if_neg hxy]
      · rw [List.filter_cons_of_neg hx, if_neg hx]
theorem isort_filter (f : Stm → Stm → Int) (p : Stm → Bool) (hd : ∀ a b, p a = true → p b = false → f a b < 0) (l : List Stm) : (isort f l).filter p = isort f (l.filter p) := by
  have key : ∀ (l r : List Stm), (l.foldl (fun r x => insRev f x r) r).filter p = (l.filter p).foldl (fun r x => insRev f x r) (r.filter p) := by
    intro l
    induction l with
    | nil => intro r; rfl
    | cons x l ih =>
      intro r
      rw [List.foldl_cons, ih, insRev_filter f p hd]
      by_cases hx : p x = true
      · rw [if_pos hx, List.filter_cons_of_pos hx, List.foldl_cons]
      · rw [if_neg hx, List.filter_cons_of_neg hx]
  simp only [isort, List.filter_reverse, key, List.filter_nil]
theorem insRev_mem {f : Stm → Stm → Int} {x s : Stm} : ∀ {r : List Stm}, s ∈ insRev f x r → s = x ∨ s ∈ r
  | [], h => by simpa [insRev] using h
  | p :: r, h => by
    simp only [insRev] at h
    split at h
    · rcases List.mem_cons.1 h with h | h
      · exact .inr (by simp [h])
      · rcases insRev_mem h with h | h
        · exact .inl h
        · exact .inr (List.mem_cons_of_mem _ h)
    · rcases List.mem_cons.1 h with h | h
      · exact .inl h
      · exact .inr h
theorem insRev_desc (x : Stm) : ∀ r : List Stm, r.Pairwise (fun a b => b.at' ≤ a.at') → (insRev stmCmp x r).Pairwise (fun a b => b.at' ≤ a.at')
  | [], _ => List.pairwise_singleton _ _
  | p :: r, h => by
    have hp := List.pairwise_cons.1 h
    simp only [insRev]
    split
    · rename_i hlt
      refine List.pairwise_cons.2 ⟨fun s hs => ?_, insRev_desc x r hp.2⟩
      rcases insRev_mem hs with rfl | hs
      · exact stmCmp_lt hlt
      · exact hp.1 s hs
    · rename_i hlt
      have hpx := stmCmp_ge hlt
      refine List.pairwise_cons.2 ⟨fun s hs => ?_, h⟩
      rcases List.mem_cons.1 hs with rfl | hs
      · exact hpx
      · exact Int.le_trans (hp.1 s hs) hpx
theorem isort_asc (l : List Stm) : (isort stmCmp l).Pairwise (fun a b => a.at' ≤ b.at') := by
  have key : ∀ (l r : List Stm), r.Pairwise (fun a b => b.at' ≤ a.at') → (l.foldl (fun r x => insRev stmCmp x r) r).Pairwise (fun a b => b.at' ≤ a.at') := by
    intro l
    induction l with
    | nil => intro r h; exact h
    | cons x l ih => intro r h; exact ih _ (insRev_desc x r h)
  exact List.pairwise_reverse.2 (key l [] .nil)
/-- What was said up to a moment. -/
theorem upTo_filter {l : List Stm} (h : l.Pairwise (fun a b => a.at' ≤ b.at')) (at0' : Int) : upTo l at0' = l.filter fun s => !decide (at0' < s.at') := by
  have key : ∀ l : List Stm, l.Pairwise (fun a b => a.at' ≤ b.at') → ∃ k ≤ l.length, (∀ i (hi : i < l.length), i < k ↔ l[i].at' ≤ at0') ∧ l.take k = l.filter fun s => !decide (at0' < s.at') := by
    intro l
    induction l with
    | nil => intro _; exact ⟨0, Nat.le_refl _, fun i hi => absurd hi (Nat.not_lt_zero _), rfl⟩
    | cons x r ih =>
      intro h
      have hx := List.pairwise_cons.1 h
      by_cases hxa : x.at' ≤ at0'
      · obtain ⟨k, h1, h2, h3⟩ := ih hx.2
        refine ⟨k + 1, by simpa using h1, fun i hi => ?_, ?_⟩
        · cases i with
          | zero => simpa using hxa
          | succ i => simpa using h2 i (by simpa using hi)
        · rw [List.take_succ_cons, h3, List.filter_cons_of_pos (by simp; omega)]
      · refine ⟨0, Nat.zero_le _, fun i hi => ?_, ?_⟩
        · cases i with
          | zero => simpa using hxa
          | succ i =>
            have := hx.1 _ (List.getElem_mem (l := r) (n := i) (by simpa using hi))
            simp only [List.getElem_cons_succ, Nat.not_lt_zero, false_iff]
            omega
        · rw [List.take_zero, List.filter_cons_of_neg (by simp; omega), List.filter_eq_nil_iff.2]
          intro s hs
          have := hx.1 s hs
          simp
          omega
  obtain ⟨k, h1, h2, h3⟩ := key l h
  have hat : ∀ i (hi : i < l.length), at0 (fun s => cmpI s.at' (at0' + 1)) l i = cmpI l[i].at' (at0' + 1) := fun i hi => by
    simp only [at0, List.getElem?_eq_getElem hi]
  have hb : bsAt (fun s => cmpI s.at' (at0' + 1)) l = k := by
    refine bsAt_eq h1 (fun i hi => ?_) (fun i hi hi2 => ?_)
    · have hil : i < l.length := by omega
      rw [hat i hil]
      have := (h2 i hil).1 hi
      rw [cmpI, if_pos (by omega)]
      decide
    · rw [hat i hi2]
      have : ¬ l[i].at' ≤ at0' := fun h => by have := (h2 i hi2).2 h; omega
      rw [cmpI, if_neg (by omega)]
      split <;> decide
  rw [upTo, hb, h3]
theorem saidBy_filter (l : List Stm) (x : Idn) (ch at0' : Int) : saidBy (l.filter fun s => !decide (at0' < s.at')) x ch = (saidBy l x ch).filter fun s => !decide (at0' < s.at') := by
  unfold saidBy
  rw [isort_filter]
  · rw [List.filter_filter, List.filter_filter]
    congr 1
    refine List.filter_congr fun s _ => ?_
    rw [Bool.and_comm]
  · intro a b ha hb
    simp only [Bool.not_eq_true', decide_eq_false_iff_not, Bool.not_eq_false', decide_eq_true_eq] at ha hb
    have : a.at' < b.at' := by omega
    simp only [stmCmp, cmpOr, cmpI, if_pos this]
    rw [if_pos (by decide)]
    decide
theorem answer_early (q : Q) (l : List Stm) (x : Idn) : answer q (l.filter fun s => !decide (q.at' < s.at')) x q.at' = answer q l x q.at' := by
  unfold answer
  have : ∀ t, answerL t q.purpose (saidBy (l.filter fun s => !decide (q.at' < s.at')) x q.channel) q.at' = answerL t q.purpose (saidBy l x q.channel) q.at' := fun t => by
    have h1 : upTo (saidBy (l.filter fun s => !decide (q.at' < s.at')) x q.channel) q.at' = upTo (saidBy l x q.channel) q.at' := by
      have ha : (saidBy l x q.channel).Pairwise (fun a b => a.at' ≤ b.at') := isort_asc _
      rw [saidBy_filter, upTo_filter ha, upTo_filter (ha.filter _), List.filter_filter]
      refine List.filter_congr fun s _ => ?_
      rw [Bool.and_self]
    cases t with
    | none => rfl
    | some t => simp only [answerL, h1]
  exact this _
/-- What is said later changes no answer. -/
theorem may_early (q : Q) (l : List Stm) (x : Idn) (h : RightL q.p l) (hl : l.length ≤ 3000) : may q (l.filter fun s => !decide (q.at' < s.at')) x = may q l x := by
  have h1 := right_check h hl
  have h2 := right_check (h.filter fun s => !decide (q.at' < s.at')) (Nat.le_trans (List.length_filter_le _ _) hl)
  have h3 : checkAll q (l.filter fun s => !decide (q.at' < s.at')) 1 [x] = checkAll q l 1 [x] := by simp only [checkAll, h1, h2]
  simp only [may, h3, answer_early]
end Go.Proofs.YthcedgclhoggcaaGreatDoor
