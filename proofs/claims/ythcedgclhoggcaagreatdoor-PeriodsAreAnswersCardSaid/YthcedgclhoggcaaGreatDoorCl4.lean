/- Plain laws over what package consent computes; the conditions stand at each. -/
import Derived.Test.YthcedgclhoggcaaGreatDoorCl3
import Derived.Lib.SlicesCompact
set_option linter.unusedVariables false
set_option linter.unusedSimpArgs false
namespace Go.Proofs.YthcedgclhoggcaaGreatDoor
open Go Go.Ab Go.Pm Go.Cm
/-! The moments at which an answer can change. -/
def momOf (t : Term) (pu : T) (s : Stm) : List Int := s.at' :: (if s.what = 1 ∧ s.purpose = pu then [s.at' + t.wait + 1, s.at' + t.days * 1440] else [])
def momRaw (t : Term) (pu : T) (l : List Stm) : List Int := l.flatMap (momOf t pu)
def msortI (l : List Int) : List Int := l.mergeSort fun x y => decide (x ≤ y)
def momL (t : Term) (pu : T) (l : List Stm) : List Int := (Lib.compact (msortI (momRaw t pu l))).filter fun m => !decide (4321440 ≤ m)
theorem msortI_mem (l : List Int) (x : Int) : x ∈ msortI l ↔ x ∈ l := List.mem_mergeSort
theorem msortI_asc (l : List Int) : (msortI l).Pairwise (· ≤ ·) := by
  have := List.pairwise_mergeSort (le := fun x y : Int => decide (x ≤ y)) (fun a b c h1 h2 => by simp only [decide_eq_true_eq] at *; omega) (fun a b => by simp only [Bool.or_eq_true, decide_eq_true_eq]; omega) l
  exact this.imp fun h => by simpa using h
theorem msortI_length (l : List Int) : (msortI l).length = l.length := List.length_mergeSort l
theorem cut_mem (d : Array Int) (x : Int) : ∀ m, x ∈ Lib.compactUpTo d m ↔ ∃ j, j < m ∧ d[j]! = x
  | 0 => by simp [Lib.compactUpTo]
  | m + 1 => by
    rw [Lib.compactUpTo_succ, List.mem_append, cut_mem d x m]
    constructor
    · rintro (⟨j, h1, h2⟩ | h)
      · exact ⟨j, by omega, h2⟩
      · split at h
        · simp at h; exact ⟨m, by omega, h.symm⟩
        · simp at h
    · rintro ⟨j, h1, h2⟩
      rcases Nat.lt_or_ge j m with h3 | h3
      · exact .inl ⟨j, h3, h2⟩
      · have hj : j = m := by omega
        subst hj
        by_cases hk : Lib.keeps d j = true
        · right; rw [if_pos hk]; simp [h2]
        · left
          simp only [Lib.keeps, decide_eq_true_eq, not_or, Decidable.not_not] at hk
          exact ⟨j - 1, by omega, by rw [← hk.2, h2]⟩
theorem compact_mem (zs : List Int) (x : Int) : x ∈ Lib.compact zs ↔ x ∈ zs := by
  rw [Lib.compact, cut_mem, List.mem_iff_getElem]
  constructor
  · rintro ⟨j, h1, h2⟩
    refine ⟨j, h1, ?_⟩
    rw [getElem!_pos _ j (by simpa using h1)] at h2
    simpa using h2
  · rintro ⟨j, h1, h2⟩
    refine ⟨j, h1, ?_⟩
    rw [getElem!_pos _ j (by simpa using h1)]
    simpa using h2
theorem cut_asc (d : Array Int) (hd : ∀ i j, i ≤ j → j < d.size → d[i]! ≤ d[j]!) : ∀ m, m ≤ d.size → (Lib.compactUpTo d m).Pairwise (· < ·)
  | 0, _ => by simp [Lib.compactUpTo]
  | m + 1, hm => by
    rw [Lib.compactUpTo_succ, List.pairwise_append]
    refine ⟨cut_asc d hd m (by omega), by split <;> simp, fun a ha b hb => ?_⟩
    split at hb
    · rename_i hk
      simp at hb
      subst hb
      obtain ⟨j, h1, rfl⟩ := (cut_mem d a m).1 ha
      have h2 := hd j (m - 1) (by omega) (by omega)
      have h3 := hd (m - 1) m (by omega) (by omega)
      simp only [Lib.keeps, decide_eq_true_eq] at hk
      rcases hk with hk | hk
      · omega
      · omega
    · simp at hb
theorem compact_asc {zs : List Int} (h : zs.Pairwise (· ≤ ·)) : (Lib.compact zs).Pairwise (· < ·) := by
  refine cut_asc _ (fun i j hij hj => ?_) _ (by simp)
  have hj' : j < zs.length := by simpa using hj
  rw [getElem!_pos _ i (by simp; omega), getElem!_pos _ j hj]
  simp only [List.getElem_toArray]
  rcases Nat.lt_or_ge i j with h1 | h1
  · exact List.pairwise_iff_getElem.1 h i j (by omega) hj' h1
  · have : i = j := by omega
    subst this; exact Int.le_refl _
theorem cut_length (d : Array Int) (m : Nat) : (Lib.compactUpTo d m).length ≤ m := by
  rw [Lib.compactUpTo, List.length_map]
  exact Nat.le_trans (List.length_filter_le _ _) (by simp)
theorem momL_mem (t : Term) (pu : T) (l : List Stm) (m : Int) : m ∈ momL t pu l ↔ m ∈ momRaw t pu l ∧ m < 4321440 := by
  rw [momL, List.mem_filter, compact_mem, msortI_mem]
  simp
theorem momL_asc (t : Term) (pu : T) (l : List Stm) : (momL t pu l).Pairwise (· < ·) := (compact_asc (msortI_asc _)).filter _
/-! Between them it does not change. -/
theorem foldl_congr {α β : Type} {f g : α → β → α} : ∀ {l : List β} {a : α}, (∀ a, ∀ x ∈ l, f a x = g a x) → l.foldl f a = l.foldl g a
  | [], _, _ => rfl
  | x :: r, a, h => by
    rw [List.foldl_cons, List.foldl_cons, h a x (by simp)]
    exact foldl_congr fun a y hy => h a y (by simp [hy])
theorem allowed_const (u : List Stm) (t : Term) (pu : T) (x y : Int) (h : ∀ g ∈ grants u pu, stateOf u t g x = stateOf u t g y) : allowed u t pu x = allowed u t pu y := by
  have e : (grants u pu).foldl (bestStep u t x) (noStm, 0) = (grants u pu).foldl (bestStep u t y) (noStm, 0) := foldl_congr fun a g hg => by simp only [bestStep, h g hg]
  simp only [allowed, e]
theorem ans_const (t : Option Term) (pu : T) (l : List Stm) (hasc : l.Pairwise (fun a b => a.at' ≤ b.at')) (x y : Int) (hxy : x ≤ y) (hy : y < 4321440) (h : ∀ m ∈ momL (t.getD noTerm) pu l, ¬ (x < m ∧ m ≤ y)) : answerL t pu l x = answerL t pu l y := by
  cases t with
  | none => rfl
  | some t =>
    have h : ∀ m ∈ momRaw t pu l, ¬ (x < m ∧ m ≤ y) := fun m hm hh => h m ((momL_mem _ _ _ _).2 ⟨hm, by omega⟩) hh
    have hat : ∀ s ∈ l, ¬ (x < s.at' ∧ s.at' ≤ y) := fun s hs => h s.at' (List.mem_flatMap.2 ⟨s, hs, by simp [momOf]⟩)
    have hu : upTo l x = upTo l y := by
      rw [upTo_filter hasc, upTo_filter hasc]
      refine List.filter_congr fun s hs => ?_
      have := hat s hs
      by_cases h1 : x < s.at' <;> by_cases h2 : y < s.at' <;> simp [h1, h2] <;> omega
    simp only [answerL, hu]
    rw [allowed_const (upTo l y) t pu x y fun g hg => ?_]
    have hg' := List.mem_filter.1 hg
    have hgl : g ∈ l := List.mem_of_mem_take hg'.1
    have hgp : g.what = 1 ∧ g.purpose = pu := by
      have := hg'.2
      simp only [Bool.and_eq_true, decide_eq_true_eq] at this
      exact this.1
    have hm : ∀ m, m ∈ [g.at' + t.wait + 1, g.at' + t.days * 1440] → ¬ (x < m ∧ m ≤ y) := fun m hm => h m (List.mem_flatMap.2 ⟨g, hgl, by rw [momOf, if_pos hgp]; exact List.mem_cons_of_mem _ hm⟩)
    have h1 := hm (g.at' + t.wait + 1) (by simp)
    have h2 := hm (g.at' + t.days * 1440) (by simp)
    have e1 : (g.at' + t.days * 1440 ≤ x) = (g.at' + t.days * 1440 ≤ y) := propext (by omega)
    have e2 : (x ≤ g.at' + t.wait) = (y ≤ g.at' + t.wait) := propext (by omega)
    simp only [stateOf, e1, e2]
/-! Periods. -/
structure Per where
  lo : Int
  hi : Int
  a : Answer
abbrev Per.c (v : Per) : List AV := [.int v.lo, .int v.hi, .bool v.a.may, .int v.a.why, .int v.a.no]
def perGo (ans : Int → Answer) : Int → Answer → List Int → List Per
  | f, a, [] => [⟨f, 4321440, a⟩]
  | f, a, m :: r => if ans m = a then perGo ans f a r else ⟨f, m, a⟩ :: perGo ans m (ans m) r
def nextL (ans : Int → Answer) (ms : List Int) (x : Int) : Int := (ms.find? fun m => decide (x < m) && decide (ans m ≠ ans x)).getD 4321440
def PChain : Int → Option Answer → List Per → Prop
  | f, _, [] => f = 4321440
  | f, p, v :: r => v.lo = f ∧ (∀ a, p = some a → v.a ≠ a) ∧ PChain v.hi (some v.a) r
theorem per_chain (ans : Int → Answer) : ∀ (ms : List Int) (f : Int) (a : Answer) (p : Option Answer), (∀ b, p = some b → a ≠ b) → PChain f p (perGo ans f a ms)
  | [], f, a, p, h => ⟨rfl, h, rfl⟩
  | m :: r, f, a, p, h => by
    rw [perGo]
    split
    · exact per_chain ans r f a p h
    · rename_i hne
      exact ⟨rfl, h, per_chain ans r m (ans m) (some a) fun b hb => by cases hb; exact hne⟩
section
variable {ans : Int → Answer} {ms : List Int} (hs : ms.Pairwise (· < ·)) (hc : ∀ x y, 0 ≤ x → x ≤ y → y < 4321440 → (∀ m ∈ ms, ¬ (x < m ∧ m ≤ y)) → ans x = ans y)
include hs hc
theorem const_on {f x : Int} (h0 : 0 ≤ f) (h1 : f ≤ x) (h2 : x < 4321440) (h : ∀ m ∈ ms, f < m → m ≤ x → ans m = ans f) : ans x = ans f := by
  have hasc : (ms.filter fun m => decide (f < m) && decide (m ≤ x)).Pairwise (· < ·) := hs.filter _
  have hmem : ∀ m, m ∈ (ms.filter fun m => decide (f < m) && decide (m ≤ x)) ↔ m ∈ ms ∧ f < m ∧ m ≤ x := fun m => by simp [List.mem_filter]
  generalize (ms.filter fun m => decide (f < m) && decide (m ≤ x)) = L at hasc hmem
  rcases List.eq_nil_or_concat L with rfl | ⟨L', m0, rfl⟩
  · exact (hc f x h0 h1 h2 fun m hm hh => by simpa using (hmem m).2 ⟨hm, hh.1, hh.2⟩).symm
  · rw [List.concat_eq_append] at hasc hmem
    have hm0 := (hmem m0).1 (by simp)
    rw [← h m0 hm0.1 hm0.2.1 hm0.2.2]
    refine (hc m0 x (by omega) hm0.2.2 h2 fun m hm hh => ?_).symm
    have h3 := (hmem m).2 ⟨hm, by omega, hh.2⟩
    rw [List.pairwise_append] at hasc
    simp only [List.mem_append, List.mem_singleton] at h3
    rcases h3 with h3 | h3
    · have := hasc.2.2 m h3 m0 (by simp); omega
    · omega
theorem per_spec : ∀ (ms2 ms1 : List Int) (f : Int), ms = ms1 ++ ms2 → 0 ≤ f → f < 4321440 → (∀ m ∈ ms1, f < m → ans m = ans f) → (∀ m ∈ ms2, f ≤ m ∧ m < 4321440) → ∀ v ∈ perGo ans f (ans f) ms2, 0 ≤ v.lo ∧ v.lo < v.hi ∧ v.hi ≤ 4321440 ∧ ∀ x, v.lo ≤ x → x < v.hi → ans x = v.a ∧ nextL ans ms x = v.hi
  | [], ms1, f, he, h0, h1, h2, h3, v, hv => by
    simp only [perGo, List.mem_singleton] at hv
    subst hv
    rw [List.append_nil] at he
    subst he
    have key : ∀ x, f ≤ x → x < 4321440 → ans x = ans f := fun x hx1 hx2 => const_on hs hc h0 hx1 hx2 fun m hm h4 _ => h2 m hm h4
    refine ⟨h0, h1, Int.le_refl _, fun x hx1 hx2 => ⟨key x hx1 hx2, ?_⟩⟩
    have hn : ms.find? (fun m => decide (x < m) && decide (ans m ≠ ans x)) = none := by
      rw [List.find?_eq_none]
      intro m hm
      have e := key x hx1 hx2
      have hx1 : f ≤ x := hx1
      simp only [Bool.and_eq_true, decide_eq_true_eq, not_and, Decidable.not_not]
      intro h4
      rw [e]; exact h2 m hm (by omega)
    rw [nextL, hn]; rfl
  | m :: r, ms1, f, he, h0, h1, h2, h3, v, hv => by
    have hm := h3 m (by simp)
    rw [perGo] at hv
    split at hv
    · rename_i hmf
      refine per_spec r (ms1 ++ [m]) f (by rw [he]; simp) h0 h1 (fun k hk h4 => ?_) (fun k hk => h3 k (by simp [hk])) v hv
      rcases List.mem_append.1 hk with hk | hk
      · exact h2 k hk h4
      · simp at hk; subst hk; exact hmf
    · rename_i hne
      have hfm : f < m := by
        rcases Int.lt_or_le f m with h | h
        · exact h
        · have : m = f := by omega
          subst this; exact absurd rfl hne
      have hord := hs
      rw [he, List.pairwise_append, List.pairwise_cons] at hord
      rcases List.mem_cons.1 hv with rfl | hv
      · have key : ∀ x, f ≤ x → x < m → ans x = ans f := fun x hx1 hx2 => const_on hs hc h0 hx1 (by omega) fun k hk h4 h5 => by
          rw [he] at hk
          rcases List.mem_append.1 hk with hk | hk
          · exact h2 k hk h4
          · rcases List.mem_cons.1 hk with rfl | hk
            · omega
            · have := hord.2.1.1 k hk; omega
        refine ⟨h0, hfm, by show m ≤ _; omega, fun x hx1 hx2 => ⟨key x hx1 hx2, ?_⟩⟩
        have hx2 : x < m := hx2
        have e := key x hx1 hx2
        have hn : ms1.find? (fun k => decide (x < k) && decide (ans k ≠ ans x)) = none := by
          rw [List.find?_eq_none]
          intro k hk
          simp only [Bool.and_eq_true, decide_eq_true_eq, not_and, Decidable.not_not]
          intro h4
          have hx1 : f ≤ x := hx1
          rw [e]; exact h2 k hk (by omega)
        rw [nextL, he, List.find?_append, hn, Option.none_or, List.find?_cons_of_pos (by simp only [Bool.and_eq_true, decide_eq_true_eq]; exact ⟨hx2, by rw [e]; exact hne⟩)]
        rfl
      · refine per_spec r (ms1 ++ [m]) m (by rw [he]; simp) (by omega) hm.2 (fun k hk h4 => ?_) (fun k hk => ⟨?_, (h3 k (by simp [hk])).2⟩) v hv
        · exfalso
          rcases List.mem_append.1 hk with hk | hk
          · have := hord.2.2 k hk m (by simp); omega
          · simp at hk; omega
        · have := hord.2.1.1 k hk; omega
end
def periodsOf (q : Q) (l : List Stm) (x : Idn) : List Per × Int :=
  if checkAll q l 1 [x] ≠ 0 then ([], checkAll q l 1 [x]) else (perGo (answer q l x) 0 (answer q l x 0) (momL ((termOf q.p q.purpose q.region q.channel).getD noTerm) q.purpose (saidBy l x q.channel)), 0)
def nextOf (q : Q) (l : List Stm) (x : Idn) : Int × Int :=
  if checkAll q l 1 [x] ≠ 0 then (0, checkAll q l 1 [x]) else (nextL (answer q l x) (momL ((termOf q.p q.purpose q.region q.channel).getD noTerm) q.purpose (saidBy l x q.channel)) q.at', 0)
theorem momRaw_low {t : Term} {pu : T} {l : List Stm} (ht : 0 ≤ t.wait ∧ 0 ≤ t.days) (hl : ∀ s ∈ l, 0 ≤ s.at') : ∀ m ∈ momRaw t pu l, 0 ≤ m := by
  intro m hm
  obtain ⟨s, h1, h2⟩ := List.mem_flatMap.1 hm
  have := hl s h1
  rw [momOf] at h2
  rcases List.mem_cons.1 h2 with rfl | h2
  · exact this
  · split at h2
    · simp at h2
      rcases h2 with rfl | rfl <;> omega
    · simp at h2
/-- The periods are the answers of all moments, one after the other. -/
theorem periods_law (p : List Purpose) (nz : Bool) (purpose region : T) (channel : Int) (l : List Stm) (x : Idn) (h0 : checkAll ⟨p, nz, purpose, region, channel, 0⟩ l 1 [x] = 0)
    (ht : ∀ t, termOf p purpose region channel = some t → 0 ≤ t.wait ∧ 0 ≤ t.days) (hl : ∀ s ∈ l, 0 ≤ s.at') :
    (periodsOf ⟨p, nz, purpose, region, channel, 0⟩ l x).2 = 0 ∧ PChain 0 none (periodsOf ⟨p, nz, purpose, region, channel, 0⟩ l x).1 ∧
    ∀ v ∈ (periodsOf ⟨p, nz, purpose, region, channel, 0⟩ l x).1, 0 ≤ v.lo ∧ v.lo < v.hi ∧ v.hi ≤ 4321440 ∧ ∀ m, v.lo ≤ m → m < v.hi → may ⟨p, nz, purpose, region, channel, m⟩ l x = (v.a, 0) ∧ nextOf ⟨p, nz, purpose, region, channel, m⟩ l x = (v.hi, 0) := by
  have e : periodsOf ⟨p, nz, purpose, region, channel, 0⟩ l x = (perGo (answer ⟨p, nz, purpose, region, channel, 0⟩ l x) 0 (answer ⟨p, nz, purpose, region, channel, 0⟩ l x 0) (momL ((termOf p purpose region channel).getD noTerm) purpose (saidBy l x channel)), 0) := by rw [periodsOf, if_neg (by simpa using h0)]
  rw [e]
  refine ⟨rfl, per_chain _ _ _ _ _ (fun b hb => by cases hb), fun v hv => ?_⟩
  have hsl : ∀ s ∈ saidBy l x channel, 0 ≤ s.at' := fun s hs => hl s (List.mem_filter.1 ((isort_perm _ _).mem_iff.1 hs)).1
  have hlow : ∀ m ∈ momL ((termOf p purpose region channel).getD noTerm) purpose (saidBy l x channel), 0 ≤ m ∧ m < 4321440 := fun m hm => by
    obtain ⟨h1, h2⟩ := (momL_mem _ _ _ _).1 hm
    refine ⟨momRaw_low ?_ hsl m h1, h2⟩
    cases hT : termOf p purpose region channel with
    | none => simp [noTerm]
    | some t => exact ht t hT
  have hcon : ∀ a b, 0 ≤ a → a ≤ b → b < 4321440 → (∀ m ∈ momL ((termOf p purpose region channel).getD noTerm) purpose (saidBy l x channel), ¬ (a < m ∧ m ≤ b)) → answer ⟨p, nz, purpose, region, channel, 0⟩ l x a = answer ⟨p, nz, purpose, region, channel, 0⟩ l x b := fun a b _ h2 h3 h4 =>
    ans_const (termOf p purpose region channel) purpose (saidBy l x channel) (isort_asc _) a b h2 h3 h4
  obtain ⟨k1, k2, k3, k4⟩ := per_spec (momL_asc _ _ _) hcon _ [] 0 rfl (Int.le_refl _) (by decide) (fun m hm => by simp at hm) hlow v hv
  refine ⟨k1, k2, k3, fun m hm1 hm2 => ?_⟩
  obtain ⟨k5, k6⟩ := k4 m hm1 hm2
  have hck : checkAll ⟨p, nz, purpose, region, channel, m⟩ l 1 [x] = 0 := by
    have hw : within m 0 4321439 = true := by simp [within]; omega
    have hw0 : within 0 0 4321439 = true := by simp [within]
    have : checkAll ⟨p, nz, purpose, region, channel, m⟩ l 1 [x] = checkAll ⟨p, nz, purpose, region, channel, 0⟩ l 1 [x] := by simp only [checkAll, Q.check, hw, hw0]
    rw [this, h0]
  constructor
  · rw [may, if_neg (by simpa using hck)]
    exact Prod.ext k5 rfl
  · rw [nextOf, if_neg (by simpa using hck)]
    exact Prod.ext k6 rfl
end Go.Proofs.YthcedgclhoggcaaGreatDoor
