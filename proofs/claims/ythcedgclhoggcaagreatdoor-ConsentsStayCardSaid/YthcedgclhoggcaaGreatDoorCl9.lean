/- Plain laws over what package consent computes; the conditions stand at each. -/
import Derived.Test.YthcedgclhoggcaaGreatDoorP1
/-! Policies as they are made: they are right. -/
namespace Go.Cm
open Go.Ab Go.Pm
abbrev regEu : T := ⟨#[101, 117]⟩
abbrev regUs : T := ⟨#[117, 115]⟩
def rankT (t : Term) : Nat := (if t.region = regUs then 4 else 0) + (t.channel.toNat - 1)
structure TermG (t : Term) : Prop where
  reg : t.region = regEu ∨ t.region = regUs
  ch : 1 ≤ t.channel ∧ t.channel ≤ 4
  days : 0 ≤ t.days ∧ t.days ≤ 100
  wait : 0 ≤ t.wait ∧ t.wait ≤ 100
  free : t.free = true → t.days = 0 ∧ t.wait = 0
structure PolT (ts : List Term) (b : Nat) : Prop where
  good : ∀ t ∈ ts, TermG t ∧ rankT t < b
  rise : ts.Pairwise fun x y => rankT x < rankT y
  len : ts.length ≤ b
theorem PolT.nil {b : Nat} : PolT [] b := ⟨fun t h => by simp at h, .nil, Nat.zero_le _⟩
theorem PolT.mono {ts : List Term} {b c : Nat} (h : PolT ts b) (hc : b ≤ c) : PolT ts c := ⟨fun t ht => ⟨(h.good t ht).1, Nat.lt_of_lt_of_le (h.good t ht).2 hc⟩, h.rise, Nat.le_trans h.len hc⟩
theorem PolT.add {ts : List Term} {b : Nat} {t : Term} (h : PolT ts b) (hg : TermG t) (hr : rankT t = b) : PolT (ts ++ [t]) (b + 1) := by
  refine ⟨fun u hu => ?_, ?_, by simp only [List.length_append, List.length_cons, List.length_nil]; have := h.len; omega⟩
  · rcases List.mem_append.1 hu with h1 | h1
    · exact ⟨(h.good u h1).1, Nat.lt_succ_of_lt (h.good u h1).2⟩
    · simp only [List.mem_singleton] at h1; subst h1; exact ⟨hg, by omega⟩
  · rw [List.pairwise_append]
    exact ⟨h.rise, List.pairwise_singleton _ _, fun x hx y hy => by simp only [List.mem_singleton] at hy; subst hy; rw [hr]; exact (h.good x hx).2⟩
abbrev nBill : T := ⟨#[98, 105, 108, 108]⟩
abbrev nNews : T := ⟨#[110, 101, 119, 115]⟩
abbrev nSale : T := ⟨#[115, 97, 108, 101]⟩
def rankN (t : T) : Nat := if t = nBill then 0 else if t = nNews then 1 else 2
structure PolP (ps : List Purpose) (b : Nat) : Prop where
  good : ∀ p ∈ ps, rankN p.name < b ∧ (p.name = nBill ∨ p.name = nNews ∨ p.name = nSale) ∧ PolT p.terms 8
  rise : ps.Pairwise fun x y => rankN x.name < rankN y.name
  len : ps.length ≤ b
theorem PolP.nil {b : Nat} : PolP [] b := ⟨fun t h => by simp at h, .nil, Nat.zero_le _⟩
theorem PolP.mono {ps : List Purpose} {b c : Nat} (h : PolP ps b) (hc : b ≤ c) : PolP ps c := ⟨fun t ht => ⟨Nat.lt_of_lt_of_le (h.good t ht).1 hc, (h.good t ht).2⟩, h.rise, Nat.le_trans h.len hc⟩
theorem PolP.add {ps : List Purpose} {b : Nat} {p : Purpose} (h : PolP ps b) (hg : (p.name = nBill ∨ p.name = nNews ∨ p.name = nSale) ∧ PolT p.terms 8) (hr : rankN p.name = b) : PolP (ps ++ [p]) (b + 1) := by
  refine ⟨fun u hu => ?_, ?_, by simp only [List.length_append, List.length_cons, List.length_nil]; have := h.len; omega⟩
  · rcases List.mem_append.1 hu with h1 | h1
    · exact ⟨Nat.lt_succ_of_lt (h.good u h1).1, (h.good u h1).2⟩
    · simp only [List.mem_singleton] at h1; subst h1; exact ⟨by omega, hg⟩
  · rw [List.pairwise_append]
    exact ⟨h.rise, List.pairwise_singleton _ _, fun x hx y hy => by simp only [List.mem_singleton] at hy; subst hy; rw [hr]; exact (h.good x hx).1⟩

theorem eu_us : strLt regEu regUs = true ∧ strLt regEu regEu = false ∧ strLt regUs regUs = false ∧ strLt regUs regEu = false ∧ isKey regEu = true ∧ isKey regUs = true ∧ regEu ≠ regUs := by decide +kernel
theorem termCmp_lt {x y : Term} (hx : TermG x) (hy : TermG y) (h : rankT x < rankT y) : termCmp x y < 0 := by
  obtain ⟨e1, e2, e3, e4, _, _, e7⟩ := eu_us
  have hxc := hx.ch
  have hyc := hy.ch
  unfold rankT at h
  unfold termCmp
  have same : ∀ r, strLt r r = false → cmpOr [cmpS r r, cmpI x.channel y.channel] = cmpI x.channel y.channel := fun r hr => by
    simp only [cmpOr, cmpS, hr]
    by_cases h0 : cmpI x.channel y.channel = 0 <;> simp [h0]
  have e7' : ¬ regUs = regEu := fun e => e7 e.symm
  rcases hx.reg with h1 | h1 <;> rcases hy.reg with h2 | h2 <;> rw [h1, h2] at h ⊢ <;> (try simp only [e7, if_false, if_true] at h)
  · rw [same _ e2, cmpI, if_pos (by omega)]; decide
  · have : cmpS regEu regUs = -1 := by simp [cmpS, e1]
    simp [cmpOr, this]
  · omega
  · rw [same _ e3, cmpI, if_pos (by omega)]; decide
theorem termErr_zero {prev : Option Term} {t : Term} (ht : TermG t) (hp : ∀ q, prev = some q → TermG q ∧ rankT q < rankT t) : termErr prev t = 0 := by
  obtain ⟨_, _, _, _, e5, e6, _⟩ := eu_us
  have h1 : isKey t.region = true := by rcases ht.reg with h | h <;> rw [h] <;> assumption
  have h2 : within t.channel 1 4 = true := by simp [within, ht.ch]
  have h3 : within t.days 0 2000 = true := by have := ht.days; simp [within]; omega
  have h4 : within t.wait 0 100000 = true := by have := ht.wait; simp [within]; omega
  have h5 : ¬ (t.free = true ∧ (t.days ≠ 0 ∨ t.wait ≠ 0)) := fun ⟨h, h'⟩ => by obtain ⟨h6, h7⟩ := ht.free h; rcases h' with h' | h' <;> contradiction
  unfold termErr
  rw [if_neg (by simp [h1]), if_neg (by simp [h2]), if_neg h5, if_neg (by simp [h3, h4])]
  cases prev with
  | none => rfl
  | some q =>
    obtain ⟨h6, h7⟩ := hp q rfl
    have := termCmp_lt h6 ht h7
    simp only
    rw [if_neg (by omega)]
theorem checkTermsGo_zero : ∀ (ts : List Term) (prev : Option Term), (∀ t ∈ ts, TermG t) → ts.Pairwise (fun x y => rankT x < rankT y) → (∀ q, prev = some q → TermG q ∧ ∀ t ∈ ts, rankT q < rankT t) → checkTermsGo prev ts = 0
  | [], _, _, _, _ => rfl
  | t :: ts, prev, h1, h2, h3 => by
    have h0 := termErr_zero (prev := prev) (h1 t (by simp)) fun q hq => ⟨(h3 q hq).1, (h3 q hq).2 t (by simp)⟩
    rw [List.pairwise_cons] at h2
    rw [checkTermsGo, if_neg (by rw [h0]; simp)]
    exact checkTermsGo_zero ts (some t) (fun u hu => h1 u (by simp [hu])) h2.2 fun q hq => by cases hq; exact ⟨h1 t (by simp), h2.1⟩
theorem checkTerms_zero {ts : List Term} (h : PolT ts 8) : checkTerms ts = 0 := by
  have := h.len
  rw [checkTerms, if_neg (by omega)]
  exact checkTermsGo_zero ts none (fun t ht => (h.good t ht).1) h.rise fun q hq => by cases hq
theorem names_ok : isKey nBill = true ∧ isKey nNews = true ∧ isKey nSale = true ∧ strLt nNews nBill = false ∧ strLt nSale nBill = false ∧ strLt nSale nNews = false ∧ rankN nBill = 0 ∧ rankN nNews = 1 ∧ rankN nSale = 2 ∧ nBill ≠ nNews ∧ nBill ≠ nSale ∧ nNews ≠ nSale := by decide +kernel
theorem checkPolicyGo_zero : ∀ (ps : List Purpose) (prev : Option Purpose), (∀ p ∈ ps, (p.name = nBill ∨ p.name = nNews ∨ p.name = nSale) ∧ PolT p.terms 8) → ps.Pairwise (fun x y => rankN x.name < rankN y.name) → (∀ q, prev = some q → (q.name = nBill ∨ q.name = nNews ∨ q.name = nSale) ∧ ∀ t ∈ ps, rankN q.name < rankN t.name) → checkPolicyGo prev ps = 0
  | [], _, _, _, _ => rfl
  | p :: ps, prev, h1, h2, h3 => by
    obtain ⟨k1, k2, k3, k4, k5, k6, k7, k8, k9, k10, k11, k12⟩ := names_ok
    have hp := h1 p (by simp)
    have h0 : purposeErr prev p = 0 := by
      unfold purposeErr
      have a1 : isKey p.name = true := by rcases hp.1 with h | h | h <;> rw [h] <;> assumption
      rw [if_neg (by simp [a1]), if_neg, checkTerms_zero hp.2]
      cases prev with
      | none => simp
      | some q =>
        obtain ⟨a2, a3⟩ := h3 q rfl
        have a4 := a3 p (by simp)
        simp only [Bool.or_eq_true, decide_eq_true_eq, not_or]
        have a5 : p.name ≠ q.name := fun e => by rw [e] at a4; omega
        refine ⟨?_, a5⟩
        rcases hp.1 with h | h | h <;> rcases a2 with h' | h' | h' <;> rw [h, h'] at a4 ⊢ <;> first
          | (rw [k4]; decide) | (rw [k5]; decide) | (rw [k6]; decide) | (exfalso; omega) | (exfalso; simp only [k7, k8, k9] at a4; omega)
    rw [List.pairwise_cons] at h2
    rw [checkPolicyGo, if_neg (by rw [h0]; simp)]
    exact checkPolicyGo_zero ps (some p) (fun u hu => h1 u (by simp [hu])) h2.2 fun q hq => by cases hq; exact ⟨hp.1, h2.1⟩
theorem checkPolicy_zero {ps : List Purpose} (h : PolP ps 3) (h0 : ps ≠ []) : checkPolicy ps = 0 := by
  have := h.len
  rw [checkPolicy, if_neg (by simpa using h0), if_neg (by omega)]
  exact checkPolicyGo_zero ps none (fun p hp => (h.good p hp).2) h.rise fun q hq => by cases hq
/-- The policy that is made where no other is. -/
theorem polP_news : PolP [⟨nNews, true, [⟨regEu, 1, false, 0, 0⟩]⟩] 3 := by
  have h1 : PolT ([] ++ [⟨regEu, 1, false, 0, 0⟩]) (0 + 1) := PolT.nil.add ⟨.inl rfl, by decide, by decide, by decide, by simp⟩ (by decide +kernel)
  have h2 : PolP ([] ++ [⟨nNews, true, [⟨regEu, 1, false, 0, 0⟩]⟩]) (1 + 1) := PolP.nil.add ⟨.inr (.inl rfl), h1.mono (by decide)⟩ (by decide +kernel)
  exact h2.mono (by decide)
theorem PolP.small {ps : List Purpose} {b : Nat} (h : PolP ps b) : ∀ x ∈ ps, x.name.size ≤ 100 ∧ ∀ t ∈ x.terms, t.region.size ≤ 100 := fun x hx => by
  obtain ⟨_, h1, h2⟩ := h.good x hx
  refine ⟨by rcases h1 with h | h | h <;> rw [h] <;> decide, fun t ht => ?_⟩
  rcases (h2.good t ht).1.reg with h | h <;> rw [h] <;> decide
end Go.Cm

