/- Plain laws over what package consent computes; the conditions stand at each. -/
import Derived.Test.YthcedgclhoggcaaGreatDoorCl9
import Derived.Lib.ItoaNum
/-! A policy as text. -/
namespace Go.Cm
open Go Go.Ab Go.Pm
def chW : List T := [⟨#[]⟩, ⟨#[109, 97, 105, 108]⟩, ⟨#[116, 101, 120, 116]⟩, ⟨#[112, 117, 115, 104]⟩, ⟨#[112, 111, 115, 116]⟩]
def chWord (c : Int) : T := chW.getD c.toNat ⟨#[]⟩
def itoaT (n : Int) : T := ⟨(Lib.itoa n).toArray⟩
abbrev tPur : T := ⟨#[112, 117, 114, 112, 111, 115, 101, 32]⟩
abbrev tTerm : T := ⟨#[116, 101, 114, 109, 32]⟩
abbrev tSp : T := ⟨#[32]⟩
abbrev tNl : T := ⟨#[10]⟩
abbrev tFree : T := ⟨#[102, 114, 101, 101, 10]⟩
def headT (t : Term) : T := (((tTerm ++ t.region) ++ tSp) ++ chWord t.channel) ++ tSp
def tailT (t : Term) : T := if t.free = true then tFree else (((itoaT t.days ++ tSp) ++ itoaT t.wait) ++ tNl)
def termsB : List Term → List UInt8
  | [] => []
  | t :: ts => ((headT t).data.toList ++ (tailT t).data.toList) ++ termsB ts
def headP (p : Purpose) : T := (tPur ++ p.name) ++ tNl
def polB : List Purpose → List UInt8
  | [] => []
  | p :: ps => ((headP p).data.toList ++ termsB p.terms) ++ polB ps
theorem termsB_snoc : ∀ (ts : List Term) (t : Term), termsB (ts ++ [t]) = (termsB ts ++ (headT t).data.toList) ++ (tailT t).data.toList
  | [], t => by simp [termsB]
  | u :: ts, t => by simp only [List.cons_append, termsB, termsB_snoc ts t, List.append_assoc]
theorem polB_snoc : ∀ (ps : List Purpose) (p : Purpose), polB (ps ++ [p]) = (polB ps ++ (headP p).data.toList) ++ termsB p.terms
  | [], p => by simp [polB]
  | u :: ps, p => by simp only [List.cons_append, polB, polB_snoc ps p, List.append_assoc]
theorem itoa_len : ∀ n : Nat, n ≤ 100 → (Lib.itoa (n : Int)).length ≤ 3 := by
  have h : ((List.range 101).all fun n => decide ((Lib.itoa (n : Int)).length ≤ 3)) = true := by decide +kernel
  intro n hn
  have := List.all_eq_true.1 h n (List.mem_range.2 (by omega))
  simpa using this
theorem itoaT_len {n : Int} (h : 0 ≤ n ∧ n ≤ 100) : (itoaT n).size ≤ 3 := by
  have := itoa_len n.toNat (by omega)
  rw [Int.toNat_of_nonneg h.1] at this
  exact this
theorem chWord_len (c : Int) : (chWord c).size ≤ 4 := by
  have h : ∀ x ∈ chW, x.size ≤ 4 := by decide
  unfold chWord
  rw [List.getD_eq_getElem?_getD]
  cases hx : chW[c.toNat]? with
  | none => exact (by decide : (⟨#[]⟩ : T).size ≤ 4)
  | some x => exact h x (List.mem_of_getElem? hx)
theorem tl_len (t : T) : t.data.toList.length = t.size := by rw [Array.length_toList]; rfl
theorem headT_len {t : Term} (h : TermG t) : (headT t).size ≤ 20 := by
  have h1 : t.region.size = 2 := by rcases h.reg with e | e <;> rw [e] <;> rfl
  have h2 := chWord_len t.channel
  simp only [headT, ByteArray.size_append, h1]
  have : tTerm.size = 5 := rfl
  have : tSp.size = 1 := rfl
  omega
theorem tailT_len {t : Term} (h : TermG t) : (tailT t).size ≤ 20 := by
  have h1 := itoaT_len h.days
  have h2 := itoaT_len h.wait
  have : tSp.size = 1 := rfl
  have : tNl.size = 1 := rfl
  have : tFree.size = 5 := rfl
  unfold tailT
  split
  · omega
  · simp only [ByteArray.size_append]; omega
theorem termsB_len : ∀ (ts : List Term), (∀ t ∈ ts, TermG t) → (termsB ts).length ≤ 40 * ts.length
  | [], _ => by simp [termsB]
  | t :: ts, h => by
    have h1 := headT_len (h t (by simp))
    have h2 := tailT_len (h t (by simp))
    have h3 := termsB_len ts fun u hu => h u (by simp [hu])
    simp only [termsB, List.length_append, tl_len, List.length_cons]
    omega
theorem headP_len {p : Purpose} (h : p.name = nBill ∨ p.name = nNews ∨ p.name = nSale) : (headP p).size ≤ 20 := by
  have h1 : p.name.size = 4 := by rcases h with e | e | e <;> rw [e] <;> rfl
  have : tPur.size = 8 := rfl
  have : tNl.size = 1 := rfl
  simp only [headP, ByteArray.size_append, h1]
  omega
theorem polB_len : ∀ (ps : List Purpose), (∀ p ∈ ps, (p.name = nBill ∨ p.name = nNews ∨ p.name = nSale) ∧ PolT p.terms 8) → (polB ps).length ≤ 340 * ps.length
  | [], _ => by simp [polB]
  | p :: ps, h => by
    obtain ⟨h0, h1⟩ := h p (by simp)
    have h2 := headP_len h0
    have h3 := termsB_len p.terms fun t ht => (h1.good t ht).1
    have h4 := h1.len
    have h5 := polB_len ps fun u hu => h u (by simp [hu])
    simp only [polB, List.length_append, tl_len, List.length_cons]
    omega
end Go.Cm

