/- Contracts of functions of the program: each computes what its model says; the conditions stand at each. -/
import Derived.Test.YthcedgclhoggcaaGreatDoorCl3
set_option linter.unusedSimpArgs false
set_option linter.unusedVariables false
set_option maxRecDepth 20000
set_option pp.deepTerms false
set_option pp.deepTerms.threshold 3
namespace Go.Proofs.YthcedgclhoggcaaGreatDoor
open Go Go.Ab Go.Pm Go.Cm
variable (G : Nat → AV) (H : Nat → Option AObj)
theorem rise_ne {l : List Stm} (h : l.Pairwise (fun a b => a.no < b.no)) : l.Pairwise (fun a b => a.no ≠ b.no) := h.imp fun h => by omega
theorem upTo_mem {l : List Stm} {x : Idn} {c a : Int} {s : Stm} (h : s ∈ upTo (saidBy l x c) a) : s ∈ l := saidBy_mem (List.mem_of_mem_take h)
theorem upTo_ne {l : List Stm} (h : l.Pairwise (fun a b => a.no < b.no)) (x : Idn) (c a : Int) : (upTo (saidBy l x c) a).Pairwise (fun a b => a.no ≠ b.no) := by
  have h1 : (saidBy l x c).Pairwise (fun a b => a.no ≠ b.no) := (isort_perm _ _).symm.pairwise ((rise_ne h).filter _) (fun h => h.symm)
  exact h1.sublist (List.take_sublist _ _)
theorem one_of {l : List Stm} (hd : l.Pairwise (fun a b => a.no ≠ b.no)) (no : Int) : (l.filter (fun g => decide (g.no = no))).length ≤ 1 := by
  cases h : l.filter (fun g => decide (g.no = no)) with
  | nil => simp
  | cons s r =>
    have hs : s ∈ l.filter (fun g => decide (g.no = no)) := by rw [h]; simp
    have h2 := List.mem_filter.1 hs
    simp only [decide_eq_true_eq] at h2
    rw [← h, filter_one hd h2.1 (p := fun g => decide (g.no = no)) fun x _ => by simp [h2.2]]
    simp
/-- An answer, asked with its proof alone, is the same. -/
theorem may_proof (q : Q) (l : List Stm) (x : Idn) (h : RightL q.p l) (hl : l.length ≤ 3000) (h0 : checkAll q l 1 [x] = 0) :
    may q (l.filter fun s => hasI s.no (proofL q l x)) x = may q l x ∧ (l.filter fun s => hasI s.no (proofL q l x)).length = (proofL q l x).length := by
  generalize hpl : proofL q l x = pl
  have hf := h.filter fun s => hasI s.no pl
  have hfl : (l.filter fun s => hasI s.no pl).length ≤ 3000 := Nat.le_trans (List.length_filter_le _ _) hl
  have hck : checkAll q (l.filter fun s => hasI s.no pl) 1 [x] = 0 := by
    have h1 := right_check h hl
    have h2 := right_check hf hfl
    have : checkAll q (l.filter fun s => hasI s.no pl) 1 [x] = checkAll q l 1 [x] := by simp only [checkAll, h1, h2]
    rw [this, h0]
  have e1 : may q l x = (answer q l x q.at', 0) := by rw [may, if_neg (by simpa using h0)]
  have e2 : may q (l.filter fun s => hasI s.no pl) x = (answer q (l.filter fun s => hasI s.no pl) x q.at', 0) := by rw [may, if_neg (by simpa using hck)]
  have ha : (saidBy l x q.channel).Pairwise (fun a b => a.at' ≤ b.at') := isort_asc _
  have hs : saidBy (l.filter fun s => hasI s.no pl) x q.channel = (saidBy l x q.channel).filter fun s => hasI s.no pl := by
    unfold saidBy
    rw [isort_filter2, List.filter_filter, List.filter_filter]
    congr 1
    refine List.filter_congr fun s _ => ?_
    rw [Bool.and_comm]
  have hu : upTo (saidBy (l.filter fun s => hasI s.no pl) x q.channel) q.at' = (upTo (saidBy l x q.channel) q.at').filter fun s => hasI s.no pl := by
    rw [hs, upTo_filter ha, upTo_filter (ha.filter _), List.filter_filter, List.filter_filter]
    refine List.filter_congr fun s _ => ?_
    rw [Bool.and_comm]
  have hd := upTo_ne h.rise x q.channel q.at'
  have hp : ∀ s ∈ upTo (saidBy l x q.channel) q.at', 0 ≤ s.at' ∧ 1 ≤ s.no := fun s hs => by
    have := h.each s (upTo_mem hs)
    exact ⟨this.1.at'.1, this.2.1⟩
  have hlen : (∀ s ∈ upTo (saidBy l x q.channel) q.at', s ∈ l) := fun s hs => upTo_mem hs
  rw [e1, e2]
  unfold answer
  cases ht : termOf q.p q.purpose q.region q.channel with
  | none =>
    have : pl = [] := by
      rw [← hpl, proofL, answer, ht]
      simp [answerL]
    subst this
    simp [answerL, hasI]
  | some t =>
    have hA : ∀ l', answerL (some t) q.purpose (saidBy l' x q.channel) q.at' = ansU t q.purpose (upTo (saidBy l' x q.channel) q.at') q.at' := fun l' => rfl
    have hP : pl = plU t q.purpose (upTo (saidBy l x q.channel) q.at') q.at' := by
      rw [← hpl, proofL, plU]
      have : answer q l x q.at' = ansU t q.purpose (upTo (saidBy l x q.channel) q.at') q.at' := by rw [answer, ht]; rfl
      rw [this, ht]
      rfl
    obtain ⟨c1, c2⟩ := suff_core t q.purpose (upTo (saidBy l x q.channel) q.at') q.at' hd hp
    rw [← hP] at c1 c2
    refine ⟨by rw [hA, hA, hu, c1], ?_⟩
    rcases c2 with c2 | ⟨s, k1, k2⟩ | ⟨s, k1, r, k2, k3, k4⟩
    · rw [c2]; simp [hasI]
    · rw [k2, filter_one (rise_ne h.rise) (hlen s k1) fun x _ => hasI_one _ _]; rfl
    · rw [k4]
      rcases filter_two (rise_ne h.rise) (hlen s k1) (hlen r k2) k3 (p := fun x => hasI x.no [s.no, r.no]) (fun x _ => hasI_two _ _ _) with e | e <;> rw [e] <;> rfl
end Go.Proofs.YthcedgclhoggcaaGreatDoor
