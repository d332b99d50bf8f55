/- Contracts of functions of the program: each computes what its model says; the conditions stand at each. -/
import Derived.Test.YthcedgclhoggcaaGreatDoorA5
import Derived.Test.YthcedgclhoggcaaGreatDoorCl2
import Derived.Test.YthcedgclhoggcaaGreatDoorTw45
set_option linter.unusedSimpArgs false
set_option linter.unusedVariables false
set_option maxRecDepth 20000
set_option pp.deepTerms false
set_option pp.deepTerms.threshold 3
namespace Go.Proofs.YthcedgclhoggcaaGreatDoor
open Go Go.Ab Go.Pm Go.Cm
variable (G : Nat → AV) (H : Nat → Option AObj)
/-! Ask. -/
def mkS (q : Q) (x : Idn) (k : Int) : List Int → List Stm
  | [] => []
  | w :: r => ⟨k + 1, q.at', x, if ofCh w = true then ⟨#[]⟩ else q.purpose, q.region, q.channel, w⟩ :: mkS q x (k + 1) r
theorem mkS_app (q : Q) (x : Idn) (w : Int) : ∀ (d : List Int) (k : Int), mkS q x k (d ++ [w]) = mkS q x k d ++ [⟨k + d.length + 1, q.at', x, if ofCh w = true then ⟨#[]⟩ else q.purpose, q.region, q.channel, w⟩]
  | [], k => by simp [mkS]
  | y :: d, k => by
    simp only [List.cons_append, mkS, mkS_app q x w d]
    congr 3
    rw [show k + 1 + (d.length : Int) = k + ((d.length + 1 : Nat) : Int) by omega]
    rfl
theorem mkS_len (q : Q) (x : Idn) : ∀ (d : List Int) (k : Int), (mkS q x k d).length = d.length
  | [], k => rfl
  | y :: d, k => by simp [mkS, mkS_len q x d]
theorem mkS_at (q : Q) (x : Idn) : ∀ (d : List Int) (k : Int), ∀ s ∈ mkS q x k d, s.at' = q.at'
  | [], k, s, h => by simp [mkS] at h
  | w :: d, k, s, h => by
    simp only [mkS] at h
    rcases List.mem_cons.1 h with rfl | h
    · rfl
    · exact mkS_at q x d _ s h
def lastNo (l : List Stm) : Int := match l.getLast? with
  | some s => s.no
  | none => 0
def askWhat (q : Q) (l : List Stm) (x : Idn) (want : Bool) : List Int := if want = true then wantedL (termOf q.p q.purpose q.region q.channel) q.purpose (saidBy l x q.channel) q.at' else [3]
theorem wantedL_len (t : Option Term) (pu : T) (l : List Stm) (a : Int) : (wantedL t pu l a).length ≤ 2 := by
  unfold wantedL; split <;> split <;> simp
theorem askWhat_len (q : Q) (l : List Stm) (x : Idn) (want : Bool) : (askWhat q l x want).length ≤ 2 := by
  unfold askWhat; split
  · exact wantedL_len _ _ _ _
  · simp
theorem check_no {ps : List Purpose} {l : List Stm} (h : Cm.check ps l = 0) : ∀ s ∈ l, 1 ≤ s.no ∧ s.no ≤ 1000000 := by
  rw [Cm.check] at h
  split at h
  · rename_i h1; exact absurd h h1
  · split at h
    · simp at h
    · intro s hs
      obtain ⟨p, hp⟩ := checkGo_all ps _ _ h s hs
      have : Pm.within s.no 1 1000000 = true := by cases p <;> grind [stmErr]
      simpa only [Pm.within, Bool.and_eq_true, decide_eq_true_eq] using this
theorem lastNo_le {ps : List Purpose} {l : List Stm} (h : Cm.check ps l = 0) : 0 ≤ lastNo l ∧ lastNo l ≤ 1000000 := by
  unfold lastNo
  split
  · rename_i s hs
    have := check_no h s (List.mem_of_getLast? hs)
    omega
  · omega
theorem even_IC (l : List Int) : Even 1 (l.map IC) = True := eq_true fun r hr => by
  obtain ⟨s, _, rfl⟩ := List.mem_map.1 hr
  exact ⟨rfl, rfl⟩
end Go.Proofs.YthcedgclhoggcaaGreatDoor

