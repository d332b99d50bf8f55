/- Contracts of functions of the program: each computes what its model says; the conditions stand at each. -/
import Derived.Test.YthcedgclhoggcaaGreatDoorTw20
set_option linter.unusedSimpArgs false
set_option linter.unusedVariables false
set_option maxRecDepth 20000
set_option pp.deepTerms false
set_option pp.deepTerms.threshold 3
namespace Go.Proofs.YthcedgclhoggcaaGreatDoor
open Go Go.Ab Go.Pm Go.Cm
variable (G : Nat → AV) (H : Nat → Option AObj)
theorem bad_allowed (l : List Stm) (t : Term) (purpose : T) (a : Int) (h : badWhy (allowed l t purpose a) = true) : (allowed l t purpose a).may = false := by
  unfold allowed at h ⊢
  cases hw : withdrawal l purpose with
  | none => simp only [hw, badWhy] at h ⊢; grind
  | some w => simp only [hw, badWhy] at h ⊢; grind
theorem bad_may (t : Option Term) (purpose : T) (l : List Stm) (a : Int) (h : badWhy (answerL t purpose l a) = true) : (answerL t purpose l a).may = false := by
  cases t with
  | none => rfl
  | some t =>
    simp only [answerL] at h ⊢
    split
    · rfl
    · rename_i h1
      rw [if_neg h1] at h
      exact bad_allowed _ _ _ _ h
theorem idEq_self (x : Idn) : idEq x x = true := by simp [idEq]
def okIds (q : Q) (l : List Stm) (x : Idn) (ids : List Idn) : Bool := ids.all fun y => idEq y x || !badWhy (answer q l y q.at')
theorem mayOfGo_may (q : Q) (l : List Stm) (x : Idn) (own : Answer) (ho : own.may = true) : ∀ ids, (mayOfGo q l x own ids).may = okIds q l x ids
  | [] => by simp [mayOfGo, okIds, ho]
  | y :: r => by
    have ih := mayOfGo_may q l x own ho r
    simp only [okIds, List.all_cons] at ih ⊢
    by_cases h1 : idEq y x = true
    · rw [mayOfGo, if_pos h1, ih, h1]; simp
    · by_cases h2 : badWhy (answer q l y q.at') = true
      · rw [mayOfGo, if_neg h1, if_pos h2]
        have h3 : (answer q l y q.at').may = false := bad_may _ _ _ _ h2
        rw [h3]
        simp [h1, h2]
      · rw [mayOfGo, if_neg h1, if_neg h2, ih]; simp [h2]
theorem checkIdsGo_8 : ∀ ids, checkIdsGo ids ≠ 8
  | [] => by simp [checkIdsGo]
  | x :: r => by
    rw [checkIdsGo]
    split
    · unfold checkId; grind
    · exact checkIdsGo_8 r
/-- What is known of an answer for a person. -/
theorem mayOf_ok (q : Q) (l : List Stm) (ids : List Idn) (x : Idn) (h1 : Cm.check q.p l = 0) (h2 : checkId x.kind x.text = 0) (h3 : q.check = 0) (h4 : hasId x ids = true) :
    ((mayOf q l ids x).2 ≠ 0 → (mayOf q l ids x).2 ≠ 8) ∧ ((mayOf q l ids x).2 = 0 → (mayOf q l ids x).1.may = ((answer q l x q.at').may && okIds q l x ids)) := by
  rw [mayOf, if_neg (by simpa using h1)]
  by_cases h5 : checkIds ids 100 = 0
  · rw [if_neg (by simpa using h5), if_neg (by simpa using h2), if_neg (by simpa using h3), if_neg (by simp [h4])]
    cases h6 : (answer q l x q.at').may with
    | false => simp [h6]
    | true => simp [mayOfGo_may, h6]
  · rw [if_pos (by simpa using h5)]
    refine ⟨fun _ => ?_, fun h => absurd h h5⟩
    dsimp only
    unfold checkIds
    split
    · decide
    · exact checkIdsGo_8 ids
theorem may_ok {q : Q} {l : List Stm} {x : Idn} (h : (may q l x).2 = 0) : Cm.check q.p l = 0 ∧ checkId x.kind x.text = 0 ∧ q.check = 0 ∧ (may q l x).1 = answer q l x q.at' := by
  have h0 : checkAll q l 1 [x] = 0 := by
    rw [may] at h
    split at h
    · exact h
    · rename_i h1; simpa using h1
  have e : may q l x = (answer q l x q.at', 0) := by rw [may, if_neg (by simpa using h0)]
  refine ⟨by grind [checkAll], ?_, by grind [checkAll], by rw [e]⟩
  have : checkIds [x] 1 = 0 := by grind [checkAll]
  simp only [checkIds, List.length_cons, List.length_nil] at this
  rw [if_neg (by omega)] at this
  simp only [checkIdsGo] at this
  grind
theorem containsId_os (l : List Idn) (x : Idn) (o : Nat) (ho : H o = some ⟨32, 2, l.map Idn.c⟩) (hl : l.length ≤ 1000000) {n : Nat} {R : AV → (Nat → Option AObj) → Nat → Prop} {u : Wit R} (hR : ∀ n', n ≤ n' → R (.bool (hasId x l)) H n') : xcall Tryz.prog G R u 19 [.os o 0 l.length, .agg x.c] H n := by
  refine AFn.borrow (only o ⟨32, 2, l.map Idn.c⟩) 1 (only_sub ho) ?_ rfl hR
  have h2 : frz (only o ⟨32, 2, l.map Idn.c⟩) 1 (.os o 0 l.length) = .ls true (l.map Idn.c) := frz_os_plain (by
    intro r hr
    obtain ⟨s, _, rfl⟩ := List.mem_map.1 hr
    rfl) (by simp)
  simp only [List.map_cons, List.map_nil, h2]
  exact containsId_c G noObj true l x hl
theorem mayOf_os (hG : GOk G) (nzp nz : Bool) (p : List Purpose) (l : List Stm) (ids : List Idn) (o : Nat) (ho : H o = some ⟨32, 2, ids.map Idn.c⟩) (x : Idn) (purpose region : T) (channel at' : Int) (hP : SmallP p) (hpl : p.length ≤ 1000000) (hS : SmallS l) (hl : l.length ≤ 19) (hr : region.size ≤ 9223372036854775807) (hx : x.text.size < 4294967281) (hil : ids.length ≤ 1000000) (hi : ∀ x ∈ ids, x.text.size < 4294967281) {n : Nat} {R : AV → (Nat → Option AObj) → Nat → Prop} {u : Wit R} (hR : ∀ n', n ≤ n' → R (.tup [.agg (mayOf ⟨p, nzp, purpose, region, channel, at'⟩ l ids x).1.c, .int (mayOf ⟨p, nzp, purpose, region, channel, at'⟩ l ids x).2]) H n') : xcall Tryz.prog G R u 20 [.ls nzp (p.map Purpose.c), .ls nz (l.map Stm.c), .os o 0 ids.length, .agg x.c, .str purpose, .str region, .int channel, .int at'] H n := by
  refine AFn.borrow (only o ⟨32, 2, ids.map Idn.c⟩) 3 (only_sub ho) ?_ rfl hR
  have h1 : ∀ D, frz D 3 (.ls nzp (p.map Purpose.c)) = .ls nzp (p.map Purpose.c) := fun D => by
    show AV.ls nzp ((p.map Purpose.c).map (List.map (frz D 2))) = _
    rw [purposes_frz]
  have h3 : ∀ D, frz D 3 (.ls nz (l.map Stm.c)) = .ls nz (l.map Stm.c) := fun D => frz_ls_plain (plain_stm l)
  have h2 : frz (only o ⟨32, 2, ids.map Idn.c⟩) 3 (.os o 0 ids.length) = .ls true (ids.map Idn.c) := frz_os_plain (by
    intro r hr
    obtain ⟨s, _, rfl⟩ := List.mem_map.1 hr
    rfl) (by simp)
  simp only [List.map_cons, List.map_nil, h1, h2, h3]
  exact mayOf_c G noObj hG nzp nz true p l ids x purpose region channel at' hP hpl hS hl hr hx hil hi
end Go.Proofs.YthcedgclhoggcaaGreatDoor
