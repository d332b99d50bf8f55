/- A part of an abstract logic over the model's runs, proved sound against the model; no condition. -/
import Derived.Test.YthcedgclhoggcaaGreatDoorAb4
/-! More operations. -/
set_option linter.unusedVariables false
set_option linter.unusedSimpArgs false
namespace Go.Ab
open Go.RowKit
variable {P : Program} {w w' : World} {g g' : Gh} {G : Nat → AV} {N : Nat} {st : St} {a : Act}

theorem lit_ok {s : Sem Value} {v : Value} (h : s.run P w = .ok v w) : ∃ u, s.run P w = .ok u w ∧ Rep w g (.lit v) u := ⟨v, h, rfl⟩
theorem int_sound (t : TypeId) (op : BinOp) (xo yo : Operand) {k : IntKind} {m n : Int} (h1 : op ≠ .shl) (h2 : op ≠ .shr) {x : AV} (h : aint op k m n = some x) :
    ∃ v, (do eqGuard op t xo yo (.int k m) (.int k n); binOp op t (.int k m) (.int k n)).run P w = .ok v w ∧ Rep w g x v := by
  cases op <;> simp only [aint] at h
  case add => cases h; exact lit_ok (by simp [eqGuard, binOp, Op.intArith])
  case sub => cases h; exact lit_ok (by simp [eqGuard, binOp, Op.intArith])
  case mul => cases h; exact lit_ok (by simp [eqGuard, binOp, Op.intArith])
  case quo =>
    split at h
    · cases h
    · rename_i hn; cases h; exact lit_ok (by simp [eqGuard, binOp, Op.intDiv, hn])
  case rem =>
    split at h
    · cases h
    · rename_i hn; cases h; exact lit_ok (by simp [eqGuard, binOp, Op.intDiv, hn])
  case eql => cases h; exact lit_ok (by simp [eqGuard, binOp, Op.intCmp])
  case neq => cases h; exact lit_ok (by simp [eqGuard, binOp, Op.intCmp])
  case lss => cases h; exact lit_ok (by simp [eqGuard, binOp, Op.intCmp])
  case leq => cases h; exact lit_ok (by simp [eqGuard, binOp, Op.intCmp])
  case gtr => cases h; exact lit_ok (by simp [eqGuard, binOp, Op.intCmp])
  case geq => cases h; exact lit_ok (by simp [eqGuard, binOp, Op.intCmp])
  all_goals first | cases h | exact absurd rfl h1 | exact absurd rfl h2
theorem bin_sound (t : TypeId) (op : BinOp) (xo yo : Operand) {p q : AV} {pv qv : Value} (hp : Rep w g p pv) (hq : Rep w g q qv) {x : AV} (h : abin op p q = some x) :
    ∃ v, (do eqGuard op t xo yo pv qv; binOp op t pv qv).run P w = .ok v w ∧ Rep w g x v := by
  unfold abin at h
  split at h
  · rename_i k m k' n
    cases hp
    cases hq
    cases op <;> simp only [] at h
    case shl =>
      split at h
      · cases h
      · rename_i h0; cases h; exact lit_ok (by simp [eqGuard, binOp, Op.shift, h0])
    case shr =>
      split at h
      · cases h
      · rename_i h0; cases h; exact lit_ok (by simp [eqGuard, binOp, Op.shift, h0])
    all_goals
      split at h
      · rename_i hk
        subst hk
        exact int_sound t _ xo yo (by simp) (by simp) h
      · cases h
  · rename_i s u
    cases hp
    cases hq
    cases op <;> simp only [astr] at h
    case add =>
      split at h
      · rename_i hn
        cases h
        refine lit_ok ?_
        have : ¬ (((s.size + u.size : Nat) : Int) > IntKind.i64.max) := by
          have : IntKind.i64.max = 9223372036854775807 := by decide
          rw [this]; omega
        simp only [eqGuard, binOp, Op.stringOp]
        rw [if_neg this]
        simp
      · cases h
    case eql => cases h; exact lit_ok (by simp [eqGuard, binOp, Op.stringOp])
    case neq => cases h; exact lit_ok (by simp [eqGuard, binOp, Op.stringOp])
    case lss => cases h; exact lit_ok (by simp [eqGuard, binOp, Op.stringOp])
    case leq => cases h; exact lit_ok (by simp [eqGuard, binOp, Op.stringOp])
    case gtr => cases h; exact lit_ok (by simp [eqGuard, binOp, Op.stringOp])
    case geq => cases h; exact lit_ok (by simp [eqGuard, binOp, Op.stringOp])
    all_goals cases h
  · cases h

theorem not_sound {p : AV} {pv : Value} (hp : Rep w g p pv) {x : AV} (h : anot p = some x) : ∃ v, (Op.unary .not pv).run P w = .ok v w ∧ Rep w g x v := by
  unfold anot at h
  split at h
  · cases hp; cases h; exact lit_ok (by simp [Op.unary])
  · cases h
theorem neg_sound {p : AV} {pv : Value} (hp : Rep w g p pv) {x : AV} (h : aneg p = some x) : ∃ v, (Op.unary .neg pv).run P w = .ok v w ∧ Rep w g x v := by
  unfold aneg at h
  split at h
  · cases hp; cases h; exact lit_ok (by simp [Op.unary, Op.intArith])
  · cases h
theorem cvt_sound {s t : TypeId} {d : TypeDesc} {k : IntKind} (hs : P.underlying s = some d) (ht : P.underlying t = some (.int k)) {p : AV} {pv : Value} (hp : Rep w g p pv) {x : AV} (h : acvt k p = some x) :
    ∃ v, (convert s t pv).run P w = .ok v w ∧ Rep w g x v := by
  unfold acvt at h
  split at h
  · cases hp; cases h; exact lit_ok (by simp [convert, run_underlying hs, run_underlying ht, Conv.intToInt])
  · cases h
theorem same_sound {s t : TypeId} {d : TypeDesc} (hs : P.underlying s = some d) (ht : P.underlying t = some .string) {p : AV} {pv : Value} (hp : Rep w g p pv) {x : AV} (h : asame p = some x) :
    ∃ v, (convert s t pv).run P w = .ok v w ∧ Rep w g x v := by
  unfold asame at h
  split at h
  · cases hp; cases h; exact lit_ok (by simp [convert, run_underlying hs, run_underlying ht])
  · cases hp; cases h; exact lit_ok (by simp [convert, run_underlying hs, run_underlying ht, Conv.intToString])
  · cases h
theorem ext_sound {i : Nat} {p : AV} {pv : Value} (hp : Rep w g p pv) {x : AV} (h : aext i p = some x) : ∃ v, (Instr.extract pv i).run P w = .ok v w ∧ Rep w g x v := by
  unfold aext at h
  split at h
  · obtain ⟨vs, rfl, hl⟩ := hp
    obtain ⟨v, h1, h2⟩ := hl.get i x h
    have h3 : vs[i]? = some v := by simpa using h1
    exact ⟨v, by simp [Instr.extract, h3], h2⟩
  · cases h
theorem len_sound {t ty e : TypeId} (ht : P.underlying t = some (.slice e)) {p : AV} {pv : Value} (hp : Rep w g p pv) {x : AV} (h : alen p = some x) : ∃ v, (Builtin.len_ #[t] ty #[pv]).run P w = .ok v w ∧ Rep w g x v := by
  unfold alen at h
  split at h
  · obtain ⟨a, cap, rfl, _⟩ := hp
    cases h; exact lit_ok (by simp [Builtin.len_, run_underlying ht, goInt])
  · obtain ⟨⟨a, c, rfl⟩, _⟩ := hp
    cases h; exact lit_ok (by simp [Builtin.len_, run_underlying ht, goInt])
  · cases h
theorem lenS_sound {t ty : TypeId} (ht : P.underlying t = some .string) {p : AV} {pv : Value} (hp : Rep w g p pv) {x : AV} (h : alenS p = some x) : ∃ v, (Builtin.len_ #[t] ty #[pv]).run P w = .ok v w ∧ Rep w g x v := by
  unfold alenS at h
  split at h
  · cases hp
    cases h; exact lit_ok (by simp [Builtin.len_, run_underlying ht, goInt])
  · cases h
end Go.Ab
