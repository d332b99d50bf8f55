/- Contracts of functions of the program: each computes what its model says; the conditions stand at each. -/
import Derived.Test.YtblhbafoncfhdaaGreatDoorTw9
set_option linter.unusedSimpArgs false
set_option linter.unusedVariables false
set_option maxRecDepth 20000
set_option pp.deepTerms false
set_option pp.deepTerms.threshold 3
namespace Go.Proofs.YtblhbafoncfhdaaGreatDoor
open Go Go.Ab Go.Pm Go.Cm
variable (G : Nat → AV) (H : Nat → Option AObj)
def fldNames : List T := [⟨#[97, 103, 101]⟩, ⟨#[99, 105, 116, 121]⟩, ⟨#[106, 111, 105, 110, 101, 100]⟩, ⟨#[110, 97, 109, 101]⟩, ⟨#[112, 108, 97, 110]⟩, ⟨#[118, 105, 112]⟩]
/-- The package's variables that the walk reads. -/
structure GOk (G : Nat → AV) : Prop where
  maxLen : ∃ m cs, G 4 = .pp (.lit (.int .i64 m) :: cs)
  fields : G 0 = .pp (fldNames.map .str)
  ns : ¬ Strict G
theorem odd_c (nz : Bool) (l : List Int) (a lo hi' : Int) (i : Nat) (hi : H i = some (strm (LL nz l) a)) (ha : 0 ≤ a ∧ a ≤ 1099511627000) (h0 : lo ≤ hi' ∧ -1099511627776 ≤ lo ∧ hi' ≤ 1099511627776) : SC G H 70 [.op i 0 0, .int lo, .int hi'] i (LL nz l) a 2 fun r => ∃ k : Int, r = .int k ∧ -1099511627777 ≤ k ∧ k ≤ 1099511627777 := by
  intro n
  refine ACalls.start mix F70 (by simp) fun hlow => ?_
  have hq := Qs.refl hi hlow
  simp -dsimp -implicitDefEqProofs (disch := omega) only [↓wpre, push_cast, reduceCtorEq, ↓reduceIte, Nat.reduceEqDiff, Nat.reduceLeDiff, Nat.reduceAdd, Nat.reduceLT, Int.reduceEq, Int.reduceLT, Int.reduceLE, Int.reduceNeg, Int.reduceAdd, c70]
  refine (flip_c G _ nz l a 12 i hi ⟨ha.1, by omega⟩ (by omega)).x fun r a1 n1 hn1 h1 h2 h3 => ?_
  obtain ⟨k, rfl⟩ := h3
  simp -dsimp -implicitDefEqProofs (disch := omega) only [↓wpre, push_cast, reduceCtorEq, ↓reduceIte, Nat.reduceEqDiff, Nat.reduceLeDiff, Nat.reduceAdd, Nat.reduceLT, Int.reduceEq, Int.reduceLT, Int.reduceLE, Int.reduceNeg, Int.reduceAdd, hi]
  (first | with_reducible refine cnd_ndec (fun hc => ?_) (fun hc => ?_) | with_reducible refine cnd_dec (fun hc => ?_) (fun hc => ?_) | with_reducible refine cnd_nb (fun hc => ?_) (fun hc => ?_) | with_reducible refine cnd_intro (fun hc => ?_) (fun hc => ?_)) <;> (first | (exfalso; omega) | (try simp -dsimp -implicitDefEqProofs (disch := omega) only [↓wpre, push_cast, reduceCtorEq, ↓reduceIte, Nat.reduceEqDiff, Nat.reduceLeDiff, Nat.reduceAdd, Nat.reduceLT, Int.reduceEq, Int.reduceLT, Int.reduceLE, Int.reduceNeg, Int.reduceAdd, hc, true_and]))
  · refine (pick_c G _ nz true l a1 i hu_same ⟨by omega, by omega⟩ [lo - 1, hi' + 1, lo, hi', -1099511627776, 1099511627776] (by simp) (by simp)).x fun r a2 n2 hn2 h1' h2' h3 => ?_
    obtain ⟨k, rfl, h4⟩ := h3
    simp only [List.mem_cons, List.not_mem_nil, or_false] at h4
    simp -dsimp -implicitDefEqProofs (disch := omega) only [↓wpre, push_cast, reduceCtorEq, ↓reduceIte, Nat.reduceEqDiff, Nat.reduceLeDiff, Nat.reduceAdd, Nat.reduceLT, Int.reduceEq, Int.reduceLT, Int.reduceLE, Int.reduceNeg, Int.reduceAdd, hi, hu_hu]
    refine fin_intro (H' := hu H i (some (strm (LL nz l) (a2)))) (Qs.sub (n := n) (by (repeat (first | exact hq | refine Qs.put ?_ | refine Qs.new ?_ (by omega)))) (by simp -dsimp -implicitDefEqProofs (disch := omega) only [↓wpre, push_cast, reduceCtorEq, ↓reduceIte, Nat.reduceEqDiff, Nat.reduceLeDiff, Nat.reduceAdd, Nat.reduceLT, Int.reduceEq, Int.reduceLT, Int.reduceLE, Int.reduceNeg, Int.reduceAdd, hq.2.2])) ⟨a2, by omega, by omega, rfl, _, rfl, by omega, by omega⟩
  · refine (range_c G _ nz l a1 lo hi' i hu_same ⟨by omega, by omega⟩ h0).x fun r a2 n2 hn2 h1' h2' h3 => ?_
    obtain ⟨k, rfl, h4⟩ := h3
    simp -dsimp -implicitDefEqProofs (disch := omega) only [↓wpre, push_cast, reduceCtorEq, ↓reduceIte, Nat.reduceEqDiff, Nat.reduceLeDiff, Nat.reduceAdd, Nat.reduceLT, Int.reduceEq, Int.reduceLT, Int.reduceLE, Int.reduceNeg, Int.reduceAdd, hi, hu_hu]
    refine fin_intro (H' := hu H i (some (strm (LL nz l) (a2)))) (Qs.sub (n := n) (by (repeat (first | exact hq | refine Qs.put ?_ | refine Qs.new ?_ (by omega)))) (by simp -dsimp -implicitDefEqProofs (disch := omega) only [↓wpre, push_cast, reduceCtorEq, ↓reduceIte, Nat.reduceEqDiff, Nat.reduceLeDiff, Nat.reduceAdd, Nat.reduceLT, Int.reduceEq, Int.reduceLT, Int.reduceLE, Int.reduceNeg, Int.reduceAdd, hq.2.2])) ⟨a2, by omega, by omega, rfl, _, rfl, by omega, by omega⟩
theorem size_pos {t : T} (h : ¬ t = ⟨#[]⟩) : 0 < t.size := by
  rcases Nat.eq_zero_or_pos t.size with h0 | h0
  · exfalso; apply h
    obtain ⟨⟨x⟩⟩ := t
    cases x with
    | nil => rfl
    | cons y r => simp [ByteArray.size] at h0
  · exact h0
theorem repeatL_size (s : T) (c : Nat) : (⟨(Lib.repeatL s.data.toList c).toArray⟩ : T).size = c * s.size := by
  show (Lib.repeatL s.data.toList c).toArray.size = _
  rw [List.size_toArray, Lib.repeatL_length, Array.length_toList]
  rfl
theorem step_below {w w' : World} {g : Gh} (hI : Inv w g) (hd : g.dr = true → False) (h : Go.RowKit.Below w.heap.size w w') : Step w g w' g ∧ Inv w' g := by
  have hS : Step w g w' g := ⟨h.os, h.tape, h.output, h.size, fun b hb _ => h.block b hb, fun i o' ob hi ho hb => ⟨ob, by rw [h.block _ (hI.lt i o' ho).2]; exact hb, Like.refl _ _⟩, fun _ h => .inl h, Nat.le_refl _, fun _ _ => rfl, fun _ o' _ ho => ⟨o', ho, rfl, rfl⟩, rfl, fun h => (hd h).elim⟩
  exact ⟨hS, hI.step hS (fun i o ho => ⟨(hI.lt i o ho).1, Nat.lt_of_lt_of_le (hI.lt i o ho).2 h.size⟩) hI.inj fun i o ho => .inl ⟨ho, h.block _ (hI.lt i o ho).2⟩⟩
theorem repeat_c (hns : ¬ Strict G) (s : T) (c : Nat) (hc : c ≤ 1000) (hs : s.size ≤ 1000) : AFn Tryz.prog G 71 [.str s, .lit (.int .i64 c)] H (.str ⟨(Lib.repeatL s.data.toList c).toArray⟩) := by
  refine AFn.of_calls (xs := [.string s, .int .i64 c]) (enters_of_b (by kernel_rfl)) fun w g hI hg => ?_
  have hm : s.size * c ≤ 140737488355328 := Nat.le_trans (Nat.mul_le_mul hs hc) (by decide)
  refine (Tryz.strings_Repeat s c w (by omega) hm).mono fun e w' ⟨k1, k2⟩ => ?_
  obtain ⟨k3, k4⟩ := step_below hI (fun h => hns (hg.dr h)) k2
  exact ⟨_, k1, rfl, k4, k3⟩
theorem repeat_e (s : T) (c : Nat) (hc : c ≤ 1000) (hs : s.size ≤ 1000) : ∃ e : T, e.size = c * s.size ∧ ∀ G H, ¬ Strict G → AFn Tryz.prog G 71 [.str s, .lit (.int .i64 c)] H (.str e) := ⟨_, repeatL_size s c, fun G H hns => repeat_c G H hns s c hc hs⟩
end Go.Proofs.YtblhbafoncfhdaaGreatDoor

