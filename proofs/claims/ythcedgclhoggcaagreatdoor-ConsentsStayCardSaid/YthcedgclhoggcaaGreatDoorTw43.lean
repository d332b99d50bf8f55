/- Contracts of functions of the program: each computes what its model says; the conditions stand at each. -/
import Derived.Test.YthcedgclhoggcaaGreatDoorA5
import Derived.Test.YthcedgclhoggcaaGreatDoorTw42
import Derived.Test.YthcedgclhoggcaaGreatDoorTs3
import Derived.Test.YthcedgclhoggcaaGreatDoorCl6
set_option linter.unusedSimpArgs false
set_option linter.unusedVariables false
set_option maxRecDepth 20000
set_option pp.deepTerms false
set_option pp.deepTerms.threshold 3
namespace Go.Proofs.YthcedgclhoggcaaGreatDoor
open Go Go.Ab Go.Pm Go.Cm
/-! slices.SortFunc of statements. -/
theorem run_callF {P : Program} {f : FuncId} (he : Go.Ab.Enters P f) (vs : Array Value) (w : World) : (callFunc f vs).run P w = .ok (.enter f vs) w := by
  obtain ⟨fn, c, h1, h2, h3⟩ := he
  rw [beq_eq_false_iff_ne] at h2
  simp [callFunc, h1, h2, h3]
def strictG : Nat → AV := fun k => if k = 1000000007 then .pp [] else .any
def gS : Gh := ⟨fun _ => 0, noObj, 0, true⟩
theorem invS (W : World) : Inv W gS := ⟨fun i o h => (by cases h), fun i j o o' h => (by cases h), fun i o h => (by cases h)⟩
theorem no_ownS (b : Nat) : ¬ gS.Own b := fun ⟨i, o, h, _⟩ => by cases h
theorem glS (W : World) : Gl strictG gS W := ⟨fun k => by
    unfold strictG
    split
    · exact ⟨k, 0, rfl, trivial⟩
    · trivial, fun _ => if_pos rfl, fun k h => by
    unfold strictG at h
    rw [if_neg (by omega)] at h
    cases h⟩
/-- A quiet function that counts its draws: the world is the old one, grown. -/
theorem grown_of_afn {P : Program} {f : FuncId} {args : List AV} {v : Value} (he : Go.Ab.Enters P f) (h : AFn P strictG f args noObj (.lit v)) (W : World) (vs : Array Value) (hr : RepList W gS args vs.toList) :
    Calls P f vs W fun e w' => e = .returned v ∧ ∃ q os, w' = Go.Sort.grow (W.drewN q) os := by
  rcases h 0 W gS vs (invS W) rfl rfl (glS W) hr with ⟨_, hc⟩ | ⟨v, w', hc, _⟩
  · refine hc.mono fun e w' ⟨v', r, g', k1, ⟨k2, k3⟩, k4, k5, k6⟩ => ?_
    subst k2
    have k4 : v' = v := k4
    subst k4
    refine ⟨k1, w'.drawn - W.drawn, w'.heap.extract W.heap.size w'.heap.size, ?_⟩
    have hd := k6.drawn rfl
    have hh : w'.heap = W.heap ++ w'.heap.extract W.heap.size w'.heap.size := by
      apply Array.ext_getElem?
      intro b
      by_cases hb : b < W.heap.size
      · rw [Array.getElem?_append_left hb]; exact k6.keep b hb (no_ownS b)
      · rw [Array.getElem?_append_right (by omega), Array.getElem?_extract]
        by_cases hb2 : b < w'.heap.size
        · rw [if_pos (by omega)]; congr 1; omega
        · rw [if_neg (by omega)]; exact Array.getElem?_eq_none (by omega)
    have e1 := k6.os
    have e2 := k6.tape
    have e3 := k6.output
    obtain ⟨wh, wt, wd, wo, wp⟩ := w'
    obtain ⟨vh, vt, vd, vo, vp⟩ := W
    simp only at e1 e2 e3 hh hd
    subst e1 e2 e3
    simp only [Go.Sort.grow, World.drewN, World.mk.injEq]
    exact ⟨hh, trivial, by omega, trivial, trivial⟩
  · rw [run_callF he] at hc
    cases hc
def encS (s : Stm) : List Value := [.int .i64 s.no, .int .i64 s.at', .int .i64 s.id.kind, .string s.id.text, .string s.purpose, .string s.region, .int .i64 s.channel, .int .i64 s.what]
instance : Inhabited Stm := ⟨⟨0, 0, ⟨0, ⟨#[]⟩⟩, ⟨#[]⟩, ⟨#[]⟩, 0, 0⟩⟩
theorem repList_lits' {w : World} {g : Gh} : ∀ (xs : List Value), RepList w g (xs.map .lit) xs
  | [] => rfl
  | x :: xs => ⟨x, xs, rfl, rfl, repList_lits' xs⟩
theorem ordS_lays (w : World) (blk size : Nat) : Go.Proofs.CmpLays Tryz.prog 59 #[] encS 8 ordS blk 0 size w := by
  intro m os dk _ x y
  exact grown_of_afn (enters_of_b (by kernel_rfl)) (ordS_c strictG noObj x y) _ _ ⟨_, _, rfl, ⟨_, rfl, repList_lits' (encS x)⟩, _, _, rfl, ⟨_, rfl, repList_lits' (encS y)⟩, rfl⟩
theorem tc_idCmp : TC idCmp := TC.cons (f := fun (a b : Idn) => cmpI a.kind b.kind) (g := fun (a b : Idn) => [cmpS a.text b.text]) (tc_cmpI.on Idn.kind) (TC.cons (f := fun (a b : Idn) => cmpS a.text b.text) (g := fun (a b : Idn) => []) (tc_cmpS.on Idn.text) TC.nil)
theorem tc_ordS : TC ordS :=
  TC.cons (f := fun (a b : Stm) => cmpI a.at' b.at') (g := fun (a b : Stm) => [idCmp a.id b.id, cmpS a.purpose b.purpose, cmpI a.channel b.channel, cmpI a.what b.what, cmpS a.region b.region]) (tc_cmpI.on Stm.at') <|
  TC.cons (f := fun (a b : Stm) => idCmp a.id b.id) (g := fun (a b : Stm) => [cmpS a.purpose b.purpose, cmpI a.channel b.channel, cmpI a.what b.what, cmpS a.region b.region]) (tc_idCmp.on Stm.id) <|
  TC.cons (f := fun (a b : Stm) => cmpS a.purpose b.purpose) (g := fun (a b : Stm) => [cmpI a.channel b.channel, cmpI a.what b.what, cmpS a.region b.region]) (tc_cmpS.on Stm.purpose) <|
  TC.cons (f := fun (a b : Stm) => cmpI a.channel b.channel) (g := fun (a b : Stm) => [cmpI a.what b.what, cmpS a.region b.region]) (tc_cmpI.on Stm.channel) <|
  TC.cons (f := fun (a b : Stm) => cmpI a.what b.what) (g := fun (a b : Stm) => [cmpS a.region b.region]) (tc_cmpI.on Stm.what) <|
  TC.cons (f := fun (a b : Stm) => cmpS a.region b.region) (g := fun (a b : Stm) => []) (tc_cmpS.on Stm.region) TC.nil
/-- What slices.SortFunc makes of a list. -/
structure SortedS (l l' : List Stm) : Prop where
  perm : l'.Perm l
  sorted : l'.Pairwise fun a b => ordS a b ≤ 0
theorem sortFunc_c (G : Nat → AV) (H : Nat → Option AObj) (l : List Stm) (jr : List (List AV)) (o : Nat) (ho : H o = some ⟨43, 8, l.map Stm.c ++ jr⟩) (hl : l.length ≤ 1000000) (n : Nat) :
    ACalls Tryz.prog G 58 [.os o 0 l.length, .fn (.func 59) []] H n fun r H' n' => r = .tup [] ∧ ∃ l', SortedS l l' ∧ l'.length = l.length ∧ H' = hu H o (some ⟨43, 8, l'.map Stm.c ++ jr⟩) := by
  refine ACalls.of_rowK (enters_of_b (by kernel_rfl)) (by decide) encS (fun _ => rfl) ho fun w blk cap h1 h2 h3 => ?_
  refine (Go.Proofs.AnyQ.slices_SortFunc Tryz.sortF 8 (fun w => Tryz.isAgg43 w) (fun w => Tryz.sizeOf43 w) encS (fun _ => rfl) (fun x v hv => ?_) ordS tc_ordS.swo 59 #[] blk 0 cap l.toArray w (fun args w => run_callF (enters_of_b (by kernel_rfl)) args w) (ordS_lays w blk _) h1 h2 (by simp; omega)).mono fun e w' ⟨k1, d', m, os, k2, k3, k4⟩ => ⟨k1, d'.toList, m, os, ⟨?_, ?_⟩, ?_, k4⟩
  · simp only [encS, List.mem_cons, List.not_mem_nil, or_false] at hv
    rcases hv with rfl | rfl | rfl | rfl | rfl | rfl | rfl | rfl <;> rfl
  · have hs : d'.size = l.length := by simpa using k2.1
    have := k2.2.2
    have ht : List.take l.length d'.toList = d'.toList := List.take_of_length_le (by simp [hs])
    simpa [ht] using this
  · have hs : d'.size = l.length := by simpa using k2.1
    rw [List.pairwise_iff_getElem]
    intro i j hi hj hij
    simp only [Array.length_toList] at hi hj
    have h4 := k3 i j (Nat.zero_le _) hij (by simp; omega)
    simp only [Go.Proofs.ltOf, decide_eq_false_iff_not] at h4
    rw [getElem!_pos d' i hi, getElem!_pos d' j hj] at h4
    simp only [Array.getElem_toList]
    exact (tc_ordS.flip _ _).2 (by omega)
  · simpa using k2.1
end Go.Proofs.YthcedgclhoggcaaGreatDoor

