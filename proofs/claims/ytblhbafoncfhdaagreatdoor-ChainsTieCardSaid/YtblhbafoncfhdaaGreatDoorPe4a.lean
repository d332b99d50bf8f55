/- Contracts of functions of the program: each computes what its model says; the conditions stand at each. -/
import Derived.Test.YtblhbafoncfhdaaGreatDoorA5
import Derived.Test.YtblhbafoncfhdaaGreatDoorTs5
import Derived.Test.YtblhbafoncfhdaaGreatDoorB1
set_option linter.unusedSimpArgs false
set_option linter.unusedVariables false
set_option maxRecDepth 20000
namespace Go.Proofs.YtblhbafoncfhdaaGreatDoor
open Go Go.Ab Go.Pm Go.Cm Go.El Go.Rm Go.Pp
/-! slices.SortFunc of ids. -/
theorem run_callF {P : Program} {f : FuncId} (he : Go.Ab.Enters P f) (vs : Array Value) (w : World) : (callFunc f vs).run P w = .ok (.enter f vs) w := by
 obtain ⟨fn, c, h1, h2, h3⟩ := he
 rw [beq_eq_false_iff_ne] at h2
 simp [callFunc, h1, h2, h3]
def strictG : Nat → AV := fun k => if k = 1000000007 then .pp [] else .any
def gS : Gh := ⟨fun _ => 0, noObj, 0, true⟩
theorem invS (W : World) : Inv W gS := ⟨fun i o h => (by cases h), fun i j o o' h => (by cases h), fun i o h => (by cases h)⟩
theorem no_ownS (b : Nat) : ¬ gS.Own b := fun ⟨i, o, h, _⟩ => by cases h
theorem glS (W : World) : Gl strictG gS W := ⟨fun k => by
  unfold strictG
  split
  ·exact ⟨k, 0, rfl, trivial⟩
  ·trivial, fun _ => if_pos rfl, fun k h => by
  unfold strictG at h
  rw [if_neg (by omega)] at h
  cases h⟩
theorem grown_of_afn {P : Program} {f : FuncId} {args : List AV} {v : Value} (he : Go.Ab.Enters P f) (h : AFn P strictG f args noObj (.lit v)) (W : World) (vs : Array Value) (hr : RepList W gS args vs.toList) :
  Calls P f vs W fun e w' => e = .returned v ∧ ∃ q os, w' = Go.Sort.grow (W.drewN q) os := by
 rcases h 0 W gS vs (invS W) rfl rfl (glS W) hr with ⟨_, hc⟩ | ⟨v, w', hc, _⟩
 ·refine hc.mono fun e w' ⟨v', r, g', k1, ⟨k2, k3⟩, k4, k5, k6⟩ => ?_
  subst k2
  have k4 : v' = v := k4
  subst k4
  refine ⟨k1, w'.drawn - W.drawn, w'.heap.extract W.heap.size w'.heap.size, ?_⟩
  have hd := k6.drawn rfl
  have hh : w'.heap = W.heap ++ w'.heap.extract W.heap.size w'.heap.size := by
   apply Array.ext_getElem?
   intro b
   by_cases hb : b < W.heap.size
   ·rw [Array.getElem?_append_left hb]; exact k6.keep b hb (no_ownS b)
   ·rw [Array.getElem?_append_right (by omega), Array.getElem?_extract]
    by_cases hb2 : b < w'.heap.size
    ·rw [if_pos (by omega)]; congr 1; omega
    ·rw [if_neg (by omega)]; exact Array.getElem?_eq_none (by omega)
  have e1 := k6.os
  have e2 := k6.tape
  have e3 := k6.output
  obtain ⟨wh, wt, wd, wo, wp⟩ := w'
  obtain ⟨vh, vt, vd, vo, vp⟩ := W
  simp only at e1 e2 e3 hh hd
  subst e1 e2 e3
  simp only [Go.Sort.grow, World.drewN, World.mk.injEq]
  exact ⟨hh, trivial, by omega, trivial, trivial⟩
 ·rw [run_callF he] at hc
  cases hc
def encI (s : Idn) : List Value := [.int .i64 s.kind, .string s.text]
instance : Inhabited Idn := ⟨⟨0, ⟨#[]⟩⟩⟩
theorem repList_lits' {w : World} {g : Gh} : ∀ (xs : List Value), RepList w g (xs.map .lit) xs
 | [] => rfl
 | x :: xs => ⟨x, xs, rfl, rfl, repList_lits' xs⟩
theorem cmpId_lays (w : World) (blk size : Nat) : Go.Proofs.CmpLays Tryz.prog 36 #[] encI 2 cmpId blk 0 size w := by
 intro m os dk _ x y
 exact grown_of_afn (enters_of_b (by kernel_rfl)) (cmpId_c strictG noObj x y) _ _ ⟨_, _, rfl, ⟨_, rfl, repList_lits' (encI x)⟩, _, _, rfl, ⟨_, rfl, repList_lits' (encI y)⟩, rfl⟩
structure SortedI (l l' : List Idn) : Prop where
 perm : l'.Perm l
 sorted : l'.Pairwise fun a b => cmpId a b ≤ 0
theorem sortI_c (G : Nat → AV) (H : Nat → Option AObj) (l : List Idn) (jr : List (List AV)) (o : Nat) (ho : H o = some ⟨55, 2, l.map Idn.c ++ jr⟩) (hl : l.length ≤ 1000000) (n : Nat) :
  ACalls Tryz.prog G 35 [.os o 0 l.length, .fn (.func 36) []] H n fun r H' n' => r = .tup [] ∧ ∃ l', SortedI l l' ∧ l'.length = l.length ∧ H' = hu H o (some ⟨55, 2, l'.map Idn.c ++ jr⟩) := by
 refine ACalls.of_rowK (enters_of_b (by kernel_rfl)) (by decide) encI (fun _ => rfl) ho fun w blk cap h1 h2 h3 => ?_
 refine (Go.Proofs.AnyQ.slices_SortFunc Tryz.sortI 2 (fun w => Tryz.isAgg55 w) (fun w => Tryz.sizeOf55 w) encI (fun _ => rfl) (fun x v hv => ?_) cmpId cmpId_tc.swo 36 #[] blk 0 cap l.toArray w (fun args w => run_callF (enters_of_b (by kernel_rfl)) args w) (cmpId_lays w blk _) h1 h2 (by simp; omega)).mono fun e w' ⟨k1, d', m, os, k2, k3, k4⟩ => ⟨k1, d'.toList, m, os, ⟨?_, ?_⟩, ?_, k4⟩
 ·simp only [encI, List.mem_cons, List.not_mem_nil, or_false] at hv
  rcases hv with rfl | rfl <;> rfl
 ·have hs : d'.size = l.length := by simpa using k2.1
  have := k2.2.2
  have ht : List.take l.length d'.toList = d'.toList := List.take_of_length_le (by simp [hs])
  simpa [ht] using this
 ·have hs : d'.size = l.length := by simpa using k2.1
  rw [List.pairwise_iff_getElem]
  intro i j hi hj hij
  simp only [Array.length_toList] at hi hj
  have h4 := k3 i j (Nat.zero_le _) hij (by simp; omega)
  simp only [Go.Proofs.ltOf, decide_eq_false_iff_not] at h4
  rw [getElem!_pos d' i hi, getElem!_pos d' j hj] at h4
  simp only [Array.getElem_toList]
  exact (cmpId_tc.flip _ _).2 (by omega)
 ·simpa using k2.1
/-! What is like its forerunner goes. -/
def cptI (p : Idn) : List Idn → List Idn
 | [] => []
 | y :: r => if y = p then cptI y r else y :: cptI y r
def cptT : List Idn → List Idn
 | [] => []
 | x :: r => x :: cptI x r
theorem mem_cptI (z : Idn) : ∀ (p : Idn) (l : List Idn), (z = p ∨ z ∈ cptI p l) ↔ z = p ∨ z ∈ l
 | p, [] => by simp [cptI]
 | p, y :: r => by
  rw [cptI]
  split
  ·rename_i e
   subst e
   rw [mem_cptI z y r]; simp
  ·rw [List.mem_cons, mem_cptI z y r, List.mem_cons]
theorem mem_cptT (z : Idn) (l : List Idn) : z ∈ cptT l ↔ z ∈ l := by
 cases l with
 | nil => rfl
 | cons x r => rw [cptT, List.mem_cons, mem_cptI, List.mem_cons]
theorem asc_cptI : ∀ (p : Idn) (l : List Idn), (p :: l).Pairwise (fun a b => cmpId a b ≤ 0) → (p :: cptI p l).Pairwise fun a b => cmpId a b < 0
 | p, [], _ => by simp [cptI]
 | p, y :: r, h => by
  obtain ⟨h1, h2⟩ := List.pairwise_cons.1 h
  rw [cptI]
  split
  ·rename_i e
   subst e
   exact asc_cptI y r h2
  ·rename_i e
   have ih := asc_cptI y r h2
   have hpy : cmpId p y < 0 := by
    have h3 := h1 y (by simp)
    have h4 : ¬ cmpId p y = 0 := fun h0 => e (cmpId_eq h0).symm
    omega
   refine List.pairwise_cons.2 ⟨fun z hz => ?_, ih⟩
   rcases List.mem_cons.1 hz with rfl | hz
   ·exact hpy
   ·exact cmpId_tc.lt_le hpy (by have := (List.pairwise_cons.1 ih).1 z hz; omega)
theorem cptT_set {l l' : List Idn} (h : SortedI l l') : cptT l' = setOf l := by
 refine setOf_eq ?_ fun x => (mem_cptT x l').trans h.perm.mem_iff
 cases l' with
 | nil => exact .nil
 | cons x r => exact asc_cptI x r h.sorted
variable (G : Nat → AV) (H : Nat → Option AObj)
set_option maxHeartbeats 1600000 in
theorem compactI_c (o : Nat) (l : List Idn) (hl : l.length ≤ 1000000) (ho : H o = some ⟨55, 2, l.map Idn.c⟩) (n : Nat) : ACalls Tryz.prog G 37 [.os o 0 l.length]  H n fun r H' n' => r = .os o 0 (cptT l).length ∧ ∃ jr, H' = hu H o (some ⟨55, 2, (cptT l).map Idn.c ++ jr⟩) := by
 refine ACalls.start mix F37 (by simp) fun hlow => ?_
 by_cases h2 : l.length < 2
 ·have hi2 : (l.length : Int) < 2 := by omega
  have hc : cptT l = l := by
   match l, h2 with
   | [], _ => rfl
   | [x], _ => rfl
  simp (disch := omega) only [↓wpre, push_cast, seval, c37, hi2]
  exact fin_intro (Sub.refl _) ⟨by rw [hc], [], by rw [hc, List.append_nil, hu_self H ho]⟩
 have hi2 : ¬ (l.length : Int) < 2 := by omega
 obtain ⟨x0, r0, rfl⟩ : ∃ x r, l = x :: r := by
  cases l with
  | nil => simp at h2
  | cons x r => exact ⟨x, r, rfl⟩
 generalize hll : x0 :: r0 = l at hl ho h2 hi2 ⊢
 have hcpt0 : cptT l = x0 :: cptI x0 r0 := by rw [← hll]; rfl
 simp (disch := omega) only [↓wpre, push_cast, seval, c37, hi2]
 refine xw_loopJ (σ := List Idn × Idn × List Idn) (fun t => [(0, .os o 0 l.length), (3, .int ((t.1.length : Int) + 1))]) (fun t H' n' => l = t.1 ++ t.2.1 :: t.2.2 ∧ cptT l = t.1 ++ t.2.1 :: cptI t.2.1 t.2.2 ∧ H = H' ∧ n ≤ n') (fun t => t.2.2.length) ([], x0, r0) ⟨hll.symm, hcpt0, rfl, Nat.le_refl _⟩ (by simp (disch := omega) only [↓wpre, push_cast, seval, true_and]; try rfl) ?_
 rintro ⟨d, p, b⟩ fr H' n1 ⟨hab, hcp, rfl, hn1⟩ hh
 simp only [has_nil, has_cons, and_true] at hh hab hcp
 have hlab : l.length = d.length + 1 + b.length := by rw [hab]; simp; omega
 have hcut : ∀ len, CutOk H 2 (.os o 0 len) = True := fun _ => eq_true ⟨_, ho, rfl⟩
 cases b with
 | nil =>
  have hnl : ¬ (d.length : Int) + 1 < l.length := by rw [hlab]; simp
  simp (disch := omega) only [↓wpre, push_cast, seval, hh, hnl]
  have hcl : cptT l = l := by rw [hcp, hab]; rfl
  exact fin_intro (Sub.refl _) ⟨by rw [hcl], [], by rw [hcl, List.append_nil, hu_self H ho]⟩
 | cons y b =>
  have hlab' : l.length = d.length + 1 + (b.length + 1) := by simpa using hlab
  have hlt : (d.length : Int) + 1 < l.length := by rw [hlab']; omega
  have ht1 : ((d.length : Int) + 1).toNat = d.length + 1 := by omega
  have hj1 : (d.length : Int) + 1 - 1 = d.length := by omega
  have g1 : (l.map Idn.c)[d.length + 1]? = some y.c := by rw [hab]; simp
  have g2 : (l.map Idn.c)[d.length]? = some p.c := by rw [hab]; simp
  simp (disch := omega) only [↓wpre, push_cast, seval, hh, hlt, ho, g1, g2, ht1, hj1, Int.toNat_natCast]
  refine anyN_intro fun n2 hn2 => ?_
  have hdec : (decide (y.kind = p.kind) && decide (y.text = p.text)) = decide (y = p) := idn_dec y p
  by_cases he : y = p
  ·simp (disch := omega) only [↓wpre, push_cast, seval, hh, hdec, he, decide_true, hcut]
   have hcp1 : cptT l = (d ++ [p]) ++ cptI y b := by rw [hcp]; simp [cptI, he]
   have hk0 : d.length + 1 + (b.length + 1) = l.length := hlab'.symm
   have hm : l.length - (d.length + 1) = b.length + 1 := by omega
   refine xw_loopJ (σ := List Idn × List Idn × Idn × List Idn × Nat) (fun t => [(0, .os o 0 l.length), (3, .int t.1.length), (4, .os o (d.length + 1) (b.length + 1)), (5, .int ((t.2.2.2.2 : Int) + 1))]) (fun t H1 n' => cptT l = t.1 ++ cptI t.2.2.1 t.2.2.2.1 ∧ t.1.length + t.2.1.length = d.length + 1 + t.2.2.2.2 ∧ d.length + 1 ≤ t.1.length ∧ t.1.length + t.2.1.length + 1 + t.2.2.2.1.length = l.length ∧ (∃ HL, H1 = HL ∧ HL o = some ⟨55, 2, (t.1 ++ (t.2.1 ++ t.2.2.1 :: t.2.2.2.1)).map Idn.c⟩) ∧ Qs H H1 o n ∧ n ≤ n') (fun t => t.2.2.2.1.length) (d ++ [p], [], y, b, 0) ⟨hcp1, by simp, by simp, by simp; omega, ⟨_, rfl, by rw [ho, hab]; simp⟩, Qs.refl ho hlow, by omega⟩ (by simp (disch := omega) only [↓wpre, push_cast, seval, hh, ht1, hm]; try simp) ?_
   rintro ⟨kept, junk, q, b2, j⟩ fr H1 n3 ⟨hcp2, hkj, hkd, hlen, ⟨HL, rfl, hoo⟩, hqs, hn3⟩ hh
   simp only [has_nil, has_cons, and_true] at hh hcp2 hkj hkd hlen
   dsimp only at hoo
   have hcut2 : ∀ off len, CutOk H1 2 (.os o off len) = True := fun _ _ => eq_true ⟨_, hoo, rfl⟩
   cases b2 with
   | nil =>
    simp only [List.length_nil, Nat.add_zero] at hlen
    have hnl : ¬ (j : Int) + 1 < (b.length : Int) + 1 := by omega
    simp (disch := omega) only [↓wpre, push_cast, seval, hh, hnl, hcut2, hoo, Int.toNat_natCast]
    have hcut3 : ∀ rows off len, CutOk (hu H1 o (some ⟨55, 2, rows⟩)) 2 (.os o off len) = True := fun _ _ _ => eq_true ⟨_, hu_same, rfl⟩
    rw [xclear_os hoo rfl (by decide) (by simp; omega)]
    simp (disch := omega) only [↓wpre, push_cast, seval, hh, hcut3, Int.toNat_natCast]
    have hck : cptT l = kept := by rw [hcp2]; simp [cptI]
    refine fin_intro (H' := hu H o (some ⟨55, 2, (cptT l).map Idn.c ++ List.replicate (l.length - kept.length) noId.c⟩)) ((Qs.put hqs).sub ?_) ⟨by rw [hck], _, rfl⟩
    rw [hu_same, hck]
    have e1 : List.drop (kept.length + (l.length - kept.length)) (List.map Idn.c (kept ++ (junk ++ [q]))) = [] := List.drop_eq_nil_of_le (by simp; omega)
    have e2 : List.take kept.length (List.map Idn.c (kept ++ (junk ++ [q]))) = List.map Idn.c kept := by rw [List.map_append, List.take_append_of_le_length (by simp), List.take_of_length_le (by simp)]
    rw [e1, e2, List.append_nil]
    rfl
   | cons z b2 =>
    simp only [List.length_cons] at hlen
    have hlt2 : (j : Int) + 1 < (b.length : Int) + 1 := by omega
    have ht2 : ((j : Int) + 1).toNat = j + 1 := by omega
    have hj2 : (j : Int) + 1 - 1 = j := by omega
    obtain ⟨w0, js, hjs⟩ : ∃ w0 js, junk ++ [q] = w0 :: js := by
     cases junk with
     | nil => exact ⟨q, [], rfl⟩
     | cons a r => exact ⟨a, r ++ [q], rfl⟩
    have hrw : kept ++ (junk ++ q :: z :: b2) = kept ++ w0 :: (js ++ z :: b2) := by
     rw [show junk ++ q :: z :: b2 = (junk ++ [q]) ++ z :: b2 by simp, hjs]; rfl
    have hjl : js.length = junk.length := by
     have := congrArg List.length hjs
     simpa using this.symm
    have g3 : ((kept ++ (junk ++ q :: z :: b2)).map Idn.c)[d.length + 1 + (j + 1)]? = some z.c := by
     rw [show d.length + 1 + (j + 1) = (kept ++ (junk ++ [q])).length by simp; omega, show kept ++ (junk ++ q :: z :: b2) = (kept ++ (junk ++ [q])) ++ z :: b2 by simp]
     exact at_mid Idn.c _ b2 z
    have g4 : ((kept ++ (junk ++ q :: z :: b2)).map Idn.c)[d.length + 1 + j]? = some q.c := by
     rw [show d.length + 1 + j = (kept ++ junk).length by simp; omega, show kept ++ (junk ++ q :: z :: b2) = (kept ++ junk) ++ q :: z :: b2 by simp]
     exact at_mid Idn.c _ (z :: b2) q
    simp (disch := omega) only [↓wpre, push_cast, seval, hh, hlt2, hoo, g3, g4, ht2, hj2, Int.toNat_natCast]
    refine anyN_intro fun n4 hn4 => ?_
    have hdec2 : (decide (z.kind = q.kind) && decide (z.text = q.text)) = decide (z = q) := idn_dec z q
    by_cases hz : z = q
    ·simp (disch := omega) only [↓wpre, push_cast, seval, hh, hdec2, hz, decide_true]
     have hc3 : cptT l = kept ++ cptI z b2 := by rw [hcp2]; simp [cptI, hz]
     refine againJ (kept, junk ++ [q], z, b2, j + 1) (Nat.lt_succ_self _) ⟨hc3, by simp; omega, hkd, by simp; omega, ⟨_, rfl, by rw [hoo]; simp⟩, hqs, by omega⟩ (by simp (disch := omega) only [↓wpre, push_cast, seval, hh]; try simp)
    ·have hc3 : cptT l = (kept ++ [z]) ++ cptI z b2 := by rw [hcp2]; simp [cptI, hz]
     rw [hrw] at hoo g3
     have g5 := at_mid Idn.c kept (js ++ z :: b2) w0
     have hset := set_mid Idn.c kept (js ++ z :: b2) w0 z
     have hkl : (kept.length : Int) < l.length := by omega
     simp (disch := omega) only [↓wpre, push_cast, seval, hh, hdec2, hz, decide_false, hoo, g3, g5, hset, ht2, hkl, Int.toNat_natCast]
     refine againJ (kept ++ [z], js, z, b2, j + 1) (Nat.lt_succ_self _) ⟨hc3, by simp; omega, by simp; omega, by simp; omega, ⟨_, rfl, by rw [hu_same]; simp⟩, Qs.put hqs, by omega⟩ (by simp (disch := omega) only [↓wpre, push_cast, seval, hh]; try simp)
  ·have hcp1 : cptT l = (d ++ [p]) ++ y :: cptI y b := by rw [hcp]; simp [cptI, he]
   simp (disch := omega) only [↓wpre, push_cast, seval, hh, hdec, he, decide_false]
   refine againJ (d ++ [p], y, b) (Nat.lt_succ_self _) ⟨by rw [hab]; simp, hcp1, rfl, by omega⟩ (by simp (disch := omega) only [↓wpre, push_cast, seval, hh]; try simp)
end Go.Proofs.YtblhbafoncfhdaaGreatDoor
