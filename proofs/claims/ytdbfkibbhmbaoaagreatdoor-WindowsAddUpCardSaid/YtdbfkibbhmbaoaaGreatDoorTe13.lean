/- Contracts of functions of the program: each computes what its model says; the conditions stand at each. -/
import Derived.Test.YtdbfkibbhmbaoaaGreatDoorA5
import Derived.Test.YtdbfkibbhmbaoaaGreatDoorP1
import Derived.Test.YtdbfkibbhmbaoaaGreatDoorTe12
set_option linter.unusedSimpArgs false
set_option linter.unusedVariables false
set_option maxRecDepth 20000
set_option pp.deepTerms false
set_option pp.deepTerms.threshold 3
namespace Go.Proofs.YtdbfkibbhmbaoaaGreatDoor
open Go Go.Ab Go.Pm Go.Cm Go.El Go.Em
variable (G : Nat → AV) (H : Nat → Option AObj)
theorem low_of {P : Program} {f : FuncId} {args : List AV} {n : Nat} {R : AV → (Nat → Option AObj) → Nat → Prop} (h : Low H n → ACalls P G f args H n R) : ACalls P G f args H n R := by
  intro w g vs h1 h2 h3 h4 h5
  exact h (fun i o hi => by rw [← h3]; exact (h1.lt i o (by rw [h2]; exact hi)).1) w g vs h1 h2 h3 h4 h5
theorem plain_fld (l : List Fld) : ∀ r ∈ l.map Fld.c, plain r = true := fun r hr => by
  obtain ⟨s, _, rfl⟩ := List.mem_map.1 hr; rfl
theorem fields_c (hG : GOk G) (nz : Bool) (l : List Int) (a : Int) (i : Nat) (hi : H i = some (strm (LL nz l) a)) (ha : 0 ≤ a ∧ a ≤ 1099511625000) : SC G H 148 [.op i 0 0, .int 2] i (LL nz l) a 50 fun r => ∃ (b : Bool) (d : List Fld), r = .ls b (d.map Fld.c) ∧ (∀ f ∈ d, FldOk f) ∧ d.length ≤ 3 := by
  intro n
  refine low_of G H fun hlow => ACalls.frz (fields_run G H hG nz l a i hi ha n) ?_
  have hin := hlow i _ hi
  rintro r H1 n1 ⟨a', d, h1, h2, h3, h3', h4, ⟨h5, rfl⟩ | ⟨o, rfl, h5, h6, h7⟩⟩
  · exact ⟨fun _ => none, hu H i (some (strm (LL nz l) a')), 0, fun _ _ h => (by cases h), h4, fun _ _ h => (by cases h), a', h1, h2, rfl, false, d, by rw [h5]; rfl, h3, h3'⟩
  · refine ⟨only o ⟨119, 4, d.map Fld.c⟩, hu H i (some (strm (LL nz l) a')), 1, only_sub h5, h4, fun j x hj => ?_, a', h1, h2, rfl, true, d, ?_, h3, h3'⟩
    · unfold only at hj
      split at hj
      · rename_i e; subst e
        rw [hu_ne (by omega)]
        cases hx : H j with
        | none => rfl
        | some y => exact absurd (hlow j y hx) (by omega)
      · cases hj
    · rw [frz_os_plain (plain_fld _) (by simp)]
/-- Ids of events. -/
def eid (i : Nat) : T := ⟨#[101]⟩ ++ Utf8.encode 97 ++ Utf8.encode (97 + (i : Int))
theorem eid_ne : ∀ i, i < 14 → ∀ j, j < 14 → eid i = eid j → i = j := by decide +kernel
theorem eid_size : ∀ i, i < 14 → (eid i).size = 3 := by decide +kernel
theorem wrap_let : ∀ m : Nat, m < 26 → IntKind.i32.wrap (97 + (m : Int)) = 97 + (m : Int) := by decide +kernel
theorem eventId_c (j : Nat) (h : j < 14) : AFn Tryz.prog G 95 [.int j] H (.str (eid j)) := by
  refine AFn.start mix F95 (by simp) fun k hlow => ?_
  have e1 : (j : Int).tdiv 26 = 0 := Int.tdiv_eq_zero_of_lt (by omega) (by omega)
  have e8 : IntKind.i64.wrap 0 = 0 := rfl
  have e3 : (j : Int).tmod 26 = (j : Int) := Int.tmod_eq_of_lt (by omega) (by omega)
  have e5 := wrap_let j (by omega)
  have e6 : IntKind.i32.wrap 97 = 97 := rfl
  have e7 : IntKind.i64.wrap 97 = 97 := rfl
  have z1 : (Utf8.encode 97).size = 1 := by decide
  have z2 := encode_size (97 + (j : Int))
  simp -dsimp -implicitDefEqProofs (disch := first | omega | (simp only [ByteArray.size_append, ByteArray.size_extract, size_lit, List.length_cons, List.length_nil]; omega)) only [↓wpre, push_cast, reduceCtorEq, ↓reduceIte, Nat.reduceEqDiff, Nat.reduceLeDiff, Nat.reduceAdd, Nat.reduceLT, Int.reduceEq, Int.reduceLT, Int.reduceLE, Int.reduceNeg, Int.reduceAdd, c95, e1, e3, e5, e6, e7, e8, Int.zero_tmod, Int.add_zero, bins_add]
  rfl
theorem text_size : ∀ t ∈ texts, t.size ≤ 201 := by
  have h : (texts.all fun t => decide (t.size ≤ 201)) = true := by decide +kernel
  intro t ht
  simpa using List.all_eq_true.1 h t ht
structure EvtOk (id : T) (e : Evt) : Prop where
  id : e.id = id ∨ e.id.size ≠ 3
  small : SmallE e
  texts : ∀ f ∈ e.fs, f.val.text ∈ texts
theorem ev_at (k : Int) (h0 : 0 ≤ k) (h1 : k < 4) : ∃ (x : T) (rest : List AV), (evNames.map AV.str).drop k.toNat = .str x :: rest ∧ x.size ≤ 10 := by
  have : k = 0 ∨ k = 1 ∨ k = 2 ∨ k = 3 := by omega
  rcases this with rfl | rfl | rfl | rfl
  · exact ⟨_, _, rfl, by decide⟩
  · exact ⟨_, _, rfl, by decide⟩
  · exact ⟨_, _, rfl, by decide⟩
  · exact ⟨_, _, rfl, by decide⟩
theorem evtOk_mk {id id' x : T} {at' : Int} {w : Idn} {b : Bool} {d : List Fld} (h1 : id' = id ∨ id'.size ≠ 3) (hid : id'.size ≤ 100) (hx : x.size ≤ 100) (hw : w.text.size ≤ 200) (hd : ∀ f ∈ d, FldOk f) (hl : d.length ≤ 3) : EvtOk id ⟨id', x, at', w, b, d⟩ :=
  ⟨h1, ⟨by dsimp only; omega, by dsimp only; omega, by dsimp only; omega, by dsimp only; omega, fun f hf => ⟨by have := (hd f hf).2; omega, by have := text_size _ (hd f hf).1; omega⟩⟩, fun f hf => (hd f hf).1⟩
set_option maxHeartbeats 6400000 in
theorem event_c (hG : GOk G) (nz : Bool) (l : List Int) (a : Int) (id : T) (at' : Int) (hid : id.size = 3) (i : Nat) (hi : H i = some (strm (LL nz l) a)) (ha : 0 ≤ a ∧ a ≤ 1099511624000) : SC G H 94 [.op i 0 0, .str id, .int at'] i (LL nz l) a 70 fun r => ∃ e : Evt, r = .agg e.c ∧ EvtOk id e := by
  intro n
  refine ACalls.start mix F94 (by simp) fun hlow => ?_
  have hq := Qs.refl hi hlow
  have hin := hq.2.2
  simp -dsimp -implicitDefEqProofs (disch := omega) only [↓wpre, push_cast, reduceCtorEq, ↓reduceIte, Nat.reduceEqDiff, Nat.reduceLeDiff, Nat.reduceAdd, Nat.reduceLT, Int.reduceEq, Int.reduceLT, Int.reduceLE, Int.reduceNeg, Int.reduceAdd, c94]
  refine xw_freg noH (of_eq_true (sub_noH _)) ?_
  simp -dsimp -implicitDefEqProofs (disch := omega) only [↓wpre, push_cast, reduceCtorEq, ↓reduceIte, Nat.reduceEqDiff, Nat.reduceLeDiff, Nat.reduceAdd, Nat.reduceLT, Int.reduceEq, Int.reduceLT, Int.reduceLE, Int.reduceNeg, Int.reduceAdd, List.map_cons, List.map_nil]
  refine xsp_intro ?_ ?_
  all_goals
    refine (next_c G _ nz l a 4 i (by simp -dsimp -implicitDefEqProofs (disch := omega) only [↓wpre, push_cast, reduceCtorEq, ↓reduceIte, Nat.reduceEqDiff, Nat.reduceLeDiff, Nat.reduceAdd, Nat.reduceLT, Int.reduceEq, Int.reduceLT, Int.reduceLE, Int.reduceNeg, Int.reduceAdd, hi]) ⟨by omega, by omega⟩ (by omega)).x fun r a1 n1 hn1 k1 k2 k3 => ?_
    obtain ⟨k, rfl, hk⟩ := k3
    obtain ⟨x, rest, hx, hxs⟩ := ev_at k hk.1 hk.2
    simp -dsimp -implicitDefEqProofs (disch := omega) only [↓wpre, push_cast, reduceCtorEq, ↓reduceIte, Nat.reduceEqDiff, Nat.reduceLeDiff, Nat.reduceAdd, Nat.reduceLT, Int.reduceEq, Int.reduceLT, Int.reduceLE, Int.reduceNeg, Int.reduceAdd, hi, hG.events, hx, hk, Nat.mul_one, List.map_cons, List.map_nil]
    try refine xsp_intro ?_ ?_
  all_goals
    refine (next_c G _ nz l a1 4 i (by simp -dsimp -implicitDefEqProofs (disch := omega) only [↓wpre, push_cast, reduceCtorEq, ↓reduceIte, Nat.reduceEqDiff, Nat.reduceLeDiff, Nat.reduceAdd, Nat.reduceLT, Int.reduceEq, Int.reduceLT, Int.reduceLE, Int.reduceNeg, Int.reduceAdd, hi]) ⟨by omega, by omega⟩ (by omega)).x fun r a2 n2 hn2 k1' k2' k3 => ?_
    obtain ⟨k', rfl, hk'⟩ := k3
    have hk10 : 0 ≤ k' ∧ k' < 10 := by omega
    obtain ⟨y, hy, rest', hd⟩ := pool_at k' hk10.1 hk10.2
    have hys := pool_small y hy
    simp -dsimp -implicitDefEqProofs (disch := omega) only [↓wpre, push_cast, reduceCtorEq, ↓reduceIte, Nat.reduceEqDiff, Nat.reduceLeDiff, Nat.reduceAdd, Nat.reduceLT, Int.reduceEq, Int.reduceLT, Int.reduceLE, Int.reduceNeg, Int.reduceAdd, hi, hG.pool, hd, hk10, List.map_cons, List.map_nil]
    try refine xsp_intro ?_ ?_
  all_goals
    refine (fields_c G _ hG nz l a2 i (by first | exact hu_same | simp -dsimp -implicitDefEqProofs (disch := omega) only [↓wpre, push_cast, reduceCtorEq, ↓reduceIte, Nat.reduceEqDiff, Nat.reduceLeDiff, Nat.reduceAdd, Nat.reduceLT, Int.reduceEq, Int.reduceLT, Int.reduceLE, Int.reduceNeg, Int.reduceAdd, hi]) ⟨by omega, by omega⟩).x fun r a3 n3 hn3 k1'' k2'' k3 => ?_
    obtain ⟨b, d, rfl, hfd, hdl⟩ := k3
    have hws : y.text.size ≤ 200 := Nat.le_trans hys.2.2 (by decide)
    simp -dsimp -implicitDefEqProofs (disch := omega) only [↓wpre, push_cast, reduceCtorEq, ↓reduceIte, Nat.reduceEqDiff, Nat.reduceLeDiff, Nat.reduceAdd, Nat.reduceLT, Int.reduceEq, Int.reduceLT, Int.reduceLE, Int.reduceNeg, Int.reduceAdd, hi, hu_hu, List.map_cons, List.map_nil]
    refine (flip_c G _ nz l a3 60 i (by first | exact hu_same | simp -dsimp -implicitDefEqProofs (disch := omega) only [↓wpre, push_cast, reduceCtorEq, ↓reduceIte, Nat.reduceEqDiff, Nat.reduceLeDiff, Nat.reduceAdd, Nat.reduceLT, Int.reduceEq, Int.reduceLT, Int.reduceLE, Int.reduceNeg, Int.reduceAdd, hi]) ⟨by omega, by omega⟩ (by omega)).x fun r a4 n4 hn4 m1 m2 m3 => ?_
    obtain ⟨fb, rfl⟩ := m3
    simp -dsimp -implicitDefEqProofs (disch := omega) only [↓wpre, push_cast, reduceCtorEq, ↓reduceIte, Nat.reduceEqDiff, Nat.reduceLeDiff, Nat.reduceAdd, Nat.reduceLT, Int.reduceEq, Int.reduceLT, Int.reduceLE, Int.reduceNeg, Int.reduceAdd, hi, hu_hu]
    (first | with_reducible refine cnd_ndec (fun hc => ?_) (fun hc => ?_) | with_reducible refine cnd_dec (fun hc => ?_) (fun hc => ?_) | with_reducible refine cnd_nb (fun hc => ?_) (fun hc => ?_) | with_reducible refine cnd_intro (fun hc => ?_) (fun hc => ?_)) <;> (first | (exfalso; omega) | (try simp -dsimp -implicitDefEqProofs (disch := omega) only [↓wpre, push_cast, reduceCtorEq, ↓reduceIte, Nat.reduceEqDiff, Nat.reduceLeDiff, Nat.reduceAdd, Nat.reduceLT, Int.reduceEq, Int.reduceLT, Int.reduceLE, Int.reduceNeg, Int.reduceAdd, hc, hi]))
    · refine (next_c G _ nz l a4 4 i (by simp -dsimp -implicitDefEqProofs (disch := omega) only [↓wpre, push_cast, reduceCtorEq, ↓reduceIte, Nat.reduceEqDiff, Nat.reduceLeDiff, Nat.reduceAdd, Nat.reduceLT, Int.reduceEq, Int.reduceLT, Int.reduceLE, Int.reduceNeg, Int.reduceAdd, hi]) ⟨by omega, by omega⟩ (by omega)).x fun r a5 n5 hn5 m1' m2' m3 => ?_
      obtain ⟨w, rfl, hw⟩ := m3
      simp -dsimp -implicitDefEqProofs (disch := omega) only [↓wpre, push_cast, reduceCtorEq, ↓reduceIte, Nat.reduceEqDiff, Nat.reduceLeDiff, Nat.reduceAdd, Nat.reduceLT, Int.reduceEq, Int.reduceLT, Int.reduceLE, Int.reduceNeg, Int.reduceAdd, hi, hu_hu]
      by_cases e0 : w = 0
      · simp -dsimp -implicitDefEqProofs (disch := omega) only [↓wpre, push_cast, reduceCtorEq, ↓reduceIte, Nat.reduceEqDiff, Nat.reduceLeDiff, Nat.reduceAdd, Nat.reduceLT, Int.reduceEq, Int.reduceLT, Int.reduceLE, Int.reduceNeg, Int.reduceAdd, e0, hi]
        refine (one_c G _ nz true l a5 i (by simp -dsimp -implicitDefEqProofs (disch := omega) only [↓wpre, push_cast, reduceCtorEq, ↓reduceIte, Nat.reduceEqDiff, Nat.reduceLeDiff, Nat.reduceAdd, Nat.reduceLT, Int.reduceEq, Int.reduceLT, Int.reduceLE, Int.reduceNeg, Int.reduceAdd, hi]) ⟨by omega, by omega⟩ [⟨#[]⟩, ⟨#[65]⟩] (by simp) (by simp)).x fun r a6 n6 hn6 q1 q2 q3 => ?_
        obtain ⟨z, rfl, hz⟩ := q3
        have hzs : z.size ≤ 1 := by
          simp only [List.mem_cons, List.not_mem_nil, or_false] at hz
          rcases hz with rfl | rfl <;> decide
        simp -dsimp -implicitDefEqProofs (disch := omega) only [↓wpre, push_cast, reduceCtorEq, ↓reduceIte, Nat.reduceEqDiff, Nat.reduceLeDiff, Nat.reduceAdd, Nat.reduceLT, Int.reduceEq, Int.reduceLT, Int.reduceLE, Int.reduceNeg, Int.reduceAdd, hi, hu_hu]
        refine fin_intro (H' := hu H i (some (strm (LL nz l) (a6)))) (Qs.sub (n := n) (by (repeat (first | exact hq | refine Qs.put ?_ | refine Qs.new ?_ (by omega)))) (by simp -dsimp -implicitDefEqProofs (disch := omega) only [↓wpre, push_cast, reduceCtorEq, ↓reduceIte, Nat.reduceEqDiff, Nat.reduceLeDiff, Nat.reduceAdd, Nat.reduceLT, Int.reduceEq, Int.reduceLT, Int.reduceLE, Int.reduceNeg, Int.reduceAdd, hq.2.2])) ⟨a6, by omega, by omega, rfl, ⟨_, _, _, ⟨_, _⟩, _, _⟩, rfl, evtOk_mk (.inr (by omega)) (by omega) (by omega) hws hfd hdl⟩
      by_cases e1 : w = 1
      · simp -dsimp -implicitDefEqProofs (disch := omega) only [↓wpre, push_cast, reduceCtorEq, ↓reduceIte, Nat.reduceEqDiff, Nat.reduceLeDiff, Nat.reduceAdd, Nat.reduceLT, Int.reduceEq, Int.reduceLT, Int.reduceLE, Int.reduceNeg, Int.reduceAdd, e0, e1, hi]
        refine (one_c G _ nz true l a5 i (by simp -dsimp -implicitDefEqProofs (disch := omega) only [↓wpre, push_cast, reduceCtorEq, ↓reduceIte, Nat.reduceEqDiff, Nat.reduceLeDiff, Nat.reduceAdd, Nat.reduceLT, Int.reduceEq, Int.reduceLT, Int.reduceLE, Int.reduceNeg, Int.reduceAdd, hi]) ⟨by omega, by omega⟩ [⟨#[]⟩, ⟨#[66]⟩] (by simp) (by simp)).x fun r a6 n6 hn6 q1 q2 q3 => ?_
        obtain ⟨z, rfl, hz⟩ := q3
        have hzs : z.size ≤ 1 := by
          simp only [List.mem_cons, List.not_mem_nil, or_false] at hz
          rcases hz with rfl | rfl <;> decide
        simp -dsimp -implicitDefEqProofs (disch := omega) only [↓wpre, push_cast, reduceCtorEq, ↓reduceIte, Nat.reduceEqDiff, Nat.reduceLeDiff, Nat.reduceAdd, Nat.reduceLT, Int.reduceEq, Int.reduceLT, Int.reduceLE, Int.reduceNeg, Int.reduceAdd, hi, hu_hu]
        refine fin_intro (H' := hu H i (some (strm (LL nz l) (a6)))) (Qs.sub (n := n) (by (repeat (first | exact hq | refine Qs.put ?_ | refine Qs.new ?_ (by omega)))) (by simp -dsimp -implicitDefEqProofs (disch := omega) only [↓wpre, push_cast, reduceCtorEq, ↓reduceIte, Nat.reduceEqDiff, Nat.reduceLeDiff, Nat.reduceAdd, Nat.reduceLT, Int.reduceEq, Int.reduceLT, Int.reduceLE, Int.reduceNeg, Int.reduceAdd, hq.2.2])) ⟨a6, by omega, by omega, rfl, ⟨_, _, _, ⟨_, _⟩, _, _⟩, rfl, evtOk_mk (.inl rfl) (by omega) (by omega) hws hfd hdl⟩
      by_cases e2 : w = 2
      · simp -dsimp -implicitDefEqProofs (disch := omega) only [↓wpre, push_cast, reduceCtorEq, ↓reduceIte, Nat.reduceEqDiff, Nat.reduceLeDiff, Nat.reduceAdd, Nat.reduceLT, Int.reduceEq, Int.reduceLT, Int.reduceLE, Int.reduceNeg, Int.reduceAdd, e0, e1, e2, hi]
        refine (odd_c G _ nz l a5 0 4321439 i (by simp -dsimp -implicitDefEqProofs (disch := omega) only [↓wpre, push_cast, reduceCtorEq, ↓reduceIte, Nat.reduceEqDiff, Nat.reduceLeDiff, Nat.reduceAdd, Nat.reduceLT, Int.reduceEq, Int.reduceLT, Int.reduceLE, Int.reduceNeg, Int.reduceAdd, hi]) ⟨by omega, by omega⟩ ⟨by omega, by omega, by omega⟩).x fun r a6 n6 hn6 q1 q2 q3 => ?_
        obtain ⟨z, rfl, hz⟩ := q3
        simp -dsimp -implicitDefEqProofs (disch := omega) only [↓wpre, push_cast, reduceCtorEq, ↓reduceIte, Nat.reduceEqDiff, Nat.reduceLeDiff, Nat.reduceAdd, Nat.reduceLT, Int.reduceEq, Int.reduceLT, Int.reduceLE, Int.reduceNeg, Int.reduceAdd, hi, hu_hu]
        refine fin_intro (H' := hu H i (some (strm (LL nz l) (a6)))) (Qs.sub (n := n) (by (repeat (first | exact hq | refine Qs.put ?_ | refine Qs.new ?_ (by omega)))) (by simp -dsimp -implicitDefEqProofs (disch := omega) only [↓wpre, push_cast, reduceCtorEq, ↓reduceIte, Nat.reduceEqDiff, Nat.reduceLeDiff, Nat.reduceAdd, Nat.reduceLT, Int.reduceEq, Int.reduceLT, Int.reduceLE, Int.reduceNeg, Int.reduceAdd, hq.2.2])) ⟨a6, by omega, by omega, rfl, ⟨_, _, _, ⟨_, _⟩, _, _⟩, rfl, evtOk_mk (.inl rfl) (by omega) (by omega) hws hfd hdl⟩
      · simp -dsimp -implicitDefEqProofs (disch := omega) only [↓wpre, push_cast, reduceCtorEq, ↓reduceIte, Nat.reduceEqDiff, Nat.reduceLeDiff, Nat.reduceAdd, Nat.reduceLT, Int.reduceEq, Int.reduceLT, Int.reduceLE, Int.reduceNeg, Int.reduceAdd, e0, e1, e2, hi]
        refine (spoiledId_c G _ hG nz l a5 i (by simp -dsimp -implicitDefEqProofs (disch := omega) only [↓wpre, push_cast, reduceCtorEq, ↓reduceIte, Nat.reduceEqDiff, Nat.reduceLeDiff, Nat.reduceAdd, Nat.reduceLT, Int.reduceEq, Int.reduceLT, Int.reduceLE, Int.reduceNeg, Int.reduceAdd, hi]) ⟨by omega, by omega⟩).x fun r a6 n6 hn6 q1 q2 q3 => ?_
        obtain ⟨z, hz, rfl⟩ := q3
        simp -dsimp -implicitDefEqProofs (disch := omega) only [↓wpre, push_cast, reduceCtorEq, ↓reduceIte, Nat.reduceEqDiff, Nat.reduceLeDiff, Nat.reduceAdd, Nat.reduceLT, Int.reduceEq, Int.reduceLT, Int.reduceLE, Int.reduceNeg, Int.reduceAdd, hi, hu_hu]
        refine fin_intro (H' := hu H i (some (strm (LL nz l) (a6)))) (Qs.sub (n := n) (by (repeat (first | exact hq | refine Qs.put ?_ | refine Qs.new ?_ (by omega)))) (by simp -dsimp -implicitDefEqProofs (disch := omega) only [↓wpre, push_cast, reduceCtorEq, ↓reduceIte, Nat.reduceEqDiff, Nat.reduceLeDiff, Nat.reduceAdd, Nat.reduceLT, Int.reduceEq, Int.reduceLT, Int.reduceLE, Int.reduceNeg, Int.reduceAdd, hq.2.2])) ⟨a6, by omega, by omega, rfl, ⟨_, _, _, ⟨_, _⟩, _, _⟩, rfl, evtOk_mk (w := z) (.inl rfl) (by omega) (by omega) hz.2.2 hfd hdl⟩
    · refine fin_intro (H' := hu H i (some (strm (LL nz l) (a4)))) (Qs.sub (n := n) (by (repeat (first | exact hq | refine Qs.put ?_ | refine Qs.new ?_ (by omega)))) (by simp -dsimp -implicitDefEqProofs (disch := omega) only [↓wpre, push_cast, reduceCtorEq, ↓reduceIte, Nat.reduceEqDiff, Nat.reduceLeDiff, Nat.reduceAdd, Nat.reduceLT, Int.reduceEq, Int.reduceLT, Int.reduceLE, Int.reduceNeg, Int.reduceAdd, hq.2.2])) ⟨a4, by omega, by omega, rfl, ⟨_, _, _, ⟨_, _⟩, _, _⟩, rfl, evtOk_mk (w := y) (.inl rfl) (by omega) (by omega) hws hfd hdl⟩
end Go.Proofs.YtdbfkibbhmbaoaaGreatDoor

