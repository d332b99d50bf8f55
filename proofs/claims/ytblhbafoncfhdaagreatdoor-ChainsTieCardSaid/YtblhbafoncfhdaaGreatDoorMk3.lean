/- Contracts of functions of the program: each computes what its model says; the conditions stand at each. -/
import Derived.Test.YtblhbafoncfhdaaGreatDoorM1
import Derived.Test.YtblhbafoncfhdaaGreatDoorQ1
set_option linter.unusedSimpArgs false
set_option linter.unusedVariables false
set_option maxRecDepth 20000
namespace Go.Proofs.YtblhbafoncfhdaaGreatDoor
open Go Go.Ab Go.Pm Go.Cm Go.El Go.Rm Go.Pp Go.Uf
variable (G : Nat → AV) (H : Nat → Option AObj)
theorem fields3_c (hG : GOk G) (nz : Bool) (l : List Int) (a : Int) (i : Nat) (hi : H i = some (strm (LL nz l) a)) (ha : 0 ≤ a ∧ a ≤ 1099511625000) : SC G H 12 [.op i 0 0, .int 3] i (LL nz l) a 50 fun r => ∃ (b : Bool) (d : List Fld), r = .ls b (d.map Fld.c) ∧ (∀ f ∈ d, FldOk f) ∧ d.length ≤ 4 := by
 intro n
 refine low_of G H fun hlow => ACalls.frz (fields_run G H hG nz l a i hi ha 3 (by omega) n) ?_
 have hin := hlow i _ hi
 rintro r H1 n1 ⟨a', d, h1, h2, h3, h3', h4, ⟨h5, rfl⟩ | ⟨o, rfl, h5, h6, h7⟩⟩
 ·exact ⟨fun _ => none, hu H i (some (strm (LL nz l) a')), 0, fun _ _ h => (by cases h), h4, fun _ _ h => (by cases h), a', h1, h2, rfl, false, d, by rw [h5]; rfl, h3, by omega⟩
 ·refine ⟨Ab.only o ⟨78, 4, d.map Fld.c⟩, hu H i (some (strm (LL nz l) a')), 1, only_sub h5, h4, fun j x hj => ?_, a', h1, h2, rfl, true, d, ?_, h3, by omega⟩
  ·unfold Ab.only at hj
   split at hj
   ·rename_i e; subst e
    rw [hu_ne (by omega)]
    cases hx : H j with
    | none => rfl
    | some y => exact absurd (hlow j y hx) (by omega)
   ·cases hj
  ·rw [frz_os_plain (plain_fld _) (by simp)]
theorem touchSm_mk {no at' : Int} {src : T} {nzi nzf : Bool} {ids : List Idn} {fs : List Fld} (h1 : src.size ≤ 100) (h2 : ∀ x ∈ ids, x.text.size ≤ 1000) (h3 : ids.length ≤ 3) (h4 : ∀ f ∈ fs, FldOk f) (h5 : fs.length ≤ 4) : TouchSm ⟨no, at', src, nzi, ids, nzf, fs⟩ :=
 ⟨by dsimp only; omega, h2, by dsimp only; omega, ⟨by dsimp only; omega, fun f hf => by
  have h6 := h4 f hf
  have h7 := text_size _ h6.1
  have h8 := h6.2
  exact ⟨by omega, by omega⟩⟩, fun f hf => (h4 f hf).1⟩
set_option maxHeartbeats 6400000 in
theorem touch_c (hG : GOk G) (hP : G 1 = .pp poolC) (nz : Bool) (l : List Int) (a no : Int) (i : Nat) (hi : H i = some (strm (LL nz l) a)) (ha : 0 ≤ a ∧ a ≤ 1099511624000) : SC G H 80 [.op i 0 0, .int no] i (LL nz l) a 120 fun r => ∃ t : Tch, r = .agg t.c ∧ TouchSm t := by
 intro n
 refine ACalls.start mix F80 (by simp) fun hlow => ?_
 have hq := Qs.refl hi hlow
 have hin := hq.2.2
 simp (disch := omega) only [↓wpre, push_cast, seval, c80]
 refine (pick_c G _ nz true l a i (by simp (disch := omega) only [↓wpre, push_cast, seval, hi]) ⟨by omega, by omega⟩ [0, 5, 10, 10, 50, 100, 5000] (by simp) (by simp)).x fun r a1 n1 hn1 h1 h1' h => ?_
 obtain ⟨at', rfl, _⟩ := h
 simp (disch := omega) only [↓wpre, push_cast, seval, hi]
 refine (one_c G _ nz true l a1 i (by simp (disch := omega) only [↓wpre, push_cast, seval, hi]) ⟨by omega, by omega⟩ [⟨#[115, 104, 111, 112]⟩, ⟨#[100, 101, 115, 107]⟩, ⟨#[97, 112, 112]⟩] (by simp) (by simp)).x fun r a2 n2 hn2 h2 h2' h => ?_
 obtain ⟨src, rfl, hsrc⟩ := h
 have hss : src.size ≤ 100 := by
  simp only [List.mem_cons, List.not_mem_nil, or_false] at hsrc
  rcases hsrc with rfl | rfl | rfl <;> decide
 simp (disch := omega) only [↓wpre, push_cast, seval, hi, hu_hu]
 refine (pick_c G _ nz true l a2 i (by first | exact hu_same | simp (disch := omega) only [↓wpre, push_cast, seval, hi]) ⟨by omega, by omega⟩ [1, 1, 1, 2, 2, 3] (by simp) (by simp)).x fun r a3 n3 hn3 h3 h3' h => ?_
 obtain ⟨many, rfl, hmany⟩ := h
 have hm3 : 0 ≤ many ∧ many ≤ 3 := by simp at hmany; omega
 simp (disch := omega) only [↓wpre, push_cast, seval, hi, hu_hu]
 refine (ids_c G _ hG hP nz l a3 many i (by first | exact hu_same | simp (disch := omega) only [↓wpre, push_cast, seval, hi]) ⟨by omega, by omega⟩ hm3).x fun r a4 n4 hn4 h4 h4' h => ?_
 obtain ⟨bi, ids, rfl, hids, hidl⟩ := h
 simp (disch := omega) only [↓wpre, push_cast, seval, hi, hu_hu]
 refine (fields3_c G _ hG nz l a4 i (by first | exact hu_same | simp (disch := omega) only [↓wpre, push_cast, seval, hi]) ⟨by omega, by omega⟩).x fun r a5 n5 hn5 h5 h5' h => ?_
 obtain ⟨bf, fs, rfl, hfs, hfl⟩ := h
 simp (disch := omega) only [↓wpre, push_cast, seval, hi, hu_hu]
 refine (flip_c G _ nz l a5 60 i (by first | exact hu_same | simp (disch := omega) only [↓wpre, push_cast, seval, hi]) ⟨by omega, by omega⟩ (by omega)).x fun r a6 n6 hn6 h6 h6' h => ?_
 obtain ⟨b, rfl⟩ := h
 simp (disch := omega) only [↓wpre, push_cast, seval, hi, hu_hu]
 (first | with_reducible refine cnd_ndec (fun hc => ?_) (fun hc => ?_) | with_reducible refine cnd_dec (fun hc => ?_) (fun hc => ?_) | with_reducible refine cnd_nb (fun hc => ?_) (fun hc => ?_) | with_reducible refine cnd_intro (fun hc => ?_) (fun hc => ?_)) <;> (first | (exfalso; omega) | (try simp (disch := omega) only [↓wpre, push_cast, seval, hc, hi]))
 ·refine (next_c G _ nz l a6 4 i (by first | exact hu_same | simp (disch := omega) only [↓wpre, push_cast, seval, hi]) ⟨by omega, by omega⟩ (by omega)).x fun r a7 n7 hn7 h7 h7' h => ?_
  obtain ⟨w, rfl, hw⟩ := h
  simp (disch := omega) only [↓wpre, push_cast, seval, hi, hu_hu]
  by_cases e0 : w = 0
  ·simp (disch := omega) only [↓wpre, push_cast, seval, e0, hi]
   refine (odd_c G _ nz l a7 1 1000000 i (by first | exact hu_same | simp (disch := omega) only [↓wpre, push_cast, seval, hi]) ⟨by omega, by omega⟩ (by omega)).x fun r a8 n8 hn8 h8 h8' h => ?_
   obtain ⟨z, rfl, hz⟩ := h
   simp (disch := omega) only [↓wpre, push_cast, seval, hi, hu_hu]
   refine fin_intro (H' := hu H i (some (strm (LL nz l) (a8)))) (Qs.sub (n := n) (by (repeat (first | exact hq | refine Qs.put ?_ | refine Qs.new ?_ (by omega)))) (by simp (disch := omega) only [↓wpre, push_cast, seval, hq.2.2])) ⟨a8, by omega, by omega, rfl, ⟨⟨z, at', src, bi, ids, bf, fs⟩, rfl, touchSm_mk hss hids hidl hfs hfl⟩⟩
  by_cases e1 : w = 1
  ·simp (disch := omega) only [↓wpre, push_cast, seval, e0, e1, hi]
   refine (odd_c G _ nz l a7 0 4321439 i (by first | exact hu_same | simp (disch := omega) only [↓wpre, push_cast, seval, hi]) ⟨by omega, by omega⟩ (by omega)).x fun r a8 n8 hn8 h8 h8' h => ?_
   obtain ⟨z, rfl, hz⟩ := h
   simp (disch := omega) only [↓wpre, push_cast, seval, hi, hu_hu]
   refine fin_intro (H' := hu H i (some (strm (LL nz l) (a8)))) (Qs.sub (n := n) (by (repeat (first | exact hq | refine Qs.put ?_ | refine Qs.new ?_ (by omega)))) (by simp (disch := omega) only [↓wpre, push_cast, seval, hq.2.2])) ⟨a8, by omega, by omega, rfl, ⟨⟨no, z, src, bi, ids, bf, fs⟩, rfl, touchSm_mk hss hids hidl hfs hfl⟩⟩
  by_cases e2 : w = 2
  ·simp (disch := omega) only [↓wpre, push_cast, seval, e0, e1, e2, hi]
   refine (one_c G _ nz true l a7 i (by first | exact hu_same | simp (disch := omega) only [↓wpre, push_cast, seval, hi]) ⟨by omega, by omega⟩ [⟨#[]⟩, ⟨#[83, 104, 111, 112]⟩, ⟨#[97, 32, 98]⟩] (by simp) (by simp)).x fun r a8 n8 hn8 h8 h8' h => ?_
   obtain ⟨z, rfl, hz⟩ := h
   have hzs : z.size ≤ 100 := by
    simp only [List.mem_cons, List.not_mem_nil, or_false] at hz
    rcases hz with rfl | rfl | rfl <;> decide
   simp (disch := omega) only [↓wpre, push_cast, seval, hi, hu_hu]
   refine fin_intro (H' := hu H i (some (strm (LL nz l) (a8)))) (Qs.sub (n := n) (by (repeat (first | exact hq | refine Qs.put ?_ | refine Qs.new ?_ (by omega)))) (by simp (disch := omega) only [↓wpre, push_cast, seval, hq.2.2])) ⟨a8, by omega, by omega, rfl, ⟨⟨no, at', z, bi, ids, bf, fs⟩, rfl, touchSm_mk hzs hids hidl hfs hfl⟩⟩
  ·simp (disch := omega) only [↓wpre, push_cast, seval, e0, e1, e2, hi, hu_hu]
   refine fin_intro (H' := hu H i (some (strm (LL nz l) (a7)))) (Qs.sub (n := n) (by (repeat (first | exact hq | refine Qs.put ?_ | refine Qs.new ?_ (by omega)))) (by simp (disch := omega) only [↓wpre, push_cast, seval, hq.2.2])) ⟨a7, by omega, by omega, rfl, ⟨⟨no, at', src, false, [], bf, fs⟩, rfl, touchSm_mk hss (by simp) (by simp) hfs hfl⟩⟩
 ·refine fin_intro (H' := hu H i (some (strm (LL nz l) (a6)))) (Qs.sub (n := n) (by (repeat (first | exact hq | refine Qs.put ?_ | refine Qs.new ?_ (by omega)))) (by simp (disch := omega) only [↓wpre, push_cast, seval, hq.2.2])) ⟨a6, by omega, by omega, rfl, ⟨⟨no, at', src, bi, ids, bf, fs⟩, rfl, touchSm_mk hss hids hidl hfs hfl⟩⟩
end Go.Proofs.YtblhbafoncfhdaaGreatDoor
