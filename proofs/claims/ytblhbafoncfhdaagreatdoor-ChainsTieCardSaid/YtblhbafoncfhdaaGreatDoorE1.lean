/- Contracts of functions of the program: each computes what its model says; the conditions stand at each. -/
import Derived.Test.YtblhbafoncfhdaaGreatDoorV1
set_option linter.unusedSimpArgs false
set_option linter.unusedVariables false
set_option maxRecDepth 20000
namespace Go.Proofs.YtblhbafoncfhdaaGreatDoor
open Go Go.Ab Go.Pm Go.Cm Go.El
variable (G : Nat → AV) (H : Nat → Option AObj)
theorem aas_rep200 : (⟨(Lib.repeatL (⟨#[97]⟩ : T).data.toList 200).toArray⟩ : T) = aas 200 := by decide +kernel
theorem aas_rep201 : (⟨(Lib.repeatL (⟨#[97]⟩ : T).data.toList 201).toArray⟩ : T) = aas 201 := by decide +kernel
theorem rep200_c (hns : ¬ Strict G) : AFn Tryz.prog G 71 [.str ⟨#[97]⟩, .lit (.int .i64 200)] H (.str (aas 200)) := by
 have h := repeat_c G H hns ⟨#[97]⟩ 200 (by decide) (by decide)
 rwa [aas_rep200] at h
theorem rep201_c (hns : ¬ Strict G) : AFn Tryz.prog G 71 [.str ⟨#[97]⟩, .lit (.int .i64 201)] H (.str (aas 201)) := by
 have h := repeat_c G H hns ⟨#[97]⟩ 201 (by decide) (by decide)
 rwa [aas_rep201] at h
theorem nine_texts {k : T} (h : k ∈ ([⟨#[]⟩, ⟨#[97, 110, 110]⟩, ⟨#[97, 110, 110, 97]⟩, ⟨#[65, 110, 110, 32, 66]⟩, ⟨#[98, 111, 98]⟩, ⟨#[195, 169, 116, 195, 169]⟩, ⟨#[34, 113, 34]⟩, ⟨#[97, 61, 98]⟩, ⟨#[92]⟩] : List T)) : k ∈ texts := by
 simp only [texts, shorts, List.mem_append, List.mem_cons, List.not_mem_nil, or_false] at h ⊢
 grind
theorem six_texts {k : T} (h : k ∈ ([⟨#[120]⟩, ⟨#[10]⟩, ⟨#[127]⟩, ⟨#[255]⟩, aas 200, aas 201] : List T)) : k ∈ texts := by
 simp only [texts, shorts, List.mem_append, List.mem_cons, List.not_mem_nil, or_false] at h ⊢
 grind
theorem nil_text : (⟨#[]⟩ : T) ∈ texts := by simp [texts, shorts]
set_option maxHeartbeats 3200000 in
theorem value_c (hG : GOk G) (nz : Bool) (l : List Int) (a : Int) (i : Nat) (hi : H i = some (strm (LL nz l) a)) (ha : 0 ≤ a ∧ a ≤ 1099511626000) : SC G H 17 [.op i 0 0] i (LL nz l) a 5 fun r => ∃ v : Val, r = .agg v.c ∧ v.text ∈ texts := by
 intro n
 refine ACalls.start mix F17 (by simp) fun hlow => ?_
 have hq := Qs.refl hi hlow
 have hin := hq.2.2
 simp (disch := omega) only [↓wpre, push_cast, seval, c17]
 refine (pick_c G _ nz true l a i (by simp (disch := omega) only [↓wpre, push_cast, seval, hi]) ⟨by omega, by omega⟩ [1, 1, 1, 2, 2, 3, 4] (by simp) (by simp)).x fun r a1 n1 hn1 k1 k2 k3 => ?_
 obtain ⟨kd, rfl, hk⟩ := k3
 clear hk
 simp (disch := omega) only [↓wpre, push_cast, seval, hi]
 by_cases e1 : kd = 1
 case' pos =>
  simp (disch := omega) only [↓wpre, push_cast, seval, e1, hi]
  refine (one_c G _ nz true l a1 i (by simp (disch := omega) only [↓wpre, push_cast, seval, hi]) ⟨by omega, by omega⟩ [⟨#[]⟩, ⟨#[97, 110, 110]⟩, ⟨#[97, 110, 110, 97]⟩, ⟨#[65, 110, 110, 32, 66]⟩, ⟨#[98, 111, 98]⟩, ⟨#[195, 169, 116, 195, 169]⟩, ⟨#[34, 113, 34]⟩, ⟨#[97, 61, 98]⟩, ⟨#[92]⟩] (by simp) (by simp)).x fun r a2 n2 hn2 k1' k2' k3 => ?_
  obtain ⟨k, rfl, hk⟩ := k3
  have hk := nine_texts hk
  simp (disch := omega) only [↓wpre, push_cast, seval, hi]
 case' neg =>
  have hk := nil_text
  by_cases e2 : kd = 2
  case' pos =>
   simp (disch := omega) only [↓wpre, push_cast, seval, e1, e2, hi]
   refine (pick_c G _ nz true l a1 i (by simp (disch := omega) only [↓wpre, push_cast, seval, hi]) ⟨by omega, by omega⟩ [0, 1, -1, 7, 1000, 1000000000000, -1000000000000] (by simp) (by simp)).x fun r a2 n2 hn2 k1' k2' k3 => ?_
   obtain ⟨k, rfl, hk1⟩ := k3
   clear hk1
   simp (disch := omega) only [↓wpre, push_cast, seval, hi]
  case' neg =>
   by_cases e3 : kd = 3
   case' pos =>
    simp (disch := omega) only [↓wpre, push_cast, seval, e1, e2, e3, hi]
    refine (next_c G _ nz l a1 2 i (by simp (disch := omega) only [↓wpre, push_cast, seval, hi]) ⟨by omega, by omega⟩ (by omega)).x fun r a2 n2 hn2 k1' k2' k3 => ?_
    obtain ⟨k, rfl, hk1⟩ := k3
    clear hk1
    simp (disch := omega) only [↓wpre, push_cast, seval, hi]
   case' neg =>
    simp (disch := omega) only [↓wpre, push_cast, seval, e1, e2, e3, hi]
    refine (pick_c G _ nz true l a1 i (by simp (disch := omega) only [↓wpre, push_cast, seval, hi]) ⟨by omega, by omega⟩ [0, 100, 4321439] (by simp) (by simp)).x fun r a2 n2 hn2 k1' k2' k3 => ?_
    obtain ⟨k, rfl, hk1⟩ := k3
    clear hk1
    simp (disch := omega) only [↓wpre, push_cast, seval, hi]
 all_goals
  refine (flip_c G _ nz l a2 30 i (by simp (disch := omega) only [↓wpre, push_cast, seval, hi]) ⟨by omega, by omega⟩ (by omega)).x fun r a3 n3 hn3 k1'' k2'' k3 => ?_
  obtain ⟨b, rfl⟩ := k3
  simp (disch := omega) only [↓wpre, push_cast, seval, hi]
  (first | with_reducible refine cnd_ndec (fun hc => ?_) (fun hc => ?_) | with_reducible refine cnd_dec (fun hc => ?_) (fun hc => ?_) | with_reducible refine cnd_nb (fun hc => ?_) (fun hc => ?_) | with_reducible refine cnd_intro (fun hc => ?_) (fun hc => ?_)) <;> (first | (exfalso; omega) | (try simp (disch := omega) only [↓wpre, push_cast, seval, hc, hi]))
  case' _ =>
   refine (next_c G _ nz l a3 4 i (by simp (disch := omega) only [↓wpre, push_cast, seval, hi]) ⟨by omega, by omega⟩ (by omega)).x fun r a4 n4 hn4 m1 m2 m3 => ?_
   obtain ⟨w, rfl, hw⟩ := m3
   simp (disch := omega) only [↓wpre, push_cast, seval, hi]
   by_cases e4 : w = 0
   case' pos =>
    simp (disch := omega) only [↓wpre, push_cast, seval, e4, hi]
    refine (pick_c G _ nz true l a4 i (by simp (disch := omega) only [↓wpre, push_cast, seval, hi]) ⟨by omega, by omega⟩ [0, 5, 1, 2] (by simp) (by simp)).x fun r a5 n5 hn5 m1' m2' m3 => ?_
    obtain ⟨j, rfl, hj⟩ := m3
    simp (disch := omega) only [↓wpre, push_cast, seval, hi]
   case' neg =>
    by_cases e5 : w = 1
    case' pos =>
     simp (disch := omega) only [↓wpre, push_cast, seval, e4, e5, hi]
     refine (pick_c G _ nz true l a4 i (by simp (disch := omega) only [↓wpre, push_cast, seval, hi]) ⟨by omega, by omega⟩ [2, -1, 4321440, 1000000000001] (by simp) (by simp)).x fun r a5 n5 hn5 m1' m2' m3 => ?_
     obtain ⟨j, rfl, hj⟩ := m3
     simp (disch := omega) only [↓wpre, push_cast, seval, hi]
    case' neg =>
     simp (disch := omega) only [↓wpre, push_cast, seval, e4, e5, hi]
     refine (rep200_c G _ hG.ns).x fun n6 hn6 => ?_
     simp (disch := omega) only [↓wpre, push_cast, seval, hi]
     refine (rep201_c G _ hG.ns).x fun n7 hn7 => ?_
     simp (disch := omega) only [↓wpre, push_cast, seval, hi]
     refine (one_c G _ nz true l a4 i (by simp (disch := omega) only [↓wpre, push_cast, seval, hi]) ⟨by omega, by omega⟩ [⟨#[120]⟩, ⟨#[10]⟩, ⟨#[127]⟩, ⟨#[255]⟩, aas 200, aas 201] (by simp) (by simp)).x fun r a5 n5 hn5 m1' m2' m3 => ?_
     obtain ⟨j, rfl, hj⟩ := m3
     have hk := six_texts hj
     simp (disch := omega) only [↓wpre, push_cast, seval, hi]
 all_goals first
  | (refine fin_intro (H' := hu H i (some (strm (LL nz l) (a5)))) (Qs.sub (n := n) (by (repeat (first | exact hq | refine Qs.put ?_ | refine Qs.new ?_ (by omega)))) (by simp (disch := omega) only [↓wpre, push_cast, seval, hq.2.2])) ⟨a5, by omega, by omega, rfl, ⟨_, _, _⟩, rfl, hk⟩)
  | (refine fin_intro (H' := hu H i (some (strm (LL nz l) (a3)))) (Qs.sub (n := n) (by (repeat (first | exact hq | refine Qs.put ?_ | refine Qs.new ?_ (by omega)))) (by simp (disch := omega) only [↓wpre, push_cast, seval, hq.2.2])) ⟨a3, by omega, by omega, rfl, ⟨_, _, _⟩, rfl, hk⟩)
def FldOk (f : Fld) : Prop := f.val.text ∈ texts ∧ f.name.size ≤ 100
theorem fld_at (j : Nat) (h : j < 6) : ∃ x : T, fldNames[j]? = some x ∧ x.size ≤ 100 := by
 have : j = 0 ∨ j = 1 ∨ j = 2 ∨ j = 3 ∨ j = 4 ∨ j = 5 := by omega
 rcases this with rfl | rfl | rfl | rfl | rfl | rfl
 ·exact ⟨_, rfl, by decide⟩
 ·exact ⟨_, rfl, by decide⟩
 ·exact ⟨_, rfl, by decide⟩
 ·exact ⟨_, rfl, by decide⟩
 ·exact ⟨_, rfl, by decide⟩
 ·exact ⟨_, rfl, by decide⟩
theorem fld_len : fldNames.length = 6 := rfl
theorem fld_take : List.take 6 (fldNames.map AV.str) = fldNames.map AV.str := rfl
set_option maxHeartbeats 3200000 in
theorem fields_run (hG : GOk G) (nz : Bool) (l : List Int) (a : Int) (i : Nat) (hi : H i = some (strm (LL nz l) a)) (ha : 0 ≤ a ∧ a ≤ 1099511625000) (m : Nat) (hm : m ≤ 6) (n : Nat) : ACalls Tryz.prog G 12 [.op i 0 0, .int m] H n fun r H' n' => ∃ a' d, a ≤ a' ∧ a' ≤ a + 50 ∧ (∀ f ∈ d, FldOk f) ∧ d.length ≤ m + 1 ∧ Sub (hu H i (some (strm (LL nz l) a'))) H' ∧ ((d = [] ∧ r = .ls false []) ∨ ∃ o, r = .os o 0 d.length ∧ H' o = some ⟨78, 4, d.map Fld.c⟩ ∧ n ≤ o ∧ d ≠ []) := by
 refine ACalls.start mix F12 (by simp) fun hlow => ?_
 have hq := Qs.refl hi hlow
 have hin := hq.2.2
 simp (disch := omega) only [↓wpre, push_cast, seval, c12, hG.fields, List.length_map, fld_len, fld_take]
 refine xw_loopJ (σ := List Fld × Nat × Option Nat × Int) (fun t => [(0, .op i 0 0), (1, .int m), (5, outAV t.2.2.1 t.1.length), (8, .agg (fldNames.map AV.str)), (9, .int t.2.1)]) (fun t H' n' => (∀ f ∈ t.1, FldOk f) ∧ t.1.length ≤ m ∧ t.2.1 ≤ 6 ∧ OutIs n H' t.2.2.1 78 4 (t.1.map Fld.c) n' ∧ (t.2.2.1 ≠ none → t.1 ≠ []) ∧ Qs H H' i n ∧ H' i = some (strm (LL nz l) t.2.2.2) ∧ n ≤ n' ∧ a ≤ t.2.2.2 ∧ t.2.2.2 ≤ a + 6 * t.2.1) (fun t => 6 - t.2.1) ([], 0, none, a) ⟨by simp, by simp, by simp, rfl, fun h => (h rfl).elim, hq, hi, Nat.le_refl _, by simp, by simp⟩ (by simp (disch := omega) only [↓wpre, push_cast, seval, outAV]) ?_
 clear hq
 rintro ⟨d, j, oid, a1⟩ fr H' n1 ⟨hd, hd2, hj, ho, hne, hq, hs, hn1, ha1, ha2⟩ hh
 simp only [has_nil, has_cons, and_true] at hh hd hd2 hj ho hne hs ha1 ha2
 by_cases hlt : (j : Int) < 6
 ·obtain ⟨x, hx, hxs⟩ := fld_at j (by omega)
  have hj0 : (0 : Int) ≤ (j : Int) := by omega
  have hcell : (List.map AV.str fldNames)[j]? = some (.str x) := by rw [List.getElem?_map, hx]; rfl
  simp (disch := omega) only [↓wpre, push_cast, seval, hh, hlt, hj0, hcell, Int.toNat_natCast, Nat.mul_one]
  have hal : alen (outAV oid d.length) = some (.int d.length) := by
   cases oid with
   | none =>
    have h : d.map Fld.c = [] := ho
    have h : d = [] := by simpa using h
    subst h; rfl
   | some o => rfl
  by_cases h2 : (d.length : Int) < m
  ·simp (disch := omega) only [↓wpre, push_cast, seval, hh, hal, h2]
   refine (flip_c G _ nz l a1 2 i (by simp (disch := omega) only [↓wpre, push_cast, seval, hs]) ⟨by omega, by omega⟩ (by omega)).x fun r a2 n2 hn2 k1 k2 k3 => ?_
   obtain ⟨b, rfl⟩ := k3
   simp (disch := omega) only [↓wpre, push_cast, seval, hh, hs]
   (first | with_reducible refine cnd_ndec (fun hc => ?_) (fun hc => ?_) | with_reducible refine cnd_dec (fun hc => ?_) (fun hc => ?_) | with_reducible refine cnd_nb (fun hc => ?_) (fun hc => ?_) | with_reducible refine cnd_intro (fun hc => ?_) (fun hc => ?_)) <;> (first | (exfalso; omega) | (try simp (disch := omega) only [↓wpre, push_cast, seval, hc, hh]))
   ·refine (value_c G _ hG nz l a2 i (by simp (disch := omega) only [↓wpre, push_cast, seval, hs]) ⟨by omega, by omega⟩).x fun r a3 n3 hn3 m1 m2 m3 => ?_
    obtain ⟨v, rfl, hv⟩ := m3
    simp (disch := omega) only [↓wpre, push_cast, seval, hh, hs, hu_hu]
    refine xapp_out (n0 := n) (rows := d.map Fld.c) (by (refine OutIs.mono (n := n1) ?_ (by omega); repeat (first | exact ho | refine OutIs.put ?_ (by omega) | refine OutIs.far ?_ (by omega)))) (by simp) (by intro r hr; simp at hr; subst hr; exact ⟨rfl, rfl⟩) (by simp only [List.length_map]; omega) ?_
    simp (disch := omega) only [↓wpre, push_cast, seval, hh]
    refine againJ (d ++ [⟨x, v⟩], j + 1, some n3, a3) (by dsimp only; omega) ⟨?_, by simp only [List.length_append, List.length_cons, List.length_nil]; omega, by dsimp only; omega, ?_, fun _ => by simp, ?_, ?_, by omega, by dsimp only; omega, by dsimp only; omega⟩ (by simp (disch := omega) only [↓wpre, push_cast, seval, hh]; try simp [outAV])
    ·intro f hf
     rcases List.mem_append.1 hf with h | h
     ·exact hd f h
     ·simp only [List.mem_singleton] at h
      subst h
      exact ⟨hv, hxs⟩
    ·dsimp only
     rw [List.map_append]
     exact OutIs.new (n0 := n) (n := n3) (by omega)
    ·exact (Qs.dropO (E := 78) (sz := 4) (rows := d.map Fld.c) (m := n3) (by (refine OutIs.mono (n := n1) ?_ (by omega); repeat (first | exact ho | refine OutIs.put ?_ (by omega) | refine OutIs.far ?_ (by omega)))) (Nat.le_refl _) (by (repeat (first | exact hq | refine Qs.put ?_ | refine Qs.new ?_ (by omega))))).new (by omega)
    ·dsimp only
     rw [hu_ne (by omega), dropO_ne (n := n3) (E := 78) (sz := 4) (rows := d.map Fld.c) (by (refine OutIs.mono (n := n1) ?_ (by omega); repeat (first | exact ho | refine OutIs.put ?_ (by omega) | refine OutIs.far ?_ (by omega)))) hin]
     simp (disch := omega) only [↓wpre, push_cast, seval, hs]
   ·refine againJ (d, j + 1, oid, a2) (by dsimp only; omega) ⟨hd, hd2, by dsimp only; omega, by (refine OutIs.mono (n := n1) ?_ (by omega); repeat (first | exact ho | refine OutIs.put ?_ (by omega) | refine OutIs.far ?_ (by omega))), hne, by (repeat (first | exact hq | refine Qs.put ?_ | refine Qs.new ?_ (by omega))), by simp (disch := omega) only [↓wpre, push_cast, seval, hs], by omega, by dsimp only; omega, by dsimp only; omega⟩ (by simp (disch := omega) only [↓wpre, push_cast, seval, hh]; try simp [outAV])
  ·simp (disch := omega) only [↓wpre, push_cast, seval, hh, hal, h2]
   refine againJ (d, j + 1, oid, a1) (by dsimp only; omega) ⟨hd, hd2, by dsimp only; omega, by (refine OutIs.mono (n := n1) ?_ (by omega); repeat (first | exact ho | refine OutIs.put ?_ (by omega) | refine OutIs.far ?_ (by omega))), hne, by (repeat (first | exact hq | refine Qs.put ?_ | refine Qs.new ?_ (by omega))), by simp (disch := omega) only [↓wpre, push_cast, seval, hs], by omega, by dsimp only; omega, by dsimp only; omega⟩ (by simp (disch := omega) only [↓wpre, push_cast, seval, hh]; try simp [outAV])
 ·have hj6 : j = 6 := by omega
  simp (disch := omega) only [↓wpre, push_cast, seval, hh, hlt]
  refine (flip_c G _ nz l a1 40 i (by simp (disch := omega) only [↓wpre, push_cast, seval, hs]) ⟨by omega, by omega⟩ (by omega)).x fun r a2 n2 hn2 k1 k2 k3 => ?_
  obtain ⟨b, rfl⟩ := k3
  simp (disch := omega) only [↓wpre, push_cast, seval, hh, hs]
  (first | with_reducible refine cnd_ndec (fun hc => ?_) (fun hc => ?_) | with_reducible refine cnd_dec (fun hc => ?_) (fun hc => ?_) | with_reducible refine cnd_nb (fun hc => ?_) (fun hc => ?_) | with_reducible refine cnd_intro (fun hc => ?_) (fun hc => ?_)) <;> (first | (exfalso; omega) | (try simp (disch := omega) only [↓wpre, push_cast, seval, hc, hh]))
  ·obtain ⟨e41, z41, r41⟩ := repeat_e ⟨#[122]⟩ 41 (by omega) (by decide)
   have z41 : e41.size = 41 := z41
   refine AFn.x (r41 _ _ hG.ns) fun n3 hn3 => ?_
   simp (disch := omega) only [↓wpre, push_cast, seval, hh, hs]
   refine (one_c G _ nz true l a2 i (by simp (disch := omega) only [↓wpre, push_cast, seval, hs]) ⟨by omega, by omega⟩ [⟨#[]⟩, ⟨#[65]⟩, ⟨#[122, 111, 111]⟩, ⟨#[97, 103, 101]⟩, e41] (by simp) (by simp)).x fun r a3 n4 hn4 m1 m2 m3 => ?_
   obtain ⟨x, rfl, hx⟩ := m3
   have hxs : x.size ≤ 100 := by
    simp only [List.mem_cons, List.not_mem_nil, or_false] at hx
    rcases hx with rfl | rfl | rfl | rfl | rfl
    all_goals first | decide | omega
   clear hx
   simp (disch := omega) only [↓wpre, push_cast, seval, hh, hs, hu_hu]
   refine (value_c G _ hG nz l a3 i (by simp (disch := omega) only [↓wpre, push_cast, seval, hs]) ⟨by omega, by omega⟩).x fun r a4 n5 hn5 m1' m2' m3 => ?_
   obtain ⟨v, rfl, hv⟩ := m3
   simp (disch := omega) only [↓wpre, push_cast, seval, hh, hs, hu_hu]
   refine xapp_out (n0 := n) (rows := d.map Fld.c) (by (refine OutIs.mono (n := n1) ?_ (by omega); repeat (first | exact ho | refine OutIs.put ?_ (by omega) | refine OutIs.far ?_ (by omega)))) (by simp) (by intro r hr; simp at hr; subst hr; exact ⟨rfl, rfl⟩) (by simp only [List.length_map]; omega) ?_
   simp (disch := omega) only [↓wpre, push_cast, seval, hh]
   refine fin_intro (Sub.refl _) ⟨a4, d ++ [⟨x, v⟩], by omega, by omega, ?_, by simp only [List.length_append, List.length_cons, List.length_nil]; omega, ?_, .inr ⟨n5, by simp [outAV], ?_, by omega, by simp⟩⟩
   ·intro f hf
    rcases List.mem_append.1 hf with h | h
    ·exact hd f h
    ·simp only [List.mem_singleton] at h
     subst h
     exact ⟨hv, hxs⟩
   ·refine Qs.sub (n := n) ((Qs.dropO (E := 78) (sz := 4) (rows := d.map Fld.c) (m := n5) (by (refine OutIs.mono (n := n1) ?_ (by omega); repeat (first | exact ho | refine OutIs.put ?_ (by omega) | refine OutIs.far ?_ (by omega)))) (Nat.le_refl _) (by (repeat (first | exact hq | refine Qs.put ?_ | refine Qs.new ?_ (by omega))))).new (by omega)) ?_
    rw [hu_ne (by omega), dropO_ne (n := n5) (E := 78) (sz := 4) (rows := d.map Fld.c) (by (refine OutIs.mono (n := n1) ?_ (by omega); repeat (first | exact ho | refine OutIs.put ?_ (by omega) | refine OutIs.far ?_ (by omega)))) hin]
    simp (disch := omega) only [↓wpre, push_cast, seval, hs]
   ·rw [List.map_append]
    exact hu_same
  ·refine fin_intro (Sub.refl _) ⟨a2, d, by omega, by omega, hd, by omega, Qs.sub (n := n) (by (repeat (first | exact hq | refine Qs.put ?_ | refine Qs.new ?_ (by omega)))) (by simp (disch := omega) only [↓wpre, push_cast, seval, hs]), ?_⟩
   cases oid with
   | none =>
    have : d.map Fld.c = [] := ho
    exact .inl ⟨by simpa using this, rfl⟩
   | some o => exact .inr ⟨o, rfl, by rw [hu_ne (by have := ho.2.1; have := hq.2.2; omega)]; exact ho.1, ho.2.1, hne (by simp)⟩
end Go.Proofs.YtblhbafoncfhdaaGreatDoor
