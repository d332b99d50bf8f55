/- Contracts of functions of the program: each computes what its model says; the conditions stand at each. -/
import Derived.Test.YtblhbafoncfhdaaGreatDoorTw10
set_option linter.unusedSimpArgs false
set_option linter.unusedVariables false
set_option maxRecDepth 20000
set_option pp.deepTerms false
set_option pp.deepTerms.threshold 3
namespace Go.Proofs.YtblhbafoncfhdaaGreatDoor
open Go Go.Ab Go.Pm Go.Cm Go.El
variable (G : Nat → AV) (H : Nat → Option AObj)
theorem aas_rep200 : (⟨(Lib.repeatL (⟨#[97]⟩ : T).data.toList 200).toArray⟩ : T) = aas 200 := by decide +kernel
theorem aas_rep201 : (⟨(Lib.repeatL (⟨#[97]⟩ : T).data.toList 201).toArray⟩ : T) = aas 201 := by decide +kernel
theorem rep200_c (hns : ¬ Strict G) : AFn Tryz.prog G 71 [.str ⟨#[97]⟩, .lit (.int .i64 200)] H (.str (aas 200)) := by
  have h := repeat_c G H hns ⟨#[97]⟩ 200 (by decide) (by decide)
  rwa [aas_rep200] at h
theorem rep201_c (hns : ¬ Strict G) : AFn Tryz.prog G 71 [.str ⟨#[97]⟩, .lit (.int .i64 201)] H (.str (aas 201)) := by
  have h := repeat_c G H hns ⟨#[97]⟩ 201 (by decide) (by decide)
  rwa [aas_rep201] at h
theorem nine_texts {k : T} (h : k ∈ ([⟨#[]⟩, ⟨#[97, 110, 110]⟩, ⟨#[97, 110, 110, 97]⟩, ⟨#[65, 110, 110, 32, 66]⟩, ⟨#[98, 111, 98]⟩, ⟨#[195, 169, 116, 195, 169]⟩, ⟨#[34, 113, 34]⟩, ⟨#[97, 61, 98]⟩, ⟨#[92]⟩] : List T)) : k ∈ texts := by
  simp only [texts, shorts, List.mem_append, List.mem_cons, List.not_mem_nil, or_false] at h ⊢
  grind
theorem six_texts {k : T} (h : k ∈ ([⟨#[120]⟩, ⟨#[10]⟩, ⟨#[127]⟩, ⟨#[255]⟩, aas 200, aas 201] : List T)) : k ∈ texts := by
  simp only [texts, shorts, List.mem_append, List.mem_cons, List.not_mem_nil, or_false] at h ⊢
  grind
theorem nil_text : (⟨#[]⟩ : T) ∈ texts := by simp [texts, shorts]
set_option maxHeartbeats 3200000 in
theorem value_c (hG : GOk G) (nz : Bool) (l : List Int) (a : Int) (i : Nat) (hi : H i = some (strm (LL nz l) a)) (ha : 0 ≤ a ∧ a ≤ 1099511626000) : SC G H 17 [.op i 0 0] i (LL nz l) a 5 fun r => ∃ v : Val, r = .agg v.c ∧ v.text ∈ texts := by
  intro n
  refine ACalls.start mix F17 (by simp) fun hlow => ?_
  have hq := Qs.refl hi hlow
  have hin := hq.2.2
  simp -dsimp -implicitDefEqProofs (disch := omega) only [↓wpre, push_cast, seval, c17]
  refine (pick_c G _ nz true l a i (by simp -dsimp -implicitDefEqProofs (disch := omega) only [↓wpre, push_cast, seval, hi]) ⟨by omega, by omega⟩ [1, 1, 1, 2, 2, 3, 4] (by simp) (by simp)).x fun r a1 n1 hn1 k1 k2 k3 => ?_
  obtain ⟨kd, rfl, hk⟩ := k3
  clear hk
  simp -dsimp -implicitDefEqProofs (disch := omega) only [↓wpre, push_cast, seval, hi]
  by_cases e1 : kd = 1
  case' pos =>
    simp -dsimp -implicitDefEqProofs (disch := omega) only [↓wpre, push_cast, seval, e1, hi]
    refine (one_c G _ nz true l a1 i (by simp -dsimp -implicitDefEqProofs (disch := omega) only [↓wpre, push_cast, seval, hi]) ⟨by omega, by omega⟩ [⟨#[]⟩, ⟨#[97, 110, 110]⟩, ⟨#[97, 110, 110, 97]⟩, ⟨#[65, 110, 110, 32, 66]⟩, ⟨#[98, 111, 98]⟩, ⟨#[195, 169, 116, 195, 169]⟩, ⟨#[34, 113, 34]⟩, ⟨#[97, 61, 98]⟩, ⟨#[92]⟩] (by simp) (by simp)).x fun r a2 n2 hn2 k1' k2' k3 => ?_
    obtain ⟨k, rfl, hk⟩ := k3
    have hk := nine_texts hk
    simp -dsimp -implicitDefEqProofs (disch := omega) only [↓wpre, push_cast, seval, hi]
  case' neg =>
    have hk := nil_text
    by_cases e2 : kd = 2
    case' pos =>
      simp -dsimp -implicitDefEqProofs (disch := omega) only [↓wpre, push_cast, seval, e1, e2, hi]
      refine (pick_c G _ nz true l a1 i (by simp -dsimp -implicitDefEqProofs (disch := omega) only [↓wpre, push_cast, seval, hi]) ⟨by omega, by omega⟩ [0, 1, -1, 7, 1000, 1000000000000, -1000000000000] (by simp) (by simp)).x fun r a2 n2 hn2 k1' k2' k3 => ?_
      obtain ⟨k, rfl, hk1⟩ := k3
      clear hk1
      simp -dsimp -implicitDefEqProofs (disch := omega) only [↓wpre, push_cast, seval, hi]
    case' neg =>
      by_cases e3 : kd = 3
      case' pos =>
        simp -dsimp -implicitDefEqProofs (disch := omega) only [↓wpre, push_cast, seval, e1, e2, e3, hi]
        refine (next_c G _ nz l a1 2 i (by simp -dsimp -implicitDefEqProofs (disch := omega) only [↓wpre, push_cast, seval, hi]) ⟨by omega, by omega⟩ (by omega)).x fun r a2 n2 hn2 k1' k2' k3 => ?_
        obtain ⟨k, rfl, hk1⟩ := k3
        clear hk1
        simp -dsimp -implicitDefEqProofs (disch := omega) only [↓wpre, push_cast, seval, hi]
      case' neg =>
        simp -dsimp -implicitDefEqProofs (disch := omega) only [↓wpre, push_cast, seval, e1, e2, e3, hi]
        refine (pick_c G _ nz true l a1 i (by simp -dsimp -implicitDefEqProofs (disch := omega) only [↓wpre, push_cast, seval, hi]) ⟨by omega, by omega⟩ [0, 100, 4321439] (by simp) (by simp)).x fun r a2 n2 hn2 k1' k2' k3 => ?_
        obtain ⟨k, rfl, hk1⟩ := k3
        clear hk1
        simp -dsimp -implicitDefEqProofs (disch := omega) only [↓wpre, push_cast, seval, hi]
  all_goals
    refine (flip_c G _ nz l a2 30 i (by simp -dsimp -implicitDefEqProofs (disch := omega) only [↓wpre, push_cast, seval, hi]) ⟨by omega, by omega⟩ (by omega)).x fun r a3 n3 hn3 k1'' k2'' k3 => ?_
    obtain ⟨b, rfl⟩ := k3
    simp -dsimp -implicitDefEqProofs (disch := omega) only [↓wpre, push_cast, seval, hi]
    (first | with_reducible refine cnd_ndec (fun hc => ?_) (fun hc => ?_) | with_reducible refine cnd_dec (fun hc => ?_) (fun hc => ?_) | with_reducible refine cnd_nb (fun hc => ?_) (fun hc => ?_) | with_reducible refine cnd_intro (fun hc => ?_) (fun hc => ?_)) <;> (first | (exfalso; omega) | (try simp -dsimp -implicitDefEqProofs (disch := omega) only [↓wpre, push_cast, seval, hc, hi]))
    case' _ =>
      refine (next_c G _ nz l a3 4 i (by simp -dsimp -implicitDefEqProofs (disch := omega) only [↓wpre, push_cast, seval, hi]) ⟨by omega, by omega⟩ (by omega)).x fun r a4 n4 hn4 m1 m2 m3 => ?_
      obtain ⟨w, rfl, hw⟩ := m3
      simp -dsimp -implicitDefEqProofs (disch := omega) only [↓wpre, push_cast, seval, hi]
      by_cases e4 : w = 0
      case' pos =>
        simp -dsimp -implicitDefEqProofs (disch := omega) only [↓wpre, push_cast, seval, e4, hi]
        refine (pick_c G _ nz true l a4 i (by simp -dsimp -implicitDefEqProofs (disch := omega) only [↓wpre, push_cast, seval, hi]) ⟨by omega, by omega⟩ [0, 5, 1, 2] (by simp) (by simp)).x fun r a5 n5 hn5 m1' m2' m3 => ?_
        obtain ⟨j, rfl, hj⟩ := m3
        simp -dsimp -implicitDefEqProofs (disch := omega) only [↓wpre, push_cast, seval, hi]
      case' neg =>
        by_cases e5 : w = 1
        case' pos =>
          simp -dsimp -implicitDefEqProofs (disch := omega) only [↓wpre, push_cast, seval, e4, e5, hi]
          refine (pick_c G _ nz true l a4 i (by simp -dsimp -implicitDefEqProofs (disch := omega) only [↓wpre, push_cast, seval, hi]) ⟨by omega, by omega⟩ [2, -1, 4321440, 1000000000001] (by simp) (by simp)).x fun r a5 n5 hn5 m1' m2' m3 => ?_
          obtain ⟨j, rfl, hj⟩ := m3
          simp -dsimp -implicitDefEqProofs (disch := omega) only [↓wpre, push_cast, seval, hi]
        case' neg =>
          simp -dsimp -implicitDefEqProofs (disch := omega) only [↓wpre, push_cast, seval, e4, e5, hi]
          refine (rep200_c G _ hG.ns).x fun n6 hn6 => ?_
          simp -dsimp -implicitDefEqProofs (disch := omega) only [↓wpre, push_cast, seval, hi]
          refine (rep201_c G _ hG.ns).x fun n7 hn7 => ?_
          simp -dsimp -implicitDefEqProofs (disch := omega) only [↓wpre, push_cast, seval, hi]
          refine (one_c G _ nz true l a4 i (by simp -dsimp -implicitDefEqProofs (disch := omega) only [↓wpre, push_cast, seval, hi]) ⟨by omega, by omega⟩ [⟨#[120]⟩, ⟨#[10]⟩, ⟨#[127]⟩, ⟨#[255]⟩, aas 200, aas 201] (by simp) (by simp)).x fun r a5 n5 hn5 m1' m2' m3 => ?_
          obtain ⟨j, rfl, hj⟩ := m3
          have hk := six_texts hj
          simp -dsimp -implicitDefEqProofs (disch := omega) only [↓wpre, push_cast, seval, hi]
  all_goals first
    | (refine fin_intro (H' := hu H i (some (strm (LL nz l) (a5)))) (Qs.sub (n := n) (by (repeat (first | exact hq | refine Qs.put ?_ | refine Qs.new ?_ (by omega)))) (by simp -dsimp -implicitDefEqProofs (disch := omega) only [↓wpre, push_cast, seval, hq.2.2])) ⟨a5, by omega, by omega, rfl, ⟨_, _, _⟩, rfl, hk⟩)
    | (refine fin_intro (H' := hu H i (some (strm (LL nz l) (a3)))) (Qs.sub (n := n) (by (repeat (first | exact hq | refine Qs.put ?_ | refine Qs.new ?_ (by omega)))) (by simp -dsimp -implicitDefEqProofs (disch := omega) only [↓wpre, push_cast, seval, hq.2.2])) ⟨a3, by omega, by omega, rfl, ⟨_, _, _⟩, rfl, hk⟩)
end Go.Proofs.YtblhbafoncfhdaaGreatDoor

