/- Contracts of functions of the program: each computes what its model says; the conditions stand at each. -/
import Derived.Test.YtblhbafoncfhdaaGreatDoorP1
import Derived.Test.YtblhbafoncfhdaaGreatDoorW1
set_option linter.unusedSimpArgs false
set_option linter.unusedVariables false
set_option maxRecDepth 20000
namespace Go.Proofs.YtblhbafoncfhdaaGreatDoor
open Go Go.Ab Go.Pm Go.Cm
variable (G : Nat → AV) (H : Nat → Option AObj)
theorem isNaNI_c (n : Int) : AFn Tryz.prog G 182 [.int n] H (.bool false) := by
 refine AFn.start mix F182 (by simp) fun k hlow => ?_
 simp (disch := omega) only [↓wpre, push_cast, seval, c182]
theorem isNaNS_c (s : T) : AFn Tryz.prog G 183 [.str s] H (.bool false) := by
 refine AFn.start mix F183 (by simp) fun k hlow => ?_
 simp (disch := omega) only [↓wpre, push_cast, seval, c183]
theorem cmpI_c (a b : Int) : AFn Tryz.prog G 110 [.int a, .int b] H (.int (cmpI a b)) := by
 refine AFn.start mix F110 (by simp) fun k hlow => ?_
 simp (disch := omega) only [↓wpre, push_cast, seval, c110]
 repeat' (first | ((first | with_reducible refine cnd_ndec (fun hc => ?_) (fun hc => ?_) | with_reducible refine cnd_dec (fun hc => ?_) (fun hc => ?_) | with_reducible refine cnd_nb (fun hc => ?_) (fun hc => ?_) | with_reducible refine cnd_intro (fun hc => ?_) (fun hc => ?_)) <;> (first | (exfalso; omega) | (try simp (disch := omega) only [↓wpre, push_cast, seval, hc, true_and]))) | (with_reducible refine anyN_intro fun n' hn' => ?_; try simp (disch := omega) only [↓wpre, push_cast, seval, true_and]) | ((first | with_reducible refine (isNaNI_c _ _ _).x fun n' hn' => ?_ | with_reducible refine xfn_intro (isNaNI_c _ _ _) ?_); try simp (disch := omega) only [↓wpre, push_cast, seval, true_and]))
 all_goals grind [cmpI]
theorem cmpS_c (a b : T) : AFn Tryz.prog G 111 [.str a, .str b] H (.int (cmpS a b)) := by
 refine AFn.start mix F111 (by simp) fun k hlow => ?_
 simp (disch := omega) only [↓wpre, push_cast, seval, c111]
 repeat' (first | ((first | with_reducible refine cnd_ndec (fun hc => ?_) (fun hc => ?_) | with_reducible refine cnd_dec (fun hc => ?_) (fun hc => ?_) | with_reducible refine cnd_nb (fun hc => ?_) (fun hc => ?_) | with_reducible refine cnd_intro (fun hc => ?_) (fun hc => ?_)) <;> (first | (exfalso; omega) | (try simp (disch := omega) only [↓wpre, push_cast, seval, hc, true_and]))) | (with_reducible refine anyN_intro fun n' hn' => ?_; try simp (disch := omega) only [↓wpre, push_cast, seval, true_and]) | ((first | with_reducible refine (isNaNS_c _ _ _).x fun n' hn' => ?_ | with_reducible refine xfn_intro (isNaNS_c _ _ _) ?_); try simp (disch := omega) only [↓wpre, push_cast, seval, true_and]))
 all_goals simp_all [cmpS]
theorem even_ints (l : List Int) : Even 1 (l.map fun x => [AV.int x]) := by
 intro r hr
 obtain ⟨s, _, rfl⟩ := List.mem_map.1 hr
 exact ⟨rfl, rfl⟩
theorem even_ints' (l : List Int) : Even 1 (l.map fun x => [AV.int x]) = True := eq_true (even_ints l)
theorem cmpOr_c (l : List Int) (hl : l.length ≤ 1000) : AFn Tryz.prog G 109 [.ls true (l.map fun x => [AV.int x])] H (.int (cmpOr l)) := by
 refine AFn.start mix F109 (by simp) fun k hlow => ?_
 simp (disch := omega) only [↓wpre, push_cast, seval, c109]
 refine xw_loopJ (σ := List Int × List Int) (fun t => [(3, .int 0), (6, .ls true (l.map fun x => [AV.int x])), (7, .int l.length), (8, .int t.1.length)]) (fun t H' n' => l = t.1 ++ t.2 ∧ cmpOr t.2 = cmpOr l ∧ Qt H H' n') (fun t => t.2.length) ([], l) ⟨rfl, rfl, .refl hlow⟩ (by simp (disch := omega) only [↓wpre, push_cast, seval]) ?_
 rintro ⟨a, b⟩ fr H' n ⟨rfl, hf, hq⟩ hh
 simp only [has_nil, has_cons, and_true, List.length_append] at hh hl hf
 cases b with
 | nil =>
  simp (disch := omega) only [↓wpre, push_cast, seval, hh]
  simp only [List.append_nil, cmpOr] at hf
  rw [← hf]
  exact ⟨rfl, hq.1⟩
 | cons x b =>
  have hlt : (a.length : Int) < a.length + (b.length + 1) := by omega
  simp only [List.length_cons] at hl
  simp (disch := omega) only [↓wpre, push_cast, seval, hh, hlt, even_ints', aidx_split]
  (first | with_reducible refine cnd_ndec (fun hc => ?_) (fun hc => ?_) | with_reducible refine cnd_dec (fun hc => ?_) (fun hc => ?_) | with_reducible refine cnd_nb (fun hc => ?_) (fun hc => ?_) | with_reducible refine cnd_intro (fun hc => ?_) (fun hc => ?_)) <;> (first | (exfalso; omega) | (try simp (disch := omega) only [↓wpre, push_cast, seval, hc, hh]))
  ·refine ⟨?_, hq.1⟩
   rw [← hf, cmpOr, if_pos hc]
  ·refine againJ (a ++ [x], b) (Nat.lt_succ_self _) ⟨by simp, ?_, ?_⟩ ?_
   ·rw [← hf, cmpOr, if_neg (by simpa using hc)]
   ·exact Qt.mono (n := n) (by repeat (first | exact hq | refine Qt.hu ?_ (by omega))) (by omega)
   ·simp (disch := omega) only [↓wpre, push_cast, seval, hh]
    all_goals (try simp only [AV.lit.injEq, Value.int.injEq, Value.bool.injEq, true_and, and_true]); all_goals (try (repeat' apply And.intro)); all_goals (first | rfl | omega | simp_all | skip)
theorem getLast?_snoc {α : Type} (a : List α) (x : α) : (a ++ [x]).getLast? = some x := by simp
theorem at_mid {α : Type} (c : α → List AV) (a b : List α) (x : α) : (List.map c (a ++ x :: b))[a.length]? = some (c x) := by simp
theorem set_mid {α : Type} (c : α → List AV) (a b : List α) (x y : α) : (List.map c (a ++ x :: b)).set a.length (c y) = List.map c (a ++ y :: b) := by simp
theorem hu_self {o : Nat} {v : AObj} (h : H o = some v) : hu H o (some v) = H := by
 funext i
 by_cases hi : i = o
 ·subst hi; rw [hu_same, h]
 ·rw [hu_ne hi]
theorem hu_hu {o : Nat} {v w : Option AObj} : hu (hu H o v) o w = hu H o w := by
 funext i
 by_cases hi : i = o
 ·subst hi; rw [hu_same, hu_same]
 ·rw [hu_ne hi, hu_ne hi, hu_ne hi]
theorem even_flds (l : List El.Fld) : Even 4 (l.map El.Fld.c) = True := eq_true fun r hr => by
 obtain ⟨s, _, rfl⟩ := List.mem_map.1 hr
 exact ⟨rfl, rfl⟩
end Go.Proofs.YtblhbafoncfhdaaGreatDoor
