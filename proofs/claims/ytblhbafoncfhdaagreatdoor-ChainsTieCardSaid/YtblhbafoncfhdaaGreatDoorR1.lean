/- Contracts of functions of the program: each computes what its model says; the conditions stand at each. -/
import Derived.Test.YtblhbafoncfhdaaGreatDoorP1
import Derived.Test.YtblhbafoncfhdaaGreatDoorA5
import Derived.Test.YtblhbafoncfhdaaGreatDoorB1
set_option linter.unusedSimpArgs false
set_option linter.unusedVariables false
set_option maxRecDepth 20000
namespace Go.Proofs.YtblhbafoncfhdaaGreatDoor
open Go Go.Ab Go.Pm Go.Cm Go.El Go.Rm Go.Pp Go.Uf
variable (G : Nat → AV) (H : Nat → Option AObj)
theorem order_c (a b : Idn) : AFn Tryz.prog G 214 [.agg a.c, .agg b.c] H (.int (cmpId a b)) := by
 obtain ⟨ka, ta⟩ := a
 obtain ⟨kb, tb⟩ := b
 have hd : (decide (ka = kb) && decide (ta = tb)) = decide ((⟨ka, ta⟩ : Idn) = ⟨kb, tb⟩) := by simp
 refine AFn.start mix F214 (by simp) fun k hlow => ?_
 simp (disch := omega) only [↓wpre, push_cast, seval, c214]
 repeat' (first | ((first | with_reducible refine cnd_ndec (fun hc => ?_) (fun hc => ?_) | with_reducible refine cnd_dec (fun hc => ?_) (fun hc => ?_) | with_reducible refine cnd_nb (fun hc => ?_) (fun hc => ?_) | with_reducible refine cnd_intro (fun hc => ?_) (fun hc => ?_)) <;> (first | (exfalso; omega) | (try simp (disch := omega) only [↓wpre, push_cast, seval, hc, true_and]))) | (with_reducible refine anyN_intro fun n' hn' => ?_; try simp (disch := omega) only [↓wpre, push_cast, seval, true_and]) | fail)
 all_goals (simp only [AV.lit.injEq, Value.int.injEq, cmpId, cmpOr, cmpI, cmpS]; grind)
set_option maxHeartbeats 1600000 in
theorem ridsFault_c (hG : GOk G) (nz : Bool) (l : List Idn) (hs : ∀ x ∈ l, x.text.size ≤ 1000) (hl : l.length ≤ 1000000) : AFn Tryz.prog G 149 [.ls nz (l.map Idn.c)] H (.int (rIds l)) := by
 refine AFn.start mix F149 (by simp) fun k hlow => ?_
 simp (disch := omega) only [↓wpre, push_cast, seval, c149]
 unfold rIds
 generalize hrr : rIdsGo none l = res
 refine xw_loopJ (σ := List Idn × List Idn) (fun t => [(0, .ls nz (l.map Idn.c)), (6, .ls nz (l.map Idn.c)), (7, .int l.length), (8, .int t.1.length)]) (fun t H' n' => l = t.1 ++ t.2 ∧ rIdsGo t.1.getLast? t.2 = res ∧ Qt H H' k ∧ k ≤ n') (fun t => t.2.length) ([], l) ⟨rfl, hrr, .refl hlow, Nat.le_refl _⟩ (by simp (disch := omega) only [↓wpre, push_cast, seval]) ?_
 rintro ⟨d, r⟩ fr H' n1 ⟨hab, hf, hq, hn⟩ hh
 simp only [has_nil, has_cons, and_true] at hh hab hf
 have hll : l.length = d.length + r.length := by rw [hab]; simp
 cases r with
 | nil =>
  have hlt : ¬ (d.length : Int) < l.length := by rw [hll]; simp
  rw [rIdsGo] at hf
  rw [← hf]
  simp (disch := omega) only [↓wpre, push_cast, seval, hh, hlt]
  first | exact hq.1 | exact ⟨rfl, hq.1⟩
 | cons x r =>
  have hlt : (d.length : Int) < l.length := by rw [hll]; simp only [List.length_cons]; omega
  have hx : l[d.length]? = some x := by rw [hab]; simp
  have hxs := hs x (by rw [hab]; simp)
  rw [rIdsGo] at hf
  simp (disch := omega) only [↓wpre, push_cast, seval, hh, hlt, even_ids, aidx_at rfl hx]
  refine AFn.x (idFault_c G _ hG x.kind x.text (by omega)) fun n2 hn2 => ?_
  by_cases h1 : rId x.kind x.text = 0
  ·rw [if_neg (by simp [h1])] at hf
   simp (disch := omega) only [↓wpre, push_cast, seval, hh, h1]
   rcases last_of d with rfl | ⟨d', p, rfl⟩
   ·have h0 : ¬ (0 : Int) < 0 := by omega
    rw [show notBehind ([] : List Idn).getLast? x = false from rfl, if_neg (by simp)] at hf
    simp (disch := omega) only [↓wpre, push_cast, seval, hh, h0, List.length_nil, Int.natCast_zero]
    refine anyN_intro fun n3 hn3 => ?_
    simp (disch := omega) only [↓wpre, push_cast, seval, hh]
    refine againJ ([x], r) (Nat.lt_succ_self _) ⟨hab, hf, by exact Qt.mono (n := k) (by repeat (first | exact hq | refine Qt.hu ?_ (by omega))) (by omega), by omega⟩ (by simp (disch := omega) only [↓wpre, push_cast, seval, hh]; all_goals (try simp only [AV.lit.injEq, Value.int.injEq, Value.bool.injEq, true_and, and_true]); all_goals (try (repeat' apply And.intro)); all_goals (first | rfl | omega | simp_all | skip))
   ·have h0 : (0 : Int) < (d'.length : Int) + 1 := by omega
    have hdl : d'.length + 1 ≤ l.length := by have := hll; simp at this; omega
    have hp : l[d'.length]? = some p := by rw [hab]; simp
    have e1 : (d'.length : Int) + 1 - 1 = ((d'.length : Nat) : Int) := by omega
    rw [show notBehind (d' ++ [p]).getLast? x = decide (0 ≤ cmpId p x) from by simp [notBehind]] at hf
    simp (disch := omega) only [↓wpre, push_cast, seval, hh, h0, even_ids, e1, aidx_at rfl hp]
    refine xfn_intro (order_c G _ p x) ?_
    by_cases hc : 0 ≤ cmpId p x
    ·rw [if_pos (by simpa using hc)] at hf
     simp (disch := omega) only [↓wpre, push_cast, seval, hh, hc]
     refine anyN_intro fun n3 hn3 => ?_
     simp (disch := omega) only [↓wpre, push_cast, seval, hh, hc]
     refine ⟨by rw [hf], by exact (Qt.mono (n := k) (by repeat (first | exact hq | refine Qt.hu ?_ (by omega))) (Nat.le_refl _)).1⟩
    ·rw [if_neg (by simpa using hc)] at hf
     simp (disch := omega) only [↓wpre, push_cast, seval, hh, hc]
     refine anyN_intro fun n3 hn3 => ?_
     simp (disch := omega) only [↓wpre, push_cast, seval, hh, hc]
     refine againJ ((d' ++ [p]) ++ [x], r) (Nat.lt_succ_self _) ⟨by rw [hab]; simp, by rw [getLast?_snoc]; exact hf, by exact Qt.mono (n := k) (by repeat (first | exact hq | refine Qt.hu ?_ (by omega))) (by omega), by omega⟩ (by simp (disch := omega) only [↓wpre, push_cast, seval, hh]; all_goals (try simp only [AV.lit.injEq, Value.int.injEq, Value.bool.injEq, true_and, and_true]); all_goals (try (repeat' apply And.intro)); all_goals (first | rfl | omega | simp_all | skip))
  ·rw [if_pos h1] at hf
   simp (disch := omega) only [↓wpre, push_cast, seval, hh, h1]
   refine ⟨by rw [hf], by exact (Qt.mono (n := k) (by repeat (first | exact hq | refine Qt.hu ?_ (by omega))) (Nat.le_refl _)).1⟩
theorem touchIds_c (hG : GOk G) (t : Tch) (hs : TouchSm t) : AFn Tryz.prog G 220 [.pp t.c] H (.int (rIds t.ids)) := by
 have hfew := hs.few
 refine AFn.start mix F220 (by simp) fun k hlow => ?_
 simp (disch := omega) only [↓wpre, push_cast, seval, c220]
 (first | with_reducible refine (ridsFault_c _ _ hG t.nzi t.ids hs.ids (by omega)).x fun n' hn' => ?_ | with_reducible refine xfn_intro (ridsFault_c _ _ hG t.nzi t.ids hs.ids (by omega)) ?_); try simp (disch := omega) only [↓wpre, push_cast, seval, true_and]
theorem touchFields_c (hU : GU G) (t : Tch) (hs : TouchSm t) : AFn Tryz.prog G 221 [.pp t.c] H (.int (rFields t.fs)) := by
 have hsm : SmallF t.fs := by intro f hf; exact hs.fs.2 f hf
 have hfew := hs.fs.1
 refine AFn.start mix F221 (by simp) fun k hlow => ?_
 simp (disch := omega) only [↓wpre, push_cast, seval, c221]
 (first | with_reducible refine (rfields_c _ _ hU t.nzf t.fs hsm (by omega)).x fun n' hn' => ?_ | with_reducible refine xfn_intro (rfields_c _ _ hU t.nzf t.fs hsm (by omega)) ?_); try simp (disch := omega) only [↓wpre, push_cast, seval, true_and]
set_option maxHeartbeats 1600000 in
theorem rtouch_c (hU : GU G) (t : Tch) (hs : TouchSm t) (last : Int) : AFn Tryz.prog G 151 [.agg t.c, .int last] H (.int (rTouch t last)) := by
 have hG := hU.ok
 have hss := hs.src
 have hfew := hs.few
 have hcf : (t.ids.length : Int) = 0 ↔ t.ids.length = 0 := by omega
 refine AFn.start mix F151 (by simp) fun k hlow => ?_
 by_cases h1 : within t.no 1 1000000 = false
 ·have e : rTouch t last = 1 := if_pos h1
  rw [e]
  simp (disch := omega) only [↓wpre, push_cast, seval, c151]
  refine AFn.x (in_c G _ t.no 1 1000000) fun n2 hn2 => ?_
  simp (disch := omega) only [↓wpre, push_cast, seval, h1]
 have h1' : within t.no 1 1000000 = true := by simpa using h1
 by_cases h2 : within t.at' 0 4321439 = false
 ·have e : rTouch t last = 1 := by rw [rTouch, if_neg h1, if_pos h2]
  rw [e]
  simp (disch := omega) only [↓wpre, push_cast, seval, c151]
  refine AFn.x (in_c G _ t.no 1 1000000) fun n2 hn2 => ?_
  simp (disch := omega) only [↓wpre, push_cast, seval, h1']
  refine AFn.x (in_c G _ t.at' 0 4321439) fun n3 hn3 => ?_
  simp (disch := omega) only [↓wpre, push_cast, seval, h2]
 have h2' : within t.at' 0 4321439 = true := by simpa using h2
 have e0 : rTouch t last = if t.no ≤ last then 7 else if rKey t.src = false then 5 else if t.ids.length = 0 then 3 else if 10 < t.ids.length then 2 else if rIds t.ids ≠ 0 then rIds t.ids else rFields t.fs := by rw [rTouch, if_neg h1, if_neg h2]
 rw [e0]
 simp (disch := omega) only [↓wpre, push_cast, seval, c151]
 refine AFn.x (in_c G _ t.no 1 1000000) fun n2 hn2 => ?_
 simp (disch := omega) only [↓wpre, push_cast, seval, h1']
 refine AFn.x (in_c G _ t.at' 0 4321439) fun n3 hn3 => ?_
 by_cases h3 : t.no ≤ last
 ·rw [if_pos h3]
  simp (disch := omega) only [↓wpre, push_cast, seval, h2', h3]
 rw [if_neg h3]
 simp (disch := omega) only [↓wpre, push_cast, seval, h2', h3]
 refine AFn.x (rkey_c G _ hG.ns t.src (by omega)) fun n4 hn4 => ?_
 by_cases h4 : rKey t.src = false
 ·rw [if_pos h4]
  simp (disch := omega) only [↓wpre, push_cast, seval, h4]
 rw [if_neg h4]
 have h4' : rKey t.src = true := by simpa using h4
 by_cases h5 : t.ids.length = 0
 ·rw [if_pos h5]
  have h5' : (t.ids.length : Int) = 0 := by omega
  simp (disch := omega) only [↓wpre, push_cast, seval, h4', h5']
 rw [if_neg h5]
 have h5' : ¬ (t.ids.length : Int) = 0 := by omega
 by_cases h6 : 10 < t.ids.length
 ·rw [if_pos h6]
  have h6' : (10 : Int) < t.ids.length := by omega
  simp (disch := omega) only [↓wpre, push_cast, seval, h4', h5', h6']
 rw [if_neg h6]
 have h6' : ¬ (10 : Int) < t.ids.length := by omega
 simp (disch := omega) only [↓wpre, push_cast, seval, h4', h5', h6']
 refine AFn.x (first_c G _ 220 221 [.pp t.c] [.pp t.c] (rIds t.ids) (rFields t.fs) (fun H => touchIds_c G H hG t hs) (fun H => touchFields_c G H hU t hs)) fun n5 hn5 => ?_
 simp (disch := omega) only [↓wpre, push_cast, seval]
theorem touchesFault1_c (hU : GU G) (t : Tch) (hs : TouchSm t) : AFn Tryz.prog G 81 [.ls true [t.c]] H (.int (rTouch t 0)) := by
 have hl1 : ([t].length : Int) = 1 := rfl
 have e0 : (0 : Int) = ((0 : Nat) : Int) := rfl
 have hget : [t][0]? = some t := rfl
 have hrow : ([t.c] : List (List AV)) = [t].map Tch.c := rfl
 rw [hrow]
 refine AFn.start mix F81 (by simp) fun k hlow => ?_
 simp (disch := omega) only [↓wpre, push_cast, seval, c81, hl1]
 refine xw_loopJ (σ := Nat) (fun i => [(3, .int (if i = 0 then 0 else t.no)), (10, .ls true ([t].map Tch.c)), (11, .int 1), (12, .int i)]) (fun i H' n' => i ≤ 1 ∧ (i = 1 → rTouch t 0 = 0) ∧ Qt H H' k ∧ k ≤ n') (fun i => 1 - i) 0 ⟨by omega, fun h => by omega, .refl hlow, Nat.le_refl _⟩ (by simp (disch := omega) only [↓wpre, push_cast, seval, hl1]; try rfl) ?_
 rintro i fr H' n1 ⟨hi, hz, hq, hn⟩ hh
 simp only [has_nil, has_cons, and_true] at hh hi hz
 have hi2 : i = 0 ∨ i = 1 := by omega
 rcases hi2 with rfl | rfl
 ·simp (disch := omega) only [↓wpre, push_cast, seval, hh, even_tch, aidx_at e0 hget]
  refine AFn.x (rtouch_c G _ hU t hs 0) fun n2 hn2 => ?_
  by_cases h1 : rTouch t 0 = 0
  ·simp (disch := omega) only [↓wpre, push_cast, seval, hh, h1]
   refine againJ 1 (by omega) ⟨by omega, fun _ => h1, by exact Qt.mono (n := k) (by repeat (first | exact hq | refine Qt.hu ?_ (by omega))) (by omega), by omega⟩ (by simp (disch := omega) only [↓wpre, push_cast, seval, hh]; all_goals (try simp only [AV.lit.injEq, Value.int.injEq, Value.bool.injEq, true_and, and_true]); all_goals (try (repeat' apply And.intro)); all_goals (first | rfl | omega | simp_all | skip))
  ·simp (disch := omega) only [↓wpre, push_cast, seval, hh, h1]
   exact (Qt.mono (n := k) (by repeat (first | exact hq | refine Qt.hu ?_ (by omega))) (Nat.le_refl _)).1
 ·have h1 := hz rfl
  rw [h1]
  simp (disch := omega) only [↓wpre, push_cast, seval, hh]
  exact (Qt.mono (n := k) (by repeat (first | exact hq | refine Qt.hu ?_ (by omega))) (Nat.le_refl _)).1
theorem indexS_c (nz : Bool) (l : List T) (x : T) (hl : l.length ≤ 1000000) : AFn Tryz.prog G 244 [LS nz l, .str x] H (.int (idxOf x 0 l)) := by
 refine AFn.start mix F244 (by simp) fun k hlow => ?_
 simp (disch := omega) only [↓wpre, push_cast, seval, c244]
 refine xw_loopJ (σ := List T × List T) (fun t => [(0, LS nz l), (1, .str x), (7, .int l.length), (8, .int t.1.length)]) (fun t H' n' => l = t.1 ++ t.2 ∧ idxOf x t.1.length t.2 = idxOf x 0 l ∧ Qt H H' k ∧ k ≤ n') (fun t => t.2.length) ([], l) ⟨rfl, rfl, .refl hlow, Nat.le_refl _⟩ (by simp (disch := omega) only [↓wpre, push_cast, seval]) ?_
 rintro ⟨d, r⟩ fr H' n1 ⟨hab, hi, hq, hn⟩ hh
 simp only [has_nil, has_cons, and_true] at hh hab hi
 have hll : l.length = d.length + r.length := by rw [hab]; simp
 cases r with
 | nil =>
  have hlt : ¬ (d.length : Int) < l.length := by rw [hll]; simp
  rw [← hi]
  simp (disch := omega) only [↓wpre, push_cast, seval, hh, hlt, idxOf]
  first | (exact (Qt.mono (n := k) (by repeat (first | exact hq | refine Qt.hu ?_ (by omega))) (Nat.le_refl _)).1) | exact ⟨rfl, hq.1⟩
 | cons y r =>
  have hlt : (d.length : Int) < l.length := by rw [hll]; simp only [List.length_cons]; omega
  have hx : l[d.length]? = some y := by rw [hab]; simp
  have hi2 : idxOf x d.length (y :: r) = if x = y then (d.length : Int) else idxOf x (d.length + 1) r := rfl
  rw [hi2] at hi
  simp (disch := omega) only [↓wpre, push_cast, seval, hh, hlt, even_strs', aidx_at rfl hx]
  (first | with_reducible refine cnd_ndec (fun hc => ?_) (fun hc => ?_) | with_reducible refine cnd_dec (fun hc => ?_) (fun hc => ?_) | with_reducible refine cnd_nb (fun hc => ?_) (fun hc => ?_) | with_reducible refine cnd_intro (fun hc => ?_) (fun hc => ?_)) <;> (first | (exfalso; omega) | (try simp (disch := omega) only [↓wpre, push_cast, seval, hc, hh]))
  ·rw [if_pos hc] at hi
   first | exact ⟨by rw [hi, hc], hq.1⟩ | (rw [← hi]; exact ⟨rfl, hq.1⟩)
  ·rw [if_neg hc] at hi
   refine againJ (d ++ [y], r) (Nat.lt_succ_self _) ⟨by rw [hab]; simp, by rw [List.length_append]; exact hi, by exact Qt.mono (n := k) (by repeat (first | exact hq | refine Qt.hu ?_ (by omega))) (by omega), by omega⟩ (by simp (disch := omega) only [↓wpre, push_cast, seval, hh]; all_goals (try simp only [AV.lit.injEq, Value.int.injEq, Value.bool.injEq, true_and, and_true]); all_goals (try (repeat' apply And.intro)); all_goals (first | rfl | omega | simp_all | skip))
theorem containsS_c (nz : Bool) (l : List T) (x : T) (hl : l.length ≤ 1000000) : AFn Tryz.prog G 218 [LS nz l, .str x] H (.bool (decide (0 ≤ idxOf x 0 l))) := by
 refine AFn.start mix F218 (by simp) fun k hlow => ?_
 simp (disch := omega) only [↓wpre, push_cast, seval, c218]
 (first | with_reducible refine (indexS_c _ _ nz l x hl).x fun n' hn' => ?_ | with_reducible refine xfn_intro (indexS_c _ _ nz l x hl) ?_); try simp (disch := omega) only [↓wpre, push_cast, seval, true_and]
def Flt (f : FuncId) (args : List AV) (H : Nat → Option AObj) (Pd : Prop) : Prop := ∀ n, ACalls Tryz.prog G f args H n fun r H' n' => ∃ e : Int, r = .int e ∧ (e = 0 → Pd) ∧ H' = H
set_option maxHeartbeats 3200000 in
theorem survFault_c (hU : GU G) (s : Srv) (last : T) (hs : s.srcs.length ≤ 1000 ∧ s.name.size ≤ 1000 ∧ ∀ x ∈ s.srcs, x.size ≤ 1000) : Flt G 150 [.agg s.c, .str last] H (SrvOk s ∧ strLt last s.name = true) := by
 have hns := hU.ok.ns
 obtain ⟨hs1, hs2, hs3⟩ := hs
 obtain ⟨name, how, nz, l⟩ := s
 dsimp only at hs1 hs2 hs3
 intro n
 refine ACalls.start mix F150 (by simp) fun hlow => ?_
 have hq := Qt.refl hlow
 simp (disch := omega) only [↓wpre, push_cast, seval, c150]
 refine AFn.x (rkey_c G _ hns name (by omega)) fun n1 hn1 => ?_
 by_cases h1 : rKey name = true
 rotate_left
 ·simp (disch := omega) only [↓wpre, push_cast, seval, h1]
  exact fin_intro (H' := H) (by exact (Qt.mono (n := n) (by repeat (first | exact hq | refine Qt.hu ?_ (by omega))) (Nat.le_refl _)).1) ⟨_, rfl, fun h => absurd h (by decide), rfl⟩
 simp (disch := omega) only [↓wpre, push_cast, seval, h1]
 refine AFn.x (in_c G _ how 1 7) fun n2 hn2 => ?_
 by_cases h2 : within how 1 7 = true
 rotate_left
 ·simp (disch := omega) only [↓wpre, push_cast, seval, h2]
  exact fin_intro (H' := H) (by exact (Qt.mono (n := n) (by repeat (first | exact hq | refine Qt.hu ?_ (by omega))) (Nat.le_refl _)).1) ⟨_, rfl, fun h => absurd h (by decide), rfl⟩
 have hhow : 1 ≤ how ∧ how ≤ 7 := by simp only [within] at h2; simpa using h2
 have hform : (0 : Int) < l.length → decide (how = 5) = false → False ∨ True := fun _ _ => .inr trivial
 by_cases h3 : (0 : Int) < l.length ∧ decide (how = 5) = false
 ·obtain ⟨h3a, h3b⟩ := h3
  simp (disch := omega) only [↓wpre, push_cast, seval, h2, h3a, h3b]
  exact fin_intro (H' := H) (by exact (Qt.mono (n := n) (by repeat (first | exact hq | refine Qt.hu ?_ (by omega))) (Nat.le_refl _)).1) ⟨_, rfl, fun h => absurd h (by decide), rfl⟩
 have hf : ¬ (0 : Int) < l.length ∨ ((0 : Int) < l.length ∧ decide (how = 5) = true) := by
  by_cases e : (0 : Int) < l.length
  ·right; exact ⟨e, by cases hd : decide (how = 5) with | true => rfl | false => exact absurd ⟨e, hd⟩ h3⟩
  ·exact .inl e
 have hform : l ≠ [] → how = 5 := fun hne => by
  rcases hf with hf | ⟨_, hf⟩
  ·exact absurd (by have := List.length_pos_iff.2 hne; omega) hf
  ·simpa using hf
 by_cases h4 : (20 : Int) < l.length
 ·have hp : (0 : Int) < l.length := by omega
  have hd : decide (how = 5) = true := by
   rcases hf with hf | ⟨_, hf⟩
   ·exact absurd hp hf
   ·exact hf
  simp (disch := omega) only [↓wpre, push_cast, seval, h2, hp, hd, h4]
  exact fin_intro (H' := H) (by exact (Qt.mono (n := n) (by repeat (first | exact hq | refine Qt.hu ?_ (by omega))) (Nat.le_refl _)).1) ⟨_, rfl, fun h => absurd h (by decide), rfl⟩
 rcases hf with hf | ⟨hp, hf⟩
 case' inl => simp (disch := omega) only [↓wpre, push_cast, seval, h2, h4, hf]
 case' inr => simp (disch := omega) only [↓wpre, push_cast, seval, h2, h4, hp, hf]
 all_goals
  refine xw_loopJ (σ := List T × List T) (fun t => [(1, .str last), (2, .pp (Srv.c ⟨name, how, nz, l⟩)), (33, LS nz l), (34, .int l.length), (35, .int t.1.length)]) (fun t H' n' => l = t.1 ++ t.2 ∧ (∀ x ∈ t.1, isKey x = true) ∧ t.1.Nodup ∧ Qt H H' n ∧ n ≤ n') (fun t => t.2.length) ([], l) ⟨rfl, fun x hx => (by cases hx), List.nodup_nil, (by first | exact hq | (exact Qt.mono (n := n) (by repeat (first | exact hq | refine Qt.hu ?_ (by omega))) (by omega))), by omega⟩ (by simp (disch := omega) only [↓wpre, push_cast, seval]) ?_
  clear hq
  rintro ⟨d, r⟩ fr H2 n3 ⟨hab, hkd, hnd, hq, hn3⟩ hh
  simp only [has_nil, has_cons, and_true] at hh hab hkd hnd
  have hll : l.length = d.length + r.length := by rw [hab]; simp
  cases r with
  | nil =>
   have hlt : ¬ (d.length : Int) < l.length := by rw [hll]; simp
   have hdl : d = l := by rw [hab]; simp
   rw [hdl] at hkd hnd
   by_cases h5 : strLt last name = true
   ·have h6 : (strLt name last || decide (name = last)) = false := by
     have h7 := Co.strLt_asymm h5
     have h8 := Co.strLt_ne h5
     rw [h7]
     simp only [Bool.false_or, decide_eq_false_iff_not]
     exact fun e => h8 e.symm
    simp (disch := omega) only [↓wpre, push_cast, seval, hh, hlt, h6]
    exact fin_intro (H' := H) (by exact (Qt.mono (n := n) (by repeat (first | exact hq | refine Qt.hu ?_ (by omega))) (Nat.le_refl _)).1) ⟨_, rfl, fun _ => ⟨⟨key_of h1, hhow, hform, (show l.length ≤ 20 by omega), hkd, hnd, hs2, hs3⟩, h5⟩, rfl⟩
   ·have h6 : (strLt name last || decide (name = last)) = true := by
     by_cases e : name = last
     ·simp [e]
     ·have h5' : strLt last name = false := by simpa using h5
      rw [Co.strLt_total h5' (fun e' => e e'.symm)]; rfl
    simp (disch := omega) only [↓wpre, push_cast, seval, hh, hlt, h6]
    exact fin_intro (H' := H) (by exact (Qt.mono (n := n) (by repeat (first | exact hq | refine Qt.hu ?_ (by omega))) (Nat.le_refl _)).1) ⟨_, rfl, fun h => absurd h (by decide), rfl⟩
  | cons x r =>
   have hlt : (d.length : Int) < l.length := by rw [hll]; simp only [List.length_cons]; omega
   have hx : l[d.length]? = some x := by rw [hab]; simp
   have hxs := hs3 x (by rw [hab]; simp)
   simp (disch := omega) only [↓wpre, push_cast, seval, hh, hlt, even_strs', aidx_at rfl hx]
   refine AFn.x (rkey_c G _ hns x (by omega)) fun n4 hn4 => ?_
   by_cases h5 : rKey x = true
   rotate_left
   ·simp (disch := omega) only [↓wpre, push_cast, seval, hh, h5]
    exact fin_intro (H' := H) (by exact (Qt.mono (n := n) (by repeat (first | exact hq | refine Qt.hu ?_ (by omega))) (Nat.le_refl _)).1) ⟨_, rfl, fun h => absurd h (by decide), rfl⟩
   have htk : (l.map fun x => [AV.str x]).take d.length = d.map fun x => [AV.str x] := by rw [hab]; simp
   have hdt : ((d.length : Nat) : Int).toNat = d.length := Int.toNat_natCast _
   have hdl : d.length ≤ l.length := by omega
   have hd0 : (0 : Int) ≤ d.length := by omega
   simp (disch := omega) only [↓wpre, push_cast, seval, hh, h5, even_strs', htk, hdt, hdl, hd0]
   refine AFn.x (containsS_c G _ nz d x (by omega)) fun n5 hn5 => ?_
   by_cases h6 : 0 ≤ idxOf x 0 d
   ·simp (disch := omega) only [↓wpre, push_cast, seval, hh, h6, decide_true]
    exact fin_intro (H' := H) (by exact (Qt.mono (n := n) (by repeat (first | exact hq | refine Qt.hu ?_ (by omega))) (Nat.le_refl _)).1) ⟨_, rfl, fun h => absurd h (by decide), rfl⟩
   ·simp (disch := omega) only [↓wpre, push_cast, seval, hh, h6, decide_false]
    refine againJ (d ++ [x], r) (Nat.lt_succ_self _) ⟨by rw [hab]; simp, ?_, ?_, by exact Qt.mono (n := n) (by repeat (first | exact hq | refine Qt.hu ?_ (by omega))) (by omega), by omega⟩ (by simp (disch := omega) only [↓wpre, push_cast, seval, hh]; all_goals (try simp only [AV.lit.injEq, Value.int.injEq, Value.bool.injEq, true_and, and_true]); all_goals (try (repeat' apply And.intro)); all_goals (first | rfl | omega | simp_all | skip))
    ·intro y hy
     rcases List.mem_append.1 hy with hy | hy
     ·exact hkd y hy
     ·simp only [List.mem_singleton] at hy
      subst hy; exact key_of h5
    ·rw [List.nodup_append]
     exact ⟨hnd, by simp, fun a ha b hb e => by simp at hb; subst hb; exact h6 ((idxOf_ge _ 0 d).2 (by rw [← e]; exact ha))⟩
set_option maxHeartbeats 3200000 in
theorem rulesFault_c (hU : GU G) (r : Rls) (hs : RlsSm r) : Flt G 79 [.agg r.c] H (RulesOk r) := by
 have hG := hU.ok
 obtain ⟨hs1, ⟨hs2, hs2', hs2''⟩, hs3⟩ := hs
 obtain ⟨nzk, kinds, most, nzw, weak, nzs, srv⟩ := r
 dsimp only at hs1 hs2 hs2' hs2'' hs3
 intro n
 refine ACalls.start mix F79 (by simp) fun hlow => ?_
 have hq := Qt.refl hlow
 simp (disch := omega) only [↓wpre, push_cast, seval, c79]
 by_cases h0 : (kinds.length : Int) = 0
 ·simp (disch := omega) only [↓wpre, push_cast, seval, h0]
  exact fin_intro (H' := H) (by exact (Qt.mono (n := n) (by repeat (first | exact hq | refine Qt.hu ?_ (by omega))) (Nat.le_refl _)).1) ⟨_, rfl, fun h => absurd h (by decide), rfl⟩
 simp (disch := omega) only [↓wpre, push_cast, seval, h0]
 refine xw_loopJ (σ := List Int × List Int) (fun t => [(1, .pp (Rls.c ⟨nzk, kinds, most, nzw, weak, nzs, srv⟩)), (3, .int (t.1.getLast?.getD 0)), (16, LL nzk kinds), (17, .int kinds.length), (18, .int t.1.length)]) (fun t H' n' => kinds = t.1 ++ t.2 ∧ (∀ k ∈ t.1, 1 ≤ k ∧ k ≤ 4) ∧ t.1.Pairwise (· < ·) ∧ Qt H H' n ∧ n ≤ n') (fun t => t.2.length) ([], kinds) ⟨rfl, fun x hx => (by cases hx), .nil, (by first | exact hq | (exact Qt.mono (n := n) (by repeat (first | exact hq | refine Qt.hu ?_ (by omega))) (by omega))), by omega⟩ (by simp (disch := omega) only [↓wpre, push_cast, seval]; try rfl) ?_
 clear hq
 rintro ⟨d, rr⟩ fr H2 n2 ⟨hab, hkd, hnd, hq, hn2⟩ hh
 simp only [has_nil, has_cons, and_true] at hh hab hkd hnd
 have hll : kinds.length = d.length + rr.length := by rw [hab]; simp
 cases rr with
 | cons x rr =>
  have hlt : (d.length : Int) < kinds.length := by rw [hll]; simp only [List.length_cons]; omega
  have hx : kinds[d.length]? = some x := by rw [hab]; simp
  simp (disch := omega) only [↓wpre, push_cast, seval, hh, hlt, even_ints', aidx_at rfl hx]
  refine AFn.x (in_c G _ x 1 4) fun n4 hn4 => ?_
  by_cases h1 : within x 1 4 = true
  rotate_left
  ·simp (disch := omega) only [↓wpre, push_cast, seval, hh, h1]
   exact fin_intro (H' := H) (by exact (Qt.mono (n := n) (by repeat (first | exact hq | refine Qt.hu ?_ (by omega))) (Nat.le_refl _)).1) ⟨_, rfl, fun h => absurd h (by decide), rfl⟩
  have hx14 : 1 ≤ x ∧ x ≤ 4 := by simp only [within] at h1; simpa using h1
  have hkd2 : ∀ k ∈ d ++ [x], 1 ≤ k ∧ k ≤ 4 := fun k hk => by
   rcases List.mem_append.1 hk with hk | hk
   ·exact hkd k hk
   ·simp only [List.mem_singleton] at hk; subst hk; exact hx14
  rcases last_of d with rfl | ⟨d', p, rfl⟩
  ·have h3 : ¬ (0 : Int) < 0 := by omega
   simp (disch := omega) only [↓wpre, push_cast, seval, hh, h1, h3, List.length_nil, Int.natCast_zero]
   refine againJ ([x], rr) (Nat.lt_succ_self _) ⟨hab, hkd2, List.pairwise_singleton _ _, by exact Qt.mono (n := n) (by repeat (first | exact hq | refine Qt.hu ?_ (by omega))) (by omega), by omega⟩ (by simp (disch := omega) only [↓wpre, push_cast, seval, hh]; all_goals (try simp only [AV.lit.injEq, Value.int.injEq, Value.bool.injEq, true_and, and_true]); all_goals (try (repeat' apply And.intro)); all_goals (first | rfl | omega | simp_all | skip))
  ·have h3 : (0 : Int) < (d'.length : Int) + 1 := by omega
   have hdl : d'.length + 1 ≤ kinds.length := by have := hll; simp at this; omega
   have hgl : ((d' ++ [p]).getLast?).getD 0 = p := by simp
   rw [hgl] at hh
   by_cases h4 : x ≤ p
   ·simp (disch := omega) only [↓wpre, push_cast, seval, hh, h1, h3, h4]
    exact fin_intro (H' := H) (by exact (Qt.mono (n := n) (by repeat (first | exact hq | refine Qt.hu ?_ (by omega))) (Nat.le_refl _)).1) ⟨_, rfl, fun h => absurd h (by decide), rfl⟩
   ·simp (disch := omega) only [↓wpre, push_cast, seval, hh, h1, h3, h4]
    refine againJ ((d' ++ [p]) ++ [x], rr) (Nat.lt_succ_self _) ⟨by rw [hab]; simp, hkd2, ?_, by exact Qt.mono (n := n) (by repeat (first | exact hq | refine Qt.hu ?_ (by omega))) (by omega), by omega⟩ (by simp (disch := omega) only [↓wpre, push_cast, seval, hh]; all_goals (try simp only [AV.lit.injEq, Value.int.injEq, Value.bool.injEq, true_and, and_true]); all_goals (try (repeat' apply And.intro)); all_goals (first | rfl | omega | simp_all | skip))
    rw [List.pairwise_append]
    refine ⟨hnd, List.pairwise_singleton _ _, fun a ha b hb => ?_⟩
    simp only [List.mem_singleton] at hb
    subst hb
    rcases List.mem_append.1 ha with ha | ha
    ·have := (List.pairwise_append.1 hnd).2.2 a ha p (by simp); omega
    ·simp only [List.mem_singleton] at ha; subst ha; omega
 | nil =>
  have hlt : ¬ (d.length : Int) < kinds.length := by rw [hll]; simp
  have hdl : d = kinds := by rw [hab]; simp
  rw [hdl] at hkd hnd
  simp (disch := omega) only [↓wpre, push_cast, seval, hh, hlt]
  refine AFn.x (in_c G _ most 2 2000) fun n4 hn4 => ?_
  by_cases h1 : within most 2 2000 = true
  rotate_left
  ·simp (disch := omega) only [↓wpre, push_cast, seval, hh, h1]
   exact fin_intro (H' := H) (by exact (Qt.mono (n := n) (by repeat (first | exact hq | refine Qt.hu ?_ (by omega))) (Nat.le_refl _)).1) ⟨_, rfl, fun h => absurd h (by decide), rfl⟩
  have hmost : 2 ≤ most ∧ most ≤ 2000 := by simp only [within] at h1; simpa using h1
  by_cases h2 : (200 : Int) < weak.length
  ·simp (disch := omega) only [↓wpre, push_cast, seval, hh, h1, h2]
   exact fin_intro (H' := H) (by exact (Qt.mono (n := n) (by repeat (first | exact hq | refine Qt.hu ?_ (by omega))) (Nat.le_refl _)).1) ⟨_, rfl, fun h => absurd h (by decide), rfl⟩
  simp (disch := omega) only [↓wpre, push_cast, seval, hh, h1, h2]
  refine AFn.x (ridsFault_c G _ hG nzw weak hs1 (by omega)) fun n5 hn5 => ?_
  by_cases h3 : rIds weak = 0
  rotate_left
  ·simp (disch := omega) only [↓wpre, push_cast, seval, hh, h3]
   exact fin_intro (H' := H) (by exact (Qt.mono (n := n) (by repeat (first | exact hq | refine Qt.hu ?_ (by omega))) (Nat.le_refl _)).1) ⟨_, rfl, fun h => absurd h h3, rfl⟩
  have hweak := rIds_of h3 hs1
  by_cases h4 : (30 : Int) < srv.length
  ·simp (disch := omega) only [↓wpre, push_cast, seval, hh, h3, h4]
   exact fin_intro (H' := H) (by exact (Qt.mono (n := n) (by repeat (first | exact hq | refine Qt.hu ?_ (by omega))) (Nat.le_refl _)).1) ⟨_, rfl, fun h => absurd h (by decide), rfl⟩
  simp (disch := omega) only [↓wpre, push_cast, seval, hh, h3, h4]
  have hsome : kinds ≠ [] := fun e => h0 (by rw [e]; rfl)
  refine xw_loopJ (σ := List Srv × List Srv) (fun t => [(7, .str (match t.1.getLast? with | some p => p.name | none => ⟨#[]⟩)), (54, .ls nzs (srv.map Srv.c)), (55, .int srv.length), (56, .int t.1.length)]) (fun t H' n' => srv = t.1 ++ t.2 ∧ (∀ s ∈ t.1, SrvOk s) ∧ (t.1.Pairwise fun a b => strLt a.name b.name = true) ∧ Qt H H' n ∧ n ≤ n') (fun t => t.2.length) ([], srv) ⟨rfl, fun x hx => (by cases hx), .nil, (by first | exact hq | (exact Qt.mono (n := n) (by repeat (first | exact hq | refine Qt.hu ?_ (by omega))) (by omega))), by omega⟩ (by simp (disch := omega) only [↓wpre, push_cast, seval, hh]; try rfl) ?_
  clear hq hh hlt
  rintro ⟨e, ss⟩ fr H3 n6 ⟨hab2, hse, hpe, hq, hn6⟩ hh
  simp only [has_nil, has_cons, and_true] at hh hab2 hse hpe
  have hll2 : srv.length = e.length + ss.length := by rw [hab2]; simp
  cases ss with
  | nil =>
   have hlt : ¬ (e.length : Int) < srv.length := by rw [hll2]; simp
   have hel : e = srv := by rw [hab2]; simp
   rw [hel] at hse hpe
   simp (disch := omega) only [↓wpre, push_cast, seval, hh, hlt]
   exact fin_intro (H' := H) (by exact (Qt.mono (n := n) (by repeat (first | exact hq | refine Qt.hu ?_ (by omega))) (Nat.le_refl _)).1) ⟨_, rfl, fun _ => ⟨hsome, hkd, hnd, hmost, by dsimp only; omega, hweak, by dsimp only; omega, hse, hpe⟩, rfl⟩
  | cons x ss =>
   have hlt : (e.length : Int) < srv.length := by rw [hll2]; simp only [List.length_cons]; omega
   have hx : srv[e.length]? = some x := by rw [hab2]; simp
   have hxs := hs3 x (by rw [hab2]; simp)
   simp (disch := omega) only [↓wpre, push_cast, seval, hh, hlt, even_srv, aidx_at rfl hx]
   refine ACalls.x (ACalls.lowp (survFault_c G _ hU x (match e.getLast? with | some p => p.name | none => ⟨#[]⟩) hxs _)) fun r1 H4 n7 ⟨⟨ev, e1, he0, e2⟩, hn7, _⟩ => ?_
   subst e1 e2
   by_cases h5 : ev = 0
   rotate_left
   ·simp (disch := omega) only [↓wpre, push_cast, seval, hh, h5]
    exact fin_intro (H' := H) (by exact (Qt.mono (n := n) (by repeat (first | exact hq | refine Qt.hu ?_ (by omega))) (Nat.le_refl _)).1) ⟨_, rfl, fun h => absurd h h5, rfl⟩
   obtain ⟨hso, hsl⟩ := he0 h5
   subst h5
   simp (disch := omega) only [↓wpre, push_cast, seval, hh]
   refine againJ (e ++ [x], ss) (Nat.lt_succ_self _) ⟨by rw [hab2]; simp, ?_, ?_, by exact Qt.mono (n := n) (by repeat (first | exact hq | refine Qt.hu ?_ (by omega))) (by omega), by omega⟩ (by simp (disch := omega) only [↓wpre, push_cast, seval, hh, getLast?_snoc]; all_goals (try simp only [AV.lit.injEq, Value.int.injEq, Value.bool.injEq, true_and, and_true]); all_goals (try (repeat' apply And.intro)); all_goals (first | rfl | omega | simp_all | skip))
   ·intro s hs
    rcases List.mem_append.1 hs with hs | hs
    ·exact hse s hs
    ·simp only [List.mem_singleton] at hs; subst hs; exact hso
   ·rw [List.pairwise_append]
    refine ⟨hpe, List.pairwise_singleton _ _, fun a ha b hb => ?_⟩
    simp only [List.mem_singleton] at hb
    subst hb
    rcases last_of e with rfl | ⟨e', p, rfl⟩
    ·cases ha
    ·rw [getLast?_snoc] at hsl
     rcases List.mem_append.1 ha with ha | ha
     ·exact Co.strLt_trans ((List.pairwise_append.1 hpe).2.2 a ha p (by simp)) hsl
     ·simp only [List.mem_singleton] at ha; subst ha; exact hsl
end Go.Proofs.YtblhbafoncfhdaaGreatDoor
