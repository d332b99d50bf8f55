/- Contracts of functions of the program: each computes what its model says; the conditions stand at each. -/
import Derived.Test.YthcedgclhoggcaaGreatDoorTw62
set_option linter.unusedSimpArgs false
set_option linter.unusedVariables false
set_option maxRecDepth 20000
set_option pp.deepTerms false
set_option pp.deepTerms.threshold 3
namespace Go.Proofs.YthcedgclhoggcaaGreatDoor
open Go Go.Ab Go.Pm Go.Cm
variable (G : Nat → AV) (H : Nat → Option AObj)
/-- A slice that is owned, from k on, or nil. -/
def OwnS (k : Nat) (x : AV) (H : Nat → Option AObj) : Prop := x = .ls false [] ∨ ∃ o len rows, x = .os o 0 len ∧ H o = some ⟨43, 8, rows⟩ ∧ len ≤ rows.length ∧ Even 8 rows ∧ k ≤ o ∧ len ≤ 1000000
set_option maxHeartbeats 1600000 in
theorem askFor_run (hG : GOk G) (nzp nz want : Bool) (p : List Purpose) (l : List Stm) (x : Idn) (purpose region : T) (channel at' : Int) (hP : SmallP p) (hpl : p.length ≤ 1000000) (hS : SmallS l) (hl : l.length ≤ 17) (hr : region.size ≤ 9223372036854775807) (hx : x.text.size < 4294967281) (k : Nat) :
    ACalls Tryz.prog G 28 [.ls nzp (p.map Purpose.c), .ls nz (l.map Stm.c), .agg x.c, .str purpose, .str region, .int channel, .int at', .bool want] H k (fun r H' n' => ∃ (out : AV) (e : Int), r = .tup [out, .int e] ∧ Sub H H' ∧ OwnS k out H') := by
  refine ACalls.start mix F28 (by simp) fun hlow => ?_
  generalize hq : (⟨p, nzp, purpose, region, channel, at'⟩ : Q) = q
  have e1 : q.p = p := by rw [← hq]
  have e2 : q.nz = nzp := by rw [← hq]
  have e3 : q.purpose = purpose := by rw [← hq]
  have e4 : q.region = region := by rw [← hq]
  have e5 : q.channel = channel := by rw [← hq]
  have e6 : q.at' = at' := by rw [← hq]
  clear hq
  subst e1 e2 e3 e4 e5 e6
  have hq := Qt.refl hlow
  have hchk : ∀ H, AFn Tryz.prog G 40 [.agg q.c, .ls nz (l.map Stm.c), .int 1, .ls true [[.int x.kind, .str x.text]]] H (.int (checkAll q l 1 [x])) := fun H => by
    obtain ⟨m, cs, hGm⟩ := hG.maxLen
    exact checkAll_c G H hGm nz true q l 1 [x] hP hpl hS hr (by simp) (by simpa using hx)
  simp -dsimp -implicitDefEqProofs (disch := omega) only [↓wpre, push_cast, reduceCtorEq, ↓reduceIte, Nat.reduceEqDiff, Nat.reduceLeDiff, Nat.reduceAdd, Nat.reduceLT, Int.reduceEq, Int.reduceLT, Int.reduceLE, Int.reduceNeg, Int.reduceAdd, c28]
  refine (hchk _).x fun n1 hn1 => ?_
  by_cases h0 : checkAll q l 1 [x] = 0
  case neg =>
    simp -dsimp -implicitDefEqProofs (disch := omega) only [↓wpre, push_cast, reduceCtorEq, ↓reduceIte, Nat.reduceEqDiff, Nat.reduceLeDiff, Nat.reduceAdd, Nat.reduceLT, Int.reduceEq, Int.reduceLT, Int.reduceLE, Int.reduceNeg, Int.reduceAdd, h0]
    exact fin_intro (Sub.refl _) ⟨_, _, rfl, by exact (Qt.mono (n := k) (by repeat (first | exact hq | refine Qt.hu ?_ (by omega))) (Nat.le_refl _)).1, .inl rfl⟩
  have h1 : Cm.check q.p l = 0 := by grind [checkAll]
  have h2 : q.check = 0 := by grind [checkAll]
  have h3 := check_all h1
  have h4 := checkPolicy_all h3.1
  have h5 := qcheck_all h2
  have hsl : (saidBy l x q.channel).length ≤ 19 := by rw [saidBy, isort_length]; exact Nat.le_trans (List.length_filter_le _ _) (by omega)
  have htb : ∀ u, termOf q.p q.purpose q.region q.channel = some u → 0 ≤ u.days ∧ u.days ≤ 2000 ∧ 0 ≤ u.wait ∧ u.wait ≤ 100000 := fun u hu => by
    obtain ⟨p, hp, ht⟩ := termOf_mem hu
    exact (h4 p hp).2 u ht
  have hsb : ∀ s ∈ saidBy l x q.channel, 0 ≤ s.at' ∧ s.at' ≤ 4321439 := fun s hs => h3.2 s (saidBy_mem hs)
  simp -dsimp -implicitDefEqProofs (disch := omega) only [↓wpre, push_cast, reduceCtorEq, ↓reduceIte, Nat.reduceEqDiff, Nat.reduceLeDiff, Nat.reduceAdd, Nat.reduceLT, Int.reduceEq, Int.reduceLT, Int.reduceLE, Int.reduceNeg, Int.reduceAdd, h0]
  refine AFn.x (ask_c G _ nz q l x (by omega) hpl (fun p hp => by have := (h4 p hp).1; omega)) fun n2 hn2 => ?_
  simp -dsimp -implicitDefEqProofs (disch := omega) only [↓wpre, push_cast, reduceCtorEq, ↓reduceIte, Nat.reduceEqDiff, Nat.reduceLeDiff, Nat.reduceAdd, Nat.reduceLT, Int.reduceEq, Int.reduceLT, Int.reduceLE, Int.reduceNeg, Int.reduceAdd, lsOf]
  have hans : ∀ H, AFn Tryz.prog G 42 [.agg (askedC (termOf q.p q.purpose q.region q.channel) q.purpose (lsOf ((saidBy l x q.channel).map Stm.c))), .int q.at'] H (.agg (answer q l x q.at').c) := fun H => answer_c G H _ (termOf q.p q.purpose q.region q.channel) q.purpose (saidBy l x q.channel) q.at' (by omega) (fun u hu => by have := htb u hu; omega) (fun s hs => by have := hsb s hs; omega) (by omega)
  refine AFn.x (hans _) fun n3 hn3 => ?_
  simp -dsimp -implicitDefEqProofs (disch := omega) only [↓wpre, push_cast, reduceCtorEq, ↓reduceIte, Nat.reduceEqDiff, Nat.reduceLeDiff, Nat.reduceAdd, Nat.reduceLT, Int.reduceEq, Int.reduceLT, Int.reduceLE, Int.reduceNeg, Int.reduceAdd, true_and]
  by_cases hmw : (answer q l x q.at').may = want
  case pos =>
    simp -dsimp -implicitDefEqProofs (disch := omega) only [↓wpre, push_cast, reduceCtorEq, ↓reduceIte, Nat.reduceEqDiff, Nat.reduceLeDiff, Nat.reduceAdd, Nat.reduceLT, Int.reduceEq, Int.reduceLT, Int.reduceLE, Int.reduceNeg, Int.reduceAdd, hmw]
    exact fin_intro (Sub.refl _) ⟨_, _, rfl, by exact (Qt.mono (n := k) (by repeat (first | exact hq | refine Qt.hu ?_ (by omega))) (Nat.le_refl _)).1, .inl rfl⟩
  have hb : ((answer q l x q.at').may == want) = false := by simpa using hmw
  have hb2 : decide ((answer q l x q.at').may = want) = false := by simpa using hmw
  simp -dsimp -implicitDefEqProofs (disch := omega) only [↓wpre, push_cast, reduceCtorEq, ↓reduceIte, Nat.reduceEqDiff, Nat.reduceLeDiff, Nat.reduceAdd, Nat.reduceLT, Int.reduceEq, Int.reduceLT, Int.reduceLE, Int.reduceNeg, Int.reduceAdd, hb, hb2, hmw]
  have hnv : ∃ (nn : Nat) (nzw : Bool), True := ⟨0, true, trivial⟩
  by_cases hw : want = true ∧ (termOf q.p q.purpose q.region q.channel).isSome = false
  case pos =>
    obtain ⟨rfl, hto⟩ := hw
    simp -dsimp -implicitDefEqProofs (disch := omega) only [↓wpre, push_cast, reduceCtorEq, ↓reduceIte, Nat.reduceEqDiff, Nat.reduceLeDiff, Nat.reduceAdd, Nat.reduceLT, Int.reduceEq, Int.reduceLT, Int.reduceLE, Int.reduceNeg, Int.reduceAdd, hto]
    exact fin_intro (Sub.refl _) ⟨_, _, rfl, by exact (Qt.mono (n := k) (by repeat (first | exact hq | refine Qt.hu ?_ (by omega))) (Nat.le_refl _)).1, .inl rfl⟩
  have hwl := askWhat_len q l x want
  have hlb := lastNo_le h1
  generalize hwh : askWhat q l x want = what at hwl
  refine cnd_intro (fun hc => ?T) (fun hc => ?F)
  case' T =>
    simp -dsimp -implicitDefEqProofs (disch := omega) only [↓wpre, push_cast, reduceCtorEq, ↓reduceIte, Nat.reduceEqDiff, Nat.reduceLeDiff, Nat.reduceAdd, Nat.reduceLT, Int.reduceEq, Int.reduceLT, Int.reduceLE, Int.reduceNeg, Int.reduceAdd, true_and]
    refine cnd_nb (fun hc2 => absurd ⟨hc, hc2⟩ hw) (fun hc2 => ?_)
    simp -dsimp -implicitDefEqProofs (disch := omega) only [↓wpre, push_cast, reduceCtorEq, ↓reduceIte, Nat.reduceEqDiff, Nat.reduceLeDiff, Nat.reduceAdd, Nat.reduceLT, Int.reduceEq, Int.reduceLT, Int.reduceLE, Int.reduceNeg, Int.reduceAdd, true_and]
    have hwn : ∀ H, AFn Tryz.prog G 55 [.agg (askedC (termOf q.p q.purpose q.region q.channel) q.purpose (lsOf ((saidBy l x q.channel).map Stm.c))), .int q.at'] H (lsI what) := fun H => by
      rw [← hwh, askWhat, if_pos hc]
      exact wanted_c G H _ (termOf q.p q.purpose q.region q.channel) q.purpose (saidBy l x q.channel) q.at' (by omega) (fun u hu => by have := htb u hu; omega) (fun s hs => by have := hsb s hs; omega) (by omega)
    refine AFn.x (hwn _) fun nn hnn => ?_
    obtain ⟨nzw, hnzw⟩ : ∃ b, b = (!what.isEmpty) := ⟨_, rfl⟩
    have hwx : True := trivial
    simp -dsimp -implicitDefEqProofs (disch := omega) only [↓wpre, push_cast, reduceCtorEq, ↓reduceIte, Nat.reduceEqDiff, Nat.reduceLeDiff, Nat.reduceAdd, Nat.reduceLT, Int.reduceEq, Int.reduceLT, Int.reduceLE, Int.reduceNeg, Int.reduceAdd, lsI]
  case' F =>
    obtain rfl : what = [3] := by rw [← hwh, askWhat, if_neg (by rw [hc]; simp)]
    obtain ⟨nn, rfl⟩ : ∃ nn, nn = n3 := ⟨_, rfl⟩
    generalize hwx : [(3 : Int)] = what at hwh hwl
    obtain ⟨nzw, hnzw⟩ : ∃ b, b = true := ⟨_, rfl⟩
    skip
  all_goals
    clear hwh
    by_cases hlp : (0 : Int) < l.length
    case' pos =>
      obtain ⟨s0, hs0⟩ : ∃ s, l[l.length - 1]? = some s := ⟨l[l.length - 1]'(by omega), List.getElem?_eq_getElem (by omega)⟩
      have hln : lastNo l = s0.no := by rw [lastNo, List.getLast?_eq_getElem?, hs0]
      have hti : ((l.length : Int) - 1).toNat = l.length - 1 := by omega
      have hl1 : (l.length : Int) - 1 < l.length := by omega
      simp -dsimp -implicitDefEqProofs (disch := omega) only [↓wpre, push_cast, reduceCtorEq, ↓reduceIte, Nat.reduceEqDiff, Nat.reduceLeDiff, Nat.reduceAdd, Nat.reduceLT, Int.reduceEq, Int.reduceLT, Int.reduceLE, Int.reduceNeg, Int.reduceAdd, hlp, aidx_at _ hs0, even_stms', hl1, hti]
    case' neg =>
      have hln : lastNo l = 0 := by
        have : l = [] := List.length_eq_zero_iff.1 (by omega)
        rw [this]; rfl
      simp -dsimp -implicitDefEqProofs (disch := omega) only [↓wpre, push_cast, reduceCtorEq, ↓reduceIte, Nat.reduceEqDiff, Nat.reduceLeDiff, Nat.reduceAdd, Nat.reduceLT, Int.reduceEq, Int.reduceLT, Int.reduceLE, Int.reduceNeg, Int.reduceAdd, hlp]
  all_goals
    refine xw_loopJ (σ := List Int × List Int × Option Nat) (fun t => [(1, .ls nz (l.map Stm.c)), (3, .str q.purpose), (4, .str q.region), (5, .int q.channel), (6, .int q.at'), (7, .bool want), (10, .pp x.c), (18, .op k 0 0), (22, .int (lastNo l)), (23, outAV t.2.2 t.1.length), (70, .ls nzw (what.map IC)), (71, .int what.length), (72, .int t.1.length)]) (fun t H' n' => what = t.1 ++ t.2.1 ∧ H' k = some ⟨85, 5, [q.c]⟩ ∧ Qt H H' k ∧ nn ≤ n' ∧ OutIs nn H' t.2.2 43 8 ((mkS q x (lastNo l) t.1).map Stm.c) n' ∧ (t.1 = [] → t.2.2 = none)) (fun t => t.2.1.length) ([], what, none) ⟨rfl, by simp -dsimp -implicitDefEqProofs (disch := omega) only [↓wpre, push_cast, reduceCtorEq, ↓reduceIte, Nat.reduceEqDiff, Nat.reduceLeDiff, Nat.reduceAdd, Nat.reduceLT, Int.reduceEq, Int.reduceLT, Int.reduceLE, Int.reduceNeg, Int.reduceAdd, true_and], by exact Qt.mono (n := k) (by repeat (first | exact hq | refine Qt.hu ?_ (by omega))) (by omega), Nat.le_refl _, rfl, fun _ => rfl⟩ (by simp -dsimp -implicitDefEqProofs (disch := omega) only [↓wpre, push_cast, reduceCtorEq, ↓reduceIte, Nat.reduceEqDiff, Nat.reduceLeDiff, Nat.reduceAdd, Nat.reduceLT, Int.reduceEq, Int.reduceLT, Int.reduceLE, Int.reduceNeg, Int.reduceAdd, hln]; first | done | (subst hnzw; simp [hln, lsI, hwx, outAV]; done) | (subst hnzw; simp [hln, ← hwx, outAV]; done)) ?_
    rintro ⟨d, e, oid⟩ fr H' n5 ⟨hde, hk, hqt, hn5, ho, hon⟩ hh
    simp only [has_nil, has_cons, and_true] at hh hde hk ho hon
    have hdl : what.length = d.length + e.length := by rw [hde]; simp
    cases e with
    | cons w e =>
      have hlt : (d.length : Int) < what.length := by rw [hdl]; simp only [List.length_cons]; omega
      have hget : what[d.length]? = some w := by rw [hde]; simp
      have hq := hqt
      simp -dsimp -implicitDefEqProofs (disch := omega) only [↓wpre, push_cast, reduceCtorEq, ↓reduceIte, Nat.reduceEqDiff, Nat.reduceLeDiff, Nat.reduceAdd, Nat.reduceLT, Int.reduceEq, Int.reduceLT, Int.reduceLE, Int.reduceNeg, Int.reduceAdd, hh, hlt, even_IC, aidx_at _ hget]
      refine AFn.x (ofChannel_c G _ w) fun n6 hn6 => ?_
      have hml := mkS_len q x d (lastNo l)
      simp -dsimp -implicitDefEqProofs (disch := omega) only [↓wpre, push_cast, reduceCtorEq, ↓reduceIte, Nat.reduceEqDiff, Nat.reduceLeDiff, Nat.reduceAdd, Nat.reduceLT, Int.reduceEq, Int.reduceLT, Int.reduceLE, Int.reduceNeg, Int.reduceAdd, hh]
      have hoX : ∀ v, OutIs nn (hu H' n5 v) oid 43 8 ((mkS q x (lastNo l) d).map Stm.c) n6 := fun v => ho.hu (Nat.le_refl _) (by omega)
      have hqX : ∀ v, Qt H (dropO (hu H' n5 v) oid) k := fun v => ⟨(Qt.dropO (n0 := nn) (hoX v) (Qt.mono (n := k) (hqt.hu (by omega)) (by omega))).1, hlow⟩
      have hkX : ∀ v, dropO (hu H' n5 v) oid k = some ⟨85, 5, [q.c]⟩ := fun v => by rw [dropO_ne (hoX v) (by omega), hu_ne (by omega)]; exact hk
      have hap := mkS_app q x w d (lastNo l)
      by_cases hoc : (decide (w = 4) || decide (w = 5)) = true
      · skip
        rw [if_pos (show ofCh w = true from hoc)] at hap
        simp -dsimp -implicitDefEqProofs (disch := omega) only [↓wpre, push_cast, reduceCtorEq, ↓reduceIte, Nat.reduceEqDiff, Nat.reduceLeDiff, Nat.reduceAdd, Nat.reduceLT, Int.reduceEq, Int.reduceLT, Int.reduceLE, Int.reduceNeg, Int.reduceAdd, hoc, hh, hu_hu]
        refine xapp_out (n0 := nn) (rows := (mkS q x (lastNo l) d).map Stm.c) (hoX _) (by simp [hml]) (by intro r hr; simp at hr; subst hr; exact ⟨rfl, rfl⟩) (by simp only [List.length_map, hml]; omega) ?_
        simp -dsimp -implicitDefEqProofs (disch := omega) only [↓wpre, push_cast, reduceCtorEq, ↓reduceIte, Nat.reduceEqDiff, Nat.reduceLeDiff, Nat.reduceAdd, Nat.reduceLT, Int.reduceEq, Int.reduceLT, Int.reduceLE, Int.reduceNeg, Int.reduceAdd, hh]
        have hrw : (mkS q x (lastNo l) d).map Stm.c ++ [[AV.int (lastNo l + 1 + d.length), AV.int q.at', AV.int x.kind, AV.str x.text, AV.str ⟨#[]⟩, AV.str q.region, AV.int q.channel, AV.int w]] = (mkS q x (lastNo l) (d ++ [w])).map Stm.c := by
          rw [hap, List.map_append, show lastNo l + 1 + (d.length : Int) = lastNo l + d.length + 1 by omega]
          rfl
        rw [hrw]
        have hqv := hqX (some ⟨43, 8, [[AV.int (lastNo l + 1 + d.length), AV.int q.at', AV.int x.kind, AV.str x.text, AV.str ⟨#[]⟩, AV.str q.region, AV.int q.channel, AV.int w]]⟩)
        have hkv := hkX (some ⟨43, 8, [[AV.int (lastNo l + 1 + d.length), AV.int q.at', AV.int x.kind, AV.str x.text, AV.str ⟨#[]⟩, AV.str q.region, AV.int q.channel, AV.int w]]⟩)
        generalize dropO (hu H' n5 (some ⟨43, 8, [[AV.int (lastNo l + 1 + d.length), AV.int q.at', AV.int x.kind, AV.str x.text, AV.str ⟨#[]⟩, AV.str q.region, AV.int q.channel, AV.int w]]⟩)) oid = HX at hqv hkv ⊢
        refine againJ (d ++ [w], e, some n6) (Nat.lt_succ_self _) ⟨by rw [hde]; simp, by rw [hu_ne (by omega)]; exact hkv, hqv.hu (by omega), by (first | omega | (dsimp only; omega)), ⟨hu_same, by omega, Nat.lt_succ_self _⟩, fun h => by simp at h⟩ (by simp -dsimp -implicitDefEqProofs (disch := omega) only [↓wpre, push_cast, reduceCtorEq, ↓reduceIte, Nat.reduceEqDiff, Nat.reduceLeDiff, Nat.reduceAdd, Nat.reduceLT, Int.reduceEq, Int.reduceLT, Int.reduceLE, Int.reduceNeg, Int.reduceAdd, hh, hml]; try simp)
      · skip
        rw [if_neg (show ¬ ofCh w = true from hoc)] at hap
        simp -dsimp -implicitDefEqProofs (disch := omega) only [↓wpre, push_cast, reduceCtorEq, ↓reduceIte, Nat.reduceEqDiff, Nat.reduceLeDiff, Nat.reduceAdd, Nat.reduceLT, Int.reduceEq, Int.reduceLT, Int.reduceLE, Int.reduceNeg, Int.reduceAdd, hoc, hh, hu_hu]
        refine xapp_out (n0 := nn) (rows := (mkS q x (lastNo l) d).map Stm.c) (hoX _) (by simp [hml]) (by intro r hr; simp at hr; subst hr; exact ⟨rfl, rfl⟩) (by simp only [List.length_map, hml]; omega) ?_
        simp -dsimp -implicitDefEqProofs (disch := omega) only [↓wpre, push_cast, reduceCtorEq, ↓reduceIte, Nat.reduceEqDiff, Nat.reduceLeDiff, Nat.reduceAdd, Nat.reduceLT, Int.reduceEq, Int.reduceLT, Int.reduceLE, Int.reduceNeg, Int.reduceAdd, hh]
        have hrw : (mkS q x (lastNo l) d).map Stm.c ++ [[AV.int (lastNo l + 1 + d.length), AV.int q.at', AV.int x.kind, AV.str x.text, AV.str q.purpose, AV.str q.region, AV.int q.channel, AV.int w]] = (mkS q x (lastNo l) (d ++ [w])).map Stm.c := by
          rw [hap, List.map_append, show lastNo l + 1 + (d.length : Int) = lastNo l + d.length + 1 by omega]
          rfl
        rw [hrw]
        have hqv := hqX (some ⟨43, 8, [[AV.int (lastNo l + 1 + d.length), AV.int q.at', AV.int x.kind, AV.str x.text, AV.str q.purpose, AV.str q.region, AV.int q.channel, AV.int w]]⟩)
        have hkv := hkX (some ⟨43, 8, [[AV.int (lastNo l + 1 + d.length), AV.int q.at', AV.int x.kind, AV.str x.text, AV.str q.purpose, AV.str q.region, AV.int q.channel, AV.int w]]⟩)
        generalize dropO (hu H' n5 (some ⟨43, 8, [[AV.int (lastNo l + 1 + d.length), AV.int q.at', AV.int x.kind, AV.str x.text, AV.str q.purpose, AV.str q.region, AV.int q.channel, AV.int w]]⟩)) oid = HX at hqv hkv ⊢
        refine againJ (d ++ [w], e, some n6) (Nat.lt_succ_self _) ⟨by rw [hde]; simp, by rw [hu_ne (by omega)]; exact hkv, hqv.hu (by omega), by (first | omega | (dsimp only; omega)), ⟨hu_same, by omega, Nat.lt_succ_self _⟩, fun h => by simp at h⟩ (by simp -dsimp -implicitDefEqProofs (disch := omega) only [↓wpre, push_cast, reduceCtorEq, ↓reduceIte, Nat.reduceEqDiff, Nat.reduceLeDiff, Nat.reduceAdd, Nat.reduceLT, Int.reduceEq, Int.reduceLT, Int.reduceLE, Int.reduceNeg, Int.reduceAdd, hh, hml]; try simp)
    | nil =>
      rw [List.append_nil] at hde
      subst hde
      have hml := mkS_len q x what (lastNo l)
      have hn3 : ¬ (3000 : Int) < l.length + (what.length : Int) := by omega
      have hown : ∀ m o, n5 ≤ m → OwnS k (outAV oid what.length) (hu H' m o) ∧ OwnS k (outAV oid what.length) H' := fun m o hm => by
        cases oid with
        | none => exact ⟨.inl rfl, .inl rfl⟩
        | some q0 =>
          obtain ⟨f1, f2, f3⟩ := ho
          have f4 := even_stms (mkS q x (lastNo l) what)
          exact ⟨.inr ⟨q0, what.length, _, rfl, by rw [hu_ne (by omega)]; exact f1, by simp [hml], f4, by omega, by omega⟩, .inr ⟨q0, what.length, _, rfl, f1, by simp [hml], f4, by omega, by omega⟩⟩
      have hsrc : ∀ H2, Sub H' H2 → mkS q x (lastNo l) what ≠ [] → ∀ y ∈ [(AV.ls nz (l.map Stm.c), l), (outAV oid what.length, mkS q x (lastNo l) what)], Src H2 y := fun H2 hs hne0 y hy => by
        simp only [List.mem_cons, List.not_mem_nil, or_false] at hy
        rcases hy with rfl | rfl
        · exact ⟨by simp [alen], rfl, rfl⟩
        · cases oid with
          | none =>
            have : (mkS q x (lastNo l) what).map Stm.c = [] := ho
            exact absurd (by simpa using this) hne0
          | some q0 =>
            obtain ⟨f1, f2, f3⟩ := ho
            refine ⟨by simp [outAV, alen, hml], ?_, rfl⟩
            simp only [outAV, srcRows, hs _ _ f1]
            rw [if_pos (by simp [hml]), List.drop_zero, List.take_of_length_le (by simp [hml])]
      have hconc : ∀ H2, Sub H' H2 → AFn Tryz.prog G 29 [.ls true [[.ls nz (l.map Stm.c)], [outAV oid what.length]]] H2 (lsOf ((l ++ mkS q x (lastNo l) what).map Stm.c)) := fun H2 hs => by
        by_cases hne0 : mkS q x (lastNo l) what = []
        · have hw0 : what = [] := List.length_eq_zero_iff.1 (by rw [← hml, hne0]; rfl)
          have ho0 : outAV oid what.length = .ls false [] := by rw [hon hw0]; rfl
          have := concat_c G H2 [(nz, l), (false, [])] (by simp) (by simp [catL]; omega)
          simpa [catL, hne0, ho0] using this
        · have := concatG_c G H2 [(AV.ls nz (l.map Stm.c), l), (outAV oid what.length, mkS q x (lastNo l) what)] (hsrc H2 hs hne0) (by simp [catG]; exact fun _ => hne0) (by simp) (by simp [catG, hml]; omega)
          simpa [catG] using this
      have hal : alen (outAV oid what.length) = some (.int what.length) := by
        cases oid with
        | none =>
          have h0 : (mkS q x (lastNo l) what).map Stm.c = [] := ho
          have h0 : mkS q x (lastNo l) what = [] := by simpa using h0
          rw [h0] at hml
          rw [← hml]; rfl
        | some q0 => rfl
      have hol : (mkS q x (lastNo l) what).length ≤ 2 := by omega
      have hom : ∀ s ∈ mkS q x (lastNo l) what, s.at' = q.at' := mkS_at q x what (lastNo l)
      clear hsrc hml
      generalize mkS q x (lastNo l) what = out at hconc hol hom ho
      have hask := fun H' => ask_c G H' (!((l ++ out).map Stm.c).isEmpty) q (l ++ out) x (by rw [List.length_append]; omega) hpl (fun p hp => by have := (h4 p hp).1; omega)
      have hans2 : ∀ H', AFn Tryz.prog G 42 [.agg (askedC (termOf q.p q.purpose q.region q.channel) q.purpose (lsOf ((saidBy (l ++ out) x q.channel).map Stm.c))), .int q.at'] H' (.agg (answer q (l ++ out) x q.at').c) := fun H' => answer_c G H' _ (termOf q.p q.purpose q.region q.channel) q.purpose (saidBy (l ++ out) x q.channel) q.at' (by rw [saidBy, isort_length]; exact Nat.le_trans (List.length_filter_le _ _) (by rw [List.length_append]; omega)) (fun u hu => by have := htb u hu; omega) (fun s hs => by
        rcases List.mem_append.1 (saidBy_mem hs) with h | h
        · have := h3.2 s h; omega
        · have := hom s h; omega) (by omega)
      generalize answer q (l ++ out) x q.at' = an at hans2
      have hqm : ∀ m o, n5 ≤ m → Sub H (hu H' m o) := fun m o hm => (hqt.hu (o := o) (k := m) (by omega)).1
      simp -dsimp -implicitDefEqProofs (disch := omega) only [↓wpre, push_cast, reduceCtorEq, ↓reduceIte, Nat.reduceEqDiff, Nat.reduceLeDiff, Nat.reduceAdd, Nat.reduceLT, Int.reduceEq, Int.reduceLT, Int.reduceLE, Int.reduceNeg, Int.reduceAdd, hh]
      refine cnd_intro (fun hc => ?_) (fun hc => ?_)
      · simp -dsimp -implicitDefEqProofs (disch := omega) only [↓wpre, push_cast, reduceCtorEq, ↓reduceIte, Nat.reduceEqDiff, Nat.reduceLeDiff, Nat.reduceAdd, Nat.reduceLT, Int.reduceEq, Int.reduceLT, Int.reduceLE, Int.reduceNeg, Int.reduceAdd, hh]
        refine xareg_intro an.c rfl rfl ?_
        simp -dsimp -implicitDefEqProofs (disch := omega) only [↓wpre, push_cast, reduceCtorEq, ↓reduceIte, Nat.reduceEqDiff, Nat.reduceLeDiff, Nat.reduceAdd, Nat.reduceLT, Int.reduceEq, Int.reduceLT, Int.reduceLE, Int.reduceNeg, Int.reduceAdd, hh, hk, lsOf]
        refine xfnA_intro (fun H2 hs => hconc H2 hs) ?_
        simp -dsimp -implicitDefEqProofs (disch := omega) only [↓wpre, push_cast, reduceCtorEq, ↓reduceIte, Nat.reduceEqDiff, Nat.reduceLeDiff, Nat.reduceAdd, Nat.reduceLT, Int.reduceEq, Int.reduceLT, Int.reduceLE, Int.reduceNeg, Int.reduceAdd, hh, hk, lsOf]
        refine xfnA_intro (fun H' _ => hask H') ?_
        simp -dsimp -implicitDefEqProofs (disch := omega) only [↓wpre, push_cast, reduceCtorEq, ↓reduceIte, Nat.reduceEqDiff, Nat.reduceLeDiff, Nat.reduceAdd, Nat.reduceLT, Int.reduceEq, Int.reduceLT, Int.reduceLE, Int.reduceNeg, Int.reduceAdd, hh, hk]
        refine xfnA_intro (fun H' _ => hans2 H') ?_
        simp -dsimp -implicitDefEqProofs (disch := omega) only [↓wpre, push_cast, reduceCtorEq, ↓reduceIte, Nat.reduceEqDiff, Nat.reduceLeDiff, Nat.reduceAdd, Nat.reduceLT, Int.reduceEq, Int.reduceLT, Int.reduceLE, Int.reduceNeg, Int.reduceAdd, hh, hk]
        refine anyM_intro fun m n6 hm1 hn6 => ?_
        by_cases hmy : an.may = true
        · simp -dsimp -implicitDefEqProofs (disch := omega) only [↓wpre, push_cast, reduceCtorEq, ↓reduceIte, Nat.reduceEqDiff, Nat.reduceLeDiff, Nat.reduceAdd, Nat.reduceLT, Int.reduceEq, Int.reduceLT, Int.reduceLE, Int.reduceNeg, Int.reduceAdd, hh, hmy]
          simp -dsimp -implicitDefEqProofs (disch := omega) only [↓wpre, push_cast, reduceCtorEq, ↓reduceIte, Nat.reduceEqDiff, Nat.reduceLeDiff, Nat.reduceAdd, Nat.reduceLT, Int.reduceEq, Int.reduceLT, Int.reduceLE, Int.reduceNeg, Int.reduceAdd, hh, lsOf, hal, hn3]
          by_cases hfu : (1000000 : Int) < lastNo l + what.length
          · simp -dsimp -implicitDefEqProofs (disch := omega) only [↓wpre, push_cast, reduceCtorEq, ↓reduceIte, Nat.reduceEqDiff, Nat.reduceLeDiff, Nat.reduceAdd, Nat.reduceLT, Int.reduceEq, Int.reduceLT, Int.reduceLE, Int.reduceNeg, Int.reduceAdd, hfu, hh, hal]
            exact fin_intro (Sub.refl _) ⟨_, _, rfl, hqm m _ hm1, .inl rfl⟩
          · simp -dsimp -implicitDefEqProofs (disch := omega) only [↓wpre, push_cast, reduceCtorEq, ↓reduceIte, Nat.reduceEqDiff, Nat.reduceLeDiff, Nat.reduceAdd, Nat.reduceLT, Int.reduceEq, Int.reduceLT, Int.reduceLE, Int.reduceNeg, Int.reduceAdd, hfu, hh, hal]
            exact fin_intro (Sub.refl _) ⟨_, _, rfl, hqm m _ hm1, (hown m _ hm1).1⟩
        · have hmy : an.may = false := by simpa using hmy
          by_cases hwy : an.why = 8
          · simp -dsimp -implicitDefEqProofs (disch := omega) only [↓wpre, push_cast, reduceCtorEq, ↓reduceIte, Nat.reduceEqDiff, Nat.reduceLeDiff, Nat.reduceAdd, Nat.reduceLT, Int.reduceEq, Int.reduceLT, Int.reduceLE, Int.reduceNeg, Int.reduceAdd, hh, hmy, hwy]
            simp -dsimp -implicitDefEqProofs (disch := omega) only [↓wpre, push_cast, reduceCtorEq, ↓reduceIte, Nat.reduceEqDiff, Nat.reduceLeDiff, Nat.reduceAdd, Nat.reduceLT, Int.reduceEq, Int.reduceLT, Int.reduceLE, Int.reduceNeg, Int.reduceAdd, hh, lsOf, hal, hn3]
            by_cases hfu : (1000000 : Int) < lastNo l + what.length
            · simp -dsimp -implicitDefEqProofs (disch := omega) only [↓wpre, push_cast, reduceCtorEq, ↓reduceIte, Nat.reduceEqDiff, Nat.reduceLeDiff, Nat.reduceAdd, Nat.reduceLT, Int.reduceEq, Int.reduceLT, Int.reduceLE, Int.reduceNeg, Int.reduceAdd, hfu, hh, hal]
              exact fin_intro (Sub.refl _) ⟨_, _, rfl, hqm m _ hm1, .inl rfl⟩
            · simp -dsimp -implicitDefEqProofs (disch := omega) only [↓wpre, push_cast, reduceCtorEq, ↓reduceIte, Nat.reduceEqDiff, Nat.reduceLeDiff, Nat.reduceAdd, Nat.reduceLT, Int.reduceEq, Int.reduceLT, Int.reduceLE, Int.reduceNeg, Int.reduceAdd, hfu, hh, hal]
              exact fin_intro (Sub.refl _) ⟨_, _, rfl, hqm m _ hm1, (hown m _ hm1).1⟩
          · simp -dsimp -implicitDefEqProofs (disch := omega) only [↓wpre, push_cast, reduceCtorEq, ↓reduceIte, Nat.reduceEqDiff, Nat.reduceLeDiff, Nat.reduceAdd, Nat.reduceLT, Int.reduceEq, Int.reduceLT, Int.reduceLE, Int.reduceNeg, Int.reduceAdd, hh, hmy, hwy]
            exact fin_intro (Sub.refl _) ⟨_, _, rfl, hqm m _ hm1, .inl rfl⟩
      · simp -dsimp -implicitDefEqProofs (disch := omega) only [↓wpre, push_cast, reduceCtorEq, ↓reduceIte, Nat.reduceEqDiff, Nat.reduceLeDiff, Nat.reduceAdd, Nat.reduceLT, Int.reduceEq, Int.reduceLT, Int.reduceLE, Int.reduceNeg, Int.reduceAdd, hh, lsOf, hal, hn3]
        by_cases hfu : (1000000 : Int) < lastNo l + what.length
        · simp -dsimp -implicitDefEqProofs (disch := omega) only [↓wpre, push_cast, reduceCtorEq, ↓reduceIte, Nat.reduceEqDiff, Nat.reduceLeDiff, Nat.reduceAdd, Nat.reduceLT, Int.reduceEq, Int.reduceLT, Int.reduceLE, Int.reduceNeg, Int.reduceAdd, hfu, hh, hal]
          exact fin_intro (Sub.refl _) ⟨_, _, rfl, hqt.1, .inl rfl⟩
        · simp -dsimp -implicitDefEqProofs (disch := omega) only [↓wpre, push_cast, reduceCtorEq, ↓reduceIte, Nat.reduceEqDiff, Nat.reduceLeDiff, Nat.reduceAdd, Nat.reduceLT, Int.reduceEq, Int.reduceLT, Int.reduceLE, Int.reduceNeg, Int.reduceAdd, hfu, hh, hal]
          exact fin_intro (Sub.refl _) ⟨_, _, rfl, hqt.1, (hown n5 none (Nat.le_refl _)).2⟩
end Go.Proofs.YthcedgclhoggcaaGreatDoor

