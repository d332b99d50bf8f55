/- Contracts of functions of the program: each computes what its model says; the conditions stand at each. -/
import Derived.Test.YthcedgclhoggcaaGreatDoorA5
import Derived.Test.YthcedgclhoggcaaGreatDoorCl2
import Derived.Test.YthcedgclhoggcaaGreatDoorTw45
set_option linter.unusedSimpArgs false
set_option linter.unusedVariables false
set_option maxRecDepth 20000
set_option pp.deepTerms false
set_option pp.deepTerms.threshold 3
namespace Go.Proofs.YthcedgclhoggcaaGreatDoor
open Go Go.Ab Go.Pm Go.Cm
variable (G : Nat → AV) (H : Nat → Option AObj)
/-! Ask. -/
def mkS (q : Q) (x : Idn) (k : Int) : List Int → List Stm
  | [] => []
  | w :: r => ⟨k + 1, q.at', x, if ofCh w = true then ⟨#[]⟩ else q.purpose, q.region, q.channel, w⟩ :: mkS q x (k + 1) r
theorem mkS_app (q : Q) (x : Idn) (w : Int) : ∀ (d : List Int) (k : Int), mkS q x k (d ++ [w]) = mkS q x k d ++ [⟨k + d.length + 1, q.at', x, if ofCh w = true then ⟨#[]⟩ else q.purpose, q.region, q.channel, w⟩]
  | [], k => by simp [mkS]
  | y :: d, k => by
    simp only [List.cons_append, mkS, mkS_app q x w d]
    congr 3
    rw [show k + 1 + (d.length : Int) = k + ((d.length + 1 : Nat) : Int) by omega]
    rfl
theorem mkS_len (q : Q) (x : Idn) : ∀ (d : List Int) (k : Int), (mkS q x k d).length = d.length
  | [], k => rfl
  | y :: d, k => by simp [mkS, mkS_len q x d]
theorem mkS_at (q : Q) (x : Idn) : ∀ (d : List Int) (k : Int), ∀ s ∈ mkS q x k d, s.at' = q.at'
  | [], k, s, h => by simp [mkS] at h
  | w :: d, k, s, h => by
    simp only [mkS] at h
    rcases List.mem_cons.1 h with rfl | h
    · rfl
    · exact mkS_at q x d _ s h
def lastNo (l : List Stm) : Int := match l.getLast? with
  | some s => s.no
  | none => 0
def askWhat (q : Q) (l : List Stm) (x : Idn) (want : Bool) : List Int := if want = true then wantedL (termOf q.p q.purpose q.region q.channel) q.purpose (saidBy l x q.channel) q.at' else [3]
def askFor (q : Q) (l : List Stm) (x : Idn) (want : Bool) : List Stm × Int :=
  if checkAll q l 1 [x] ≠ 0 then ([], checkAll q l 1 [x])
  else if (answer q l x q.at').may = want then ([], 0)
  else if want = true ∧ (termOf q.p q.purpose q.region q.channel).isSome = false then ([], 16)
  else
    let out := mkS q x (lastNo l) (askWhat q l x want)
    if want = true ∧ (answer q (l ++ out) x q.at').may = false ∧ (answer q (l ++ out) x q.at').why ≠ 8 then ([], 13)
    else if 3000 < l.length + out.length ∨ 1000000 < lastNo l + out.length then ([], 12)
    else (out, 0)
theorem wantedL_len (t : Option Term) (pu : T) (l : List Stm) (a : Int) : (wantedL t pu l a).length ≤ 2 := by
  unfold wantedL; split <;> split <;> simp
theorem askWhat_len (q : Q) (l : List Stm) (x : Idn) (want : Bool) : (askWhat q l x want).length ≤ 2 := by
  unfold askWhat; split
  · exact wantedL_len _ _ _ _
  · simp
theorem check_no {ps : List Purpose} {l : List Stm} (h : Cm.check ps l = 0) : ∀ s ∈ l, 1 ≤ s.no ∧ s.no ≤ 1000000 := by
  rw [Cm.check] at h
  split at h
  · rename_i h1; exact absurd h h1
  · split at h
    · simp at h
    · intro s hs
      obtain ⟨p, hp⟩ := checkGo_all ps _ _ h s hs
      have : Pm.within s.no 1 1000000 = true := by cases p <;> grind [stmErr]
      simpa only [Pm.within, Bool.and_eq_true, decide_eq_true_eq] using this
theorem lastNo_le {ps : List Purpose} {l : List Stm} (h : Cm.check ps l = 0) : 0 ≤ lastNo l ∧ lastNo l ≤ 1000000 := by
  unfold lastNo
  split
  · rename_i s hs
    have := check_no h s (List.mem_of_getLast? hs)
    omega
  · omega
theorem upd_v {f : Nat → AV} {c i : Nat} {v : AV} : upd f c v i = if i = c then v else f i := rfl
theorem even_IC (l : List Int) : Even 1 (l.map IC) = True := eq_true fun r hr => by
  obtain ⟨s, _, rfl⟩ := List.mem_map.1 hr
  exact ⟨rfl, rfl⟩
theorem againF {σ : Type} {J : σ → List (Nat × AV)} {inv : σ → (Nat → Option AObj) → Nat → Prop} {m : σ → Nat} {k n : Nat} {fr : Nat → AV} {u : Wit (LI J inv m)} {H : Nat → Option AObj} (D : Nat → Option AObj) (kk c : Nat) (s : σ) (H' : Nat → Option AObj) (hm : m s < k) (hd : Sub D H) (hno : ∀ i o, D i = some o → H' i = none)
    (hH : ∀ i o', H' i = some o' → H i = some o') (hi : inv s H' n) (hf : Has (upd fr c (frz D kk (fr c))) (J s)) : again (LI J inv m) u k ⟨fr, H, n⟩ :=
  ⟨m s, hm, ⟨upd fr c (frz D kk (fr c)), H', n⟩, .inr ⟨D, kk, hd, hno, rfl, fun s => by
    by_cases h : s = c
    · subst h; exact .inr (.inr (by simp [upd]))
    · exact .inl (by simp [upd, h]), fun i o' h => ⟨o', hH i o' h, rfl, rfl, .inl rfl⟩⟩, s, rfl, hi, hf⟩
set_option maxHeartbeats 1600000 in
theorem askFor_c (hG : GOk G) (nzp nz want : Bool) (p : List Purpose) (l : List Stm) (x : Idn) (purpose region : T) (channel at' : Int) (hP : SmallP p) (hpl : p.length ≤ 1000000) (hS : SmallS l) (hl : l.length ≤ 17) (hr : region.size ≤ 9223372036854775807) (hx : x.text.size < 4294967281) :
    AFn Tryz.prog G 28 [.ls nzp (p.map Purpose.c), .ls nz (l.map Stm.c), .agg x.c, .str purpose, .str region, .int channel, .int at', .bool want] H (.tup [lsOf ((askFor ⟨p, nzp, purpose, region, channel, at'⟩ l x want).1.map Stm.c), .int (askFor ⟨p, nzp, purpose, region, channel, at'⟩ l x want).2]) := by
  refine AFn.start mix F28 (by simp) fun k hlow => ?_
  generalize hq : (⟨p, nzp, purpose, region, channel, at'⟩ : Q) = q
  have e1 : q.p = p := by rw [← hq]
  have e2 : q.nz = nzp := by rw [← hq]
  have e3 : q.purpose = purpose := by rw [← hq]
  have e4 : q.region = region := by rw [← hq]
  have e5 : q.channel = channel := by rw [← hq]
  have e6 : q.at' = at' := by rw [← hq]
  clear hq
  subst e1 e2 e3 e4 e5 e6
  have hq := Qt.refl hlow
  have hchk : ∀ H, AFn Tryz.prog G 40 [.agg q.c, .ls nz (l.map Stm.c), .int 1, .ls true [[.int x.kind, .str x.text]]] H (.int (checkAll q l 1 [x])) := fun H => by
    obtain ⟨m, cs, hGm⟩ := hG.maxLen
    exact checkAll_c G H hGm nz true q l 1 [x] hP hpl hS hr (by simp) (by simpa using hx)
  simp -dsimp -implicitDefEqProofs (disch := omega) only [↓wpre, ↓wmap, push_cast, reduceCtorEq, ↓reduceIte, Nat.reduceEqDiff, Nat.reduceLeDiff, Nat.reduceAdd, Nat.reduceMul, Nat.reduceMod, Nat.reduceSub, Nat.reduceLT, Int.reduceEq, Int.reduceLT, Int.reduceLE, Int.reduceNeg, Int.reduceAdd, Int.reduceSub, c28]
  refine (hchk _).x fun n1 hn1 => ?_
  by_cases h0 : checkAll q l 1 [x] = 0
  case neg =>
    simp -dsimp -implicitDefEqProofs (disch := omega) only [↓wpre, ↓wmap, push_cast, reduceCtorEq, ↓reduceIte, Nat.reduceEqDiff, Nat.reduceLeDiff, Nat.reduceAdd, Nat.reduceMul, Nat.reduceMod, Nat.reduceSub, Nat.reduceLT, Int.reduceEq, Int.reduceLT, Int.reduceLE, Int.reduceNeg, Int.reduceAdd, Int.reduceSub, h0]
    exact ⟨by rw [askFor, if_pos (by simpa using h0)]; rfl, by exact (Qt.mono (n := k) (by repeat (first | exact hq | refine Qt.hu ?_ (by omega))) (Nat.le_refl _)).1⟩
  have h1 : Cm.check q.p l = 0 := by grind [checkAll]
  have h2 : q.check = 0 := by grind [checkAll]
  have h3 := check_all h1
  have h4 := checkPolicy_all h3.1
  have h5 := qcheck_all h2
  have hsl : (saidBy l x q.channel).length ≤ 19 := by rw [saidBy, isort_length]; exact Nat.le_trans (List.length_filter_le _ _) (by omega)
  have htb : ∀ u, termOf q.p q.purpose q.region q.channel = some u → 0 ≤ u.days ∧ u.days ≤ 2000 ∧ 0 ≤ u.wait ∧ u.wait ≤ 100000 := fun u hu => by
    obtain ⟨p, hp, ht⟩ := termOf_mem hu
    exact (h4 p hp).2 u ht
  have hsb : ∀ s ∈ saidBy l x q.channel, 0 ≤ s.at' ∧ s.at' ≤ 4321439 := fun s hs => h3.2 s (saidBy_mem hs)
  simp -dsimp -implicitDefEqProofs (disch := omega) only [↓wpre, ↓wmap, push_cast, reduceCtorEq, ↓reduceIte, Nat.reduceEqDiff, Nat.reduceLeDiff, Nat.reduceAdd, Nat.reduceMul, Nat.reduceMod, Nat.reduceSub, Nat.reduceLT, Int.reduceEq, Int.reduceLT, Int.reduceLE, Int.reduceNeg, Int.reduceAdd, Int.reduceSub, h0]
  refine AFn.x (ask_c G _ nz q l x (by omega) hpl (fun p hp => by have := (h4 p hp).1; omega)) fun n2 hn2 => ?_
  simp -dsimp -implicitDefEqProofs (disch := omega) only [↓wpre, ↓wmap, push_cast, reduceCtorEq, ↓reduceIte, Nat.reduceEqDiff, Nat.reduceLeDiff, Nat.reduceAdd, Nat.reduceMul, Nat.reduceMod, Nat.reduceSub, Nat.reduceLT, Int.reduceEq, Int.reduceLT, Int.reduceLE, Int.reduceNeg, Int.reduceAdd, Int.reduceSub, lsOf]
  have hans : ∀ H, AFn Tryz.prog G 42 [.agg (askedC (termOf q.p q.purpose q.region q.channel) q.purpose (lsOf ((saidBy l x q.channel).map Stm.c))), .int q.at'] H (.agg (answer q l x q.at').c) := fun H => answer_c G H _ (termOf q.p q.purpose q.region q.channel) q.purpose (saidBy l x q.channel) q.at' (by omega) (fun u hu => by have := htb u hu; omega) (fun s hs => by have := hsb s hs; omega) (by omega)
  refine AFn.x (hans _) fun n3 hn3 => ?_
  simp -dsimp -implicitDefEqProofs (disch := omega) only [↓wpre, ↓wmap, push_cast, reduceCtorEq, ↓reduceIte, Nat.reduceEqDiff, Nat.reduceLeDiff, Nat.reduceAdd, Nat.reduceMul, Nat.reduceMod, Nat.reduceSub, Nat.reduceLT, Int.reduceEq, Int.reduceLT, Int.reduceLE, Int.reduceNeg, Int.reduceAdd, Int.reduceSub, true_and]
  by_cases hmw : (answer q l x q.at').may = want
  case pos =>
    simp -dsimp -implicitDefEqProofs (disch := omega) only [↓wpre, ↓wmap, push_cast, reduceCtorEq, ↓reduceIte, Nat.reduceEqDiff, Nat.reduceLeDiff, Nat.reduceAdd, Nat.reduceMul, Nat.reduceMod, Nat.reduceSub, Nat.reduceLT, Int.reduceEq, Int.reduceLT, Int.reduceLE, Int.reduceNeg, Int.reduceAdd, Int.reduceSub, hmw]
    exact ⟨by rw [askFor, if_neg (by simpa using h0), if_pos hmw]; rfl, by exact (Qt.mono (n := k) (by repeat (first | exact hq | refine Qt.hu ?_ (by omega))) (Nat.le_refl _)).1⟩
  have hb : ((answer q l x q.at').may == want) = false := by simpa using hmw
  have hb2 : decide ((answer q l x q.at').may = want) = false := by simpa using hmw
  have haf : ∀ e, askFor q l x want = e ↔ (if want = true ∧ (termOf q.p q.purpose q.region q.channel).isSome = false then ([], 16) else
    let out := mkS q x (lastNo l) (askWhat q l x want)
    if want = true ∧ (answer q (l ++ out) x q.at').may = false ∧ (answer q (l ++ out) x q.at').why ≠ 8 then ([], 13)
    else if 3000 < l.length + out.length ∨ 1000000 < lastNo l + out.length then ([], 12)
    else (out, 0)) = e := fun e => by rw [askFor, if_neg (by simpa using h0), if_neg hmw]
  simp -dsimp -implicitDefEqProofs (disch := omega) only [↓wpre, ↓wmap, push_cast, reduceCtorEq, ↓reduceIte, Nat.reduceEqDiff, Nat.reduceLeDiff, Nat.reduceAdd, Nat.reduceMul, Nat.reduceMod, Nat.reduceSub, Nat.reduceLT, Int.reduceEq, Int.reduceLT, Int.reduceLE, Int.reduceNeg, Int.reduceAdd, Int.reduceSub, hb, hb2, hmw]
  have hnv : ∃ (nn : Nat) (nzw : Bool), True := ⟨0, true, trivial⟩
  by_cases hw : want = true ∧ (termOf q.p q.purpose q.region q.channel).isSome = false
  case pos =>
    obtain ⟨rfl, hto⟩ := hw
    simp -dsimp -implicitDefEqProofs (disch := omega) only [↓wpre, ↓wmap, push_cast, reduceCtorEq, ↓reduceIte, Nat.reduceEqDiff, Nat.reduceLeDiff, Nat.reduceAdd, Nat.reduceMul, Nat.reduceMod, Nat.reduceSub, Nat.reduceLT, Int.reduceEq, Int.reduceLT, Int.reduceLE, Int.reduceNeg, Int.reduceAdd, Int.reduceSub, hto]
    exact ⟨by rw [(haf ([], 16)).2 (by rw [if_pos ⟨rfl, hto⟩])]; rfl, by exact (Qt.mono (n := k) (by repeat (first | exact hq | refine Qt.hu ?_ (by omega))) (Nat.le_refl _)).1⟩
  have haf2 : ∀ e, askFor q l x want = e ↔ (let out := mkS q x (lastNo l) (askWhat q l x want)
    if want = true ∧ (answer q (l ++ out) x q.at').may = false ∧ (answer q (l ++ out) x q.at').why ≠ 8 then ([], 13)
    else if 3000 < l.length + out.length ∨ 1000000 < lastNo l + out.length then ([], 12)
    else (out, 0)) = e := fun e => by rw [haf, if_neg hw]
  have hwl := askWhat_len q l x want
  have hlb := lastNo_le h1
  generalize hwh : askWhat q l x want = what at haf2 hwl
  refine cnd_intro (fun hc => ?T) (fun hc => ?F)
  case' T =>
    simp -dsimp -implicitDefEqProofs (disch := omega) only [↓wpre, ↓wmap, push_cast, reduceCtorEq, ↓reduceIte, Nat.reduceEqDiff, Nat.reduceLeDiff, Nat.reduceAdd, Nat.reduceMul, Nat.reduceMod, Nat.reduceSub, Nat.reduceLT, Int.reduceEq, Int.reduceLT, Int.reduceLE, Int.reduceNeg, Int.reduceAdd, Int.reduceSub, true_and]
    refine cnd_nb (fun hc2 => absurd ⟨hc, hc2⟩ hw) (fun hc2 => ?_)
    simp -dsimp -implicitDefEqProofs (disch := omega) only [↓wpre, ↓wmap, push_cast, reduceCtorEq, ↓reduceIte, Nat.reduceEqDiff, Nat.reduceLeDiff, Nat.reduceAdd, Nat.reduceMul, Nat.reduceMod, Nat.reduceSub, Nat.reduceLT, Int.reduceEq, Int.reduceLT, Int.reduceLE, Int.reduceNeg, Int.reduceAdd, Int.reduceSub, true_and]
    have hwn : ∀ H, AFn Tryz.prog G 55 [.agg (askedC (termOf q.p q.purpose q.region q.channel) q.purpose (lsOf ((saidBy l x q.channel).map Stm.c))), .int q.at'] H (lsI what) := fun H => by
      rw [← hwh, askWhat, if_pos hc]
      exact wanted_c G H _ (termOf q.p q.purpose q.region q.channel) q.purpose (saidBy l x q.channel) q.at' (by omega) (fun u hu => by have := htb u hu; omega) (fun s hs => by have := hsb s hs; omega) (by omega)
    refine AFn.x (hwn _) fun nn hnn => ?_
    obtain ⟨nzw, hnzw⟩ : ∃ b, b = (!what.isEmpty) := ⟨_, rfl⟩
    have hwx : True := trivial
    simp -dsimp -implicitDefEqProofs (disch := omega) only [↓wpre, ↓wmap, push_cast, reduceCtorEq, ↓reduceIte, Nat.reduceEqDiff, Nat.reduceLeDiff, Nat.reduceAdd, Nat.reduceMul, Nat.reduceMod, Nat.reduceSub, Nat.reduceLT, Int.reduceEq, Int.reduceLT, Int.reduceLE, Int.reduceNeg, Int.reduceAdd, Int.reduceSub, lsI]
  case' F =>
    obtain rfl : what = [3] := by rw [← hwh, askWhat, if_neg (by rw [hc]; simp)]
    obtain ⟨nn, rfl⟩ : ∃ nn, nn = n3 := ⟨_, rfl⟩
    generalize hwx : [(3 : Int)] = what at hwh haf2 hwl
    obtain ⟨nzw, hnzw⟩ : ∃ b, b = true := ⟨_, rfl⟩
    skip
  all_goals
    clear hwh
    by_cases hlp : (0 : Int) < l.length
    case' pos =>
      obtain ⟨s0, hs0⟩ : ∃ s, l[l.length - 1]? = some s := ⟨l[l.length - 1]'(by omega), List.getElem?_eq_getElem (by omega)⟩
      have hln : lastNo l = s0.no := by rw [lastNo, List.getLast?_eq_getElem?, hs0]
      have hti : ((l.length : Int) - 1).toNat = l.length - 1 := by omega
      have hl1 : (l.length : Int) - 1 < l.length := by omega
      simp -dsimp -implicitDefEqProofs (disch := omega) only [↓wpre, ↓wmap, push_cast, reduceCtorEq, ↓reduceIte, Nat.reduceEqDiff, Nat.reduceLeDiff, Nat.reduceAdd, Nat.reduceMul, Nat.reduceMod, Nat.reduceSub, Nat.reduceLT, Int.reduceEq, Int.reduceLT, Int.reduceLE, Int.reduceNeg, Int.reduceAdd, Int.reduceSub, hlp, aidx_at _ hs0, even_stms', hl1, hti]
    case' neg =>
      have hln : lastNo l = 0 := by
        have : l = [] := List.length_eq_zero_iff.1 (by omega)
        rw [this]; rfl
      simp -dsimp -implicitDefEqProofs (disch := omega) only [↓wpre, ↓wmap, push_cast, reduceCtorEq, ↓reduceIte, Nat.reduceEqDiff, Nat.reduceLeDiff, Nat.reduceAdd, Nat.reduceMul, Nat.reduceMod, Nat.reduceSub, Nat.reduceLT, Int.reduceEq, Int.reduceLT, Int.reduceLE, Int.reduceNeg, Int.reduceAdd, Int.reduceSub, hlp]
  all_goals
    refine xw_loopJ (σ := List Int × List Int × AV) (fun t => [(1, .ls nz (l.map Stm.c)), (3, .str q.purpose), (4, .str q.region), (5, .int q.channel), (6, .int q.at'), (7, .bool want), (10, .pp x.c), (18, .op k 0 0), (22, .int (lastNo l)), (23, t.2.2), (70, .ls nzw (what.map IC)), (71, .int what.length), (72, .int t.1.length)]) (fun t H' n' => what = t.1 ++ t.2.1 ∧ H' k = some ⟨85, 5, [q.c]⟩ ∧ Qt H H' k ∧ nn ≤ n' ∧ ((t.2.1 = [] ∧ t.2.2 = lsOf ((mkS q x (lastNo l) t.1).map Stm.c)) ∨ (t.2.1 ≠ [] ∧ ∃ oid, t.2.2 = outAV oid t.1.length ∧ OutIs nn H' oid 43 8 ((mkS q x (lastNo l) t.1).map Stm.c) n'))) (fun t => t.2.1.length) ([], what, .ls false []) ⟨rfl, by simp -dsimp -implicitDefEqProofs (disch := omega) only [↓wpre, ↓wmap, push_cast, reduceCtorEq, ↓reduceIte, Nat.reduceEqDiff, Nat.reduceLeDiff, Nat.reduceAdd, Nat.reduceMul, Nat.reduceMod, Nat.reduceSub, Nat.reduceLT, Int.reduceEq, Int.reduceLT, Int.reduceLE, Int.reduceNeg, Int.reduceAdd, Int.reduceSub, true_and], by exact Qt.mono (n := k) (by repeat (first | exact hq | refine Qt.hu ?_ (by omega))) (by omega), Nat.le_refl _, by
      cases hx : what with
      | nil => exact .inl ⟨rfl, rfl⟩
      | cons => exact .inr ⟨by simp, none, rfl, rfl⟩⟩ (by simp -dsimp -implicitDefEqProofs (disch := omega) only [↓wpre, ↓wmap, push_cast, reduceCtorEq, ↓reduceIte, Nat.reduceEqDiff, Nat.reduceLeDiff, Nat.reduceAdd, Nat.reduceMul, Nat.reduceMod, Nat.reduceSub, Nat.reduceLT, Int.reduceEq, Int.reduceLT, Int.reduceLE, Int.reduceNeg, Int.reduceAdd, Int.reduceSub, hln]; first | done | (subst hnzw; simp [hln, lsI, hwx]; done) | (subst hnzw; simp [hln, ← hwx]; done)) ?_
    rintro ⟨d, e, oa⟩ fr H' n5 ⟨hde, hk, hqt, hn5, hoa⟩ hh
    simp only [has_nil, has_cons, and_true] at hh hde hk hoa
    have hdl : what.length = d.length + e.length := by rw [hde]; simp
    cases e with
    | cons w e =>
      have hlt : (d.length : Int) < what.length := by rw [hdl]; simp only [List.length_cons]; omega
      have hget : what[d.length]? = some w := by rw [hde]; simp
      rcases hoa with ⟨hf, _⟩ | ⟨_, oid, rfl, ho⟩
      · simp at hf
      have hq := hqt
      simp -dsimp -implicitDefEqProofs (disch := omega) only [↓wpre, ↓wmap, push_cast, reduceCtorEq, ↓reduceIte, Nat.reduceEqDiff, Nat.reduceLeDiff, Nat.reduceAdd, Nat.reduceMul, Nat.reduceMod, Nat.reduceSub, Nat.reduceLT, Int.reduceEq, Int.reduceLT, Int.reduceLE, Int.reduceNeg, Int.reduceAdd, Int.reduceSub, hh, hlt, even_IC, aidx_at _ hget]
      refine AFn.x (ofChannel_c G _ w) fun n6 hn6 => ?_
      have hml := mkS_len q x d (lastNo l)
      simp -dsimp -implicitDefEqProofs (disch := omega) only [↓wpre, ↓wmap, push_cast, reduceCtorEq, ↓reduceIte, Nat.reduceEqDiff, Nat.reduceLeDiff, Nat.reduceAdd, Nat.reduceMul, Nat.reduceMod, Nat.reduceSub, Nat.reduceLT, Int.reduceEq, Int.reduceLT, Int.reduceLE, Int.reduceNeg, Int.reduceAdd, Int.reduceSub, hh]
      have hoX : ∀ v, OutIs nn (hu H' n5 v) oid 43 8 ((mkS q x (lastNo l) d).map Stm.c) n6 := fun v => ho.hu (Nat.le_refl _) (by omega)
      have hqX : ∀ v, Qt H (dropO (hu H' n5 v) oid) k := fun v => ⟨(Qt.dropO (n0 := nn) (hoX v) (Qt.mono (n := k) (hqt.hu (by omega)) (by omega))).1, hlow⟩
      have hkX : ∀ v, dropO (hu H' n5 v) oid k = some ⟨85, 5, [q.c]⟩ := fun v => by rw [dropO_ne (hoX v) (by omega), hu_ne (by omega)]; exact hk
      have hap := mkS_app q x w d (lastNo l)
      by_cases hoc : (decide (w = 4) || decide (w = 5)) = true
      · skip
        rw [if_pos (show ofCh w = true from hoc)] at hap
        simp -dsimp -implicitDefEqProofs (disch := omega) only [↓wpre, ↓wmap, push_cast, reduceCtorEq, ↓reduceIte, Nat.reduceEqDiff, Nat.reduceLeDiff, Nat.reduceAdd, Nat.reduceMul, Nat.reduceMod, Nat.reduceSub, Nat.reduceLT, Int.reduceEq, Int.reduceLT, Int.reduceLE, Int.reduceNeg, Int.reduceAdd, Int.reduceSub, hoc, hh, hu_hu]
        refine xapp_out (n0 := nn) (rows := (mkS q x (lastNo l) d).map Stm.c) (hoX _) (by simp [hml]) (by intro r hr; simp at hr; subst hr; exact ⟨rfl, rfl⟩) (by simp only [List.length_map, hml]; omega) ?_
        simp -dsimp -implicitDefEqProofs (disch := omega) only [↓wpre, ↓wmap, push_cast, reduceCtorEq, ↓reduceIte, Nat.reduceEqDiff, Nat.reduceLeDiff, Nat.reduceAdd, Nat.reduceMul, Nat.reduceMod, Nat.reduceSub, Nat.reduceLT, Int.reduceEq, Int.reduceLT, Int.reduceLE, Int.reduceNeg, Int.reduceAdd, Int.reduceSub, hh]
        have hrw : (mkS q x (lastNo l) d).map Stm.c ++ [[AV.int (lastNo l + 1 + d.length), AV.int q.at', AV.int x.kind, AV.str x.text, AV.str ⟨#[]⟩, AV.str q.region, AV.int q.channel, AV.int w]] = (mkS q x (lastNo l) (d ++ [w])).map Stm.c := by
          rw [hap, List.map_append, show lastNo l + 1 + (d.length : Int) = lastNo l + d.length + 1 by omega]
          rfl
        rw [hrw]
        have hqv := hqX (some ⟨43, 8, [[AV.int (lastNo l + 1 + d.length), AV.int q.at', AV.int x.kind, AV.str x.text, AV.str ⟨#[]⟩, AV.str q.region, AV.int q.channel, AV.int w]]⟩)
        have hkv := hkX (some ⟨43, 8, [[AV.int (lastNo l + 1 + d.length), AV.int q.at', AV.int x.kind, AV.str x.text, AV.str ⟨#[]⟩, AV.str q.region, AV.int q.channel, AV.int w]]⟩)
        generalize dropO (hu H' n5 (some ⟨43, 8, [[AV.int (lastNo l + 1 + d.length), AV.int q.at', AV.int x.kind, AV.str x.text, AV.str ⟨#[]⟩, AV.str q.region, AV.int q.channel, AV.int w]]⟩)) oid = HX at hqv hkv ⊢
        by_cases hen : e = []
        · subst hen
          refine againF (only n6 ⟨43, 8, (mkS q x (lastNo l) (d ++ [w])).map Stm.c⟩) 3 23 (d ++ [w], [], lsOf ((mkS q x (lastNo l) (d ++ [w])).map Stm.c)) (hu HX n6 none) (Nat.lt_succ_self _) (only_sub hu_same) (fun i o hj => ?_) (fun i o' hj => ?_) ⟨by rw [hde]; simp, by rw [hu_ne (by omega)]; exact hkv, hqv.hu (by omega), by (first | omega | (dsimp only; omega)), .inl ⟨rfl, rfl⟩⟩ ?_
          · unfold only at hj
            split at hj
            · rename_i e; subst e; exact hu_same
            · cases hj
          · by_cases hi6 : i = n6
            · subst hi6; rw [hu_same] at hj; cases hj
            · rw [hu_ne hi6] at hj ⊢; exact hj
          · simp only [has_cons, has_nil, upd_v]
            simp -dsimp -implicitDefEqProofs (disch := omega) only [↓wpre, ↓wmap, push_cast, reduceCtorEq, ↓reduceIte, Nat.reduceEqDiff, Nat.reduceLeDiff, Nat.reduceAdd, Nat.reduceMul, Nat.reduceMod, Nat.reduceSub, Nat.reduceLT, Int.reduceEq, Int.reduceLT, Int.reduceLE, Int.reduceNeg, Int.reduceAdd, Int.reduceSub, hh]
            rw [outAV, frz_os_plain (plain_stm _) (by simp [mkS_len]), hap]
            unfold lsOf
            simp
        · refine againJ (d ++ [w], e, outAV (some n6) (d.length + 1)) (Nat.lt_succ_self _) ⟨by rw [hde]; simp, by rw [hu_ne (by omega)]; exact hkv, hqv.hu (by omega), by (first | omega | (dsimp only; omega)), .inr ⟨hen, some n6, by simp, hu_same, by omega, Nat.lt_succ_self _⟩⟩ (by simp -dsimp -implicitDefEqProofs (disch := omega) only [↓wpre, ↓wmap, push_cast, reduceCtorEq, ↓reduceIte, Nat.reduceEqDiff, Nat.reduceLeDiff, Nat.reduceAdd, Nat.reduceMul, Nat.reduceMod, Nat.reduceSub, Nat.reduceLT, Int.reduceEq, Int.reduceLT, Int.reduceLE, Int.reduceNeg, Int.reduceAdd, Int.reduceSub, hh, hml]; try simp)
      · skip
        rw [if_neg (show ¬ ofCh w = true from hoc)] at hap
        simp -dsimp -implicitDefEqProofs (disch := omega) only [↓wpre, ↓wmap, push_cast, reduceCtorEq, ↓reduceIte, Nat.reduceEqDiff, Nat.reduceLeDiff, Nat.reduceAdd, Nat.reduceMul, Nat.reduceMod, Nat.reduceSub, Nat.reduceLT, Int.reduceEq, Int.reduceLT, Int.reduceLE, Int.reduceNeg, Int.reduceAdd, Int.reduceSub, hoc, hh, hu_hu]
        refine xapp_out (n0 := nn) (rows := (mkS q x (lastNo l) d).map Stm.c) (hoX _) (by simp [hml]) (by intro r hr; simp at hr; subst hr; exact ⟨rfl, rfl⟩) (by simp only [List.length_map, hml]; omega) ?_
        simp -dsimp -implicitDefEqProofs (disch := omega) only [↓wpre, ↓wmap, push_cast, reduceCtorEq, ↓reduceIte, Nat.reduceEqDiff, Nat.reduceLeDiff, Nat.reduceAdd, Nat.reduceMul, Nat.reduceMod, Nat.reduceSub, Nat.reduceLT, Int.reduceEq, Int.reduceLT, Int.reduceLE, Int.reduceNeg, Int.reduceAdd, Int.reduceSub, hh]
        have hrw : (mkS q x (lastNo l) d).map Stm.c ++ [[AV.int (lastNo l + 1 + d.length), AV.int q.at', AV.int x.kind, AV.str x.text, AV.str q.purpose, AV.str q.region, AV.int q.channel, AV.int w]] = (mkS q x (lastNo l) (d ++ [w])).map Stm.c := by
          rw [hap, List.map_append, show lastNo l + 1 + (d.length : Int) = lastNo l + d.length + 1 by omega]
          rfl
        rw [hrw]
        have hqv := hqX (some ⟨43, 8, [[AV.int (lastNo l + 1 + d.length), AV.int q.at', AV.int x.kind, AV.str x.text, AV.str q.purpose, AV.str q.region, AV.int q.channel, AV.int w]]⟩)
        have hkv := hkX (some ⟨43, 8, [[AV.int (lastNo l + 1 + d.length), AV.int q.at', AV.int x.kind, AV.str x.text, AV.str q.purpose, AV.str q.region, AV.int q.channel, AV.int w]]⟩)
        generalize dropO (hu H' n5 (some ⟨43, 8, [[AV.int (lastNo l + 1 + d.length), AV.int q.at', AV.int x.kind, AV.str x.text, AV.str q.purpose, AV.str q.region, AV.int q.channel, AV.int w]]⟩)) oid = HX at hqv hkv ⊢
        by_cases hen : e = []
        · subst hen
          refine againF (only n6 ⟨43, 8, (mkS q x (lastNo l) (d ++ [w])).map Stm.c⟩) 3 23 (d ++ [w], [], lsOf ((mkS q x (lastNo l) (d ++ [w])).map Stm.c)) (hu HX n6 none) (Nat.lt_succ_self _) (only_sub hu_same) (fun i o hj => ?_) (fun i o' hj => ?_) ⟨by rw [hde]; simp, by rw [hu_ne (by omega)]; exact hkv, hqv.hu (by omega), by (first | omega | (dsimp only; omega)), .inl ⟨rfl, rfl⟩⟩ ?_
          · unfold only at hj
            split at hj
            · rename_i e; subst e; exact hu_same
            · cases hj
          · by_cases hi6 : i = n6
            · subst hi6; rw [hu_same] at hj; cases hj
            · rw [hu_ne hi6] at hj ⊢; exact hj
          · simp only [has_cons, has_nil, upd_v]
            simp -dsimp -implicitDefEqProofs (disch := omega) only [↓wpre, ↓wmap, push_cast, reduceCtorEq, ↓reduceIte, Nat.reduceEqDiff, Nat.reduceLeDiff, Nat.reduceAdd, Nat.reduceMul, Nat.reduceMod, Nat.reduceSub, Nat.reduceLT, Int.reduceEq, Int.reduceLT, Int.reduceLE, Int.reduceNeg, Int.reduceAdd, Int.reduceSub, hh]
            rw [outAV, frz_os_plain (plain_stm _) (by simp [mkS_len]), hap]
            unfold lsOf
            simp
        · refine againJ (d ++ [w], e, outAV (some n6) (d.length + 1)) (Nat.lt_succ_self _) ⟨by rw [hde]; simp, by rw [hu_ne (by omega)]; exact hkv, hqv.hu (by omega), by (first | omega | (dsimp only; omega)), .inr ⟨hen, some n6, by simp, hu_same, by omega, Nat.lt_succ_self _⟩⟩ (by simp -dsimp -implicitDefEqProofs (disch := omega) only [↓wpre, ↓wmap, push_cast, reduceCtorEq, ↓reduceIte, Nat.reduceEqDiff, Nat.reduceLeDiff, Nat.reduceAdd, Nat.reduceMul, Nat.reduceMod, Nat.reduceSub, Nat.reduceLT, Int.reduceEq, Int.reduceLT, Int.reduceLE, Int.reduceNeg, Int.reduceAdd, Int.reduceSub, hh, hml]; try simp)
    | nil =>
      rcases hoa with ⟨_, rfl⟩ | ⟨hf, _⟩
      case inr => simp at hf
      rw [List.append_nil] at hde
      subst hde
      have hml := mkS_len q x what (lastNo l)
      have hn3 : ¬ (3000 : Int) < l.length + (what.length : Int) := by omega
      have hn3' : ¬ 3000 < l.length + (mkS q x (lastNo l) what).length := by omega
      have h13 : (want = true ∧ (answer q (l ++ mkS q x (lastNo l) what) x q.at').may = false ∧ (answer q (l ++ mkS q x (lastNo l) what) x q.at').why ≠ 8) → askFor q l x want = ([], 13) := fun h => by
        rw [(haf2 _).2 rfl]
        dsimp only
        rw [if_pos h]
      have hfin : ∀ b : Bool, (¬ (want = true ∧ (answer q (l ++ mkS q x (lastNo l) what) x q.at').may = false ∧ (answer q (l ++ mkS q x (lastNo l) what) x q.at').why ≠ 8)) → askFor q l x want = (if (1000000 : Int) < lastNo l + what.length then ([], 12) else (mkS q x (lastNo l) what, 0)) := fun _ hnot => by
        rw [(haf2 _).2 rfl]
        dsimp only
        rw [if_neg hnot, hml]
        by_cases hfu : (1000000 : Int) < lastNo l + what.length
        · rw [if_pos (.inr hfu), if_pos hfu]
        · rw [if_neg (by rintro (h | h); omega; exact hfu h), if_neg hfu]
      simp -dsimp -implicitDefEqProofs (disch := omega) only [↓wpre, ↓wmap, push_cast, reduceCtorEq, ↓reduceIte, Nat.reduceEqDiff, Nat.reduceLeDiff, Nat.reduceAdd, Nat.reduceMul, Nat.reduceMod, Nat.reduceSub, Nat.reduceLT, Int.reduceEq, Int.reduceLT, Int.reduceLE, Int.reduceNeg, Int.reduceAdd, Int.reduceSub, hh]
      refine cnd_intro (fun hc => ?_) (fun hc => ?_)
      · generalize ho : mkS q x (lastNo l) what = out at hml hfin h13 hn3' hh haf2
        have hol : out.length ≤ 2 := by omega
        have hom : ∀ s ∈ out, s.at' = q.at' := by rw [← ho]; exact mkS_at q x what (lastNo l)
        have hcat : catL [(nz, l), (!(out.map Stm.c).isEmpty, out)] = l ++ out := by simp [catL]
        have hask := fun H' => ask_c G H' (!((l ++ out).map Stm.c).isEmpty) q (l ++ out) x (by rw [List.length_append]; omega) hpl (fun p hp => by have := (h4 p hp).1; omega)
        have hans2 : ∀ H', AFn Tryz.prog G 42 [.agg (askedC (termOf q.p q.purpose q.region q.channel) q.purpose (lsOf ((saidBy (l ++ out) x q.channel).map Stm.c))), .int q.at'] H' (.agg (answer q (l ++ out) x q.at').c) := fun H' => answer_c G H' _ (termOf q.p q.purpose q.region q.channel) q.purpose (saidBy (l ++ out) x q.channel) q.at' (by rw [saidBy, isort_length]; exact Nat.le_trans (List.length_filter_le _ _) (by rw [List.length_append]; omega)) (fun u hu => by have := htb u hu; omega) (fun s hs => by
          rcases List.mem_append.1 (saidBy_mem hs) with h | h
          · have := h3.2 s h; omega
          · have := hom s h; omega) (by omega)
        generalize answer q (l ++ out) x q.at' = an at hfin h13 haf2 hans2
        simp -dsimp -implicitDefEqProofs (disch := omega) only [↓wpre, ↓wmap, push_cast, reduceCtorEq, ↓reduceIte, Nat.reduceEqDiff, Nat.reduceLeDiff, Nat.reduceAdd, Nat.reduceMul, Nat.reduceMod, Nat.reduceSub, Nat.reduceLT, Int.reduceEq, Int.reduceLT, Int.reduceLE, Int.reduceNeg, Int.reduceAdd, Int.reduceSub, hh]
        refine xareg_intro an.c rfl rfl ?_
        simp -dsimp -implicitDefEqProofs (disch := omega) only [↓wpre, ↓wmap, push_cast, reduceCtorEq, ↓reduceIte, Nat.reduceEqDiff, Nat.reduceLeDiff, Nat.reduceAdd, Nat.reduceMul, Nat.reduceMod, Nat.reduceSub, Nat.reduceLT, Int.reduceEq, Int.reduceLT, Int.reduceLE, Int.reduceNeg, Int.reduceAdd, Int.reduceSub, hh, hk, lsOf]
        refine xfnA_intro (fun H' _ => concat_c G H' [(nz, l), (!(out.map Stm.c).isEmpty, out)] (by simp) (by rw [hcat, List.length_append]; omega)) ?_
        rw [hcat]
        simp -dsimp -implicitDefEqProofs (disch := omega) only [↓wpre, ↓wmap, push_cast, reduceCtorEq, ↓reduceIte, Nat.reduceEqDiff, Nat.reduceLeDiff, Nat.reduceAdd, Nat.reduceMul, Nat.reduceMod, Nat.reduceSub, Nat.reduceLT, Int.reduceEq, Int.reduceLT, Int.reduceLE, Int.reduceNeg, Int.reduceAdd, Int.reduceSub, hh, hk, lsOf]
        refine xfnA_intro (fun H' _ => hask H') ?_
        simp -dsimp -implicitDefEqProofs (disch := omega) only [↓wpre, ↓wmap, push_cast, reduceCtorEq, ↓reduceIte, Nat.reduceEqDiff, Nat.reduceLeDiff, Nat.reduceAdd, Nat.reduceMul, Nat.reduceMod, Nat.reduceSub, Nat.reduceLT, Int.reduceEq, Int.reduceLT, Int.reduceLE, Int.reduceNeg, Int.reduceAdd, Int.reduceSub, hh, hk]
        refine xfnA_intro (fun H' _ => hans2 H') ?_
        simp -dsimp -implicitDefEqProofs (disch := omega) only [↓wpre, ↓wmap, push_cast, reduceCtorEq, ↓reduceIte, Nat.reduceEqDiff, Nat.reduceLeDiff, Nat.reduceAdd, Nat.reduceMul, Nat.reduceMod, Nat.reduceSub, Nat.reduceLT, Int.reduceEq, Int.reduceLT, Int.reduceLE, Int.reduceNeg, Int.reduceAdd, Int.reduceSub, hh, hk]
        refine anyM_intro fun m n6 hm1 hn6 => ?_
        have hqm : ∀ o, Sub H (hu H' m o) := fun o => (hqt.hu (o := o) (k := m) (by omega)).1
        by_cases hmy : an.may = true
        · have hf := hfin true (fun h => by rw [hmy] at h; cases h.2.1)
          simp -dsimp -implicitDefEqProofs (disch := omega) only [↓wpre, ↓wmap, push_cast, reduceCtorEq, ↓reduceIte, Nat.reduceEqDiff, Nat.reduceLeDiff, Nat.reduceAdd, Nat.reduceMul, Nat.reduceMod, Nat.reduceSub, Nat.reduceLT, Int.reduceEq, Int.reduceLT, Int.reduceLE, Int.reduceNeg, Int.reduceAdd, Int.reduceSub, hh, hmy]
          simp -dsimp -implicitDefEqProofs (disch := omega) only [↓wpre, ↓wmap, push_cast, reduceCtorEq, ↓reduceIte, Nat.reduceEqDiff, Nat.reduceLeDiff, Nat.reduceAdd, Nat.reduceMul, Nat.reduceMod, Nat.reduceSub, Nat.reduceLT, Int.reduceEq, Int.reduceLT, Int.reduceLE, Int.reduceNeg, Int.reduceAdd, Int.reduceSub, hh, lsOf, hml, hn3]
          by_cases hfu : (1000000 : Int) < lastNo l + what.length
          · rw [if_pos hfu] at hf
            simp -dsimp -implicitDefEqProofs (disch := omega) only [↓wpre, ↓wmap, push_cast, reduceCtorEq, ↓reduceIte, Nat.reduceEqDiff, Nat.reduceLeDiff, Nat.reduceAdd, Nat.reduceMul, Nat.reduceMod, Nat.reduceSub, Nat.reduceLT, Int.reduceEq, Int.reduceLT, Int.reduceLE, Int.reduceNeg, Int.reduceAdd, Int.reduceSub, hfu, hh]
            exact ⟨by rw [hf]; rfl, hqm _⟩
          · rw [if_neg hfu] at hf
            simp -dsimp -implicitDefEqProofs (disch := omega) only [↓wpre, ↓wmap, push_cast, reduceCtorEq, ↓reduceIte, Nat.reduceEqDiff, Nat.reduceLeDiff, Nat.reduceAdd, Nat.reduceMul, Nat.reduceMod, Nat.reduceSub, Nat.reduceLT, Int.reduceEq, Int.reduceLT, Int.reduceLE, Int.reduceNeg, Int.reduceAdd, Int.reduceSub, hfu, hh]
            exact ⟨by rw [hf], hqm _⟩
        · have hmy : an.may = false := by simpa using hmy
          by_cases hwy : an.why = 8
          · have hf := hfin true (fun h => h.2.2 hwy)
            simp -dsimp -implicitDefEqProofs (disch := omega) only [↓wpre, ↓wmap, push_cast, reduceCtorEq, ↓reduceIte, Nat.reduceEqDiff, Nat.reduceLeDiff, Nat.reduceAdd, Nat.reduceMul, Nat.reduceMod, Nat.reduceSub, Nat.reduceLT, Int.reduceEq, Int.reduceLT, Int.reduceLE, Int.reduceNeg, Int.reduceAdd, Int.reduceSub, hh, hmy, hwy]
            simp -dsimp -implicitDefEqProofs (disch := omega) only [↓wpre, ↓wmap, push_cast, reduceCtorEq, ↓reduceIte, Nat.reduceEqDiff, Nat.reduceLeDiff, Nat.reduceAdd, Nat.reduceMul, Nat.reduceMod, Nat.reduceSub, Nat.reduceLT, Int.reduceEq, Int.reduceLT, Int.reduceLE, Int.reduceNeg, Int.reduceAdd, Int.reduceSub, hh, lsOf, hml, hn3]
            by_cases hfu : (1000000 : Int) < lastNo l + what.length
            · rw [if_pos hfu] at hf
              simp -dsimp -implicitDefEqProofs (disch := omega) only [↓wpre, ↓wmap, push_cast, reduceCtorEq, ↓reduceIte, Nat.reduceEqDiff, Nat.reduceLeDiff, Nat.reduceAdd, Nat.reduceMul, Nat.reduceMod, Nat.reduceSub, Nat.reduceLT, Int.reduceEq, Int.reduceLT, Int.reduceLE, Int.reduceNeg, Int.reduceAdd, Int.reduceSub, hfu, hh]
              exact ⟨by rw [hf]; rfl, hqm _⟩
            · rw [if_neg hfu] at hf
              simp -dsimp -implicitDefEqProofs (disch := omega) only [↓wpre, ↓wmap, push_cast, reduceCtorEq, ↓reduceIte, Nat.reduceEqDiff, Nat.reduceLeDiff, Nat.reduceAdd, Nat.reduceMul, Nat.reduceMod, Nat.reduceSub, Nat.reduceLT, Int.reduceEq, Int.reduceLT, Int.reduceLE, Int.reduceNeg, Int.reduceAdd, Int.reduceSub, hfu, hh]
              exact ⟨by rw [hf], hqm _⟩
          · simp -dsimp -implicitDefEqProofs (disch := omega) only [↓wpre, ↓wmap, push_cast, reduceCtorEq, ↓reduceIte, Nat.reduceEqDiff, Nat.reduceLeDiff, Nat.reduceAdd, Nat.reduceMul, Nat.reduceMod, Nat.reduceSub, Nat.reduceLT, Int.reduceEq, Int.reduceLT, Int.reduceLE, Int.reduceNeg, Int.reduceAdd, Int.reduceSub, hh, hmy, hwy]
            exact ⟨by rw [h13 ⟨hc, hmy, hwy⟩]; rfl, hqm _⟩
      · have hf := hfin true (fun h => by rw [hc] at h; cases h.1)
        simp -dsimp -implicitDefEqProofs (disch := omega) only [↓wpre, ↓wmap, push_cast, reduceCtorEq, ↓reduceIte, Nat.reduceEqDiff, Nat.reduceLeDiff, Nat.reduceAdd, Nat.reduceMul, Nat.reduceMod, Nat.reduceSub, Nat.reduceLT, Int.reduceEq, Int.reduceLT, Int.reduceLE, Int.reduceNeg, Int.reduceAdd, Int.reduceSub, hh, lsOf, hml, hn3]
        by_cases hfu : (1000000 : Int) < lastNo l + what.length
        · rw [if_pos hfu] at hf
          simp -dsimp -implicitDefEqProofs (disch := omega) only [↓wpre, ↓wmap, push_cast, reduceCtorEq, ↓reduceIte, Nat.reduceEqDiff, Nat.reduceLeDiff, Nat.reduceAdd, Nat.reduceMul, Nat.reduceMod, Nat.reduceSub, Nat.reduceLT, Int.reduceEq, Int.reduceLT, Int.reduceLE, Int.reduceNeg, Int.reduceAdd, Int.reduceSub, hfu, hh]
          exact ⟨by rw [hf]; rfl, hqt.1⟩
        · rw [if_neg hfu] at hf
          simp -dsimp -implicitDefEqProofs (disch := omega) only [↓wpre, ↓wmap, push_cast, reduceCtorEq, ↓reduceIte, Nat.reduceEqDiff, Nat.reduceLeDiff, Nat.reduceAdd, Nat.reduceMul, Nat.reduceMod, Nat.reduceSub, Nat.reduceLT, Int.reduceEq, Int.reduceLT, Int.reduceLE, Int.reduceNeg, Int.reduceAdd, Int.reduceSub, hfu, hh]
          exact ⟨by rw [hf], hqt.1⟩
end Go.Proofs.YthcedgclhoggcaaGreatDoor
