/- Contracts of functions of the program: each computes what its model says; the conditions stand at each. -/
import Derived.Test.YtblhbafoncfhdaaGreatDoorTe15
set_option linter.unusedSimpArgs false
set_option linter.unusedVariables false
set_option maxRecDepth 20000
set_option pp.deepTerms false
set_option pp.deepTerms.threshold 3
namespace Go.Proofs.YtblhbafoncfhdaaGreatDoor
open Go Go.Ab Go.Pm Go.Cm Go.El Go.Rm
variable (G : Nat → AV) (H : Nat → Option AObj)
def okM (s : T) : Bool :=
  let c := cutT s ⟨#[64]⟩
  c.2.2 && (decide (s.size ≤ 80) && (within c.1.size 1 64 && (Rm.only c.1 mailT && (decide (trimT c.1 ⟨#[46]⟩ = c.1) && (!Lib.contains c.1.data.toList [46, 46] && decide (2 ≤ (splitT c.2.1 ⟨#[46]⟩).length))))))
theorem rMail_eq (s : T) : rMail s = (okM s && (splitT (cutT s ⟨#[64]⟩).2.1 ⟨#[46]⟩).all rLabel) := rfl
theorem rFind_bound (sum : Int) : ∀ (k c : Nat), c + k ≤ 36 → 0 ≤ rFind sum k c ∧ rFind sum k c < 36
  | 0, _, _ => by simp [rFind]
  | k + 1, c, h => by
    rw [rFind]
    split
    · omega
    · exact rFind_bound sum k (c + 1) (by omega)
theorem rCheckSign_bound (s : T) : 0 ≤ rCheckSign s ∧ rCheckSign s < 36 := rFind_bound _ 36 0 (Nat.le_refl _)
set_option maxHeartbeats 3200000 in
theorem idMail_c (hG : GOk G) (s : T) (hs : s.size ≤ 1000000) : AFn Tryz.prog G 216 [.agg [.int 1, .str s]] H (.int (if rMail s then 0 else 3)) := by
  obtain ⟨m, cs, hG3⟩ := hG.maxLen
  have hns := hG.ns
  have h1 := (cutT_size s ⟨#[64]⟩).1
  have h2 := (cutT_size s ⟨#[64]⟩).2
  have g0 : s.size < 4294967281 := by omega
  have g1 : (cutT s ⟨#[64]⟩).1.size < 4294967281 := by omega
  have g2 : (cutT s ⟨#[64]⟩).2.1.size < 4294967281 := by omega
  have g3 : (cutT s ⟨#[64]⟩).1.size ≤ 1000000 := by omega
  have e2 : ∀ x ∈ splitT (cutT s ⟨#[64]⟩).2.1 ⟨#[46]⟩, x.size ≤ 1000000 := fun x hx => by
    have := splitT_size _ _ x hx
    omega
  have e3 : (splitT (cutT s ⟨#[64]⟩).2.1 ⟨#[46]⟩).length ≤ 4294967281 := by
    rw [splitB_length _ _ (by decide)]
    have := Lib.countB_le ⟨#[46]⟩ (by decide) _ (cutT s ⟨#[64]⟩).2.1 (Nat.le_refl _)
    omega
  refine AFn.start mix F216 (by simp) fun k hlow => ?_
  have hq := Qt.refl hlow
  have hM := rMail_eq s
  have hO : okM s = (let c := cutT s ⟨#[64]⟩
    c.2.2 && (decide (s.size ≤ 80) && (within c.1.size 1 64 && (Rm.only c.1 mailT && (decide (trimT c.1 ⟨#[46]⟩ = c.1) && (!Lib.contains c.1.data.toList [46, 46] && decide (2 ≤ (splitT c.2.1 ⟨#[46]⟩).length))))))) := rfl
  simp -dsimp -implicitDefEqProofs (disch := omega) only [↓wpre, push_cast, seval, c216]
  (first | with_reducible refine (cut_c _ _ hG3 _ _ g0).x fun n' hn' => ?_ | with_reducible refine xfn_intro (cut_c _ _ hG3 _ _ g0) ?_); try simp -dsimp -implicitDefEqProofs (disch := omega) only [↓wpre, push_cast, seval, true_and]
  generalize cutT s ⟨#[64]⟩ = c at *
  obtain ⟨local', domain, ok⟩ := c
  simp only at *
  (first | with_reducible refine (split_c _ _ hG3 _ _ g2 (by decide)).x fun n' hn' => ?_ | with_reducible refine xfn_intro (split_c _ _ hG3 _ _ g2 (by decide)) ?_); try simp -dsimp -implicitDefEqProofs (disch := omega) only [↓wpre, push_cast, seval, true_and]
  generalize splitT domain ⟨#[46]⟩ = labels at *
  have hl2 : decide ((2 : Int) ≤ (labels.length : Int)) = decide (2 ≤ labels.length) := decide_eq_decide.2 ⟨fun h => by omega, fun h => by omega⟩
  generalize rMail s = rm at *
  generalize hok : okM s = ok0 at *
  repeat' (first | ((first | with_reducible refine cnd_ndec (fun hc => ?_) (fun hc => ?_) | with_reducible refine cnd_dec (fun hc => ?_) (fun hc => ?_) | with_reducible refine cnd_nb (fun hc => ?_) (fun hc => ?_) | with_reducible refine cnd_intro (fun hc => ?_) (fun hc => ?_)) <;> (first | (exfalso; omega) | (try simp -dsimp -implicitDefEqProofs (disch := omega) only [↓wpre, push_cast, seval, hc, true_and]))) | (with_reducible refine anyN_intro fun n' hn' => ?_; try simp -dsimp -implicitDefEqProofs (disch := omega) only [↓wpre, push_cast, seval, true_and]) | ((first | with_reducible refine (in_c _ _ _ _ _).x fun n' hn' => ?_ | with_reducible refine xfn_intro (in_c _ _ _ _ _) ?_); try simp -dsimp -implicitDefEqProofs (disch := omega) only [↓wpre, push_cast, seval, Pm.within]) | ((first | with_reducible refine (only_mailT _ _ hns _ g3).x fun n' hn' => ?_ | with_reducible refine xfn_intro (only_mailT _ _ hns _ g3) ?_); try simp -dsimp -implicitDefEqProofs (disch := omega) only [↓wpre, push_cast, seval, true_and]) | ((first | with_reducible refine (trim_dot _ _ hns _ g3).x fun n' hn' => ?_ | with_reducible refine xfn_intro (trim_dot _ _ hns _ g3) ?_); try simp -dsimp -implicitDefEqProofs (disch := omega) only [↓wpre, push_cast, seval, true_and]) | ((first | with_reducible refine (contains_c _ _ hG3 _ _ g1).x fun n' hn' => ?_ | with_reducible refine xfn_intro (contains_c _ _ hG3 _ _ g1) ?_); try simp -dsimp -implicitDefEqProofs (disch := omega) only [↓wpre, push_cast, seval, true_and]))
  all_goals
    refine xw_loopJ (σ := List T × List T × Bool) (fun t => [(4, .bool t.2.2), (58, .ls true (labels.map fun x => [AV.str x])), (59, .int labels.length), (60, .int t.1.length)]) (fun t H' n' => labels = t.1 ++ t.2.1 ∧ (t.2.2 && t.2.1.all rLabel) = rm ∧ Qt H H' n') (fun t => t.2.1.length) ([], labels, ok0) ⟨rfl, hM.symm, by exact Qt.mono (n := k) (by repeat (first | exact hq | refine Qt.hu ?_ (by omega))) (by omega)⟩ (by simp -dsimp -implicitDefEqProofs (disch := omega) only [↓wpre, push_cast, seval]; clear e2 hq hlow hG3 hG; grind [Pm.within]) ?_
    clear hM hO hok hq
    rintro ⟨a, b, okb⟩ fr H' n ⟨hab, hf, hq⟩ hh
    simp only [has_nil, has_cons, and_true] at hh hab hf
    have hll : labels.length = a.length + b.length := by rw [hab]; simp
    cases b with
    | nil =>
      have hnl : ¬ (a.length : Int) < labels.length := by rw [hll]; simp
      simp only [List.all_nil, Bool.and_true] at hf
      subst hf
      simp -dsimp -implicitDefEqProofs (disch := omega) only [↓wpre, push_cast, seval, hh, hnl]
      (first | with_reducible refine cnd_ndec (fun hc => ?_) (fun hc => ?_) | with_reducible refine cnd_dec (fun hc => ?_) (fun hc => ?_) | with_reducible refine cnd_nb (fun hc => ?_) (fun hc => ?_) | with_reducible refine cnd_intro (fun hc => ?_) (fun hc => ?_)) <;> (first | (exfalso; omega) | (try simp -dsimp -implicitDefEqProofs (disch := omega) only [↓wpre, push_cast, seval, hc, hh]))
      all_goals first | exact hq.1 | exact ⟨by simp [hc], hq.1⟩
    | cons x b =>
      have hlt : (a.length : Int) < labels.length := by rw [hll]; simp only [List.length_cons]; omega
      have hx : labels[a.length]? = some x := by rw [hab]; simp
      have hxs : x.size ≤ 1000000 := e2 x (by rw [hab]; simp)
      simp -dsimp -implicitDefEqProofs (disch := omega) only [↓wpre, push_cast, seval, hh, hlt, even_strs', aidx_at _ hx]
      repeat' (first | ((first | with_reducible refine cnd_ndec (fun hc => ?_) (fun hc => ?_) | with_reducible refine cnd_dec (fun hc => ?_) (fun hc => ?_) | with_reducible refine cnd_nb (fun hc => ?_) (fun hc => ?_) | with_reducible refine cnd_intro (fun hc => ?_) (fun hc => ?_)) <;> (first | (exfalso; omega) | (try simp -dsimp -implicitDefEqProofs (disch := omega) only [↓wpre, push_cast, seval, hc, hh]))) | (with_reducible refine anyN_intro fun n' hn' => ?_; try simp -dsimp -implicitDefEqProofs (disch := omega) only [↓wpre, push_cast, seval, hh]) | ((first | with_reducible refine (in_c _ _ _ _ _).x fun n' hn' => ?_ | with_reducible refine xfn_intro (in_c _ _ _ _ _) ?_); try simp -dsimp -implicitDefEqProofs (disch := omega) only [↓wpre, push_cast, seval, Pm.within]) | ((first | with_reducible refine (only_labelT _ _ hns _ hxs).x fun n' hn' => ?_ | with_reducible refine xfn_intro (only_labelT _ _ hns _ hxs) ?_); try simp -dsimp -implicitDefEqProofs (disch := omega) only [↓wpre, push_cast, seval, hh]) | ((first | with_reducible refine (trim_dash _ _ hns _ hxs).x fun n' hn' => ?_ | with_reducible refine xfn_intro (trim_dash _ _ hns _ hxs) ?_); try simp -dsimp -implicitDefEqProofs (disch := omega) only [↓wpre, push_cast, seval, hh]))
      all_goals refine againJ (a ++ [x], b, okb && rLabel x) (Nat.lt_succ_self _) ⟨by rw [hab]; simp, by rw [← hf, List.all_cons, Bool.and_assoc], by exact Qt.mono (n := n) (by repeat (first | exact hq | refine Qt.hu ?_ (by omega))) (by omega)⟩ (by simp -dsimp -implicitDefEqProofs (disch := omega) only [↓wpre, push_cast, seval, hh]; clear e2 hq hlow hG3 hG; (try simp only [List.length_append, List.length_cons, List.length_nil]); grind [Pm.within, rLabel])
theorem hasPrefix_plus (s : T) : Lib.hasPrefix s.data.toList [43] = Pm.hasPrefix s ⟨#[43]⟩ := by
  obtain ⟨⟨l⟩⟩ := s
  cases l with
  | nil => rfl
  | cons x r =>
    have e1 : Lib.hasPrefix (x :: r) [43] = (43 == x) := by simp [Lib.hasPrefix, List.isPrefixOf]
    have e2 : Pm.hasPrefix ⟨⟨x :: r⟩⟩ ⟨#[43]⟩ = decide (x = 43) := by
      have h : (⟨⟨x :: r⟩⟩ : ByteArray).extract 0 1 = ⟨#[x]⟩ := toList_ext (by rw [ByteArray.data_extract, Array.toList_extract]; rfl)
      have hs : (⟨#[43]⟩ : ByteArray).size = 1 := rfl
      have hs2 : (⟨⟨x :: r⟩⟩ : ByteArray).size = r.length + 1 := rfl
      rw [Pm.hasPrefix, hs, h, hs2]
      by_cases hx : x = 43
      · subst hx; simp
      · have : ¬ (⟨#[x]⟩ : ByteArray) = ⟨#[43]⟩ := fun e => hx (by injection e with e; injection e with e; injection e)
        simp [hx, this]
    rw [e1, e2]
    by_cases hx : x = 43
    · subst hx; rfl
    · have : ¬ (43 : UInt8) = x := fun e => hx e.symm
      simp [hx, this]
theorem trimPrefix_plus (s : T) (h : Pm.hasPrefix s ⟨#[43]⟩ = true) : (⟨(Lib.trimPrefix s.data.toList [43]).toArray⟩ : T) = s.extract 1 s.size := by
  rw [Lib.trimPrefix, if_pos (by rw [hasPrefix_plus]; exact h)]
  refine toList_ext ?_
  rw [ByteArray.data_extract, Array.toList_extract]
  show List.drop 1 s.data.toList = _
  rw [List.extract_eq_take_drop, List.take_of_length_le (by rw [List.length_drop, tlen]; omega)]
set_option maxHeartbeats 3200000 in
theorem idPhone_c (hG : GOk G) (s : T) (hs : s.size ≤ 1000000) : AFn Tryz.prog G 216 [.agg [.int 2, .str s]] H (.int (if rPhone s then 0 else 3)) := by
  have hns := hG.ns
  refine AFn.start mix F216 (by simp) fun k hlow => ?_
  have hq := Qt.refl hlow
  simp -dsimp -implicitDefEqProofs (disch := omega) only [↓wpre, push_cast, seval, c216]
  (first | with_reducible refine (cutPrefix_c _ _ _ _).x fun n' hn' => ?_ | with_reducible refine xfn_intro (cutPrefix_c _ _ _ _) ?_); try simp -dsimp -implicitDefEqProofs (disch := omega) only [↓wpre, push_cast, seval, true_and]
  have hR : rPhone s = (Pm.hasPrefix s ⟨#[43]⟩ && (within (s.extract 1 s.size).size 7 15 && (Rm.only (s.extract 1 s.size) digitT && !decide (byteAt (s.extract 1 s.size) 0 = 48)))) := rfl
  rw [hasPrefix_plus]
  cases hp : Pm.hasPrefix s ⟨#[43]⟩ with
  | false =>
    simp -dsimp -implicitDefEqProofs (disch := omega) only [↓wpre, push_cast, seval, hp]
    rw [hR, hp]
    rfl
  | true =>
    rw [trimPrefix_plus s hp]
    have hxs : (s.extract 1 s.size).size ≤ 1000000 := by rw [ByteArray.size_extract]; omega
    generalize s.extract 1 s.size = x at *
    simp -dsimp -implicitDefEqProofs (disch := omega) only [↓wpre, push_cast, seval, hp]
    repeat' (first | ((first | with_reducible refine cnd_ndec (fun hc => ?_) (fun hc => ?_) | with_reducible refine cnd_dec (fun hc => ?_) (fun hc => ?_) | with_reducible refine cnd_nb (fun hc => ?_) (fun hc => ?_) | with_reducible refine cnd_intro (fun hc => ?_) (fun hc => ?_)) <;> (first | (exfalso; omega) | (try simp -dsimp -implicitDefEqProofs (disch := omega) only [↓wpre, push_cast, seval, hc, Int.toNat_zero]))) | (with_reducible refine anyN_intro fun n' hn' => ?_; try simp -dsimp -implicitDefEqProofs (disch := omega) only [↓wpre, push_cast, seval, Int.toNat_zero]) | ((first | with_reducible refine (in_c _ _ _ _ _).x fun n' hn' => ?_ | with_reducible refine xfn_intro (in_c _ _ _ _ _) ?_); try simp -dsimp -implicitDefEqProofs (disch := omega) only [↓wpre, push_cast, seval, Pm.within]) | ((first | with_reducible refine (only_digitT _ _ hns _ hxs).x fun n' hn' => ?_ | with_reducible refine xfn_intro (only_digitT _ _ hns _ hxs) ?_); try simp -dsimp -implicitDefEqProofs (disch := omega) only [↓wpre, push_cast, seval, true_and]))
    all_goals (rw [hR, hp]; clear hq hlow hG hR; grind [Pm.within])
theorem only_signs2 (hns : ¬ Strict G) (s : T) (hs : s.size ≤ 1000000) : AFn Tryz.prog G 260 [.str s, .str signs] H (.bool (Rm.only s signs)) := only_c G H hns s signs (by omega) (by decide) (by decide)
set_option maxHeartbeats 3200000 in
theorem idMember_c (hG : GOk G) (s : T) (hs : s.size ≤ 1000000) : AFn Tryz.prog G 216 [.agg [.int 3, .str s]] H (.int (rId 3 s)) := by
  have hns := hG.ns
  have hR : rId 3 s = if rMember s then (if byteAt signs (rCheckSign (s.extract 0 ((s.size : Int) - 1).toNat)).toNat ≠ byteAt s ((s.size : Int) - 1).toNat then 15 else 0) else 3 := rfl
  have hM : rMember s = (within s.size 4 20 && Rm.only s signs) := rfl
  have hxs : (s.extract 0 ((s.size : Int) - 1).toNat).size ≤ 1000000 := by rw [ByteArray.size_extract]; omega
  have hb := rCheckSign_bound (s.extract 0 ((s.size : Int) - 1).toNat)
  refine AFn.start mix F216 (by simp) fun k hlow => ?_
  have hq := Qt.refl hlow
  have hsz := signs_size
  simp -dsimp -implicitDefEqProofs (disch := omega) only [↓wpre, push_cast, seval, c216]
  repeat' (first | ((first | with_reducible refine cnd_ndec (fun hc => ?_) (fun hc => ?_) | with_reducible refine cnd_dec (fun hc => ?_) (fun hc => ?_) | with_reducible refine cnd_nb (fun hc => ?_) (fun hc => ?_) | with_reducible refine cnd_intro (fun hc => ?_) (fun hc => ?_)) <;> (first | (exfalso; omega) | (try simp -dsimp -implicitDefEqProofs (disch := omega) only [↓wpre, push_cast, seval, hc, signs_eq]))) | (with_reducible refine anyN_intro fun n' hn' => ?_; try simp -dsimp -implicitDefEqProofs (disch := omega) only [↓wpre, push_cast, seval, signs_eq]) | ((first | with_reducible refine (in_c _ _ _ _ _).x fun n' hn' => ?_ | with_reducible refine xfn_intro (in_c _ _ _ _ _) ?_); try simp -dsimp -implicitDefEqProofs (disch := omega) only [↓wpre, push_cast, seval, Pm.within]) | ((first | with_reducible refine (only_signs2 _ _ hns _ hs).x fun n' hn' => ?_ | with_reducible refine xfn_intro (only_signs2 _ _ hns _ hs) ?_); try simp -dsimp -implicitDefEqProofs (disch := omega) only [↓wpre, push_cast, seval, signs_eq]) | ((first | with_reducible refine (rcheckSign_c _ _ _ hxs).x fun n' hn' => ?_ | with_reducible refine xfn_intro (rcheckSign_c _ _ _ hxs) ?_); try simp -dsimp -implicitDefEqProofs (disch := omega) only [↓wpre, push_cast, seval, signs_eq]))
  all_goals (rw [hR, hM]; clear hq hlow hG hR hM hb hsz; (first | grind [Pm.within] | simp_all [Pm.within]))
theorem idDevice_c (hG : GOk G) (s : T) (hs : s.size ≤ 1000000) : AFn Tryz.prog G 216 [.agg [.int 4, .str s]] H (.int (if rDevice s then 0 else 3)) := by
  have hns := hG.ns
  have hM : rDevice s = (decide ((s.size : Int) = 32) && Rm.only s deviceT) := rfl
  refine AFn.start mix F216 (by simp) fun k hlow => ?_
  have hq := Qt.refl hlow
  simp -dsimp -implicitDefEqProofs (disch := omega) only [↓wpre, push_cast, seval, c216]
  repeat' (first | ((first | with_reducible refine cnd_ndec (fun hc => ?_) (fun hc => ?_) | with_reducible refine cnd_dec (fun hc => ?_) (fun hc => ?_) | with_reducible refine cnd_nb (fun hc => ?_) (fun hc => ?_) | with_reducible refine cnd_intro (fun hc => ?_) (fun hc => ?_)) <;> (first | (exfalso; omega) | (try simp -dsimp -implicitDefEqProofs (disch := omega) only [↓wpre, push_cast, seval, hc, true_and]))) | (with_reducible refine anyN_intro fun n' hn' => ?_; try simp -dsimp -implicitDefEqProofs (disch := omega) only [↓wpre, push_cast, seval, true_and]) | ((first | with_reducible refine (only_deviceT _ _ hns _ hs).x fun n' hn' => ?_ | with_reducible refine xfn_intro (only_deviceT _ _ hns _ hs) ?_); try simp -dsimp -implicitDefEqProofs (disch := omega) only [↓wpre, push_cast, seval, true_and]))
  all_goals (rw [hM]; clear hq hlow hG hM; grind)
theorem idFault_c (hG : GOk G) (kind : Int) (s : T) (hs : s.size ≤ 1000000) : AFn Tryz.prog G 216 [.agg [.int kind, .str s]] H (.int (rId kind s)) := by
  by_cases h1 : kind = 1
  · subst h1; exact idMail_c G H hG s hs
  by_cases h2 : kind = 2
  · subst h2; exact idPhone_c G H hG s hs
  by_cases h3 : kind = 3
  · subst h3; exact idMember_c G H hG s hs
  by_cases h4 : kind = 4
  · subst h4; exact idDevice_c G H hG s hs
  have hR : rId kind s = 4 := by rw [rId, if_neg h1, if_neg h2, if_neg h3, if_neg h4]
  rw [hR]
  refine AFn.start mix F216 (by simp) fun k hlow => ?_
  simp -dsimp -implicitDefEqProofs (disch := omega) only [↓wpre, push_cast, seval, c216, h1, h2, h3, h4]
end Go.Proofs.YtblhbafoncfhdaaGreatDoor

