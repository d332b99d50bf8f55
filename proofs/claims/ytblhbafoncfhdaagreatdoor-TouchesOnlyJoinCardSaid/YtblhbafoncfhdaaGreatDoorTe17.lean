/- Contracts of functions of the program: each computes what its model says; the conditions stand at each. -/
import Derived.Test.YtblhbafoncfhdaaGreatDoorTe16
import Derived.Lib.MapLaws
set_option linter.unusedSimpArgs false
set_option linter.unusedVariables false
set_option maxRecDepth 20000
set_option pp.deepTerms false
set_option pp.deepTerms.threshold 3
namespace Go.Proofs.YtblhbafoncfhdaaGreatDoor
open Go Go.Ab Go.Pm Go.Cm Go.El Go.Rm
variable (G : Nat → AV) (H : Nat → Option AObj)
theorem decodeGo_of {s : T} (h : ¬ s = ⟨#[]⟩) : Lib.decodeGo s = Utf8.decode s 0 := by
  have := size_pos h
  rw [Lib.decodeGo, if_neg (by omega)]
theorem decodeGo_pos {s : T} (h : ¬ s = ⟨#[]⟩) : 1 ≤ (Lib.decodeGo s).2 := by rw [decodeGo_of h]; exact Lib.width_pos _ _
theorem decodeGo_rune {s : T} (h : ¬ s = ⟨#[]⟩) : (Lib.decodeGo s).1 ≤ 1114111 := by rw [decodeGo_of h]; exact Lib.rune_le _ _
theorem decodeGo_le {s : T} (h : ¬ s = ⟨#[]⟩) : (Lib.decodeGo s).2 ≤ s.size := by
  rw [decodeGo_of h]
  have h1 : s.data.toList ≠ [] := fun e => h (toList_ext e)
  have := Lib.decodeL_le s.data.toList h1
  rw [tlen] at this
  exact this
theorem ptsF_more : ∀ (n m : Nat) (s : T), s.size ≤ n → s.size ≤ m → ptsF n s = ptsF m s
  | 0, 0, _, _, _ => rfl
  | 0, m + 1, s, h, _ => by
    have : s = ⟨#[]⟩ := by
      by_cases h0 : s = ⟨#[]⟩
      · exact h0
      · have := size_pos h0; omega
    rw [ptsF, ptsF, if_pos this]
  | n + 1, 0, s, _, h => by
    have : s = ⟨#[]⟩ := by
      by_cases h0 : s = ⟨#[]⟩
      · exact h0
      · have := size_pos h0; omega
    rw [ptsF, ptsF, if_pos this]
  | n + 1, m + 1, s, h1, h2 => by
    rw [ptsF, ptsF]
    by_cases h0 : s = ⟨#[]⟩
    · rw [if_pos h0, if_pos h0]
    · have hp := decodeGo_pos h0
      have hs := size_pos h0
      rw [if_neg h0, if_neg h0, ptsF_more n m _ (by rw [ByteArray.size_extract]; omega) (by rw [ByteArray.size_extract]; omega)]
theorem pts_nil : pts ⟨#[]⟩ = [] := rfl
theorem pts_cons {s : T} (h : ¬ s = ⟨#[]⟩) : pts s = (if (Lib.decodeGo s).1 = 65533 ∧ (Lib.decodeGo s).2 = 1 then -1 - byteAt s 0 else (Lib.decodeGo s).1) :: pts (s.extract (Lib.decodeGo s).2 s.size) := by
  have hs := size_pos h
  have hp := decodeGo_pos h
  obtain ⟨n, hn⟩ : ∃ n, s.size = n + 1 := ⟨s.size - 1, by omega⟩
  have hu : pts s = ptsF (n + 1) s := by rw [pts, hn]
  rw [hu, ptsF, if_neg h, pts, ptsF_more n _ _ (by rw [ByteArray.size_extract]; omega) (Nat.le_refl _)]
theorem pts_len : ∀ (n : Nat) (s : T), (ptsF n s).length ≤ n
  | 0, _ => Nat.le_refl _
  | n + 1, s => by
    rw [ptsF]
    split
    · simp
    · have := pts_len n (s.extract (Lib.decodeGo s).2 s.size)
      simp only [List.length_cons]; omega
theorem byteAt_lt (s : T) (i : Nat) : 0 ≤ byteAt s i ∧ byteAt s i < 256 := by
  unfold byteAt
  have := ((s.data[i]?).getD 0).toNat_lt
  omega
set_option maxHeartbeats 3200000 in
theorem points_run (hU : GU G) (s0 : T) (hs0 : s0.size ≤ 1000000) (n : Nat) : ACalls Tryz.prog G 293 [.str s0] H n fun r H' n' => Sub H H' ∧ ((pts s0 = [] ∧ r = .ls false []) ∨ ∃ o, r = .os o 0 (pts s0).length ∧ H' o = some ⟨3, 1, (pts s0).map fun x => [AV.int x]⟩ ∧ H o = none ∧ pts s0 ≠ []) := by
  refine ACalls.start mix F293 (by simp) fun hlow => ?_
  have hq := Qt.refl hlow
  have hpl : (pts s0).length ≤ 1000000 := Nat.le_trans (pts_len _ _) hs0
  simp -dsimp -implicitDefEqProofs (disch := omega) only [↓wpre, push_cast, seval, c293]
  refine xw_loopJ (σ := List Int × T × Option Nat) (fun t => [(0, .str t.2.1), (3, outAV t.2.2 t.1.length)]) (fun t H' n' => pts s0 = t.1 ++ pts t.2.1 ∧ t.2.1.size ≤ s0.size ∧ OutIs n H' t.2.2 3 1 (t.1.map fun x => [AV.int x]) n' ∧ (t.2.2 ≠ none → t.1 ≠ []) ∧ Qt H H' n ∧ n ≤ n') (fun t => t.2.1.size) ([], s0, none) ⟨rfl, Nat.le_refl _, rfl, fun h => (h rfl).elim, hq, Nat.le_refl _⟩ (by simp -dsimp -implicitDefEqProofs (disch := omega) only [↓wpre, push_cast, seval, outAV]) ?_
  clear hq
  rintro ⟨d, s, oid⟩ fr H' n1 ⟨hp, hs, ho, hne, hq, hn1⟩ hh
  simp only [has_nil, has_cons, and_true] at hh hp hs ho hne
  by_cases h0 : s = ⟨#[]⟩
  · simp -dsimp -implicitDefEqProofs (disch := omega) only [↓wpre, push_cast, seval, hh, h0]
    rw [h0, pts_nil, List.append_nil] at hp
    refine fin_intro (Sub.refl _) ⟨hq.1, ?_⟩
    rw [hp]
    cases oid with
    | none =>
      have : (d.map fun x => [AV.int x]) = [] := ho
      exact .inl ⟨by simpa using this, rfl⟩
    | some o => exact .inr ⟨o, rfl, ho.1, by
        cases hx : H o with
        | none => rfl
        | some q => exact absurd (hlow o q hx) (by have := ho.2.1; omega), hne (by simp)⟩
  · have hdp := decodeGo_pos h0
    have hdr := decodeGo_rune h0
    have hdl := decodeGo_le h0
    have hsz := size_pos h0
    have hpc := pts_cons h0
    have hby := byteAt_lt s 0
    simp -dsimp -implicitDefEqProofs (disch := omega) only [↓wpre, push_cast, seval, hh, h0]
    refine (decode_c G _ hU s).x fun n2 hn2 => ?_
    generalize Lib.decodeGo s = dd at *
    obtain ⟨c, w⟩ := dd
    simp only at *
    obtain ⟨p, hpe⟩ : ∃ p : Int, (if c = 65533 ∧ w = 1 then -1 - byteAt s 0 else (c : Int)) = p := ⟨_, rfl⟩
    rw [hpe] at hpc
    rw [hpc] at hp
    have hdl2 : d.length + 1 ≤ 1000000 := by have := congrArg List.length hp; simp at this; omega
    simp -dsimp -implicitDefEqProofs (disch := omega) only [↓wpre, push_cast, seval, hh, Int.toNat_zero]
    repeat' (first | ((first | with_reducible refine cnd_ndec (fun hc => ?_) (fun hc => ?_) | with_reducible refine cnd_dec (fun hc => ?_) (fun hc => ?_) | with_reducible refine cnd_nb (fun hc => ?_) (fun hc => ?_) | with_reducible refine cnd_intro (fun hc => ?_) (fun hc => ?_)) <;> (first | (exfalso; omega) | (try simp -dsimp -implicitDefEqProofs (disch := omega) only [↓wpre, push_cast, seval, hc, hh, Int.toNat_zero]))) | (with_reducible refine anyN_intro fun n' hn' => ?_; try simp -dsimp -implicitDefEqProofs (disch := omega) only [↓wpre, push_cast, seval, hh, Int.toNat_zero]) | fail)
    all_goals
      first
        | (rw [if_pos ⟨by omega, by omega⟩] at hpe; have hw1 : 1 = w := by omega)
        | (rw [if_neg (by omega)] at hpe; have hw1 : w = w := rfl)
      simp only [hpe]
      refine xapp_out (n0 := n) (rows := d.map fun x => [AV.int x]) (by (refine OutIs.mono (n := n1) ?_ (by omega); repeat (first | exact ho | refine OutIs.put ?_ (by omega) | refine OutIs.far ?_ (by omega)))) (by simp) (by intro r hr; simp at hr; subst hr; exact ⟨rfl, rfl⟩) (by simp only [List.length_map]; omega) ?_
      simp -dsimp -implicitDefEqProofs (disch := omega) only [↓wpre, push_cast, seval, hh]
      refine againJ (d ++ [p], s.extract w s.size, some n2) (by dsimp only; rw [ByteArray.size_extract]; omega) ⟨by rw [hp]; simp, by dsimp only; rw [ByteArray.size_extract]; omega, by dsimp only; rw [List.map_append]; exact OutIs.new (n0 := n) (n := n2) (by omega), fun _ => by simp, ?_, by omega⟩ (by simp -dsimp -implicitDefEqProofs (disch := omega) only [↓wpre, push_cast, seval, hh]; (try simp [outAV]); (try rw [← hw1]))
      exact (Qt.dropO (n := n2) (n0 := n) (E := 3) (sz := 1) (rows := d.map fun x => [AV.int x]) (by (refine OutIs.mono (n := n1) ?_ (by omega); repeat (first | exact ho | refine OutIs.put ?_ (by omega) | refine OutIs.far ?_ (by omega)))) hq).hu (by omega)
end Go.Proofs.YtblhbafoncfhdaaGreatDoor

