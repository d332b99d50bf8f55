/- Contracts of functions of the program: each computes what its model says; the conditions stand at each. -/
import Derived.Test.YtblhbafoncfhdaaGreatDoorTe16
import Derived.Lib.MapLaws
set_option linter.unusedSimpArgs false
set_option linter.unusedVariables false
set_option maxRecDepth 20000
set_option pp.deepTerms false
set_option pp.deepTerms.threshold 3
namespace Go.Proofs.YtblhbafoncfhdaaGreatDoor
open Go Go.Ab Go.Pm Go.Cm Go.El Go.Rm
variable (G : Nat → AV) (H : Nat → Option AObj)
theorem decodeGo_of {s : T} (h : ¬ s = ⟨#[]⟩) : Lib.decodeGo s = Utf8.decode s 0 := by
  have := size_pos h
  rw [Lib.decodeGo, if_neg (by omega)]
theorem decodeGo_pos {s : T} (h : ¬ s = ⟨#[]⟩) : 1 ≤ (Lib.decodeGo s).2 := by rw [decodeGo_of h]; exact Lib.width_pos _ _
theorem decodeGo_rune {s : T} (h : ¬ s = ⟨#[]⟩) : (Lib.decodeGo s).1 ≤ 1114111 := by rw [decodeGo_of h]; exact Lib.rune_le _ _
theorem decodeGo_le {s : T} (h : ¬ s = ⟨#[]⟩) : (Lib.decodeGo s).2 ≤ s.size := by
  rw [decodeGo_of h]
  have h1 : s.data.toList ≠ [] := fun e => h (toList_ext e)
  have := Lib.decodeL_le s.data.toList h1
  rw [tlen] at this
  exact this
theorem ptsF_more : ∀ (n m : Nat) (s : T), s.size ≤ n → s.size ≤ m → ptsF n s = ptsF m s
  | 0, 0, _, _, _ => rfl
  | 0, m + 1, s, h, _ => by
    have : s = ⟨#[]⟩ := by
      by_cases h0 : s = ⟨#[]⟩
      · exact h0
      · have := size_pos h0; omega
    rw [ptsF, ptsF, if_pos this]
  | n + 1, 0, s, _, h => by
    have : s = ⟨#[]⟩ := by
      by_cases h0 : s = ⟨#[]⟩
      · exact h0
      · have := size_pos h0; omega
    rw [ptsF, ptsF, if_pos this]
  | n + 1, m + 1, s, h1, h2 => by
    rw [ptsF, ptsF]
    by_cases h0 : s = ⟨#[]⟩
    · rw [if_pos h0, if_pos h0]
    · have hp := decodeGo_pos h0
      have hs := size_pos h0
      rw [if_neg h0, if_neg h0, ptsF_more n m _ (by rw [ByteArray.size_extract]; omega) (by rw [ByteArray.size_extract]; omega)]
theorem pts_nil : pts ⟨#[]⟩ = [] := rfl
theorem pts_cons {s : T} (h : ¬ s = ⟨#[]⟩) : pts s = (if (Lib.decodeGo s).1 = 65533 ∧ (Lib.decodeGo s).2 = 1 then -1 - byteAt s 0 else (Lib.decodeGo s).1) :: pts (s.extract (Lib.decodeGo s).2 s.size) := by
  have hs := size_pos h
  have hp := decodeGo_pos h
  obtain ⟨n, hn⟩ : ∃ n, s.size = n + 1 := ⟨s.size - 1, by omega⟩
  have hu : pts s = ptsF (n + 1) s := by rw [pts, hn]
  rw [hu, ptsF, if_neg h, pts, ptsF_more n _ _ (by rw [ByteArray.size_extract]; omega) (Nat.le_refl _)]
theorem pts_len : ∀ (n : Nat) (s : T), (ptsF n s).length ≤ n
  | 0, _ => Nat.le_refl _
  | n + 1, s => by
    rw [ptsF]
    split
    · simp
    · have := pts_len n (s.extract (Lib.decodeGo s).2 s.size)
      simp only [List.length_cons]; omega
theorem byteAt_lt (s : T) (i : Nat) : 0 ≤ byteAt s i ∧ byteAt s i < 256 := by
  unfold byteAt
  have := ((s.data[i]?).getD 0).toNat_lt
  omega
end Go.Proofs.YtblhbafoncfhdaaGreatDoor

