/- Plain laws over what package consent computes; the conditions stand at each. -/
import Derived.Test.YthcedgclhoggcaaGreatDoorTw46
/-! With what Ask returns the answer is as it was wanted; merged in it says the same. -/
set_option linter.unusedVariables false
set_option linter.unusedSimpArgs false
namespace Go.Proofs.YthcedgclhoggcaaGreatDoor
open Go Go.Ab Go.Pm Go.Cm
/-- A statement that is right wherever it stands. -/
def OkS (p : List Purpose) (s : Stm) : Prop := stmErr p none s = 0
theorem okS_prev {p : List Purpose} {s : Stm} (h : OkS p s) {prev : Option Stm} (hp : ∀ q, prev = some q → q.no < s.no) : stmErr p prev s = 0 := by
  cases prev with
  | none => exact h
  | some q =>
    have hq := hp q rfl
    unfold OkS stmErr at h
    unfold stmErr
    simp only [Bool.false_eq_true, if_false] at h
    have : decide (s.no ≤ q.no) = false := by simpa using hq
    simp only [this, Bool.false_eq_true, if_false]
    exact h
theorem okS_of {p : List Purpose} {s : Stm} {prev : Option Stm} (h : stmErr p prev s = 0) : OkS p s ∧ ∀ q, prev = some q → q.no < s.no := by
  cases prev with
  | none => exact ⟨h, fun q hq => by cases hq⟩
  | some q =>
    unfold stmErr at h
    unfold OkS stmErr
    by_cases hw : within s.no 1 1000000 = false
    · rw [if_pos hw] at h; cases h
    · rw [if_neg hw] at h ⊢
      by_cases hd : decide (s.no ≤ q.no) = true
      · simp only [hd, if_true] at h; cases h
      · simp only [hd, Bool.false_eq_true, if_false] at h
        simp only [Bool.false_eq_true, if_false]
        exact ⟨h, fun q' hq' => by cases hq'; simpa using hd⟩
theorem checkGo_of {p : List Purpose} : ∀ {l : List Stm} {prev : Option Stm}, (∀ s ∈ l, OkS p s) → l.Pairwise (fun a b => a.no < b.no) → (∀ q, prev = some q → ∀ s ∈ l, q.no < s.no) → checkGo p prev l = 0
  | [], _, _, _, _ => rfl
  | s :: r, prev, h1, h2, h3 => by
    rw [List.pairwise_cons] at h2
    rw [checkGo, okS_prev (h1 s List.mem_cons_self) (fun q hq => h3 q hq s List.mem_cons_self), if_neg (by simp)]
    exact checkGo_of (fun s hs => h1 s (List.mem_cons_of_mem _ hs)) h2.2 (fun q hq s hs => by cases hq; exact h2.1 s hs)
theorem check_of {p : List Purpose} {l : List Stm} (hp : checkPolicy p = 0) (hl : l.length ≤ 3000) (h1 : ∀ s ∈ l, OkS p s) (h2 : l.Pairwise (fun a b => a.no < b.no)) : Cm.check p l = 0 := by
  rw [Cm.check, if_neg (by simp [hp]), if_neg (by omega)]
  exact checkGo_of h1 h2 (fun q hq => by cases hq)
theorem checkGo_inv {p : List Purpose} : ∀ {l : List Stm} {prev : Option Stm}, checkGo p prev l = 0 → (∀ s ∈ l, OkS p s) ∧ l.Pairwise (fun a b => a.no < b.no) ∧ ∀ q, prev = some q → ∀ s ∈ l, q.no < s.no
  | [], _, _ => ⟨by simp, List.Pairwise.nil, by simp⟩
  | s :: r, prev, h => by
    rw [checkGo] at h
    split at h
    · rename_i h1; exact absurd h h1
    · rename_i h1
      obtain ⟨k1, k2⟩ := okS_of (by simpa using h1 : stmErr p prev s = 0)
      obtain ⟨i1, i2, i3⟩ := checkGo_inv h
      refine ⟨fun x hx => ?_, List.pairwise_cons.2 ⟨fun x hx => i3 s rfl x hx, i2⟩, fun q hq x hx => ?_⟩
      · rcases List.mem_cons.1 hx with rfl | hx
        · exact k1
        · exact i1 x hx
      · rcases List.mem_cons.1 hx with rfl | hx
        · exact k2 q hq
        · have := k2 q hq; have := i3 s rfl x hx; omega
theorem check_inv {p : List Purpose} {l : List Stm} (h : Cm.check p l = 0) : checkPolicy p = 0 ∧ l.length ≤ 3000 ∧ (∀ s ∈ l, OkS p s) ∧ l.Pairwise (fun a b => a.no < b.no) := by
  rw [Cm.check] at h
  split at h
  · rename_i h1; exact absurd h h1
  · rename_i h1
    split at h
    · cases h
    · rename_i h2
      obtain ⟨k1, k2, _⟩ := checkGo_inv h
      exact ⟨by simpa using h1, by omega, k1, k2⟩
theorem okS_no {p : List Purpose} {s : Stm} (h : OkS p s) : 1 ≤ s.no ∧ s.no ≤ 1000000 := by
  unfold OkS stmErr at h
  split at h
  · cases h
  · rename_i h1
    have : within s.no 1 1000000 = true := by simpa using h1
    simpa only [Pm.within, Bool.and_eq_true, decide_eq_true_eq] using this
theorem okS_at {p : List Purpose} {s : Stm} (h : OkS p s) : 0 ≤ s.at' ∧ s.at' ≤ 4321439 := by
  have : Pm.within s.at' 0 4321439 = true := by unfold OkS at h; grind [stmErr]
  simpa only [Pm.within, Bool.and_eq_true, decide_eq_true_eq] using this
theorem okS_k {p : List Purpose} {s s' : Stm} (h : OkS p s') (hk : kOf s = kOf s') (hn : 1 ≤ s.no ∧ s.no ≤ 1000000) : OkS p s := by
  obtain ⟨f1, f2, f3, f4, f5, f6⟩ := kOf_fields hk
  have w1 : within s.no 1 1000000 = true := by simp only [Pm.within, Bool.and_eq_true, decide_eq_true_eq]; exact hn
  have w2 : within s'.no 1 1000000 = true := by simp only [Pm.within, Bool.and_eq_true, decide_eq_true_eq]; exact okS_no h
  unfold OkS stmErr at h ⊢
  rw [w2] at h
  rw [w1, f1, f2, f3, f4, f5, f6]
  exact h
theorem lastNo_max {p : List Purpose} {l : List Stm} (h2 : l.Pairwise (fun a b => a.no < b.no)) : ∀ s ∈ l, s.no ≤ lastNo l := by
  intro s hs
  have hl : l ≠ [] := fun e => by subst e; simp at hs
  have e : lastNo l = (l.getLast hl).no := by rw [lastNo, List.getLast?_eq_some_getLast hl]
  rw [e]
  obtain ⟨i, hi, rfl⟩ := List.getElem_of_mem hs
  rw [List.getLast_eq_getElem]
  by_cases hlast : i = l.length - 1
  · subst hlast; exact Int.le_refl _
  · exact Int.le_of_lt (List.pairwise_iff_getElem.1 h2 i (l.length - 1) hi (by omega) (by omega))
theorem mkS_no (q : Q) (x : Idn) : ∀ (d : List Int) (k : Int), (∀ s ∈ mkS q x k d, k < s.no ∧ s.no ≤ k + d.length) ∧ (mkS q x k d).Pairwise (fun a b => a.no < b.no)
  | [], k => ⟨by simp [mkS], List.Pairwise.nil⟩
  | w :: d, k => by
    obtain ⟨h1, h2⟩ := mkS_no q x d (k + 1)
    refine ⟨fun s hs => ?_, ?_⟩
    · simp only [mkS] at hs
      simp only [List.length_cons]
      rcases List.mem_cons.1 hs with rfl | hs
      · dsimp only; omega
      · have := h1 s hs; omega
    · simp only [mkS]
      exact List.pairwise_cons.2 ⟨fun s hs => by have := (h1 s hs).1; exact this, h2⟩
theorem mkS_id (q : Q) (x : Idn) : ∀ (d : List Int) (k : Int), ∀ s ∈ mkS q x k d, s.id = x ∧ s.region = q.region
  | [], k, s, h => by simp [mkS] at h
  | w :: d, k, s, h => by
    simp only [mkS] at h
    rcases List.mem_cons.1 h with rfl | h
    · exact ⟨rfl, rfl⟩
    · exact mkS_id q x d _ s h
theorem mkS_ok {p : List Purpose} (q : Q) (x : Idn) (hp : (purposeOf p q.purpose).isSome = true) (hr : isKey q.region = true) (hc : within q.channel 1 4 = true) (ha : within q.at' 0 4321439 = true) (hx : checkId x.kind x.text = 0) : ∀ (d : List Int) (k : Int), 0 ≤ k → k + d.length ≤ 1000000 → (∀ w ∈ d, w = 1 ∨ w = 3 ∨ w = 5) → ∀ s ∈ mkS q x k d, OkS p s
  | [], k, _, _, _, s, hs => by simp [mkS] at hs
  | w :: d, k, h0, h1, h2, s, hs => by
    simp only [mkS] at hs
    simp only [List.length_cons] at h1
    rcases List.mem_cons.1 hs with rfl | hs
    · have hw := h2 w List.mem_cons_self
      have wn : within (k + 1) 1 1000000 = true := by simp only [Pm.within, Bool.and_eq_true, decide_eq_true_eq]; omega
      unfold OkS stmErr
      dsimp only
      rw [wn, ha, hx, hc]
      rcases hw with rfl | rfl | rfl <;> simp [Pm.within, ofCh, hp, hr]
    · exact mkS_ok q x hp hr hc ha hx d (k + 1) (by omega) (by omega) (fun w hw => h2 w (List.mem_cons_of_mem _ hw)) s hs
theorem wantedL_what (t : Option Term) (pu : T) (l : List Stm) (a : Int) : ∀ w ∈ wantedL t pu l a, w = 1 ∨ w = 3 ∨ w = 5 := by
  intro w hw
  unfold wantedL at hw
  rcases List.mem_append.1 hw with h | h
  · split at h
    · simp at h; omega
    · simp at h
  · split at h
    · simp at h
    · simp at h; omega
theorem withdrawn (q : Q) (l : List Stm) (w : Stm) (x : Idn) (hid : w.id = x) (hch : w.channel = q.channel) (hat : w.at' = q.at') (hpu : w.purpose = q.purpose) (hwh : w.what = 3) (hw : w ∈ l) : (answer q l x q.at').may = false := by
  unfold answer answerL
  cases termOf q.p q.purpose q.region q.channel with
  | none => rfl
  | some t =>
    have hasc := isort_asc (l.filter fun s => decide (s.id = x) && decide (s.channel = q.channel))
    have hu := upTo_filter (l := saidBy l x q.channel) hasc q.at'
    have hwu : w ∈ upTo (saidBy l x q.channel) q.at' := by
      rw [hu]
      refine List.mem_filter.2 ⟨?_, by simp [hat]⟩
      unfold saidBy
      rw [(isort_perm _ _).mem_iff]
      exact List.mem_filter.2 ⟨hw, by simp [hid, hch]⟩
    have hle : ∀ s ∈ upTo (saidBy l x q.channel) q.at', s.at' ≤ q.at' := fun s hs => by
      rw [hu] at hs
      have := (List.mem_filter.1 hs).2
      simpa using this
    dsimp only
    generalize upTo (saidBy l x q.channel) q.at' = u at hwu hle
    split
    · rfl
    · obtain ⟨m1, m2⟩ := withdrawal_max u q.purpose
      unfold allowed
      cases hwd : withdrawal u q.purpose with
      | none => exact absurd ⟨hwh, hpu⟩ (m1 hwd w hwu)
      | some v =>
        have hv := m2 v hwd w hwu hwh hpu
        have hg : grants u q.purpose = [] := by
          rw [grants_eq, hwd]
          refine List.filter_eq_nil_iff.2 fun s hs => ?_
          have := hle s hs
          simp only [Option.map_some, Bool.and_eq_true, decide_eq_true_eq, not_and]
          intro _
          omega
        dsimp only
        rw [hg]
        rfl
theorem askFor_law (q : Q) (l : List Stm) (x : Idn) (want : Bool) (hl : l.length ≤ 17) :
    ((askFor q l x want).2 ≠ 0 → (askFor q l x want).1 = []) ∧
    ((askFor q l x want).2 = 0 → Cm.check q.p l = 0 ∧ Cm.check q.p (askFor q l x want).1 = 0 ∧ (askFor q l x want).1.length ≤ 2 ∧ checkAll q (l ++ (askFor q l x want).1) 1 [x] = 0 ∧
      ((answer q (l ++ (askFor q l x want).1) x q.at').may = want ∨ (want = true ∧ (answer q (l ++ (askFor q l x want).1) x q.at').why = 8)) ∧
      checkAll q (mergeL (l ++ (askFor q l x want).1)) 1 [x] = 0 ∧ ∀ s ∈ (askFor q l x want).1, s.id = x ∧ s.region = q.region ∧ 0 ≤ s.at') := by
  by_cases h0 : checkAll q l 1 [x] = 0
  case neg =>
    have e : askFor q l x want = ([], checkAll q l 1 [x]) := by rw [askFor, if_pos h0]
    rw [e]
    exact ⟨fun _ => rfl, fun h => absurd h h0⟩
  have h1 : Cm.check q.p l = 0 := by grind [checkAll]
  have h2 : q.check = 0 := by grind [checkAll]
  have h3 : checkIds [x] 1 = 0 := by grind [checkAll]
  obtain ⟨c1, c2, c3, c4⟩ := check_inv h1
  have hid : checkId x.kind x.text = 0 := by
    simp only [checkIds, checkIdsGo, List.length_cons, List.length_nil] at h3
    by_cases hc : checkId x.kind x.text = 0
    · exact hc
    · simp [hc] at h3
  have hq1 : (purposeOf q.p q.purpose).isSome = true := by
    cases hx : (purposeOf q.p q.purpose).isSome with
    | true => rfl
    | false => rw [Q.check, hx, if_pos rfl] at h2; cases h2
  have hq2 : isKey q.region = true := by
    cases hx : isKey q.region with
    | true => rfl
    | false => rw [Q.check, hq1, if_neg (by simp), hx, if_pos rfl] at h2; cases h2
  have hq3 : within q.channel 1 4 = true := by
    cases hx : within q.channel 1 4 with
    | true => rfl
    | false => rw [Q.check, hq1, if_neg (by simp), hq2, if_neg (by simp), hx, if_pos rfl] at h2; cases h2
  have hq4 : within q.at' 0 4321439 = true := by
    cases hx : within q.at' 0 4321439 with
    | true => rfl
    | false => rw [Q.check, hq1, if_neg (by simp), hq2, if_neg (by simp), hq3, if_neg (by simp), hx, if_pos rfl] at h2; cases h2
  have hlb := lastNo_le h1
  have call : ∀ m, Cm.check q.p m = 0 → checkAll q m 1 [x] = 0 := fun m hm => by
    rw [checkAll, hm, if_neg (by simp), h3, if_neg (by simp), h2]
  have hmerge : ∀ m : List Stm, m.length ≤ 3000 → (∀ s ∈ m, OkS q.p s) → checkAll q (mergeL m) 1 [x] = 0 := fun m hm hok => by
    have hml := mergeL_len m
    refine call _ (check_of c1 (by omega) (fun s hs => ?_) (renum_rise _ _))
    obtain ⟨s', k1, k2⟩ := (mergeL_same m).2 s hs
    refine okS_k (hok s' k1) k2.symm ?_
    have h5 := renum_mem _ _ s hs
    have h6 : (cpt (msortS m)).length = (mergeL m).length := by rw [mergeL, renum_len]
    omega
  by_cases hmw : (answer q l x q.at').may = want
  · have e : askFor q l x want = ([], 0) := by rw [askFor, if_neg (by simpa using h0), if_pos hmw]
    rw [e]
    refine ⟨fun h => absurd rfl h, fun _ => ⟨h1, check_of c1 (by simp) (by simp) List.Pairwise.nil, by simp, ?_, ?_, ?_⟩⟩
    · rw [List.append_nil]; exact h0
    · rw [List.append_nil]; exact .inl hmw
    · rw [List.append_nil]; exact ⟨hmerge l (by omega) c3, by simp⟩
  by_cases hw : want = true ∧ (termOf q.p q.purpose q.region q.channel).isSome = false
  · have e : askFor q l x want = ([], 16) := by rw [askFor, if_neg (by simpa using h0), if_neg hmw, if_pos hw]
    rw [e]
    exact ⟨fun _ => rfl, fun h => by cases h⟩
  have hlen := mkS_len q x (askWhat q l x want) (lastNo l)
  have hw2 := askWhat_len q l x want
  have hwh : ∀ w ∈ askWhat q l x want, w = 1 ∨ w = 3 ∨ w = 5 := by
    unfold askWhat
    split
    · exact wantedL_what _ _ _ _
    · intro w hw; simp at hw; omega
  have hwf : want = false → mkS q x (lastNo l) (askWhat q l x want) = [⟨lastNo l + 1, q.at', x, q.purpose, q.region, q.channel, 3⟩] := fun h => by
    rw [askWhat, h, if_neg (by simp)]; rfl
  generalize hwe : askWhat q l x want = what at hlen hw2 hwh hwf
  have hno := mkS_no q x what (lastNo l)
  have hokm := mkS_ok (p := q.p) q x hq1 hq2 hq3 hq4 hid what (lastNo l)
  by_cases hcf : want = true ∧ (answer q (l ++ mkS q x (lastNo l) what) x q.at').may = false ∧ (answer q (l ++ mkS q x (lastNo l) what) x q.at').why ≠ 8
  · have e : askFor q l x want = ([], 13) := by
      rw [askFor, if_neg (by simpa using h0), if_neg hmw, if_neg hw, hwe]
      dsimp only
      rw [if_pos hcf]
    rw [e]
    exact ⟨fun _ => rfl, fun h => by cases h⟩
  by_cases hfu : 3000 < l.length + (mkS q x (lastNo l) what).length ∨ 1000000 < lastNo l + (mkS q x (lastNo l) what).length
  · have e : askFor q l x want = ([], 12) := by
      rw [askFor, if_neg (by simpa using h0), if_neg hmw, if_neg hw, hwe]
      dsimp only
      rw [if_neg hcf, if_pos hfu]
    rw [e]
    exact ⟨fun _ => rfl, fun h => by cases h⟩
  have e : askFor q l x want = (mkS q x (lastNo l) what, 0) := by
    rw [askFor, if_neg (by simpa using h0), if_neg hmw, if_neg hw, hwe]
    dsimp only
    rw [if_neg hcf, if_neg hfu]
  rw [e]
  refine ⟨fun h => absurd rfl h, fun _ => ?_⟩
  dsimp only
  have hok2 := hokm hlb.1 (by omega) hwh
  have hall : ∀ s ∈ l ++ mkS q x (lastNo l) what, OkS q.p s := fun s hs => by
    rcases List.mem_append.1 hs with hs | hs
    · exact c3 s hs
    · exact hok2 s hs
  have hrise : (l ++ mkS q x (lastNo l) what).Pairwise (fun a b => a.no < b.no) := List.pairwise_append.2 ⟨c4, hno.2, fun a ha b hb => by
    have := lastNo_max (p := q.p) c4 a ha
    have := (hno.1 b hb).1
    omega⟩
  refine ⟨h1, check_of c1 (by omega) hok2 hno.2, by omega, call _ (check_of c1 (by rw [List.length_append]; omega) hall hrise), ?_, hmerge _ (by rw [List.length_append]; omega) hall, fun s hs => ⟨(mkS_id q x what (lastNo l) s hs).1, (mkS_id q x what (lastNo l) s hs).2, (okS_at (hok2 s hs)).1⟩⟩
  cases want with
  | false =>
    left
    rw [hwf rfl]
    exact withdrawn q _ ⟨lastNo l + 1, q.at', x, q.purpose, q.region, q.channel, 3⟩ x rfl rfl rfl rfl rfl (by simp)
  | true =>
    by_cases hm : (answer q (l ++ mkS q x (lastNo l) what) x q.at').may = true
    · exact .inl hm
    · right
      refine ⟨rfl, ?_⟩
      by_cases hw8 : (answer q (l ++ mkS q x (lastNo l) what) x q.at').why = 8
      · exact hw8
      · exact absurd ⟨rfl, by simpa using hm, hw8⟩ hcf
end Go.Proofs.YthcedgclhoggcaaGreatDoor
