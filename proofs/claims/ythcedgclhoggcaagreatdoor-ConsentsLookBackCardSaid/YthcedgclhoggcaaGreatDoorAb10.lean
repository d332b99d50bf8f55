/- A part of an abstract logic over the model's runs, proved sound against the model; no condition. -/
import Derived.Test.YthcedgclhoggcaaGreatDoorAb9
/-! append, make, clear. -/
set_option linter.unusedVariables false
set_option linter.unusedSimpArgs false
namespace Go.Ab
open Go.RowKit
variable {P : Program} {w w' : World} {g g' : Gh} {G : Nat → AV} {N : Nat} {st : St} {a : Act}

theorem flatten_at {sz : Nat} : ∀ {rows : List (List AV)} {r : Nat} {row : List AV} {c : Nat} {x : AV}, (∀ r ∈ rows, r.length = sz) → rows[r]? = some row → row[c]? = some x → rows.flatten[r * sz + c]? = some x
  | [], r, row, c, x, _, h, _ => by simp at h
  | y :: rows, 0, row, c, x, hl, h, hx => by
    simp at h; subst h
    have : c < y.length := (List.getElem?_eq_some_iff.1 hx).1
    rw [List.flatten_cons, List.getElem?_append_left (by omega)]
    simpa using hx
  | y :: rows, r + 1, row, c, x, hl, h, hx => by
    have hy := hl y (by simp)
    rw [List.flatten_cons, List.getElem?_append_right (by rw [hy, Nat.succ_mul]; omega), hy, show (r + 1) * sz + c - sz = r * sz + c from by rw [Nat.succ_mul]; omega]
    exact flatten_at (fun r hr => hl r (by simp [hr])) (by simpa using h) hx
theorem flatten_get {sz : Nat} : ∀ {rows : List (List AV)} {j : Nat} {x : AV}, (∀ r ∈ rows, r.length = sz) → rows.flatten[j]? = some x → ∃ r row c, rows[r]? = some row ∧ row[c]? = some x ∧ j = r * sz + c
  | [], j, x, _, h => by simp at h
  | y :: rows, j, x, hl, h => by
    have hy := hl y (by simp)
    rw [List.flatten_cons] at h
    rcases Nat.lt_or_ge j y.length with h1 | h1
    · rw [List.getElem?_append_left h1] at h
      exact ⟨0, y, j, by simp, h, by simp⟩
    · rw [List.getElem?_append_right h1] at h
      obtain ⟨r, row, c, h2, h3, h4⟩ := flatten_get (fun r hr => hl r (by simp [hr])) h
      exact ⟨r + 1, row, c, by simpa using h2, h3, by rw [Nat.succ_mul]; omega⟩

theorem RepRows.flat {b : Nat} : ∀ {rows : List (List AV)} {o : Nat}, RepRows w g b o rows → RepCells w g b o rows.flatten
  | [], o, _ => trivial
  | r :: rows, o, h => by
    rw [List.flatten_cons]
    exact h.1.append (RepRows.flat h.2)

/-- The cells that an object's rows say, as the first cells of its block. -/
theorem ObjIn.flat {arr : Array Value} {o : AObj} (h : ObjIn w g arr o) : RepList w g o.rows.flatten (arr.toList.take (o.rows.length * o.sz)) := by
  have hl : ∀ r ∈ o.rows, r.length = o.sz := fun r hr => by
    obtain ⟨j, hj⟩ := List.mem_iff_getElem?.1 hr
    exact (h.2 j r hj).1
  have h1 := h.1
  refine RepList.of (by rw [flat_len hl]; simp; omega) fun j x hx => ?_
  have hj : j < o.rows.length * o.sz := by rw [← flat_len hl]; exact (List.getElem?_eq_some_iff.1 hx).1
  obtain ⟨r, row, c, h2, h3, h4⟩ := flatten_get hl hx
  subst h4
  obtain ⟨v, h5, h6⟩ := (h.2 r row h2).2 c x h3
  exact ⟨v, by rw [List.getElem?_take_of_lt hj]; simpa using h5, h6⟩
theorem ObjIn.of_flat {arr : Array Value} {o : AObj} (hl : ∀ r ∈ o.rows, r.length = o.sz) (hs : o.rows.length * o.sz ≤ arr.size) (h : RepList w g o.rows.flatten (arr.toList.take (o.rows.length * o.sz))) : ObjIn w g arr o := by
  refine ⟨hs, fun r row hr => ⟨hl row (List.mem_of_getElem? hr), fun c x hx => ?_⟩⟩
  obtain ⟨v, h1, h2⟩ := h.get _ x (flatten_at hl hr hx)
  have hlt : r * o.sz + c < o.rows.length * o.sz := by
    have := (List.getElem?_eq_some_iff.1 h1).1
    simp at this
    omega
  rw [List.getElem?_take_of_lt hlt] at h1
  exact ⟨v, by simpa using h1, h2⟩

/-- A row that a law of the kit has left becomes an object; the object that it was before, if any, is gone. -/
theorem adopt (hI : Inv w g) {base e size n blk : Nat} {v : Value} {vs : List Value} (hown : w'.ownsRow base e size v n vs) (hn : 0 < n) (hgr : w.grownBy w' (some blk)) {H : Nat → Option AObj} (hH : Sub H g.H) (hblk : ∀ i o, H i = some o → g.μ i ≠ blk)
    (hnew : ∀ b, v.ownBlock = some b → b = blk ∨ w.heap.size ≤ b) (hown2 : ∀ b, v.ownBlock = some b → g.Own b ∨ w.heap.size ≤ b) (hko : g.Own blk ∨ w.heap.size ≤ blk)
    {rows : List (List AV)} (hrl : ∀ r ∈ rows, r.length = size) (hrn : rows.length = n) (hrep : RepList w g rows.flatten vs) :
    ∃ g', Step w g w' g' ∧ Inv w' g' ∧ g'.H = upd H g.n (some ⟨e, size, rows⟩) ∧ g'.n = g.n + 1 ∧ Rep w' g' (.os g.n 0 n) v := by
  rcases hown.2 with ⟨_, h0⟩ | ⟨b, cap, cur, rfl, h1, h2, h3, h4, h5, h6⟩
  · omega
  have hb := hnew b rfl
  have hb2 := hown2 b rfl
  have hbs : b < w'.heap.size := (Array.getElem?_eq_some_iff.1 h2).1
  have hkeepH : ∀ i o, H i = some o → w'.heap[g.μ i]? = w.heap[g.μ i]? := fun i o ho =>
    hgr.block _ (hI.lt i o (hH i o ho)).2 (fun e => hblk i o ho (by simpa using e))
  have hlt : ∀ i o, H i = some o → i < g.n := fun i o ho => (hI.lt i o (hH i o ho)).1
  have hS : Step w g w' { μ := upd g.μ g.n b, H := upd H g.n (some ⟨e, size, rows⟩), n := g.n + 1 } := {
    os := hgr.os, tape := hgr.tape, output := hgr.output, size := hgr.size
    keep := fun k hk hno => hgr.block k hk (fun e => by
      cases e
      rcases hko with h | h
      · exact hno h
      · omega)
    shape := fun i o' arr E hi ho h => by
      have ho' : H i = some o' := by simpa [upd, Nat.ne_of_lt hi] using ho
      exact ⟨arr, by rw [hkeepH i o' ho']; exact h, rfl⟩
    own := fun k ⟨i, o, k1, k2⟩ => by
      by_cases hi : i = g.n
      · simp only [upd, hi, if_true] at k2
        rw [← k2]; exact hb2
      · simp only [upd, if_neg hi] at k1 k2
        exact .inl ⟨i, o, hH i o k1, k2⟩
    n := Nat.le_succ _
    mu := fun i hi => by simp [upd, Nat.ne_of_lt hi]
    live := fun i o' hi ho => by
      have ho' : H i = some o' := by simpa [upd, Nat.ne_of_lt hi] using ho
      exact ⟨o', hH i o' ho', rfl, rfl⟩ }
  refine ⟨_, hS, ?_, rfl, rfl, ⟨_, _, rfl⟩, Nat.lt_succ_self _, fun o ho => ?_⟩
  · refine hI.step hS (fun i o ho => ?_) (fun i j o o' k1 k2 k3 => ?_) (fun i o ho => ?_)
    · by_cases hi : i = g.n
      · simp only [upd, hi, if_true]; exact ⟨Nat.lt_succ_self _, hbs⟩
      · have ho' : H i = some o := by simpa [upd, hi] using ho
        have := hI.lt i o (hH i o ho')
        simp only [upd, if_neg hi]
        exact ⟨by show i < g.n + 1; omega, Nat.lt_of_lt_of_le this.2 hgr.size⟩
    · have nb : ∀ i o, H i = some o → g.μ i ≠ b := fun i o ho e => by
        rcases hb with h | h
        · exact hblk i o ho (e.trans h)
        · have := (hI.lt i o (hH i o ho)).2; omega
      by_cases hi : i = g.n <;> by_cases hj : j = g.n
      · rw [hi, hj]
      · exfalso
        simp only [upd, hi, hj, if_true, if_false] at k2 k3
        exact nb j o' k2 k3.symm
      · exfalso
        simp only [upd, hi, hj, if_true, if_false] at k1 k3
        exact nb i o k1 k3
      · simp only [upd, if_neg hi, if_neg hj] at k1 k2 k3
        exact hI.inj i j o o' (hH i o k1) (hH j o' k2) k3
    · by_cases hi : i = g.n
      · subst hi
        simp only [upd, if_true, Option.some.injEq] at ho
        subst ho
        refine .inr ⟨cur, by simpa [upd] using h2, ObjIn.of_flat hrl (by show rows.length * size ≤ _; rw [hrn, h5]; exact Nat.mul_le_mul_right _ h3) ?_⟩
        show RepList _ _ rows.flatten (cur.toList.take (rows.length * size))
        rw [hrn, h6]
        exact hrep.mono hS
      · have ho' : H i = some o := by simpa [upd, hi] using ho
        exact .inl ⟨hH i o ho', hkeepH i o ho'⟩
  · simp only [upd, if_true, Option.some.injEq] at ho
    subst ho
    exact ⟨cap, cur, by simp [upd], by simpa [upd] using h2, by simpa using h5, h3, by simpa using h4⟩

theorem grownBy_any {row : Option Nat} {blk : Nat} (h : w.grownBy w' row) (hr : row = none ∨ row = some blk) : w.grownBy w' (some blk) :=
  ⟨h.os, h.tape, h.output, h.size, fun k hk hne => h.block k hk (by rcases hr with rfl | rfl <;> simp_all)⟩

theorem app_sound (hI : Inv w g) {t ty e : TypeId} {i : TypeInfo} {z : Value} (ht : P.underlying t = some (.slice e)) (hi : P.info? e = some i) (hz : i.zero = some z) (hzs : z.cells.size = i.size) (hs0 : 0 < i.size) (hb0 : 0 < i.bytes)
    {nz : Bool} {news : List (List AV)} {xv : Value} (hx : Rep w g (.ls nz news) xv) (hev : Even i.size news) :
    (∀ sv, Rep w g (.ls false []) sv → news.length * i.bytes ≤ 140737488355328 →
      (news = [] → (Builtin.append_ #[t, t] ty #[sv, xv]).run P w = .ok (.slice none 0 0) w) ∧
      (news ≠ [] → ∃ v w' g', (Builtin.append_ #[t, t] ty #[sv, xv]).run P w = .ok v w' ∧ Step w g w' g' ∧ Inv w' g' ∧ g'.H = upd g.H g.n (some ⟨e, i.size, news⟩) ∧ g'.n = g.n + 1 ∧ Rep w' g' (.os g.n 0 news.length) v)) := by
  intro sv hs hlen
  obtain ⟨a0, c0, rfl, h1, h2, h3, h4, _⟩ := hs
  have ha : a0 = none := by cases a0 <;> simp_all
  subst ha
  obtain ⟨rfl, _⟩ := h4 rfl
  obtain ⟨a1, c1, rfl, k1, k2, k3, k4, k5⟩ := hx
  constructor
  · rintro rfl
    cases a1 <;> simp [Builtin.append_, run_underlying ht, run_sizeOf' w hi, Builtin.lenOf, Builtin.firstCells, loadCells, loadCellsFrom]
  · intro hne
    cases a1 with
    | none => exact absurd (k4 rfl).2 hne
    | some ad =>
      obtain ⟨b, o, sp⟩ := ad
      obtain ⟨k6, k7⟩ := k5 _ rfl
      cases k6
      obtain ⟨cs, m1, m2, m3⟩ := rep_cells_list (RepRows.flat k7)
      have hl : ∀ r ∈ news, r.length = i.size := fun r hr => (hev r hr).1
      have h1c : ∀ u ∈ cs, u.oneCell' = true := one_list m3 (by
        rw [List.all_flatten, List.all_eq_true]
        intro r hr
        exact (hev r hr).2)
      have hmx : 0 + news.length ≤ maxLen := by
        have : news.length ≤ news.length * i.bytes := Nat.le_mul_of_pos_right _ hb0
        simp only [maxLen]; omega
      obtain ⟨v', w', e1, e2, e3, e4, e5⟩ := run_append_own_at (P := P) w w.heap.size t ty e i z i.size i.bytes ht hi hz rfl rfl hzs hs0 (.slice none 0 0) 0 [] ⟨by simp, .inl ⟨rfl, rfl⟩⟩
        ⟨b, o, none⟩ news.length c1 cs (by rw [m1, flat_len hl]) (fun j u hj => by rw [add_none]; exact m2 j u hj) h1c hmx (by simpa using hlen) (Nat.le_refl _)
      have hnl : 0 < news.length := List.length_pos_iff.2 hne
      simp only [Nat.zero_add, List.nil_append] at e2
      have e5' : v'.ownBlock = some w.heap.size := by
        rcases e5 with h | h
        · rcases e2.2 with ⟨_, h0⟩ | ⟨q, _, _, rfl, _⟩
          · omega
          · simp [Value.ownBlock] at h
        · exact h
      obtain ⟨g', f1, f2, f3, f4, f5⟩ := adopt (blk := w.heap.size) hI e2 hnl (grownBy_any e3 (.inl rfl)) (Sub.refl g.H) (fun j o hj e => by have := (hI.lt j o hj).2; omega)
        (fun b hb => by rw [e5'] at hb; cases hb; exact .inl rfl) (fun b hb => by rw [e5'] at hb; cases hb; exact .inr (Nat.le_refl _)) (.inr (Nat.le_refl _)) hl rfl m3
      exact ⟨v', w', g', e1, f1, f2, f3, f4, f5⟩

theorem app_own_sound (hI : Inv w g) {t ty e : TypeId} {i : TypeInfo} {z : Value} (ht : P.underlying t = some (.slice e)) (hi : P.info? e = some i) (hz : i.zero = some z) (hzs : z.cells.size = i.size) (hs0 : 0 < i.size) (hb0 : 0 < i.bytes)
    {nz : Bool} {news : List (List AV)} {xv : Value} (hx : Rep w g (.ls nz news) xv) (hev : Even i.size news) {j len : Nat} {sv : Value} (hs : Rep w g (.os j 0 len) sv) {o : AObj} (ho : g.H j = some o) (hsz : o.sz = i.size) (hE : o.E = e) (hrl : o.rows.length = len)
    (hlen : (len + news.length) * i.bytes ≤ 140737488355328) (h0 : 0 < len + news.length) :
    ∃ v w' g', (Builtin.append_ #[t, t] ty #[sv, xv]).run P w = .ok v w' ∧ Step w g w' g' ∧ Inv w' g' ∧ g'.H = upd (upd g.H j none) g.n (some ⟨e, i.size, o.rows ++ news⟩) ∧ g'.n = g.n + 1 ∧ Rep w' g' (.os g.n 0 (len + news.length)) v := by
  obtain ⟨_, hjn, hs⟩ := hs
  obtain ⟨cap, arr, rfl, h1, h2, h3, h4⟩ := hs o ho
  obtain ⟨arr', ha', hob⟩ := hI.obj j o ho
  have : arr' = arr := by rw [h1] at ha'; cases ha'; rfl
  subst this
  have hob : ObjIn w g arr' o := hob
  have hflat := hob.flat
  rw [hrl, hsz] at hflat
  subst hE
  obtain ⟨a1, c1, rfl, k1, k2, k3, k4, k5⟩ := hx
  have hol : ∀ r ∈ o.rows, r.length = i.size := fun r hr => by
    obtain ⟨q, hq⟩ := List.mem_iff_getElem?.1 hr
    rw [← hsz]
    exact (hob.2 q r hq).1
  have hnl : ∀ r ∈ news, r.length = i.size := fun r hr => (hev r hr).1
  have hmx : len + news.length ≤ maxLen := by
    have : len + news.length ≤ (len + news.length) * i.bytes := Nat.le_mul_of_pos_right _ hb0
    simp only [maxLen]; omega
  have hown : w.ownsRow 0 o.E i.size (.slice (some ⟨g.μ j, 0, none⟩) len cap) len (arr'.toList.take (len * i.size)) := by
    refine ⟨by simp; rw [h2, hsz]; simp; rw [Nat.min_eq_left h3], .inr ⟨g.μ j, cap, arr', rfl, Nat.zero_le _, h1, h3, by simpa using h4, by rw [h2, hsz]; simp, rfl⟩⟩
  have hsub : Sub (upd g.H j none) g.H := fun q oq hq => by
    by_cases e : q = j
    · simp [upd, e] at hq
    · simpa [upd, e] using hq
  have hnb : ∀ q oq, upd g.H j none q = some oq → g.μ q ≠ g.μ j := fun q oq hq e => by
    by_cases e' : q = j
    · simp [upd, e'] at hq
    · exact e' (hI.inj q j oq o (by simpa [upd, e'] using hq) ho e)
  rw [show (⟨g.μ j, 0 * o.sz, none⟩ : Addr) = ⟨g.μ j, 0, none⟩ from by simp]
  obtain ⟨cs, xadr, m1, m2, m3, hrun⟩ : ∃ (cs : List Value) (xa : Addr), RepList w g news.flatten cs ∧ (∀ u ∈ cs, u.oneCell' = true) ∧ cs.length = news.length * i.size ∧
      ∃ v' w', (Builtin.append_ #[t, t] ty #[.slice (some ⟨g.μ j, 0, none⟩) len cap, .slice a1 news.length c1]).run P w = .ok v' w' ∧ w'.ownsRow 0 o.E i.size v' (len + news.length) (arr'.toList.take (len * i.size) ++ cs) ∧ w.grownBy w' (some (g.μ j)) ∧ (v' = .slice none 0 0 → False) ∧ (v'.ownBlock = some (g.μ j) ∨ v'.ownBlock = some w.heap.size) := by
    cases a1 with
    | none =>
      obtain ⟨rfl, hn⟩ := k4 rfl
      subst hn
      refine ⟨[], ⟨0, 0, none⟩, rfl, by simp, by simp, .slice (some ⟨g.μ j, 0, none⟩) len cap, w, ?_, ?_, ?_, by simp, .inl rfl⟩
      · simp [Builtin.append_, run_underlying ht, run_sizeOf' w hi, Builtin.lenOf, Builtin.firstCells, h3]
        rfl
      · simpa using hown
      · exact ⟨rfl, rfl, rfl, Nat.le_refl _, fun _ _ _ => rfl⟩
    | some ad =>
      obtain ⟨b, oo, sp⟩ := ad
      obtain ⟨k6, k7⟩ := k5 _ rfl
      cases k6
      obtain ⟨cs, m1, m2, m3⟩ := rep_cells_list (RepRows.flat k7)
      have h1c : ∀ u ∈ cs, u.oneCell' = true := one_list m3 (by
        rw [List.all_flatten, List.all_eq_true]
        intro r hr
        exact (hev r hr).2)
      obtain ⟨v', w', e1, e2, e3, e4, e5⟩ := run_append_own_at (P := P) w 0 t ty o.E i z i.size i.bytes ht hi hz rfl rfl hzs hs0 _ len _ hown
        ⟨b, oo, none⟩ news.length c1 cs (by rw [m1, flat_len hnl]) (fun j u hj => by rw [add_none]; exact m2 j u hj) h1c hmx hlen (Nat.zero_le _)
      exact ⟨cs, ⟨0, 0, none⟩, m3, h1c, by rw [m1, flat_len hnl], v', w', e1, e2, e3, fun h => by simpa using (e4.1 h).1, e5⟩
  obtain ⟨v', w', e1, e2, e3, e4, e5⟩ := hrun
  obtain ⟨g', f1, f2, f3, f4, f5⟩ := adopt (blk := g.μ j) hI e2 h0 e3 hsub hnb (fun b hb => by rcases e5 with h | h <;> rw [h] at hb <;> cases hb <;> simp) (fun b hb => by
        rcases e5 with h | h <;> rw [h] at hb <;> cases hb
        · exact .inl ⟨j, o, ho, rfl⟩
        · exact .inr (Nat.le_refl _)) (.inl ⟨j, o, ho, rfl⟩) (rows := o.rows ++ news) (fun r hr => by
        rcases List.mem_append.1 hr with h | h
        · exact hol r h
        · exact hnl r h) (by simp [hrl]) (by rw [List.flatten_append]; exact hflat.append m1)
  exact ⟨v', w', g', e1, f1, f2, f3, f4, f5⟩

/-- A new owned object. -/
theorem more_rep (g : Gh) (b : Nat) (o : AObj) (w : World) : Rep w (g.more b o) (.op g.n 0 0) (.pointer (some ⟨b, 0, none⟩)) :=
  ⟨⟨_, rfl⟩, more_lt g b o, fun o' ho => by
    rw [Gh.more_H, upd_same] at ho
    cases ho
    simp [Gh.more, upd]⟩
theorem more_rep_os {w : World} (g : Gh) (b : Nat) (o : AObj) {arr : Array Value} {len cap : Nat} (hb : w.heap[b]? = some (.cells arr o.E (0, 0))) (hs : arr.size = cap * o.sz) (hl : len ≤ cap) (hc : cap ≤ maxLen) : Rep w (g.more b o) (.os g.n 0 len) (.slice (some ⟨b, 0, none⟩) len cap) :=
  ⟨⟨_, _, rfl⟩, more_lt g b o, fun o' ho => by
    rw [Gh.more_H, upd_same] at ho
    cases ho
    exact ⟨cap, arr, by simp [Gh.more, upd], by simpa [Gh.more, upd] using hb, by simpa using hs, hl, by simpa using hc⟩⟩

theorem make_sound (hI : Inv w g) {t e : TypeId} {i : TypeInfo} {z : Value} (ht : P.underlying t = some (.slice e)) (hi : P.info? e = some i) (hz : i.zero = some z) (hzs : z.cells.size = i.size) {m c : Int} (h0 : 0 ≤ m) (hmc : m ≤ c) (hm : c * i.bytes ≤ 140737488355328) (hmm : c ≤ 9223372036854775807) :
    ∃ v w' g', (Instr.makeSlice t (.int .i64 m) (.int .i64 c)).run P w = .ok v w' ∧ Step w g w' g' ∧ Inv w' g' ∧ g'.H = upd g.H g.n (some ⟨e, i.size, List.replicate m.toNat (z.cells.toList.map AV.ofVal)⟩) ∧ g'.n = g.n + 1 ∧ Rep w' g' (.os g.n 0 m.toNat) v := by
  have hrun := run_make (P := P) w t e i z ht hi hz .i64 .i64 m c h0 hmc (by rw [Int.mul_comm]; omega) hmm
  have hmul : m.toNat * i.size ≤ c.toNat * i.size := Nat.mul_le_mul_right _ (by omega)
  have hob : ObjIn w g (madeCells z.cells (c.toNat * i.size)) ⟨e, i.size, List.replicate m.toNat (z.cells.toList.map AV.ofVal)⟩ := by
    refine ⟨by simp [size_madeCells]; exact hmul, fun r row hr => ?_⟩
    have hrow := List.eq_of_mem_replicate (List.mem_of_getElem? hr)
    have hrlt : r < m.toNat := by simpa using (List.getElem?_eq_some_iff.1 hr).1
    subst hrow
    refine ⟨by simp [hzs], fun cc x hx => ?_⟩
    have hcl : cc < i.size := by simpa [hzs] using (List.getElem?_eq_some_iff.1 hx).1
    have hx' : AV.ofVal (z.cells[cc]'(by omega)) = x := by
      have : (z.cells.toList.map AV.ofVal)[cc]? = some (AV.ofVal (z.cells[cc]'(by omega))) := by simp [show cc < z.cells.size by omega]
      rw [this] at hx; exact Option.some.inj hx
    refine ⟨z.cells[cc]'(by omega), ?_, by rw [← hx']; exact rep_ofVal w g _⟩
    have hin : r * i.size + cc < c.toNat * i.size := by
      have := Nat.mul_le_mul_right i.size (show r + 1 ≤ c.toNat from by omega)
      rw [Nat.succ_mul] at this; omega
    have hmod : (r * i.size + cc) % z.cells.size = cc := by rw [hzs, Nat.mul_comm, Nat.mul_add_mod, Nat.mod_eq_of_lt hcl]
    simp [madeCells, hin, hmod, show cc < z.cells.size by omega]
  refine ⟨_, _, g.more w.heap.size ⟨e, i.size, List.replicate m.toNat (z.cells.toList.map AV.ofVal)⟩, hrun, step_more hI ⟨e, i.size, List.replicate m.toNat (z.cells.toList.map AV.ofVal)⟩ _, inv_more hI _ _ hob, rfl, rfl, more_rep_os g w.heap.size _ (heap_alloc_new' _ _) (by simp [size_madeCells]) (by omega) (by simp [maxLen]; omega)⟩

theorem clear_sound (hI : Inv w g) {t ty e : TypeId} {i : TypeInfo} {z : Value} (ht : P.underlying t = some (.slice e)) (hi : P.info? e = some i) (hz : i.zero = some z) (hzs : z.cells.size = i.size) (hz1 : z.cells.all Value.oneCell' = true) (h0 : 0 < i.size)
    {j off len : Nat} {sv : Value} (hs : Rep w g (.os j off len) sv) {o : AObj} (ho : g.H j = some o) (hsz : o.sz = i.size) (hl : off + len ≤ o.rows.length) :
    ∃ w', (Builtin.clear_ #[t] ty #[sv]).run P w = .ok (.tuple #[]) w' ∧ Step w g w' { g with H := upd g.H j (some { o with rows := o.rows.take off ++ (List.replicate len (z.cells.toList.map AV.ofVal) ++ o.rows.drop (off + len)) }) } ∧
      Inv w' { g with H := upd g.H j (some { o with rows := o.rows.take off ++ (List.replicate len (z.cells.toList.map AV.ofVal) ++ o.rows.drop (off + len)) }) } := by
  obtain ⟨_, hjn, hs⟩ := hs
  obtain ⟨cap, arr, rfl, h1, h2, h3, h4⟩ := hs o ho
  obtain ⟨arr', ha', hob⟩ := hI.obj j o ho
  have hrep := zeroCells_rep (z := z) w g (by omega) len
  have hzl : (List.replicate len (z.cells.toList.map AV.ofVal)).flatten.length = len * o.sz := by
    rw [flat_len (sz := o.sz) (fun r hr => by rw [List.eq_of_mem_replicate hr, hsz]; simp [hzs])]; simp
  have hone : ∀ v ∈ (Builtin.zeroCells z.cells len).toList, v.oneCell' = true := by
    intro v hv
    simp only [Builtin.zeroCells, Array.toList_map, List.mem_map] at hv
    obtain ⟨q, _, rfl⟩ := hv
    have : q % z.cells.size < z.cells.size := Nat.mod_lt _ (by omega)
    rw [getElem!_pos z.cells _ this]
    exact Array.all_eq_true.1 hz1 _ this
  have hle : off * o.sz + len * o.sz ≤ o.rows.length * o.sz := by rw [← Nat.add_mul]; exact Nat.mul_le_mul_right _ hl
  have hrows : ∀ r row, (o.rows.take off ++ (List.replicate len (z.cells.toList.map AV.ofVal) ++ o.rows.drop (off + len)))[r]? = some row → row.length = o.sz ∧ ∀ c x, row[c]? = some x →
      (off * o.sz ≤ r * o.sz + c ∧ r * o.sz + c < off * o.sz + (List.replicate len (z.cells.toList.map AV.ofVal)).flatten.length ∧ (List.replicate len (z.cells.toList.map AV.ofVal)).flatten[r * o.sz + c - off * o.sz]? = some x) ∨
      (¬ (off * o.sz ≤ r * o.sz + c ∧ r * o.sz + c < off * o.sz + (List.replicate len (z.cells.toList.map AV.ofVal)).flatten.length) ∧ ∃ old, o.rows[r]? = some old ∧ old[c]? = some x) := by
    intro r row hr
    rw [hzl]
    by_cases c1 : r < off
    · rw [List.getElem?_append_left (by simp; omega), List.getElem?_take_of_lt c1] at hr
      have hrl := (hob.2 r row hr).1
      refine ⟨hrl, fun c x hx => .inr ⟨?_, row, hr, hx⟩⟩
      have hc : c < row.length := (List.getElem?_eq_some_iff.1 hx).1
      have := Nat.mul_le_mul_right o.sz (show r + 1 ≤ off from c1)
      rw [Nat.succ_mul] at this
      omega
    · rw [List.getElem?_append_right (by simp; omega)] at hr
      simp only [List.length_take, Nat.min_eq_left (show off ≤ o.rows.length by omega)] at hr
      by_cases c2 : r - off < len
      · rw [List.getElem?_append_left (by simpa using c2)] at hr
        have hrow := List.eq_of_mem_replicate (List.mem_of_getElem? hr)
        subst hrow
        refine ⟨by rw [hsz]; simp [hzs], fun c x hx => .inl ⟨?_, ?_, ?_⟩⟩
        · have := Nat.mul_le_mul_right o.sz (show off ≤ r by omega); omega
        · have hc : c < o.sz := by rw [hsz]; simpa [hzs] using (List.getElem?_eq_some_iff.1 hx).1
          have := Nat.mul_le_mul_right o.sz (show r + 1 ≤ off + len by omega)
          rw [Nat.succ_mul, Nat.add_mul] at this
          omega
        · have := flatten_at (sz := o.sz) (fun r hr => by rw [List.eq_of_mem_replicate hr, hsz]; simp [hzs]) hr hx
          rwa [show r * o.sz + c - off * o.sz = (r - off) * o.sz + c from by
            have := Nat.mul_le_mul_right o.sz (show off ≤ r by omega)
            rw [Nat.sub_mul]; omega]
      · rw [List.getElem?_append_right (by simp; omega), List.getElem?_drop] at hr
        simp only [List.length_replicate] at hr
        rw [show off + len + (r - off - len) = r from by omega] at hr
        have hrl := (hob.2 r row hr).1
        refine ⟨hrl, fun c x hx => .inr ⟨?_, row, hr, hx⟩⟩
        have := Nat.mul_le_mul_right o.sz (show off + len ≤ r by omega)
        rw [Nat.add_mul] at this
        omega
  obtain ⟨w', k1, k2, k3⟩ := write_sound (P := P) hI ho (p := off * o.sz) hrep hone (by rw [hzl]; exact hle) _ (by simp; omega) hrows
  rcases Nat.eq_zero_or_pos len with hz0 | hz0
  · subst hz0
    refine ⟨w, by simp [Builtin.clear_, run_underlying ht], ?_⟩
    have e1 : ({ o with rows := o.rows.take off ++ (List.replicate 0 (z.cells.toList.map AV.ofVal) ++ o.rows.drop (off + 0)) } : AObj) = o := by simp
    rw [e1]
    have e2 : ({ g with H := upd g.H j (some o) } : Gh) = g := by
      cases g with
      | mk μ H n =>
        congr 1
        funext q
        by_cases hq : q = j
        · simp [upd, hq, ← ho]
        · simp [upd, hq]
    rw [e2]
    exact ⟨Step.refl _ _, hI⟩
  · refine ⟨w', ?_, k2, k3⟩
    have : ∃ l, len = l + 1 := ⟨len - 1, by omega⟩
    obtain ⟨l, rfl⟩ := this
    simp [Builtin.clear_, run_underlying ht, zeroValue, typeInfo, hi, hz, k1]
end Go.Ab
