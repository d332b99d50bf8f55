/- A part of an abstract logic over the model's runs, proved sound against the model; no condition. -/
import Derived.Test.YthcedgclhoggcaaGreatDoorAb2
import Derived.Laws.IdiomCopy
import Derived.Great.BuildSlice
import Derived.Laws.StructEq
/-! What becomes of the relation when memory is made or written. -/
set_option linter.unusedVariables false
namespace Go.Ab
open Go.RowKit
variable {P : Program} {w w' : World} {g g' : Gh}

/-- The cells of an object, as they lie in its block. -/
def ObjIn (w : World) (g : Gh) (arr : Array Value) (o : AObj) : Prop :=
  o.rows.length * o.sz ≤ arr.size ∧ ∀ r row, o.rows[r]? = some row → row.length = o.sz ∧ ∀ c x, row[c]? = some x → ∃ v, arr[r * o.sz + c]? = some v ∧ Rep w g x v
theorem ObjIn.mono (h : Step w g w' g') {arr : Array Value} {o : AObj} (k : ObjIn w g arr o) : ObjIn w' g' arr o :=
  ⟨k.1, fun r row hr => ⟨(k.2 r row hr).1, fun c x hx => by
    obtain ⟨v, h1, h2⟩ := (k.2 r row hr).2 c x hx
    exact ⟨v, h1, h2.mono h⟩⟩⟩

theorem Inv.step (hI : Inv w g) (hS : Step w g w' g') (hlt : ∀ i o, g'.H i = some o → i < g'.n ∧ g'.μ i < w'.heap.size)
    (hinj : ∀ i j o o', g'.H i = some o → g'.H j = some o' → g'.μ i = g'.μ j → i = j)
    (hobj : ∀ i o, g'.H i = some o → (g.H i = some o ∧ w'.heap[g.μ i]? = w.heap[g.μ i]?) ∨ ∃ arr, w'.heap[g'.μ i]? = some (.cells arr o.E (0, 0)) ∧ ObjIn w' g' arr o) : Inv w' g' where
  lt := hlt
  inj := hinj
  obj i o ho := by
    rcases hobj i o ho with ⟨h1, h2⟩ | ⟨arr, h1, h2⟩
    · obtain ⟨arr, h3, h4⟩ := hI.obj i o h1
      rw [← hS.mu i (hI.lt i o h1).1] at h2
      exact ⟨arr, by rw [h2, hS.mu i (hI.lt i o h1).1]; exact h3, ObjIn.mono hS h4⟩
    · exact ⟨arr, h1, h2⟩

theorem heap_alloc_new' (w : World) (o : Obj) : (w.alloc o).heap[w.heap.size]? = some o := by
  show (w.heap.push o)[w.heap.size]? = _
  rw [Array.getElem?_push, if_pos rfl]
theorem Gh.Own.lt (hI : Inv w g) {b : Nat} (h : g.Own b) : b < w.heap.size := by
  obtain ⟨i, o, h1, rfl⟩ := h
  exact (hI.lt i o h1).2

theorem step_alloc (w : World) (g : Gh) (o : Obj) : Step w g (w.alloc o) g where
  os := rfl
  tape := rfl
  output := rfl
  size := by simp
  keep b hb _ := Below.heap_alloc w o b hb
  shape i _ arr E _ _ h := by
    have hb : g.μ i < w.heap.size := by
      rcases Nat.lt_or_ge (g.μ i) w.heap.size with h' | h'
      · exact h'
      · simp [Array.getElem?_eq_none h'] at h
    exact ⟨arr, by rw [Below.heap_alloc w o _ hb]; exact h, rfl⟩
  own b h := .inl h
  n := Nat.le_refl _
  mu _ _ := rfl
  live i o' _ h := ⟨o', h, rfl, rfl⟩
theorem inv_alloc (hI : Inv w g) (o : Obj) : Inv (w.alloc o) g :=
  hI.step (step_alloc w g o) (fun i o h => ⟨(hI.lt i o h).1, by have := (hI.lt i o h).2; simp; omega⟩) hI.inj
    fun i o h => .inl ⟨h, Below.heap_alloc _ _ _ (hI.lt i o h).2⟩
theorem step_drew (w : World) (g : Gh) : Step w g w.drew g :=
  ⟨rfl, rfl, rfl, Nat.le_refl _, fun _ _ _ => rfl, fun _ _ arr _ _ _ h => ⟨arr, h, rfl⟩, fun _ h => .inl h, Nat.le_refl _, fun _ _ => rfl, fun _ o' _ h => ⟨o', h, rfl, rfl⟩⟩
theorem inv_drew (hI : Inv w g) : Inv w.drew g :=
  hI.step (step_drew w g) hI.lt hI.inj fun i o h => .inl ⟨h, rfl⟩

/-- The next name for a new block. -/
def Gh.more (g : Gh) (b : Nat) (o : AObj) : Gh := { μ := upd g.μ g.n b, H := upd g.H g.n (some o), n := g.n + 1 }
theorem Gh.more_H (g : Gh) (b : Nat) (o : AObj) : (g.more b o).H = upd g.H g.n (some o) := rfl
theorem step_more (hI : Inv w g) (o : AObj) (arr : Array Value) : Step w g (w.alloc (.cells arr o.E)) (g.more w.heap.size o) where
  os := rfl
  tape := rfl
  output := rfl
  size := by simp
  keep b hb _ := Below.heap_alloc w _ b hb
  shape i o' arr' E hi ho h := by
    rw [Gh.more_H, upd_ne _ _ _ (Nat.ne_of_lt hi)] at ho
    exact (step_alloc w g _).shape i o' arr' E hi ho h
  own b h := by
    obtain ⟨i, o', h1, h2⟩ := h
    simp only [Gh.more, upd] at h1 h2
    by_cases hi : i = g.n
    · rw [if_pos hi] at h2; exact .inr (by omega)
    · rw [if_neg hi] at h1 h2; exact .inl ⟨i, o', h1, h2⟩
  n := by simp [Gh.more]
  mu i hi := by simp [Gh.more, upd, Nat.ne_of_lt hi]
  live i o' hi h := by
    rw [Gh.more_H, upd_ne _ _ _ (Nat.ne_of_lt hi)] at h
    exact ⟨o', h, rfl, rfl⟩
theorem inv_more (hI : Inv w g) (o : AObj) (arr : Array Value) (h : ObjIn w g arr o) : Inv (w.alloc (.cells arr o.E)) (g.more w.heap.size o) := by
  have hS := step_more hI o arr
  refine hI.step hS (fun i o' ho => ?_) (fun i j o1 o2 h1 h2 h3 => ?_) (fun i o' ho => ?_)
  · simp only [Gh.more, upd] at ho ⊢
    by_cases hi : i = g.n
    · simp [hi]
    · rw [if_neg hi] at ho ⊢
      have := hI.lt i o' ho
      simp
      omega
  · simp only [Gh.more, upd] at h1 h2 h3
    by_cases hi : i = g.n <;> by_cases hj : j = g.n <;> simp only [hi, hj, if_true, if_false] at h1 h2 h3
    · omega
    · have := (hI.lt j o2 h2).2; omega
    · have := (hI.lt i o1 h1).2; omega
    · exact hI.inj i j o1 o2 h1 h2 h3
  · by_cases hi : i = g.n
    · subst hi
      rw [Gh.more_H, upd_same] at ho
      cases ho
      exact .inr ⟨arr, by show (w.alloc (.cells arr o.E)).heap[upd g.μ g.n w.heap.size g.n]? = _; rw [upd_same, heap_alloc_new'], h.mono hS⟩
    · rw [Gh.more_H, upd_ne _ _ _ hi] at ho
      exact .inl ⟨ho, Below.heap_alloc _ _ _ (hI.lt i o' ho).2⟩
theorem more_lt (g : Gh) (b : Nat) (o : AObj) : g.n < (g.more b o).n := by simp [Gh.more]

/-- Objects are forgotten. -/
def Gh.less (g : Gh) (H : Nat → Option AObj) : Gh := { g with H := H }
def Sub (H' H : Nat → Option AObj) : Prop := ∀ i o, H' i = some o → H i = some o
theorem Sub.refl (H : Nat → Option AObj) : Sub H H := fun _ _ h => h
theorem Sub.trans {A B C : Nat → Option AObj} (h : Sub A B) (k : Sub B C) : Sub A C := fun i o hi => k i o (h i o hi)
theorem step_less (w : World) (g : Gh) {H : Nat → Option AObj} (h : Sub H g.H) : Step w g w (g.less H) :=
  ⟨rfl, rfl, rfl, Nat.le_refl _, fun _ _ _ => rfl, fun _ _ arr _ _ _ h => ⟨arr, h, rfl⟩, fun b ⟨i, o, h1, h2⟩ => .inl ⟨i, o, h i o h1, h2⟩, Nat.le_refl _, fun _ _ => rfl, fun i o' _ hi => ⟨o', h i o' hi, rfl, rfl⟩⟩
theorem inv_less (hI : Inv w g) {H : Nat → Option AObj} (h : Sub H g.H) : Inv w (g.less H) :=
  hI.step (step_less w g h) (fun i o ho => hI.lt i o (h i o ho)) (fun i j o o' h1 h2 => hI.inj i j o o' (h i o h1) (h j o' h2)) fun i o ho => .inl ⟨h i o ho, rfl⟩

/-- One object's block is written; its rows are others then. -/
theorem step_set (hI : Inv w g) {i : Nat} {o : AObj} (hi : g.H i = some o) (rows : List (List AV)) (hos : w'.os = w.os) (htape : w'.tape = w.tape) (hout : w'.output = w.output) (hsize : w'.heap.size = w.heap.size)
    (hkeep : ∀ b, b ≠ g.μ i → w'.heap[b]? = w.heap[b]?) (hshape : ∀ (arr : Array Value) (E : TypeId), w.heap[g.μ i]? = some (Obj.cells arr E (0, 0)) → ∃ arr' : Array Value, w'.heap[g.μ i]? = some (Obj.cells arr' E (0, 0)) ∧ arr'.size = arr.size) :
    Step w g w' { g with H := upd g.H i (some { o with rows := rows }) } where
  os := hos
  tape := htape
  output := hout
  size := by omega
  keep b hb hn := hkeep b (fun e => hn ⟨i, o, hi, e.symm⟩)
  shape j o' arr E hj ho h := by
    by_cases hb : g.μ j = g.μ i
    · rw [hb] at h ⊢; exact hshape arr E h
    · exact ⟨arr, by rw [hkeep _ hb]; exact h, rfl⟩
  own b h := by
    obtain ⟨j, o', h1, h2⟩ := h
    by_cases hj : j = i
    · exact .inl ⟨i, o, hi, by rw [← hj]; exact h2⟩
    · exact .inl ⟨j, o', by simpa [upd, hj] using h1, h2⟩
  n := Nat.le_refl _
  mu _ _ := rfl
  live j o' _ h := by
    by_cases hj : j = i
    · subst hj
      simp only [upd, if_true, Option.some.injEq] at h
      subst h
      exact ⟨o, hi, rfl, rfl⟩
    · exact ⟨o', by simpa [upd, hj] using h, rfl, rfl⟩
theorem inv_set (hI : Inv w g) {i : Nat} {o : AObj} (hi : g.H i = some o) (rows : List (List AV)) (hS : Step w g w' { g with H := upd g.H i (some { o with rows := rows }) }) (hsize : w'.heap.size = w.heap.size)
    (hkeep : ∀ b, b ≠ g.μ i → w'.heap[b]? = w.heap[b]?) {arr : Array Value} (harr : w'.heap[g.μ i]? = some (.cells arr o.E (0, 0))) (hobj : ObjIn w g arr { o with rows := rows }) : Inv w' { g with H := upd g.H i (some { o with rows := rows }) } := by
  refine hI.step hS (fun j o' ho => ?_) (fun j k o1 o2 h1 h2 h3 => ?_) (fun j o' ho => ?_)
  · by_cases hj : j = i
    · subst hj; have := hI.lt j o hi; exact ⟨this.1, by simpa [hsize] using this.2⟩
    · have := hI.lt j o' (by simpa [upd, hj] using ho)
      exact ⟨this.1, by simpa [hsize] using this.2⟩
  · have h1' : ∃ o, g.H j = some o := by
      by_cases hj : j = i
      · exact ⟨o, hj ▸ hi⟩
      · exact ⟨o1, by simpa [upd, hj] using h1⟩
    have h2' : ∃ o, g.H k = some o := by
      by_cases hk : k = i
      · exact ⟨o, hk ▸ hi⟩
      · exact ⟨o2, by simpa [upd, hk] using h2⟩
    obtain ⟨_, h1'⟩ := h1'
    obtain ⟨_, h2'⟩ := h2'
    exact hI.inj j k _ _ h1' h2' h3
  · by_cases hj : j = i
    · subst hj
      simp only [upd, if_true, Option.some.injEq] at ho
      subst ho
      exact .inr ⟨arr, harr, hobj.mono hS⟩
    · have ho' : g.H j = some o' := by simpa [upd, hj] using ho
      exact .inl ⟨ho', hkeep _ (fun e => hj (hI.inj j i _ _ ho' hi e))⟩

/-- The relation between a frame with its memory and an abstract state. -/
structure Rel (G : Nat → AV) (N : Nat) (st : St) (g : Gh) (a : Act) (w : World) : Prop where
  H : g.H = st.H
  n : g.n = st.n
  inv : Inv w g
  gl : ∀ k, Rep w g (G k) (.pointer (some ⟨k, 0, none⟩))
  fr : ∀ s, Rep w g (st.fr s) (a.tmps.getD s undef)
  sz : a.tmps.size = N
  df : a.defers = []

theorem Rel.put {G : Nat → AV} {N : Nat} {st : St} {a : Act} (h : Rel G N st g a w) (hS : Step w g w' g') (hI : Inv w' g') {d : Option Nat} (hd : ∀ k, d = some k → k < N) {x : AV} {v : Value} (hx : Rep w' g' x v) :
    Rel G N { fr := put st.fr d x, H := g'.H, n := g'.n } g' (a.put d v) w' where
  H := rfl
  n := rfl
  inv := hI
  gl k := (h.gl k).mono hS
  fr s := by
    cases d with
    | none => exact (h.fr s).mono hS
    | some k =>
      have hk := hd k rfl
      rw [← h.sz] at hk
      by_cases hs : s = k
      · subst hs
        simp only [Ab.put, upd, if_true, Act.put]
        have : (a.tmps.setIfInBounds s v).getD s undef = v := by simp [Array.getD_eq_getD_getElem?, hk]
        rw [this]
        exact hx
      · simp only [Ab.put, upd, if_neg hs, Act.put]
        have : (a.tmps.setIfInBounds k v).getD s undef = a.tmps.getD s undef := by
          simp [Array.getD_eq_getD_getElem?, Array.getElem?_setIfInBounds_ne (Ne.symm hs)]
        rw [this]
        exact (h.fr s).mono hS
  sz := by cases d <;> simp [Act.put, h.sz]
  df := by cases d <;> simp [Act.put, h.df]
theorem Rel.drew {G : Nat → AV} {N : Nat} {st : St} {a : Act} (h : Rel G N st g a w) : Rel G N st g a w.drew :=
  ⟨h.H, h.n, inv_drew h.inv, fun k => (h.gl k).mono (step_drew w g), fun s => (h.fr s).mono (step_drew w g), h.sz, h.df⟩
/-- A slot whose value is known is said otherwise. -/
theorem Rel.reset {G : Nat → AV} {N : Nat} {st : St} {a : Act} (h : Rel G N st g a w) {j : Nat} {x : AV} (hx : Rep w g x (a.tmps.getD j undef)) : Rel G N { st with fr := upd st.fr j x } g a w :=
  ⟨h.H, h.n, h.inv, h.gl, fun s => by
    by_cases hs : s = j
    · subst hs; simpa [upd] using hx
    · simpa [upd, hs] using h.fr s, h.sz, h.df⟩

end Go.Ab
