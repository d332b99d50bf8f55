/- A part of an abstract logic over the model's runs, proved sound against the model; no condition. -/
import Derived.Below
import Derived.Calls
import Derived.Orders
import Derived.Tactics
import Derived.Maps.AppendAt
/-! Abstract values over the model's memory, and what it means that a value stands for one. -/
namespace Go.Ab
open Go.RowKit

/-- An abstract value. 'ls': a slice that is only read, with its elements' cells; 'pp': a pointer to cells that are only read; 'os', 'op': a slice over, a pointer into an object that this code owns. -/
inductive AV where
  | any
  | lit (v : Value)
  | ls (nz : Bool) (rows : List (List AV))
  | pp (cells : List AV)
  | agg (cells : List AV)
  | tup (vs : List AV)
  | fn (f : Fn) (caps : List AV)
  | os (i off len : Nat)
  | op (i row col : Nat)
  deriving Inhabited

/-- An owned object: a block of rows of 'sz' cells. -/
structure AObj where
  E : TypeId
  sz : Nat
  rows : List (List AV)

/-- Which block an owned object is, what it holds, and the next free name. -/
structure Gh where
  μ : Nat → Nat
  H : Nat → Option AObj
  n : Nat

def Gh.Own (g : Gh) (b : Nat) : Prop := ∃ i o, g.H i = some o ∧ g.μ i = b

mutual
def Rep (w : World) (g : Gh) : AV → Value → Prop
  | .any, _ => True
  | .lit x, v => v = x
  | .ls nz rows, v => ∃ a cap, v = .slice a rows.length cap ∧ rows.length ≤ cap ∧ cap ≤ maxLen ∧ nz = a.isSome ∧ (a = none → cap = 0 ∧ rows = []) ∧ (∀ ad, a = some ad → ad.spot = none ∧ RepRows w g ad.block ad.off rows)
  | .pp cells, v => ∃ b o, v = .pointer (some ⟨b, o, none⟩) ∧ RepCells w g b o cells
  | .agg cells, v => ∃ vs, v = .agg vs ∧ RepList w g cells vs.toList
  | .tup cells, v => ∃ vs, v = .tuple vs ∧ RepList w g cells vs.toList
  | .fn f caps, v => ∃ vs, v = .func f #[] vs ∧ RepList w g caps vs.toList
  | .os i off len, v => (∃ a c, v = .slice a len c) ∧ i < g.n ∧ ∀ o, g.H i = some o → ∃ cap arr, v = .slice (some ⟨g.μ i, off * o.sz, none⟩) len cap ∧ w.heap[g.μ i]? = some (.cells arr o.E (0, 0)) ∧ arr.size = (off + cap) * o.sz ∧ len ≤ cap ∧ off + cap ≤ maxLen
  | .op i row col, v => (∃ a, v = .pointer (some a)) ∧ i < g.n ∧ ∀ o, g.H i = some o → v = .pointer (some ⟨g.μ i, row * o.sz + col, none⟩)
def RepList (w : World) (g : Gh) : List AV → List Value → Prop
  | [], vs => vs = []
  | c :: cs, vs => ∃ v vs', vs = v :: vs' ∧ Rep w g c v ∧ RepList w g cs vs'
def RepCells (w : World) (g : Gh) (b : Nat) (o : Nat) : List AV → Prop
  | [] => True
  | c :: cs => ¬ g.Own b ∧ (∃ v, w.cell? ⟨b, o, none⟩ = some v ∧ Rep w g c v) ∧ RepCells w g b (o + 1) cs
def RepRows (w : World) (g : Gh) (b : Nat) (o : Nat) : List (List AV) → Prop
  | [] => True
  | r :: rs => RepCells w g b o r ∧ RepRows w g b (o + r.length) rs
end

/-- From the one world to the other only owned blocks have been written, and there may be new ones. -/
structure Step (w : World) (g : Gh) (w' : World) (g' : Gh) : Prop where
  os : w'.os = w.os
  tape : w'.tape = w.tape
  output : w'.output = w.output
  size : w.heap.size ≤ w'.heap.size
  keep : ∀ b, b < w.heap.size → ¬ g.Own b → w'.heap[b]? = w.heap[b]?
  shape : ∀ (i : Nat) (o' : AObj) (arr : Array Value) (E : TypeId), i < g.n → g'.H i = some o' → w.heap[g.μ i]? = some (Obj.cells arr E (0, 0)) → ∃ arr' : Array Value, w'.heap[g.μ i]? = some (Obj.cells arr' E (0, 0)) ∧ arr'.size = arr.size
  own : ∀ b, g'.Own b → g.Own b ∨ w.heap.size ≤ b
  n : g.n ≤ g'.n
  mu : ∀ i, i < g.n → g'.μ i = g.μ i
  live : ∀ i o', i < g.n → g'.H i = some o' → ∃ o, g.H i = some o ∧ o.E = o'.E ∧ o.sz = o'.sz

theorem Step.refl (w : World) (g : Gh) : Step w g w g :=
  ⟨rfl, rfl, rfl, Nat.le_refl _, fun _ _ _ => rfl, fun _ _ arr _ _ _ h => ⟨arr, h, rfl⟩, fun _ h => .inl h, Nat.le_refl _, fun _ _ => rfl, fun _ o' _ h => ⟨o', h, rfl, rfl⟩⟩

theorem Step.trans {w w1 w2 : World} {g g1 g2 : Gh} (h : Step w g w1 g1) (k : Step w1 g1 w2 g2) : Step w g w2 g2 where
  os := k.os.trans h.os
  tape := k.tape.trans h.tape
  output := k.output.trans h.output
  size := Nat.le_trans h.size k.size
  keep b hb hn := by
    have h1 := h.keep b hb hn
    have : ¬ g1.Own b := fun ho => by
      rcases h.own b ho with h2 | h2
      · exact hn h2
      · omega
    exact (k.keep b (Nat.lt_of_lt_of_le hb h.size) this).trans h1
  shape i o' arr E hi ho hb := by
    obtain ⟨o1, e1, _⟩ := k.live i o' (Nat.lt_of_lt_of_le hi h.n) ho
    obtain ⟨a1, h1, h2⟩ := h.shape i o1 arr E hi e1 hb
    rw [← h.mu i hi] at h1
    obtain ⟨a2, h3, h4⟩ := k.shape i o' a1 E (Nat.lt_of_lt_of_le hi h.n) ho h1
    rw [h.mu i hi] at h3
    exact ⟨a2, h3, h4.trans h2⟩
  own b hb := by
    rcases k.own b hb with h1 | h1
    · exact h.own b h1
    · exact .inr (Nat.le_trans h.size h1)
  n := Nat.le_trans h.n k.n
  mu i hi := (k.mu i (Nat.lt_of_lt_of_le hi h.n)).trans (h.mu i hi)
  live i o' hi ho := by
    obtain ⟨o1, h1, h2, h3⟩ := k.live i o' (Nat.lt_of_lt_of_le hi h.n) ho
    obtain ⟨o2, h4, h5, h6⟩ := h.live i o1 hi h1
    exact ⟨o2, h4, h5.trans h2, h6.trans h3⟩

theorem Step.cell {w w' : World} {g g' : Gh} (h : Step w g w' g') {b o : Nat} {v : Value} (hn : ¬ g.Own b) (hc : w.cell? ⟨b, o, none⟩ = some v) : w'.cell? ⟨b, o, none⟩ = some v := by
  have hb := World.block_lt_of_cell? w _ hc
  rw [World.cell?_of_block (w := w) (h.keep b hb hn)]
  exact hc
theorem Step.notOwn {w w' : World} {g g' : Gh} (h : Step w g w' g') {b : Nat} (hb : b < w.heap.size) (hn : ¬ g.Own b) : ¬ g'.Own b := fun ho => by
  rcases h.own b ho with h1 | h1
  · exact hn h1
  · omega

mutual
theorem Rep.mono {w w' : World} {g g' : Gh} (h : Step w g w' g') : ∀ (x : AV) (v : Value), Rep w g x v → Rep w' g' x v
  | .any, _, _ => trivial
  | .lit _, _, hr => hr
  | .ls nz rows, v, hr => by
    obtain ⟨a, cap, h1, h2, h3, h4, h5, h6⟩ := hr
    exact ⟨a, cap, h1, h2, h3, h4, h5, fun ad ha => ⟨(h6 ad ha).1, RepRows.mono h rows _ _ (h6 ad ha).2⟩⟩
  | .pp cells, v, hr => by
    obtain ⟨b, o, h1, h2⟩ := hr
    exact ⟨b, o, h1, RepCells.mono h cells b o h2⟩
  | .agg cells, v, hr => by
    obtain ⟨vs, h1, h2⟩ := hr
    exact ⟨vs, h1, RepList.mono h cells _ h2⟩
  | .tup cells, v, hr => by
    obtain ⟨vs, h1, h2⟩ := hr
    exact ⟨vs, h1, RepList.mono h cells _ h2⟩
  | .fn f caps, v, hr => by
    obtain ⟨vs, h1, h2⟩ := hr
    exact ⟨vs, h1, RepList.mono h caps _ h2⟩
  | .os i off len, v, hr => by
    obtain ⟨h0, h1, h2⟩ := hr
    refine ⟨h0, Nat.lt_of_lt_of_le h1 h.n, fun o ho => ?_⟩
    obtain ⟨o1, h3, h4, h5⟩ := h.live i o h1 ho
    obtain ⟨cap, arr, h6, h7, h8, h9, h10⟩ := h2 o1 h3
    obtain ⟨arr', h11, h12⟩ := h.shape i o _ _ h1 ho h7
    exact ⟨cap, arr', by rw [h.mu i h1, ← h5]; exact h6, by rw [h.mu i h1, ← h4]; exact h11, by rw [h12, ← h5]; exact h8, h9, h10⟩
  | .op i row col, v, hr => by
    obtain ⟨h0, h1, h2⟩ := hr
    refine ⟨h0, Nat.lt_of_lt_of_le h1 h.n, fun o ho => ?_⟩
    obtain ⟨o1, h3, h4, h5⟩ := h.live i o h1 ho
    rw [h.mu i h1, ← h5]
    exact h2 o1 h3
theorem RepList.mono {w w' : World} {g g' : Gh} (h : Step w g w' g') : ∀ (xs : List AV) (vs : List Value), RepList w g xs vs → RepList w' g' xs vs
  | [], _, hr => hr
  | x :: xs, vs, hr => by
    obtain ⟨v, vs', h1, h2, h3⟩ := hr
    exact ⟨v, vs', h1, Rep.mono h x v h2, RepList.mono h xs vs' h3⟩
theorem RepCells.mono {w w' : World} {g g' : Gh} (h : Step w g w' g') : ∀ (xs : List AV) (b o : Nat), RepCells w g b o xs → RepCells w' g' b o xs
  | [], _, _, _ => trivial
  | x :: xs, b, o, hr => by
    obtain ⟨h1, ⟨v, h2, h3⟩, h4⟩ := hr
    exact ⟨h.notOwn (World.block_lt_of_cell? w _ h2) h1, ⟨v, h.cell h1 h2, Rep.mono h x v h3⟩, RepCells.mono h xs b (o + 1) h4⟩
theorem RepRows.mono {w w' : World} {g g' : Gh} (h : Step w g w' g') : ∀ (xs : List (List AV)) (b o : Nat), RepRows w g b o xs → RepRows w' g' b o xs
  | [], _, _, _ => trivial
  | x :: xs, b, o, hr => ⟨RepCells.mono h x b o hr.1, RepRows.mono h xs b _ hr.2⟩
end

/-- What is so of the owned objects. -/
structure Inv (w : World) (g : Gh) : Prop where
  lt : ∀ i o, g.H i = some o → i < g.n ∧ g.μ i < w.heap.size
  inj : ∀ i j o o', g.H i = some o → g.H j = some o' → g.μ i = g.μ j → i = j
  obj : ∀ i o, g.H i = some o → ∃ arr, w.heap[g.μ i]? = some (.cells arr o.E (0, 0)) ∧ o.rows.length * o.sz ≤ arr.size ∧
    ∀ r row, o.rows[r]? = some row → row.length = o.sz ∧ ∀ c x, row[c]? = some x → ∃ v, arr[r * o.sz + c]? = some v ∧ Rep w g x v

theorem RepList.length {w : World} {g : Gh} : ∀ {xs : List AV} {vs : List Value}, RepList w g xs vs → xs.length = vs.length
  | [], vs, h => by subst h; rfl
  | x :: xs, vs, h => by
    obtain ⟨v, vs', rfl, _, h3⟩ := h
    simp [RepList.length h3]
theorem RepList.get {w : World} {g : Gh} : ∀ {xs : List AV} {vs : List Value}, RepList w g xs vs → ∀ (i : Nat) (x : AV), xs[i]? = some x → ∃ v, vs[i]? = some v ∧ Rep w g x v
  | [], vs, h, i, x, hx => by simp at hx
  | y :: xs, vs, h, i, x, hx => by
    obtain ⟨v, vs', rfl, h2, h3⟩ := h
    cases i with
    | zero => simp at hx; subst hx; exact ⟨v, by simp, h2⟩
    | succ i => simpa using RepList.get h3 i x (by simpa using hx)
theorem RepList.of {w : World} {g : Gh} : ∀ {xs : List AV} {vs : List Value}, xs.length = vs.length → (∀ (i : Nat) (x : AV), xs[i]? = some x → ∃ v, vs[i]? = some v ∧ Rep w g x v) → RepList w g xs vs
  | [], vs, hl, h => by cases vs with | nil => rfl | cons => simp at hl
  | y :: xs, [], hl, h => by simp at hl
  | y :: xs, v :: vs, hl, h => by
    refine ⟨v, vs, rfl, ?_, RepList.of (by simpa using hl) (fun i x hx => ?_)⟩
    · obtain ⟨v', h1, h2⟩ := h 0 y (by simp)
      simp at h1; subst h1; exact h2
    · obtain ⟨v', h1, h2⟩ := h (i + 1) x (by simpa using hx)
      exact ⟨v', by simpa using h1, h2⟩
theorem RepList.append {w : World} {g : Gh} : ∀ {xs ys : List AV} {vs us : List Value}, RepList w g xs vs → RepList w g ys us → RepList w g (xs ++ ys) (vs ++ us)
  | [], ys, vs, us, h, k => by subst h; exact k
  | x :: xs, ys, vs, us, h, k => by
    obtain ⟨v, vs', rfl, h2, h3⟩ := h
    exact ⟨v, vs' ++ us, rfl, h2, RepList.append h3 k⟩
theorem RepList.drop {w : World} {g : Gh} : ∀ {xs : List AV} {vs : List Value} (k : Nat), RepList w g xs vs → RepList w g (xs.drop k) (vs.drop k)
  | xs, vs, 0, h => h
  | [], vs, k + 1, h => by subst h; rfl
  | x :: xs, vs, k + 1, h => by
    obtain ⟨v, vs', rfl, h2, h3⟩ := h
    exact RepList.drop k h3
theorem RepList.take {w : World} {g : Gh} : ∀ {xs : List AV} {vs : List Value} (k : Nat), RepList w g xs vs → RepList w g (xs.take k) (vs.take k)
  | xs, vs, 0, h => by simp; rfl
  | [], vs, k + 1, h => by subst h; rfl
  | x :: xs, vs, k + 1, h => by
    obtain ⟨v, vs', rfl, h2, h3⟩ := h
    exact ⟨v, vs'.take k, rfl, h2, RepList.take k h3⟩

theorem RepCells.get {w : World} {g : Gh} {b : Nat} : ∀ {xs : List AV} {o : Nat}, RepCells w g b o xs → ∀ (i : Nat) (x : AV), xs[i]? = some x → ¬ g.Own b ∧ ∃ v, w.cell? ⟨b, o + i, none⟩ = some v ∧ Rep w g x v
  | [], o, h, i, x, hx => by simp at hx
  | y :: xs, o, h, i, x, hx => by
    obtain ⟨h1, h2, h3⟩ := h
    cases i with
    | zero => simp at hx; subst hx; exact ⟨h1, h2⟩
    | succ i =>
      have := RepCells.get h3 i x (by simpa using hx)
      rwa [show o + (i + 1) = o + 1 + i from by omega]
theorem RepCells.of {w : World} {g : Gh} {b : Nat} (hb : ¬ g.Own b) : ∀ {xs : List AV} {o : Nat}, (∀ (i : Nat) (x : AV), xs[i]? = some x → ∃ v, w.cell? ⟨b, o + i, none⟩ = some v ∧ Rep w g x v) → RepCells w g b o xs
  | [], o, h => trivial
  | y :: xs, o, h => by
    refine ⟨hb, by simpa using h 0 y (by simp), RepCells.of hb fun i x hx => ?_⟩
    have := h (i + 1) x (by simpa using hx)
    rwa [show o + (i + 1) = o + 1 + i from by omega] at this
theorem RepCells.drop {w : World} {g : Gh} {b : Nat} : ∀ {xs : List AV} {o : Nat} (k : Nat), RepCells w g b o xs → RepCells w g b (o + k) (xs.drop k)
  | xs, o, 0, h => h
  | [], o, k + 1, h => trivial
  | x :: xs, o, k + 1, h => by
    have := RepCells.drop k h.2.2
    rwa [show o + 1 + k = o + (k + 1) from by omega] at this
theorem RepCells.take {w : World} {g : Gh} {b : Nat} : ∀ {xs : List AV} {o : Nat} (k : Nat), RepCells w g b o xs → RepCells w g b o (xs.take k)
  | xs, o, 0, h => by simp [RepCells]
  | [], o, k + 1, h => trivial
  | x :: xs, o, k + 1, h => ⟨h.1, h.2.1, RepCells.take k h.2.2⟩
theorem RepCells.append {w : World} {g : Gh} {b : Nat} : ∀ {xs ys : List AV} {o : Nat}, RepCells w g b o xs → RepCells w g b (o + xs.length) ys → RepCells w g b o (xs ++ ys)
  | [], ys, o, h, k => k
  | x :: xs, ys, o, h, k => ⟨h.1, h.2.1, RepCells.append h.2.2 (by simpa [Nat.add_assoc, Nat.add_comm 1] using k)⟩

/-- A value of one cell. -/
def AV.one : AV → Bool
  | .any | .agg _ | .tup _ | .lit (.agg _) | .lit (.tuple _) => false
  | _ => true
theorem Rep.oneCell {w : World} {g : Gh} {x : AV} {v : Value} (h : Rep w g x v) (h1 : x.one = true) : v.oneCell' = true := by
  cases x with
  | any => simp [AV.one] at h1
  | lit y => simp only [Rep] at h; subst h; cases v <;> simp_all [AV.one, Value.oneCell']
  | ls nz rows => obtain ⟨a, cap, rfl, _⟩ := h; rfl
  | pp cells => obtain ⟨b, o, rfl, _⟩ := h; rfl
  | agg cells => simp [AV.one] at h1
  | tup cells => simp [AV.one] at h1
  | fn f caps => obtain ⟨vs, rfl, _⟩ := h; rfl
  | os i off len => obtain ⟨⟨a, c, rfl⟩, _⟩ := h; rfl
  | op i row col => obtain ⟨⟨a, rfl⟩, _⟩ := h; rfl
/-- All rows have one size, and their cells are values of one cell. -/
def Even (sz : Nat) (rows : List (List AV)) : Prop := ∀ r ∈ rows, r.length = sz ∧ r.all AV.one = true
theorem RepRows.get {w : World} {g : Gh} {b sz : Nat} : ∀ {rows : List (List AV)} {o : Nat}, Even sz rows → RepRows w g b o rows → ∀ (i : Nat) (r : List AV), rows[i]? = some r → RepCells w g b (o + i * sz) r
  | [], o, _, h, i, r, hx => by simp at hx
  | y :: rows, o, he, h, i, r, hx => by
    cases i with
    | zero => simp at hx; subst hx; simpa using h.1
    | succ i =>
      have h2 := h.2
      rw [(he y (by simp)).1] at h2
      have := RepRows.get (fun r hr => he r (by simp [hr])) h2 i r (by simpa using hx)
      rwa [show o + (i + 1) * sz = o + sz + i * sz from by rw [Nat.succ_mul]; omega]
theorem RepRows.of {w : World} {g : Gh} {b sz : Nat} : ∀ {rows : List (List AV)} {o : Nat}, Even sz rows → (∀ (i : Nat) (r : List AV), rows[i]? = some r → RepCells w g b (o + i * sz) r) → RepRows w g b o rows
  | [], o, _, h => trivial
  | y :: rows, o, he, h => by
    refine ⟨by simpa using h 0 y (by simp), ?_⟩
    rw [(he y (by simp)).1]
    refine RepRows.of (fun r hr => he r (by simp [hr])) fun i r hr => ?_
    have := h (i + 1) r (by simpa using hr)
    rwa [show o + (i + 1) * sz = o + sz + i * sz from by rw [Nat.succ_mul]; omega] at this
theorem RepRows.drop {w : World} {g : Gh} {b sz : Nat} : ∀ {rows : List (List AV)} {o : Nat} (k : Nat), Even sz rows → RepRows w g b o rows → k ≤ rows.length → RepRows w g b (o + k * sz) (rows.drop k)
  | rows, o, 0, _, h, _ => by simpa using h
  | [], o, k + 1, _, h, hk => by simp at hk
  | x :: xs, o, k + 1, he, h, hk => by
    have h2 := h.2
    rw [(he x (by simp)).1] at h2
    have := RepRows.drop k (fun r hr => he r (by simp [hr])) h2 (by simpa using hk)
    rwa [show o + sz + k * sz = o + (k + 1) * sz from by rw [Nat.succ_mul]; omega] at this
theorem RepRows.take {w : World} {g : Gh} {b : Nat} : ∀ {rows : List (List AV)} {o : Nat} (k : Nat), RepRows w g b o rows → RepRows w g b o (rows.take k)
  | rows, o, 0, h => by simp [RepRows]
  | [], o, k + 1, h => trivial
  | x :: xs, o, k + 1, h => ⟨h.1, RepRows.take k h.2⟩

end Go.Ab
