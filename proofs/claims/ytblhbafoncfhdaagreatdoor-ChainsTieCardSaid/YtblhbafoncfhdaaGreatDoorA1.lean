/- A part of an abstract logic over the model's runs, proved sound against the model; no condition. -/
import Derived.Below
import Derived.Wp
import Derived.Calls
import Derived.Orders
import Derived.Tactics
import Derived.Maps.AppendAt
import Derived.Laws.IdiomCopy
import Derived.Great.BuildSlice
import Derived.Laws.StructEq
import Derived.Maps.RangeRun
import Derived.WideKeyRuns
set_option linter.unusedVariables false
set_option linter.unusedSimpArgs false
/-! What is run takes no draw back. -/
namespace Go.Ab
theorem bind_ok {ε α β : Type} {x : Except ε α} {f : α → Except ε β} {r : β} (h : (x >>= f) = .ok r) : ∃ a, x = .ok a ∧ f a = .ok r := by
 cases x with
 | error e => simp [bind, Except.bind] at h
 | ok a => exact ⟨a, rfl, h⟩
theorem viewStore_drawn {p : Program} {w w' : World} {at_ : Addr} {u : TypeId} {k : Addr} {v : Value} {b : Bool} {l : List Addr} (h : w.viewStore p at_ u k v b = .ok (w', l)) : w'.drawn = w.drawn := by
 unfold World.viewStore at h
 simp only [] at h
 repeat' first
  | (obtain ⟨_, _, h⟩ := bind_ok h)
  | (split at h)
  | (exfalso; exact absurd h (by simp))
  | (simp only [pure, Except.pure, Except.ok.injEq, Prod.mk.injEq] at h; obtain ⟨rfl, _⟩ := h; rfl)
theorem farStore_drawn {p : Program} {w w' : World} {a : Addr} {v : Value} {b : Bool} {l : List Addr} (h : w.farStore p a v b = .ok (w', l)) : w'.drawn = w.drawn := by
 unfold World.farStore at h
 split at h
 ·split at h
  ·rename_i r hr
   cases h
   exact viewStore_drawn hr
  ·cases h
 ·cases h
theorem ask_drawn {α : Type} (s : Ask α) : ∀ (w : World), w.drawn ≤ (w.ask s).2.drawn := by
 induction s with
 | done a => exact fun w => Nat.le_refl _
 | ask what range k ih =>
  intro w
  simp only [World.ask]
  split
  ·exact ih _ w
  ·exact Nat.le_trans (Nat.le_succ _) (ih _ { w with drawn := w.drawn + 1 })
theorem run_drawn {α : Type} (P : Program) (e : Sem α) : ∀ {w w' : World} {v : α}, e.run P w = .ok v w' → w.drawn ≤ w'.drawn := by
 induction e with
 | pure a => intro w w' v h; simp only [Sem.run] at h; cases h; exact Nat.le_refl _
 | load m a k ih =>
  intro w w' v h
  simp only [Sem.run] at h
  (repeat' split at h) <;> first | exact ih _ h | cases h
 | store m a v k ih =>
  intro w w' r h
  cases v <;> simp only [Sem.run] at h
  all_goals first
   | (cases h; done)
   | (repeat' split at h)
  all_goals first
   | (cases h; done)
   | (have := ih h; exact this)
   | (rename_i hf; have := ih h; rw [farStore_drawn hf] at this; exact this)
   | skip
 | new o k ih => intro w w' v h; simp only [Sem.run] at h; have := ih _ h; exact this
 | shape r k ih => intro w w' v h; simp only [Sem.run] at h; exact ih _ h
 | freeze a n k ih =>
  intro w w' v h
  simp only [Sem.run] at h
  have := ih h
  simp only [World.freeze] at this
  split at this <;> exact this
 | frozen a k ih => intro w w' v h; simp only [Sem.run] at h; exact ih _ h
 | getObj r k ih =>
  intro w w' v h
  simp only [Sem.run] at h
  (repeat' split at h) <;> first | exact ih _ h | cases h
 | setObj r o k ih =>
  intro w w' v h
  simp only [Sem.run] at h
  (repeat' split at h) <;> first | (have := ih h; exact this) | cases h
 | choose q k ih =>
  intro w w' v h
  simp only [Sem.run] at h
  split at h
  ·exact ih _ h
  ·have := ih _ h
   exact Nat.le_trans (Nat.le_succ _) this
 | sys c k ih =>
  intro w w' v h
  simp only [Sem.run] at h
  have h1 := ih _ h
  refine Nat.le_trans ?_ h1
  unfold World.sys
  split
  ·exact Nat.le_refl _
  ·rename_i r os w2 hh
   have := ask_drawn (Kernel.perform c w.os) w
   rw [hh] at this
   exact this
 | program k ih => intro w w' v h; simp only [Sem.run] at h; exact ih _ h
 | mark m k ih => intro w w' v h; simp only [Sem.run] at h; exact ih h
 | halt h => intro w w' v h'; simp only [Sem.run] at h'; cases h'
end Go.Ab
/-! Abstract values over the model's memory, and what it means that a value stands for one. -/
namespace Go.Ab
open Go.RowKit
inductive AV where
 | any
 | lit (v : Value)
 | ls (nz : Bool) (rows : List (List AV))
 | pp (cells : List AV)
 | agg (cells : List AV)
 | tup (vs : List AV)
 | fn (f : Fn) (caps : List AV)
 | os (i off len : Nat)
 | op (i row col : Nat)
 | om (i : Nat)
 | oit (i : Nat)
 | ms (i k : Nat)
 deriving Inhabited
structure AObj where
 E : TypeId
 sz : Nat
 rows : List (List AV)
structure Gh where
 μ : Nat → Nat
 H : Nat → Option AObj
 n : Nat
 dr : Bool := false
def IsCells (w : World) (b : Nat) : Prop := ∃ arr E, w.heap[b]? = some (.cells arr E (0, 0))
def Gh.Own (g : Gh) (b : Nat) : Prop := ∃ i o, g.H i = some o ∧ g.μ i = b
mutual
def Rep (w : World) (g : Gh) : AV → Value → Prop
 | .any, _ => True
 | .lit x, v => v = x
 | .ls nz rows, v => ∃ a cap, v = .slice a rows.length cap ∧ rows.length ≤ cap ∧ cap ≤ maxLen ∧ nz = a.isSome ∧ (a = none → cap = 0 ∧ rows = []) ∧ (∀ ad, a = some ad → ad.spot = none ∧ RepRows w g ad.block ad.off rows)
 | .pp cells, v => ∃ b o, v = .pointer (some ⟨b, o, none⟩) ∧ RepCells w g b o cells
 | .agg cells, v => ∃ vs, v = .agg vs ∧ RepList w g cells vs.toList
 | .tup cells, v => ∃ vs, v = .tuple vs ∧ RepList w g cells vs.toList
 | .fn f caps, v => ∃ vs, v = .func f #[] vs ∧ RepList w g caps vs.toList
 | .os i off len, v => (∃ a c, v = .slice (some a) len c) ∧ i < g.n ∧ ∀ o, g.H i = some o → ∃ cap arr, v = .slice (some ⟨g.μ i, off * o.sz, none⟩) len cap ∧ w.heap[g.μ i]? = some (.cells arr o.E (0, 0)) ∧ arr.size = (off + cap) * o.sz ∧ len ≤ cap ∧ off + cap ≤ maxLen
 | .op i row col, v => (∃ a, v = .pointer (some a)) ∧ i < g.n ∧ ∀ o, g.H i = some o → v = .pointer (some ⟨g.μ i, row * o.sz + col, none⟩) ∧ IsCells w (g.μ i)
 | .om i, v => (∃ r, v = .map (some r)) ∧ i < g.n ∧ ∀ o, g.H i = some o → v = .map (some (g.μ i)) ∧ ∃ es c, w.heap[g.μ i]? = some (.map es c)
 | .oit i, v => (∃ a, v = .pointer (some a)) ∧ i < g.n ∧ ∀ o, g.H i = some o → v = .pointer (some ⟨g.μ i, 0, none⟩) ∧ ∃ m s se l, w.heap[g.μ i]? = some (.mapIter m s se l)
 | .ms i k, v => (∃ z : Nat, v = .int .i64 z) ∧ i < g.n ∧ ∀ o, g.H i = some o → o.E % 2 = 0 → ∃ es c e, w.heap[g.μ i]? = some (.map es c) ∧ es[k]? = some e ∧ v = .int .i64 (e.born : Int)
def RepList (w : World) (g : Gh) : List AV → List Value → Prop
 | [], vs => vs = []
 | c :: cs, vs => ∃ v vs', vs = v :: vs' ∧ Rep w g c v ∧ RepList w g cs vs'
def RepCells (w : World) (g : Gh) (b : Nat) (o : Nat) : List AV → Prop
 | [] => True
 | c :: cs => ¬ g.Own b ∧ (∃ v, w.cell? ⟨b, o, none⟩ = some v ∧ Rep w g c v) ∧ RepCells w g b (o + 1) cs
def RepRows (w : World) (g : Gh) (b : Nat) (o : Nat) : List (List AV) → Prop
 | [] => True
 | r :: rs => RepCells w g b o r ∧ RepRows w g b (o + r.length) rs
end
def MGrow (es : Array MapEntry) (c : Nat) (es' : Array MapEntry) (c' : Nat) : Prop := (∀ (k : Nat) (e : MapEntry), es[k]? = some e → ∃ e', es'[k]? = some e' ∧ e'.born = e.born) ∧ es.size ≤ es'.size ∧ (es'.size = es.size → c' = c)
def Like (E : Nat) : Obj → Obj → Prop
 | .cells arr T f, ob' => f = (0, 0) → ∃ arr', ob' = .cells arr' T (0, 0) ∧ arr'.size = arr.size
 | .map es c, ob' => ∃ es' c', ob' = .map es' c' ∧ (E % 2 = 0 → MGrow es c es' c')
 | .mapIter m s _ _, ob' => ∃ se l, ob' = .mapIter m s se l
 | _, _ => True
theorem Like.refl (E : Nat) (ob : Obj) : Like E ob ob := by
 cases ob with
 | cells arr T f => exact fun h => ⟨arr, by rw [h], rfl⟩
 | map es c => exact ⟨es, c, rfl, fun _ => ⟨fun k e h => ⟨e, h, rfl⟩, Nat.le_refl _, fun _ => rfl⟩⟩
 | mapIter m s se l => exact ⟨se, l, rfl⟩
 | _ => trivial
theorem Like.trans {E : Nat} {a b c : Obj} (h : Like E a b) (k : Like E b c) : Like E a c := by
 cases a with
 | cells arr T f =>
  intro hf
  obtain ⟨a1, rfl, h2⟩ := h hf
  obtain ⟨a2, rfl, h3⟩ := k rfl
  exact ⟨a2, rfl, h3.trans h2⟩
 | map es c =>
  obtain ⟨e1, c1, rfl, h1⟩ := h
  obtain ⟨e2, c2, rfl, h2⟩ := k
  refine ⟨e2, c2, rfl, fun hE => ?_⟩
  obtain ⟨p1, p2, p3⟩ := h1 hE
  obtain ⟨q1, q2, q3⟩ := h2 hE
  refine ⟨fun k e he => ?_, by omega, fun hs => ?_⟩
  ·obtain ⟨e', he', hb⟩ := p1 k e he
   obtain ⟨e'', he'', hb'⟩ := q1 k e' he'
   exact ⟨e'', he'', hb'.trans hb⟩
  ·rw [q3 (by omega), p3 (by omega)]
 | mapIter m s se l =>
  obtain ⟨se1, l1, rfl⟩ := h
  exact k
 | _ => trivial
structure Step (w : World) (g : Gh) (w' : World) (g' : Gh) : Prop where
 os : w'.os = w.os
 tape : w'.tape = w.tape
 output : w'.output = w.output
 size : w.heap.size ≤ w'.heap.size
 keep : ∀ b, b < w.heap.size → ¬ g.Own b → w'.heap[b]? = w.heap[b]?
 shape : ∀ (i : Nat) (o' : AObj) (ob : Obj), i < g.n → g'.H i = some o' → w.heap[g.μ i]? = some ob → ∃ ob' : Obj, w'.heap[g.μ i]? = some ob' ∧ Like o'.E ob ob'
 own : ∀ b, g'.Own b → g.Own b ∨ w.heap.size ≤ b
 n : g.n ≤ g'.n
 mu : ∀ i, i < g.n → g'.μ i = g.μ i
 live : ∀ i o', i < g.n → g'.H i = some o' → ∃ o, g.H i = some o ∧ o.E = o'.E ∧ o.sz = o'.sz
 dr : g'.dr = g.dr
 drawn : g.dr = true → w.drawn ≤ w'.drawn
theorem Step.refl (w : World) (g : Gh) : Step w g w g :=
 ⟨rfl, rfl, rfl, Nat.le_refl _, fun _ _ _ => rfl, fun _ _ ob _ _ h => ⟨ob, h, Like.refl _ _⟩, fun _ h => .inl h, Nat.le_refl _, fun _ _ => rfl, fun _ o' _ h => ⟨o', h, rfl, rfl⟩, rfl, fun _ => Nat.le_refl _⟩
theorem Step.trans {w w1 w2 : World} {g g1 g2 : Gh} (h : Step w g w1 g1) (k : Step w1 g1 w2 g2) : Step w g w2 g2 where
 os := k.os.trans h.os
 tape := k.tape.trans h.tape
 output := k.output.trans h.output
 size := Nat.le_trans h.size k.size
 keep b hb hn := by
  have h1 := h.keep b hb hn
  have : ¬ g1.Own b := fun ho => by
   rcases h.own b ho with h2 | h2
   ·exact hn h2
   ·omega
  exact (k.keep b (Nat.lt_of_lt_of_le hb h.size) this).trans h1
 shape i o' ob hi ho hb := by
  obtain ⟨o1, e1, e2, _⟩ := k.live i o' (Nat.lt_of_lt_of_le hi h.n) ho
  obtain ⟨a1, h1, h2⟩ := h.shape i o1 ob hi e1 hb
  rw [← h.mu i hi] at h1
  obtain ⟨a2, h3, h4⟩ := k.shape i o' a1 (Nat.lt_of_lt_of_le hi h.n) ho h1
  rw [h.mu i hi] at h3
  rw [e2] at h2
  exact ⟨a2, h3, h2.trans h4⟩
 own b hb := by
  rcases k.own b hb with h1 | h1
  ·exact h.own b h1
  ·exact .inr (Nat.le_trans h.size h1)
 n := Nat.le_trans h.n k.n
 mu i hi := (k.mu i (Nat.lt_of_lt_of_le hi h.n)).trans (h.mu i hi)
 live i o' hi ho := by
  obtain ⟨o1, h1, h2, h3⟩ := k.live i o' (Nat.lt_of_lt_of_le hi h.n) ho
  obtain ⟨o2, h4, h5, h6⟩ := h.live i o1 hi h1
  exact ⟨o2, h4, h5.trans h2, h6.trans h3⟩
 dr := k.dr.trans h.dr
 drawn hd := Nat.le_trans (h.drawn hd) (k.drawn (h.dr.trans hd))
theorem Step.cells {w w' : World} {g g' : Gh} (h : Step w g w' g') {i : Nat} {o' : AObj} {arr : Array Value} {E : TypeId} (hi : i < g.n) (ho : g'.H i = some o') (hb : w.heap[g.μ i]? = some (Obj.cells arr E (0, 0))) : ∃ arr' : Array Value, w'.heap[g.μ i]? = some (Obj.cells arr' E (0, 0)) ∧ arr'.size = arr.size := by
 obtain ⟨ob', h1, h2⟩ := h.shape i o' _ hi ho hb
 obtain ⟨arr', h3, h4⟩ := h2 rfl
 exact ⟨arr', by rw [← h3]; exact h1, h4⟩
theorem Step.cell {w w' : World} {g g' : Gh} (h : Step w g w' g') {b o : Nat} {v : Value} (hn : ¬ g.Own b) (hc : w.cell? ⟨b, o, none⟩ = some v) : w'.cell? ⟨b, o, none⟩ = some v := by
 have hb := World.block_lt_of_cell? w _ hc
 rw [World.cell?_of_block (w := w) (h.keep b hb hn)]
 exact hc
theorem Step.notOwn {w w' : World} {g g' : Gh} (h : Step w g w' g') {b : Nat} (hb : b < w.heap.size) (hn : ¬ g.Own b) : ¬ g'.Own b := fun ho => by
 rcases h.own b ho with h1 | h1
 ·exact hn h1
 ·omega
mutual
theorem Rep.mono {w w' : World} {g g' : Gh} (h : Step w g w' g') : ∀ (x : AV) (v : Value), Rep w g x v → Rep w' g' x v
 | .any, _, _ => trivial
 | .lit _, _, hr => hr
 | .ls nz rows, v, hr => by
  obtain ⟨a, cap, h1, h2, h3, h4, h5, h6⟩ := hr
  exact ⟨a, cap, h1, h2, h3, h4, h5, fun ad ha => ⟨(h6 ad ha).1, RepRows.mono h rows _ _ (h6 ad ha).2⟩⟩
 | .pp cells, v, hr => by
  obtain ⟨b, o, h1, h2⟩ := hr
  exact ⟨b, o, h1, RepCells.mono h cells b o h2⟩
 | .agg cells, v, hr => by
  obtain ⟨vs, h1, h2⟩ := hr
  exact ⟨vs, h1, RepList.mono h cells _ h2⟩
 | .tup cells, v, hr => by
  obtain ⟨vs, h1, h2⟩ := hr
  exact ⟨vs, h1, RepList.mono h cells _ h2⟩
 | .fn f caps, v, hr => by
  obtain ⟨vs, h1, h2⟩ := hr
  exact ⟨vs, h1, RepList.mono h caps _ h2⟩
 | .os i off len, v, hr => by
  obtain ⟨h0, h1, h2⟩ := hr
  refine ⟨h0, Nat.lt_of_lt_of_le h1 h.n, fun o ho => ?_⟩
  obtain ⟨o1, h3, h4, h5⟩ := h.live i o h1 ho
  obtain ⟨cap, arr, h6, h7, h8, h9, h10⟩ := h2 o1 h3
  obtain ⟨arr', h11, h12⟩ := h.cells h1 ho h7
  exact ⟨cap, arr', by rw [h.mu i h1, ← h5]; exact h6, by rw [h.mu i h1, ← h4]; exact h11, by rw [h12, ← h5]; exact h8, h9, h10⟩
 | .op i row col, v, hr => by
  obtain ⟨h0, h1, h2⟩ := hr
  refine ⟨h0, Nat.lt_of_lt_of_le h1 h.n, fun o ho => ?_⟩
  obtain ⟨o1, h3, h4, h5⟩ := h.live i o h1 ho
  rw [h.mu i h1, ← h5]
  obtain ⟨h6, arr, E, h7⟩ := h2 o1 h3
  obtain ⟨arr', h8, _⟩ := h.cells h1 ho h7
  exact ⟨h6, arr', E, h8⟩
 | .om i, v, hr => by
  obtain ⟨h0, h1, h2⟩ := hr
  refine ⟨h0, Nat.lt_of_lt_of_le h1 h.n, fun o ho => ?_⟩
  obtain ⟨o1, h3, h4, h5⟩ := h.live i o h1 ho
  obtain ⟨h6, es, c, h7⟩ := h2 o1 h3
  obtain ⟨ob', h8, es', c', h9, _⟩ := h.shape i o _ h1 ho h7
  rw [h.mu i h1]
  exact ⟨h6, es', c', by rw [← h9]; exact h8⟩
 | .oit i, v, hr => by
  obtain ⟨h0, h1, h2⟩ := hr
  refine ⟨h0, Nat.lt_of_lt_of_le h1 h.n, fun o ho => ?_⟩
  obtain ⟨o1, h3, h4, h5⟩ := h.live i o h1 ho
  obtain ⟨h6, m, s, se, l, h7⟩ := h2 o1 h3
  obtain ⟨ob', h8, se', l', h9⟩ := h.shape i o _ h1 ho h7
  rw [h.mu i h1]
  exact ⟨h6, m, s, se', l', by rw [← h9]; exact h8⟩
 | .ms i k, v, hr => by
  obtain ⟨h0, h1, h2⟩ := hr
  refine ⟨h0, Nat.lt_of_lt_of_le h1 h.n, fun o ho hE => ?_⟩
  obtain ⟨o1, h3, h4, h5⟩ := h.live i o h1 ho
  obtain ⟨es, c, e, h7, h8, h9⟩ := h2 o1 h3 (by rw [h4]; exact hE)
  obtain ⟨ob', k1, es', c', k2, k3⟩ := h.shape i o _ h1 ho h7
  obtain ⟨e', k4, k5⟩ := (k3 hE).1 k e h8
  rw [h.mu i h1]
  exact ⟨es', c', e', by rw [← k2]; exact k1, k4, by rw [k5]; exact h9⟩
theorem RepList.mono {w w' : World} {g g' : Gh} (h : Step w g w' g') : ∀ (xs : List AV) (vs : List Value), RepList w g xs vs → RepList w' g' xs vs
 | [], _, hr => hr
 | x :: xs, vs, hr => by
  obtain ⟨v, vs', h1, h2, h3⟩ := hr
  exact ⟨v, vs', h1, Rep.mono h x v h2, RepList.mono h xs vs' h3⟩
theorem RepCells.mono {w w' : World} {g g' : Gh} (h : Step w g w' g') : ∀ (xs : List AV) (b o : Nat), RepCells w g b o xs → RepCells w' g' b o xs
 | [], _, _, _ => trivial
 | x :: xs, b, o, hr => by
  obtain ⟨h1, ⟨v, h2, h3⟩, h4⟩ := hr
  exact ⟨h.notOwn (World.block_lt_of_cell? w _ h2) h1, ⟨v, h.cell h1 h2, Rep.mono h x v h3⟩, RepCells.mono h xs b (o + 1) h4⟩
theorem RepRows.mono {w w' : World} {g g' : Gh} (h : Step w g w' g') : ∀ (xs : List (List AV)) (b o : Nat), RepRows w g b o xs → RepRows w' g' b o xs
 | [], _, _, _ => trivial
 | x :: xs, b, o, hr => ⟨RepCells.mono h x b o hr.1, RepRows.mono h xs b _ hr.2⟩
end
def ObjIn (w : World) (g : Gh) (arr : Array Value) (o : AObj) : Prop :=
 o.rows.length * o.sz ≤ arr.size ∧ ∀ r row, o.rows[r]? = some row → row.length = o.sz ∧ ∀ c x, row[c]? = some x → ∃ v, arr[r * o.sz + c]? = some v ∧ Rep w g x v
def k1code : AV → Option Nat
 | .lit (.int .i64 _) => some 1
 | .lit (.string _) => some 2
 | .lit (.bool _) => some 3
 | _ => none
def kscode : List AV → Option Nat
 | [] => some 1
 | x :: xs => match k1code x, kscode xs with
  | some a, some b => some (4 * b + a)
  | _, _ => none
def kcode : AV → Option Nat
 | .agg cs => (kscode cs).map (4 * ·)
 | x => k1code x
def MapIn (w : World) (g : Gh) (es : Array MapEntry) (c : Nat) (o : AObj) : Prop :=
 es.size = o.rows.length ∧ (∀ (k : Nat) (e : MapEntry), es[k]? = some e → e.born < c) ∧ (∀ (j k : Nat) (e e' : MapEntry), es[j]? = some e → es[k]? = some e' → e.born = e'.born → j = k) ∧
  (∀ (j k : Nat) (e e' : MapEntry), es[j]? = some e → es[k]? = some e' → e.key = e'.key → j = k) ∧
  ∀ (k : Nat) (row : List AV), o.rows[k]? = some row → ∃ x y e, row = [x, y] ∧ es[k]? = some e ∧ Rep w g x e.key ∧ Rep w g y e.val ∧ kcode x = some o.sz
def ItIn (w : World) (g : Gh) (m : Option Nat) (since : Nat) (seen : Array Nat) (last : Nat) (o : AObj) : Prop :=
 o.E < g.n ∧ m = some (g.μ o.E) ∧ ∃ (k0 : Int) (idxs bs : List Nat), o.rows = [AV.lit (.int .i64 k0)] :: idxs.map (fun (k : Nat) => [AV.lit (.int .i64 (k : Int))]) ∧ bs.length = o.sz ∧ bs.Nodup ∧ idxs.Nodup ∧ (∀ b ∈ bs, b < since) ∧ last = since ∧
  (∀ k : Nat, k ∈ idxs ↔ ∃ b, bs[k]? = some b ∧ b ∉ seen) ∧ (0 ≤ k0 → ∃ b, bs[k0.toNat]? = some b ∧ seen.back? = some b) ∧
  ∀ om, g.H o.E = some om → om.E % 2 = 0 ∧ ∃ es c, w.heap[g.μ o.E]? = some (.map es c) ∧ (∀ (k b : Nat), bs[k]? = some b → ∃ e, es[k]? = some e ∧ e.born = b) ∧ (es.size = o.sz → c = since)
def Lies (w : World) (g : Gh) (o : AObj) : Obj → Prop
 | .cells arr E f => E = o.E ∧ f = (0, 0) ∧ ObjIn w g arr o
 | .map es c => MapIn w g es c o
 | .mapIter m since seen last => ItIn w g m since seen last o
 | _ => False
theorem ObjIn.mono {w w' : World} {g g' : Gh} (h : Step w g w' g') {arr : Array Value} {o : AObj} (k : ObjIn w g arr o) : ObjIn w' g' arr o :=
 ⟨k.1, fun r row hr => ⟨(k.2 r row hr).1, fun c x hx => by
  obtain ⟨v, h1, h2⟩ := (k.2 r row hr).2 c x hx
  exact ⟨v, h1, h2.mono h⟩⟩⟩
theorem MapIn.mono {w w' : World} {g g' : Gh} (h : Step w g w' g') {es : Array MapEntry} {c : Nat} {o : AObj} (k : MapIn w g es c o) : MapIn w' g' es c o :=
 ⟨k.1, k.2.1, k.2.2.1, k.2.2.2.1, fun j row hr => by
  obtain ⟨x, y, e, h1, h2, h3, h4, h5⟩ := k.2.2.2.2 j row hr
  exact ⟨x, y, e, h1, h2, h3.mono h, h4.mono h, h5⟩⟩
theorem ItIn.mono {w w' : World} {g g' : Gh} (h : Step w g w' g') {m : Option Nat} {since : Nat} {seen : Array Nat} {last : Nat} {o : AObj} (k : ItIn w g m since seen last o) : ItIn w' g' m since seen last o := by
 obtain ⟨h1, h2, k0, idxs, bs, h3, h4, h5, h6, h7, h8, h9, h10, h11⟩ := k
 refine ⟨Nat.lt_of_lt_of_le h1 h.n, by rw [h.mu _ h1]; exact h2, k0, idxs, bs, h3, h4, h5, h6, h7, h8, h9, h10, fun om hom => ?_⟩
 obtain ⟨om1, j1, j2, j3⟩ := h.live _ om h1 hom
 obtain ⟨hE, es, c, j4, j5, j6⟩ := h11 om1 j1
 obtain ⟨ob', j7, es', c', j8, j9⟩ := h.shape _ om _ h1 hom j4
 rw [j2] at hE
 obtain ⟨m1, m2, m3⟩ := j9 hE
 refine ⟨hE, es', c', by rw [h.mu _ h1, ← j8]; exact j7, fun k b hb => ?_, fun hs => ?_⟩
 ·obtain ⟨e, e1, e2⟩ := j5 k b hb
  obtain ⟨e', e3, e4⟩ := m1 k e e1
  exact ⟨e', e3, e4.trans e2⟩
 ·have : o.sz ≤ es.size := by
   rw [← h4]
   rcases Nat.eq_zero_or_pos bs.length with hz | hz
   ·omega
   ·obtain ⟨e, e1, _⟩ := j5 (bs.length - 1) _ (List.getElem?_eq_getElem (by omega))
    have := (Array.getElem?_eq_some_iff.1 e1).1
    omega
  rw [m3 (by omega), j6 (by omega)]
theorem Lies.mono {w w' : World} {g g' : Gh} (h : Step w g w' g') {o : AObj} : ∀ {ob : Obj}, Lies w g o ob → Lies w' g' o ob
 | .cells _ _ _, ⟨h1, h2, h3⟩ => ⟨h1, h2, h3.mono h⟩
 | .map _ _, h1 => MapIn.mono h h1
 | .mapIter _ _ _ _, h1 => ItIn.mono h h1
structure Inv (w : World) (g : Gh) : Prop where
 lt : ∀ i o, g.H i = some o → i < g.n ∧ g.μ i < w.heap.size
 inj : ∀ i j o o', g.H i = some o → g.H j = some o' → g.μ i = g.μ j → i = j
 obj : ∀ i o, g.H i = some o → ∃ ob, w.heap[g.μ i]? = some ob ∧ Lies w g o ob
theorem Inv.cells {w : World} {g : Gh} (hI : Inv w g) {i : Nat} {o : AObj} (hi : g.H i = some o) (hc : IsCells w (g.μ i)) : ∃ arr, w.heap[g.μ i]? = some (.cells arr o.E (0, 0)) ∧ ObjIn w g arr o := by
 obtain ⟨ob, h1, h2⟩ := hI.obj i o hi
 obtain ⟨arr, E, h3⟩ := hc
 rw [h3] at h1
 cases h1
 obtain ⟨h4, h5, h6⟩ := h2
 subst h4
 exact ⟨arr, h3, h6⟩
theorem RepList.length {w : World} {g : Gh} : ∀ {xs : List AV} {vs : List Value}, RepList w g xs vs → xs.length = vs.length
 | [], vs, h => by subst h; rfl
 | x :: xs, vs, h => by
  obtain ⟨v, vs', rfl, _, h3⟩ := h
  simp [RepList.length h3]
theorem RepList.get {w : World} {g : Gh} : ∀ {xs : List AV} {vs : List Value}, RepList w g xs vs → ∀ (i : Nat) (x : AV), xs[i]? = some x → ∃ v, vs[i]? = some v ∧ Rep w g x v
 | [], vs, h, i, x, hx => by simp at hx
 | y :: xs, vs, h, i, x, hx => by
  obtain ⟨v, vs', rfl, h2, h3⟩ := h
  cases i with
  | zero => simp at hx; subst hx; exact ⟨v, by simp, h2⟩
  | succ i => simpa using RepList.get h3 i x (by simpa using hx)
theorem RepList.of {w : World} {g : Gh} : ∀ {xs : List AV} {vs : List Value}, xs.length = vs.length → (∀ (i : Nat) (x : AV), xs[i]? = some x → ∃ v, vs[i]? = some v ∧ Rep w g x v) → RepList w g xs vs
 | [], vs, hl, h => by cases vs with | nil => rfl | cons => simp at hl
 | y :: xs, [], hl, h => by simp at hl
 | y :: xs, v :: vs, hl, h => by
  refine ⟨v, vs, rfl, ?_, RepList.of (by simpa using hl) (fun i x hx => ?_)⟩
  ·obtain ⟨v', h1, h2⟩ := h 0 y (by simp)
   simp at h1; subst h1; exact h2
  ·obtain ⟨v', h1, h2⟩ := h (i + 1) x (by simpa using hx)
   exact ⟨v', by simpa using h1, h2⟩
theorem RepList.append {w : World} {g : Gh} : ∀ {xs ys : List AV} {vs us : List Value}, RepList w g xs vs → RepList w g ys us → RepList w g (xs ++ ys) (vs ++ us)
 | [], ys, vs, us, h, k => by subst h; exact k
 | x :: xs, ys, vs, us, h, k => by
  obtain ⟨v, vs', rfl, h2, h3⟩ := h
  exact ⟨v, vs' ++ us, rfl, h2, RepList.append h3 k⟩
theorem RepList.drop {w : World} {g : Gh} : ∀ {xs : List AV} {vs : List Value} (k : Nat), RepList w g xs vs → RepList w g (xs.drop k) (vs.drop k)
 | xs, vs, 0, h => h
 | [], vs, k + 1, h => by subst h; rfl
 | x :: xs, vs, k + 1, h => by
  obtain ⟨v, vs', rfl, h2, h3⟩ := h
  exact RepList.drop k h3
theorem RepList.take {w : World} {g : Gh} : ∀ {xs : List AV} {vs : List Value} (k : Nat), RepList w g xs vs → RepList w g (xs.take k) (vs.take k)
 | xs, vs, 0, h => by simp; rfl
 | [], vs, k + 1, h => by subst h; rfl
 | x :: xs, vs, k + 1, h => by
  obtain ⟨v, vs', rfl, h2, h3⟩ := h
  exact ⟨v, vs'.take k, rfl, h2, RepList.take k h3⟩
theorem RepCells.get {w : World} {g : Gh} {b : Nat} : ∀ {xs : List AV} {o : Nat}, RepCells w g b o xs → ∀ (i : Nat) (x : AV), xs[i]? = some x → ¬ g.Own b ∧ ∃ v, w.cell? ⟨b, o + i, none⟩ = some v ∧ Rep w g x v
 | [], o, h, i, x, hx => by simp at hx
 | y :: xs, o, h, i, x, hx => by
  obtain ⟨h1, h2, h3⟩ := h
  cases i with
  | zero => simp at hx; subst hx; exact ⟨h1, h2⟩
  | succ i =>
   have := RepCells.get h3 i x (by simpa using hx)
   rwa [show o + (i + 1) = o + 1 + i from by omega]
theorem RepCells.of {w : World} {g : Gh} {b : Nat} (hb : ¬ g.Own b) : ∀ {xs : List AV} {o : Nat}, (∀ (i : Nat) (x : AV), xs[i]? = some x → ∃ v, w.cell? ⟨b, o + i, none⟩ = some v ∧ Rep w g x v) → RepCells w g b o xs
 | [], o, h => trivial
 | y :: xs, o, h => by
  refine ⟨hb, by simpa using h 0 y (by simp), RepCells.of hb fun i x hx => ?_⟩
  have := h (i + 1) x (by simpa using hx)
  rwa [show o + (i + 1) = o + 1 + i from by omega] at this
theorem RepCells.drop {w : World} {g : Gh} {b : Nat} : ∀ {xs : List AV} {o : Nat} (k : Nat), RepCells w g b o xs → RepCells w g b (o + k) (xs.drop k)
 | xs, o, 0, h => h
 | [], o, k + 1, h => trivial
 | x :: xs, o, k + 1, h => by
  have := RepCells.drop k h.2.2
  rwa [show o + 1 + k = o + (k + 1) from by omega] at this
theorem RepCells.take {w : World} {g : Gh} {b : Nat} : ∀ {xs : List AV} {o : Nat} (k : Nat), RepCells w g b o xs → RepCells w g b o (xs.take k)
 | xs, o, 0, h => by simp [RepCells]
 | [], o, k + 1, h => trivial
 | x :: xs, o, k + 1, h => ⟨h.1, h.2.1, RepCells.take k h.2.2⟩
theorem RepCells.append {w : World} {g : Gh} {b : Nat} : ∀ {xs ys : List AV} {o : Nat}, RepCells w g b o xs → RepCells w g b (o + xs.length) ys → RepCells w g b o (xs ++ ys)
 | [], ys, o, h, k => k
 | x :: xs, ys, o, h, k => ⟨h.1, h.2.1, RepCells.append h.2.2 (by simpa [Nat.add_assoc, Nat.add_comm 1] using k)⟩
def AV.one : AV → Bool
 | .any | .agg _ | .tup _ | .lit (.agg _) | .lit (.tuple _) => false
 | _ => true
theorem Rep.oneCell {w : World} {g : Gh} {x : AV} {v : Value} (h : Rep w g x v) (h1 : x.one = true) : v.oneCell' = true := by
 cases x with
 | any => simp [AV.one] at h1
 | lit y => simp only [Rep] at h; subst h; cases v <;> simp_all [AV.one, Value.oneCell']
 | ls nz rows => obtain ⟨a, cap, rfl, _⟩ := h; rfl
 | pp cells => obtain ⟨b, o, rfl, _⟩ := h; rfl
 | agg cells => simp [AV.one] at h1
 | tup cells => simp [AV.one] at h1
 | fn f caps => obtain ⟨vs, rfl, _⟩ := h; rfl
 | os i off len => obtain ⟨⟨a, c, rfl⟩, _⟩ := h; rfl
 | op i row col => obtain ⟨⟨a, rfl⟩, _⟩ := h; rfl
 | om i => obtain ⟨⟨a, rfl⟩, _⟩ := h; rfl
 | oit i => obtain ⟨⟨a, rfl⟩, _⟩ := h; rfl
 | ms i k => obtain ⟨⟨a, rfl⟩, _⟩ := h; rfl
def Even (sz : Nat) (rows : List (List AV)) : Prop := ∀ r ∈ rows, r.length = sz ∧ r.all AV.one = true
theorem RepRows.get {w : World} {g : Gh} {b sz : Nat} : ∀ {rows : List (List AV)} {o : Nat}, Even sz rows → RepRows w g b o rows → ∀ (i : Nat) (r : List AV), rows[i]? = some r → RepCells w g b (o + i * sz) r
 | [], o, _, h, i, r, hx => by simp at hx
 | y :: rows, o, he, h, i, r, hx => by
  cases i with
  | zero => simp at hx; subst hx; simpa using h.1
  | succ i =>
   have h2 := h.2
   rw [(he y (by simp)).1] at h2
   have := RepRows.get (fun r hr => he r (by simp [hr])) h2 i r (by simpa using hx)
   rwa [show o + (i + 1) * sz = o + sz + i * sz from by rw [Nat.succ_mul]; omega]
theorem RepRows.of {w : World} {g : Gh} {b sz : Nat} : ∀ {rows : List (List AV)} {o : Nat}, Even sz rows → (∀ (i : Nat) (r : List AV), rows[i]? = some r → RepCells w g b (o + i * sz) r) → RepRows w g b o rows
 | [], o, _, h => trivial
 | y :: rows, o, he, h => by
  refine ⟨by simpa using h 0 y (by simp), ?_⟩
  rw [(he y (by simp)).1]
  refine RepRows.of (fun r hr => he r (by simp [hr])) fun i r hr => ?_
  have := h (i + 1) r (by simpa using hr)
  rwa [show o + (i + 1) * sz = o + sz + i * sz from by rw [Nat.succ_mul]; omega] at this
theorem RepRows.drop {w : World} {g : Gh} {b sz : Nat} : ∀ {rows : List (List AV)} {o : Nat} (k : Nat), Even sz rows → RepRows w g b o rows → k ≤ rows.length → RepRows w g b (o + k * sz) (rows.drop k)
 | rows, o, 0, _, h, _ => by simpa using h
 | [], o, k + 1, _, h, hk => by simp at hk
 | x :: xs, o, k + 1, he, h, hk => by
  have h2 := h.2
  rw [(he x (by simp)).1] at h2
  have := RepRows.drop k (fun r hr => he r (by simp [hr])) h2 (by simpa using hk)
  rwa [show o + sz + k * sz = o + (k + 1) * sz from by rw [Nat.succ_mul]; omega] at this
theorem RepRows.take {w : World} {g : Gh} {b : Nat} : ∀ {rows : List (List AV)} {o : Nat} (k : Nat), RepRows w g b o rows → RepRows w g b o (rows.take k)
 | rows, o, 0, h => by simp [RepRows]
 | [], o, k + 1, h => trivial
 | x :: xs, o, k + 1, h => ⟨h.1, RepRows.take k h.2⟩
end Go.Ab
/-! The resolved code and what it does to abstract states. -/
namespace Go.Ab
open Go.RowKit
def AV.ofVal : Value → AV
 | .slice none 0 0 => .ls false []
 | v => .lit v
abbrev AV.int (n : Int) : AV := .lit (.int .i64 n)
abbrev AV.str (s : ByteArray) : AV := .lit (.string s)
abbrev AV.bool (b : Bool) : AV := .lit (.bool b)
abbrev AV.und : AV := .lit (.tuple #[])
inductive Opd where
 | t (n : Nat)
 | k (v : AV)
 | g (n : Nat)
 deriving Inhabited
inductive SK where
 | i | s | b
 deriving DecidableEq, Inhabited
inductive EqK where
 | bool | slice | ptr
 | cells (ks : List SK)
 deriving Inhabited
inductive AOp where
 | mov (x : Opd)
 | pick (c a b : Opd)
 | load (ag : Bool) (n : Nat) (x : Opd)
 | fld (off : Nat) (x : Opd)
 | part (ag : Bool) (off n : Nat) (x : Opd)
 | idx (sz : Nat) (x i : Opd)
 | idxA (len sz : Nat) (x i : Opd)
 | idxV (ag : Bool) (len sz : Nat) (x i : Opd)
 | chr (x i : Opd)
 | bin (op : BinOp) (x y : Opd)
 | eq (neg : Bool) (k : EqK) (x y : Opd)
 | not (x : Opd)
 | neg (x : Opd)
 | cvt (k : IntKind) (x : Opd)
 | same (x : Opd)
 | ext (i : Nat) (x : Opd)
 | len (x : Opd)
 | lenS (x : Opd)
 | slS (x : Opd) (lo hi : Option Opd)
 | sl (sz : Nat) (x : Opd) (lo hi : Option Opd)
 | build (zero : List AV) (parts : List (Nat × Nat × Opd))
 | box (n : Nat) (x : Opd)
 | bsl (sz : Nat) (len : Nat) (parts : List (Nat × Opd))
 | mkf (f : Fn) (caps : List Opd)
 | nilc (x : Opd)
 | alloc (E : TypeId) (zero : List AV)
 | boxo (E : TypeId) (n : Nat) (x : Opd)
 | bslo (E : TypeId) (sz : Nat) (len : Nat) (parts : List (Nat × Opd))
 | store (ag : Bool) (n : Nat) (a x : Opd)
 | app (E : TypeId) (sz bytes : Nat) (s x : Opd)
 | make (E : TypeId) (bytes : Nat) (zero : List AV) (l c : Opd)
 | clear (sz : Nat) (zero : List AV) (x : Opd)
 | copy (sz : Nat) (x y : Opd)
 | cap (x : Opd)
 | appz (E : TypeId) (sz bytes : Nat) (zero : List AV) (s n : Opd)
 | call (f : FuncId) (args : List Opd)
 | callv (x : Opd) (args : List Opd)
 | mkm (E kc : Nat)
 | look (ok : Bool) (kc : Nat) (zero : AV) (m k : Opd)
 | lenM (m : Opd)
 | mset (kc : Nat) (m k v : Opd)
 | ment (kc : Nat) (zero : AV) (m k : Opd)
 | mest (m s v : Opd)
 | mdel (kc : Nat) (m k : Opd)
 | mclr (m : Opd)
 | rng (m : Opd)
 | nxt (it : Opd)
 | ent (it : Opd)
 | bts (x : Opd)
 | sdat (x : Opd)
 | upc (u k : Nat) (x : Opd)
 | apps (E : TypeId) (s x : Opd)
 | mm (mx : Bool) (x y : Opd)
 | mm3 (mx : Bool) (x y z : Opd)
 | ustr (E : TypeId) (x n : Opd)
 | bad
 deriving Inhabited
structure AOper where
 d : Option Nat
 o : AOp
 g : Option (Nat × Bool) := none
 af : List Nat := []
 deriving Inhabited
inductive ACode where
 | skip
 | reg (ops : List AOper)
 | dreg (ops : List AOper)
 | ereg (segs : List (List AOper × AOper)) (last : List AOper)
 | areg (al : List AOper) (j s d n : Nat) (E : TypeId)
 | nreg (ops : List (Bool × AOper))
 | freg (x : AOper) (ops : List (Nat × Bool × AOper))
 | seq (a b : ACode)
 | cond (c : Opd) (a b : ACode)
 | blk (id : Nat) (b : ACode)
 | loop (b : ACode)
 | exit (id : Nat)
 | ret
 | bad
 deriving Inhabited
structure St where
 fr : Nat → AV
 H : Nat → Option AObj
 n : Nat
def upd {α : Type} (f : Nat → α) (k : Nat) (v : α) : Nat → α := fun i => if i = k then v else f i
theorem upd_same {α : Type} (f : Nat → α) (k : Nat) (v : α) : upd f k v k = v := by simp [upd]
theorem upd_ne {α : Type} (f : Nat → α) (k : Nat) (v : α) {i : Nat} (h : i ≠ k) : upd f k v i = f i := by simp [upd, h]
def put (fr : Nat → AV) (d : Option Nat) (v : AV) : Nat → AV := match d with
 | some d => upd fr d v
 | none => fr
def ev (G : Nat → AV) (fr : Nat → AV) : Opd → AV
 | .t n => fr n
 | .k v => v
 | .g n => G n
def evs (G : Nat → AV) (fr : Nat → AV) : List Opd → List AV
 | [] => []
 | x :: xs => ev G fr x :: evs G fr xs
def evo (G : Nat → AV) (fr : Nat → AV) : Option Opd → Option AV
 | none => none
 | some x => some (ev G fr x)
def AV.cells? : AV → Option (List AV)
 | .agg cs => some cs
 | .any | .tup _ => none
 | .lit (.agg _) | .lit (.tuple _) => none
 | v => some [v]
def aload (H : Nat → Option AObj) (ag : Bool) (n : Nat) : AV → Option AV
 | .pp cells => if ag then (if n ≤ cells.length then some (.agg (cells.take n)) else none) else cells[0]?
 | .op i r c => match H i with
  | some o => match o.rows[r]? with
   | some row => if ag then (if c + n ≤ row.length then some (.agg ((row.drop c).take n)) else none) else row[c]?
   | none => none
  | none => none
 | _ => none
def afld (off : Nat) : AV → Option AV
 | .pp cells => some (.pp (cells.drop off))
 | .op i r c => some (.op i r (c + off))
 | _ => none
def apart (ag : Bool) (off n : Nat) : AV → Option AV
 | .agg cells => if ag then (if off + n ≤ cells.length then some (.agg ((cells.drop off).take n)) else none) else cells[off]?
 | _ => none
def aidx (H : Nat → Option AObj) (sz : Nat) : AV → AV → Option AV
 | .ls _ rows, .lit (.int _ i) => if 0 ≤ i then (match rows[i.toNat]? with | some r => some (.pp r) | none => none) else none
 | .os j off len, .lit (.int _ i) => if 0 ≤ i ∧ i < len then (match H j with | some o => if o.sz = sz then some (.op j (off + i.toNat) 0) else none | none => none) else none
 | _, _ => none
def aidxA (len sz : Nat) : AV → AV → Option AV
 | .pp cells, .lit (.int _ i) => if 0 ≤ i ∧ i < len then some (.pp (cells.drop (i.toNat * sz))) else none
 | .op j r c, .lit (.int _ i) => if 0 ≤ i ∧ i < len then some (.op j r (c + i.toNat * sz)) else none
 | _, _ => none
def aidxV (ag : Bool) (len sz : Nat) : AV → AV → Option AV
 | .agg cells, .lit (.int _ i) => if 0 ≤ i ∧ i < len then apart ag (i.toNat * sz) sz (.agg cells) else none
 | _, _ => none
def byteAt (s : ByteArray) (i : Nat) : Int := (((s.data[i]?).getD 0).toNat : Int)
def achr : AV → AV → Option AV
 | .lit (.string s), .lit (.int _ i) => if 0 ≤ i ∧ i < s.size then some (.lit (.int .u8 (byteAt s i.toNat))) else none
 | _, _ => none
def aint (op : BinOp) (k : IntKind) (a b : Int) : Option AV :=
 match op with
 | .add => some (.lit (.int k (k.wrap (a + b))))
 | .sub => some (.lit (.int k (k.wrap (a - b))))
 | .mul => some (.lit (.int k (k.wrap (a * b))))
 | .quo => if b = 0 then none else some (.lit (.int k (k.wrap (a.tdiv b))))
 | .rem => if b = 0 then none else some (.lit (.int k (a.tmod b)))
 | .eql => some (.bool (a == b))
 | .neq => some (.bool (a != b))
 | .lss => some (.bool (decide (a < b)))
 | .leq => some (.bool (decide (a ≤ b)))
 | .gtr => some (.bool (decide (b < a)))
 | .geq => some (.bool (decide (b ≤ a)))
 | _ => none
def astr (op : BinOp) (a b : ByteArray) : Option AV :=
 match op with
 | .add => if a.size + b.size ≤ 9223372036854775807 then some (.str (a ++ b)) else none
 | .eql => some (.bool (a.toList == b.toList))
 | .neq => some (.bool (!(a.toList == b.toList)))
 | .lss => some (.bool (Op.bytesLess a.toList b.toList))
 | .leq => some (.bool (Op.bytesLess a.toList b.toList || a.toList == b.toList))
 | .gtr => some (.bool (!(Op.bytesLess a.toList b.toList || a.toList == b.toList)))
 | .geq => some (.bool (!(Op.bytesLess a.toList b.toList)))
 | _ => none
def abin (op : BinOp) : AV → AV → Option AV
 | .lit (.int k a), .lit (.int k' b) => match op with
  | .shl => if b < 0 then none else some (.lit (.int k (k.wrap (a * 2 ^ (min b.toNat k.bits)))))
  | .shr => if b < 0 then none else some (.lit (.int k (a.fdiv (2 ^ (min b.toNat k.bits)))))
  | _ => if k = k' then aint op k a b else none
 | .lit (.string a), .lit (.string b) => astr op a b
 | _, _ => none
def eqOne : SK → AV → AV → Option Bool
 | .i, .lit (.int k a), .lit (.int k' b) => if k = k' then some (a == b) else none
 | .s, .lit (.string a), .lit (.string b) => some (a == b)
 | .b, .lit (.bool a), .lit (.bool b) => some (a == b)
 | _, _, _ => none
def eqAnd : Option Bool → Option Bool → Option Bool
 | some a, some b => some (a && b)
 | _, _ => none
def eqCells : List SK → List AV → List AV → Option Bool
 | [], [], [] => some true
 | k :: ks, x :: xs, y :: ys => eqAnd (eqOne k x y) (eqCells ks xs ys)
 | _, _, _ => none
def aeq : EqK → AV → AV → Option Bool
 | .bool, .lit (.bool a), .lit (.bool b) => some (a == b)
 | .slice, .ls nz _, .ls false [] => some (!nz)
 | .slice, .os _ _ _, .ls false [] => some false
 | .cells ks, .agg xs, .agg ys => eqCells ks xs ys
 | .ptr, .pp _, .lit (.pointer none) => some false
 | .ptr, .op _ _ _, .lit (.pointer none) => some false
 | .ptr, .lit (.pointer none), .lit (.pointer none) => some true
 | _, _, _ => none
def nego : Bool → Bool → Bool
 | true, b => !b
 | false, b => b
def anot : AV → Option AV
 | .lit (.bool b) => some (.bool (!b))
 | _ => none
def mmI : Bool → Int → Int → Int
 | true, a, b => max a b
 | false, a, b => min a b
def amm (mx : Bool) : AV → AV → Option AV
 | .lit (.int k a), .lit (.int k' b) => if k = k' then some (.lit (.int k (mmI mx a b))) else none
 | _, _ => none
def amm3 (mx : Bool) : AV → AV → AV → Option AV
 | .lit (.int k a), .lit (.int k' b), .lit (.int k'' c) => if k = k' ∧ k = k'' then some (.lit (.int k (mmI mx (mmI mx a b) c))) else none
 | _, _, _ => none
def aneg : AV → Option AV
 | .lit (.int k n) => some (.lit (.int k (k.wrap (0 - n))))
 | _ => none
def acvt (k : IntKind) : AV → Option AV
 | .lit (.int _ n) => some (.lit (.int k (k.wrap n)))
 | _ => none
def asame : AV → Option AV
 | .lit (.string s) => some (.str s)
 | .lit (.int _ n) => some (.str (Utf8.encode n))
 | _ => none
def aext (i : Nat) : AV → Option AV
 | .tup vs => vs[i]?
 | _ => none
def alen : AV → Option AV
 | .ls _ rows => some (.int rows.length)
 | .os _ _ len => some (.int len)
 | _ => none
def alenS : AV → Option AV
 | .lit (.string s) => some (.int s.size)
 | _ => none
def abound (y : Nat) (def_ : Nat) : Option AV → Option Nat
 | none => some def_
 | some (.lit (.int _ i)) => if 0 ≤ i ∧ i ≤ y then some i.toNat else none
 | _ => none
def aslS (x : AV) (lo hi : Option AV) : Option AV :=
 match x with
 | .lit (.string s) => match abound s.size s.size hi with
  | some h => match abound h 0 lo with
   | some l => some (.str (s.extract l h))
   | none => none
  | none => none
 | _ => none
def asl (x : AV) (lo hi : Option AV) : Option AV :=
 match x with
 | .ls nz rows => match abound rows.length rows.length hi with
  | some h => match abound h 0 lo with
   | some l => some (.ls nz ((rows.take h).drop l))
   | none => none
  | none => none
 | .os i off len => match abound len len hi with
  | some h => match abound h 0 lo with
   | some l => if l = 0 then some (.os i off h) else if l < h then some (.os i (off + l) (h - l)) else some (.ls true [])
   | none => none
  | none => none
 | _ => none
def splice (cells : List AV) (off : Nat) (cs : List AV) : List AV := cells.take off ++ (cs ++ cells.drop (off + cs.length))
def afill : List AV → List (Nat × Nat × AV) → Option (List AV)
 | cells, [] => some cells
 | cells, (off, sz, v) :: rest => match v.cells? with
  | some cs => if cs.length = sz ∧ off + sz ≤ cells.length then afill (splice cells off cs) rest else none
  | none => none
def evp (G : Nat → AV) (fr : Nat → AV) : List (Nat × Nat × Opd) → List (Nat × Nat × AV)
 | [] => []
 | (a, b, x) :: r => (a, b, ev G fr x) :: evp G fr r
def arows (sz : Nat) : Nat → List (Nat × AV) → Option (List (List AV))
 | _, [] => some []
 | k, (i, v) :: rest => match v.cells? with
  | some cs => if i = k ∧ cs.length = sz then (arows sz (k + 1) rest).map fun r => cs :: r else none
  | none => none
def evq (G : Nat → AV) (fr : Nat → AV) : List (Nat × Opd) → List (Nat × AV)
 | [] => []
 | (a, x) :: r => (a, ev G fr x) :: evq G fr r
def anilc : AV → Option AV
 | .pp c => some (.pp c)
 | .op i r c => some (.op i r c)
 | .fn (.func f) caps => some (.fn (.func f) caps)
 | _ => none
def srcRows (H : Nat → Option AObj) : AV → Option (List (List AV))
 | .ls _ news => some news
 | .os i off len => match H i with
  | some o => if off + len ≤ o.rows.length then some ((o.rows.drop off).take len) else none
  | none => none
 | _ => none
def acap : AV → Option AV
 | .ls false [] => some (.int 0)
 | _ => none
/-! Maps: rows of key and value. -/
open Classical in
noncomputable def mget : List (List AV) → AV → Option AV
 | [], _ => none
 | r :: rs, k => if r.head? = some k then r[1]? else mget rs k
open Classical in
noncomputable def midx : List (List AV) → AV → Nat
 | [], _ => 0
 | r :: rs, k => if r.head? = some k then 0 else midx rs k + 1
open Classical in
noncomputable def mput : List (List AV) → AV → AV → List (List AV)
 | [], k, v => [[k, v]]
 | r :: rs, k, v => if r.head? = some k then [k, v] :: rs else r :: mput rs k v
open Classical in
noncomputable def mdrop : List (List AV) → AV → List (List AV)
 | [], _ => []
 | r :: rs, k => if r.head? = some k then rs else r :: mdrop rs k
noncomputable def mwith (rows : List (List AV)) (k z : AV) : List (List AV) := match mget rows k with
 | some _ => rows
 | none => rows ++ [[k, z]]
def lookRes (ok : Bool) (zero : AV) : Option AV → AV
 | some v => if ok then .tup [v, .bool true] else v
 | none => if ok then .tup [zero, .bool false] else zero
noncomputable def alook (H : Nat → Option AObj) (ok : Bool) (kc : Nat) (zero : AV) : AV → AV → Option AV
 | .om i, k => match H i with
  | some o => if o.sz = kc ∧ kcode k = some kc then some (lookRes ok zero (mget o.rows k)) else none
  | none => none
 | _, _ => none
def alenM (H : Nat → Option AObj) : AV → Option AV
 | .om i => match H i with
  | some o => some (.int o.rows.length)
  | none => none
 | _ => none
def itRows (k0 : Int) (idxs : List Nat) : List (List AV) := [AV.lit (.int .i64 k0)] :: idxs.map (fun (k : Nat) => [AV.lit (.int .i64 (k : Int))])
def aent (H : Nat → Option AObj) : AV → Option AV
 | .oit j => match H j with
  | some o => match o.rows with
   | [.lit (.int .i64 k0)] :: _ => match H o.E with
    | some om => if om.rows.length = o.sz ∧ 0 ≤ k0 then (match om.rows[k0.toNat]? with
     | some [x, y] => some (.tup [x, y])
     | _ => none) else none
    | none => none
   | _ => none
  | none => none
 | _ => none
abbrev byteRow (b : UInt8) : List AV := [.lit (.int .u8 (b.toNat : Int))]
def strRows (t : ByteArray) : List (List AV) := t.data.toList.map byteRow
def byteOf : List AV → Option UInt8
 | [.lit (.int .u8 n)] => if 0 ≤ n ∧ n < 256 then some (UInt8.ofNat n.toNat) else none
 | _ => none
def rbytes : List (List AV) → Option (List UInt8)
 | [] => some []
 | r :: rs => match byteOf r, rbytes rs with
  | some b, some bs => some (b :: bs)
  | _, _ => none
def abts (H : Nat → Option AObj) (x : AV) : Option AV := match srcRows H x with
 | some rows => (rbytes rows).map fun l => .str ⟨l.toArray⟩
 | none => none
def asdat (H : Nat → Option AObj) : AV → Option AV
 | .ls false [] => some (.lit (.pointer none))
 | .os i off len => match H i with
  | some _ => if 0 < len then some (.op i off 0) else none
  | none => none
 | _ => none
def aupc (H : Nat → Option AObj) (u k : Nat) : AV → Option AV
 | .lit (.pointer none) => some (.lit (.pointer none))
 | .op i 0 0 => match H i with
  | some o => if o.E = u ∧ o.sz = k ∧ o.rows ≠ [] then some (.op i 0 0) else none
  | none => none
 | _ => none
def avIf : Bool → AV → AV → AV
 | true, a, _ => a
 | false, _, b => b
noncomputable def aval (G : Nat → AV) (H : Nat → Option AObj) (fr : Nat → AV) : AOp → Option AV
 | .mov x => some (ev G fr x)
 | .pick c a b => match ev G fr c with
  | .lit (.bool t) => some (avIf t (ev G fr a) (ev G fr b))
  | _ => none
 | .load ag n x => aload H ag n (ev G fr x)
 | .fld off x => afld off (ev G fr x)
 | .part ag off n x => apart ag off n (ev G fr x)
 | .idxA len sz x i => aidxA len sz (ev G fr x) (ev G fr i)
 | .idxV ag len sz x i => aidxV ag len sz (ev G fr x) (ev G fr i)
 | .chr x i => achr (ev G fr x) (ev G fr i)
 | .bin op x y => abin op (ev G fr x) (ev G fr y)
 | .eq neg k x y => (aeq k (ev G fr x) (ev G fr y)).map fun b => .bool (nego neg b)
 | .not x => anot (ev G fr x)
 | .neg x => aneg (ev G fr x)
 | .mm mx x y => amm mx (ev G fr x) (ev G fr y)
 | .mm3 mx x y z => amm3 mx (ev G fr x) (ev G fr y) (ev G fr z)
 | .cvt k x => acvt k (ev G fr x)
 | .same x => asame (ev G fr x)
 | .ext i x => aext i (ev G fr x)
 | .len x => alen (ev G fr x)
 | .lenS x => alenS (ev G fr x)
 | .slS x lo hi => aslS (ev G fr x) (evo G fr lo) (evo G fr hi)
 | .build zero parts => (afill zero (evp G fr parts)).map .agg
 | .box n x => match (ev G fr x).cells? with
  | some cs => if cs.length = n then some (.pp cs) else none
  | none => none
 | .bsl sz len parts => match arows sz 0 (evq G fr parts) with
  | some rows => if rows.length = len then some (.ls true rows) else none
  | none => none
 | .mkf f caps => some (.fn f (evs G fr caps))
 | .nilc x => anilc (ev G fr x)
 | .cap x => acap (ev G fr x)
 | .look ok kc zero m k => alook H ok kc zero (ev G fr m) (ev G fr k)
 | .lenM m => alenM H (ev G fr m)
 | .ent it => aent H (ev G fr it)
 | .bts x => abts H (ev G fr x)
 | .sdat x => asdat H (ev G fr x)
 | .upc u k x => aupc H u k (ev G fr x)
 | _ => none
def Enters (P : Program) (f : FuncId) : Prop := ∃ fn c, P.funcs[f]? = some fn ∧ (fn.name == "runtime.NumGoroutine") = false ∧ fn.body = some c
def Invokes (P : Program) (f : FuncId) (vs : Array Value) (w : World) (R : Ending → World → Prop) : Prop :=
 (Enters P f ∧ Calls P f vs w R) ∨ ∃ v w', (callFunc f vs).run P w = .ok (.value v) w' ∧ R (.returned v) w'
theorem Invokes.mono {P : Program} {f : FuncId} {vs : Array Value} {w : World} {R R' : Ending → World → Prop} (h : Invokes P f vs w R) (hr : ∀ e w', R e w' → R' e w') : Invokes P f vs w R' := by
 rcases h with ⟨h1, h2⟩ | ⟨v, w', h1, h2⟩
 ·exact .inl ⟨h1, h2.mono hr⟩
 ·exact .inr ⟨v, w', h1, hr _ _ h2⟩
def Strict (G : Nat → AV) : Prop := G 1000000007 = .pp []
structure Gl (G : Nat → AV) (g : Gh) (w : World) : Prop where
 at' : ∀ k, Rep w g (G k) (.pointer (some ⟨k, 0, none⟩))
 dr : g.dr = true → Strict G
 fix : ∀ k, G (1000000100 + k) = .pp [] → ∀ cs, G k = .pp cs → ¬ g.Own k ∧ ∃ arr E f, w.heap[k]? = some (.cells arr E f) ∧ arr.size = cs.length
instance {G : Nat → AV} {g : Gh} {w : World} : CoeFun (Gl G g w) fun _ => ∀ k, Rep w g (G k) (.pointer (some ⟨k, 0, none⟩)) := ⟨Gl.at'⟩
theorem Gl.mono {G : Nat → AV} {w w' : World} {g g' : Gh} (h : Gl G g w) (hS : Step w g w' g') : Gl G g' w' := ⟨fun k => (h.at' k).mono hS, fun hd => h.dr (hS.dr ▸ hd), fun k hk cs hcs => by
 obtain ⟨h1, arr, E, f, h2, h3⟩ := h.fix k hk cs hcs
 have hlt : k < w.heap.size := (Array.getElem?_eq_some_iff.1 h2).1
 exact ⟨hS.notOwn hlt h1, arr, E, f, by rw [hS.keep k hlt h1]; exact h2, h3⟩⟩
def ACalls (P : Program) (G : Nat → AV) (f : FuncId) (args : List AV) (H : Nat → Option AObj) (n : Nat) (R : AV → (Nat → Option AObj) → Nat → Prop) : Prop :=
 ∀ (w : World) (g : Gh) (vs : Array Value), Inv w g → g.H = H → g.n = n → Gl G g w → RepList w g args vs.toList →
  Invokes P f vs w fun e w' => ∃ v r g', e = .returned v ∧ R r g'.H g'.n ∧ Rep w' g' r v ∧ Inv w' g' ∧ Step w g w' g'
theorem ACalls.mono {P : Program} {G : Nat → AV} {f : FuncId} {args : List AV} {H : Nat → Option AObj} {n : Nat} {R R' : AV → (Nat → Option AObj) → Nat → Prop}
  (h : ACalls P G f args H n R) (hr : ∀ r H' n', R r H' n' → R' r H' n') : ACalls P G f args H n R' :=
 fun w g vs h1 h2 h3 h4 h5 => (h w g vs h1 h2 h3 h4 h5).mono fun _ _ ⟨v, r, g', k1, k2, k3⟩ => ⟨v, r, g', k1, hr _ _ _ k2, k3⟩
def astore (o : AObj) (r c : Nat) (cs : List AV) : Option AObj :=
 match o.rows[r]? with
 | some row => if c + cs.length ≤ row.length then some { o with rows := o.rows.set r (splice row c cs) } else none
 | none => none
def EvenOf (sz : Nat) : AV → Prop
 | .ls _ rows => Even sz rows
 | _ => True
def CutOk (H : Nat → Option AObj) (sz : Nat) : AV → Prop
 | .ls _ rows => Even sz rows
 | .os i _ _ => ∃ o, H i = some o ∧ o.sz = sz
 | _ => True
def aop (P : Program) (G : Nat → AV) (o : AOp) (d : Option Nat) (st : St) (K : St → Prop) : Prop :=
 match o with
 | .idx sz x i => EvenOf sz (ev G st.fr x) ∧ ∃ v, aidx st.H sz (ev G st.fr x) (ev G st.fr i) = some v ∧ K { st with fr := put st.fr d v }
 | .sl sz x lo hi => CutOk st.H sz (ev G st.fr x) ∧ ∃ v, asl (ev G st.fr x) (evo G st.fr lo) (evo G st.fr hi) = some v ∧ K { st with fr := put st.fr d v }
 | .alloc E zero => K { fr := put st.fr d (.op st.n 0 0), H := upd st.H st.n (some ⟨E, zero.length, [zero]⟩), n := st.n + 1 }
 | .boxo E n x => ∃ cs, (ev G st.fr x).cells? = some cs ∧ cs.length = n ∧ K { fr := put st.fr d (.op st.n 0 0), H := upd st.H st.n (some ⟨E, n, [cs]⟩), n := st.n + 1 }
 | .bslo E sz len parts => ∃ rows, arows sz 0 (evq G st.fr parts) = some rows ∧ rows.length = len ∧ K { fr := put st.fr d (.os st.n 0 len), H := upd st.H st.n (some ⟨E, sz, rows⟩), n := st.n + 1 }
 | .store ag n a x => match ev G st.fr a with
  | .op i r c => ∃ o cs o', st.H i = some o ∧ (ev G st.fr x).cells? = some cs ∧ cs.length = n ∧ cs.all AV.one = true ∧ astore o r c cs = some o' ∧ K { fr := put st.fr d .any, H := upd st.H i (some o'), n := st.n }
  | _ => False
 | .app E sz bytes s x => match ev G st.fr s, srcRows st.H (ev G st.fr x) with
  | .ls false [], some news => Even sz news ∧ news.length ≤ 9223372036854775807 ∧ news.length * bytes ≤ 140737488355328 ∧
    (match news with
     | [] => K { st with fr := put st.fr d (.ls false []) }
     | _ => K { fr := put st.fr d (.os st.n 0 news.length), H := upd st.H st.n (some ⟨E, sz, news⟩), n := st.n + 1 })
  | .os i off len, some news => (len + news.length = 0 ∧ K { st with fr := put st.fr d (.os i off len) }) ∨ (∃ o, st.H i = some o ∧ off = 0 ∧ o.sz = sz ∧ o.E = E ∧ len ≤ o.rows.length ∧ Even sz news ∧ 0 < len + news.length ∧ (len + news.length) * bytes ≤ 140737488355328 ∧
    K { fr := put st.fr d (.os st.n 0 (len + news.length)), H := upd (upd st.H i none) st.n (some ⟨E, sz, o.rows.take len ++ news⟩), n := st.n + 1 }) ∨
    ∃ o, st.H i = some o ∧ o.sz = sz ∧ o.E = E ∧ off + len ≤ o.rows.length ∧ Even sz news ∧ 0 < len + news.length ∧ (off + len + news.length) * bytes ≤ 140737488355328 ∧
    K { fr := put st.fr d (.os st.n off (len + news.length)), H := upd (upd st.H i none) st.n (some ⟨E, sz, o.rows.take (off + len) ++ news⟩), n := st.n + 1 } ∧
    K { fr := put st.fr d (.os st.n 0 (len + news.length)), H := upd (upd st.H i none) st.n (some ⟨E, sz, (o.rows.drop off).take len ++ news⟩), n := st.n + 1 }
  | _, _ => False
 | .appz E sz bytes zero s m => match ev G st.fr s, ev G st.fr m with
  | .ls false [], .lit (.int .i64 m) => 0 < m ∧ m * bytes ≤ 140737488355328 ∧ m ≤ 9223372036854775807 ∧ K { fr := put st.fr d (.os st.n 0 m.toNat), H := upd st.H st.n (some ⟨E, sz, List.replicate m.toNat zero⟩), n := st.n + 1 }
  | _, _ => False
 | .make E bytes zero l c => match ev G st.fr l, ev G st.fr c with
  | .lit (.int .i64 m), .lit (.int .i64 m') => 0 ≤ m ∧ m ≤ m' ∧ m' * bytes ≤ 140737488355328 ∧ m' ≤ 9223372036854775807 ∧ K { fr := put st.fr d (.os st.n 0 m.toNat), H := upd st.H st.n (some ⟨E, zero.length, List.replicate m.toNat zero⟩), n := st.n + 1 }
  | _, _ => False
 | .copy sz x y => match ev G st.fr x, srcRows st.H (ev G st.fr y) with
  | .os i off len, some news => ∃ o, st.H i = some o ∧ o.sz = sz ∧ Even sz news ∧ off + len ≤ o.rows.length ∧ K { fr := put st.fr d (.int (Nat.min news.length len : Nat)), H := upd st.H i (some { o with rows := o.rows.take off ++ (news.take (Nat.min news.length len) ++ o.rows.drop (off + Nat.min news.length len)) }), n := st.n }
  | .ls _ [], some _ => K { st with fr := put st.fr d (.int 0) }
  | _, _ => False
 | .clear sz zero x => match ev G st.fr x with
  | .os i off len => ∃ o, st.H i = some o ∧ o.sz = sz ∧ zero.length = sz ∧ 0 < sz ∧ off + len ≤ o.rows.length ∧ K { fr := put st.fr d .any, H := upd st.H i (some { o with rows := o.rows.take off ++ (List.replicate len zero ++ o.rows.drop (off + len)) }), n := st.n }
  | _ => False
 | .call f args => ACalls P G f (evs G st.fr args) st.H st.n fun r H' n' => K { fr := put st.fr d r, H := H', n := n' }
 | .callv x args => match ev G st.fr x with
  | .fn (.func f) caps => ACalls P G f (evs G st.fr args ++ caps) st.H st.n fun r H' n' => K { fr := put st.fr d r, H := H', n := n' }
  | _ => False
 | .mkm E kc => K { fr := put st.fr d (.om st.n), H := upd st.H st.n (some ⟨E, kc, []⟩), n := st.n + 1 }
 | .mset kc m k v => match ev G st.fr m with
  | .om i => ∃ o, st.H i = some o ∧ o.sz = kc ∧ kcode (ev G st.fr k) = some kc ∧ K { fr := put st.fr d .any, H := upd st.H i (some { o with rows := mput o.rows (ev G st.fr k) (ev G st.fr v) }), n := st.n }
  | _ => False
 | .ment kc zero m k => match ev G st.fr m with
  | .om i => ∃ o, st.H i = some o ∧ o.sz = kc ∧ o.E % 2 = 0 ∧ kcode (ev G st.fr k) = some kc ∧ K { fr := put st.fr d (.tup [(mget o.rows (ev G st.fr k)).getD zero, .ms i (midx o.rows (ev G st.fr k))]), H := upd st.H i (some { o with rows := mwith o.rows (ev G st.fr k) zero }), n := st.n }
  | _ => False
 | .mest m s v => match ev G st.fr m, ev G st.fr s with
  | .om i, .ms i' j => i = i' ∧ ∃ o key old, st.H i = some o ∧ o.E % 2 = 0 ∧ o.rows[j]? = some [key, old] ∧ K { fr := put st.fr d .any, H := upd st.H i (some { o with rows := o.rows.set j [key, ev G st.fr v] }), n := st.n }
  | _, _ => False
 | .mdel kc m k => match ev G st.fr m with
  | .om i => ∃ o, st.H i = some o ∧ o.sz = kc ∧ o.E % 2 = 1 ∧ kcode (ev G st.fr k) = some kc ∧ K { fr := put st.fr d .any, H := upd st.H i (some { o with rows := mdrop o.rows (ev G st.fr k) }), n := st.n }
  | _ => False
 | .mclr m => match ev G st.fr m with
  | .om i => ∃ o, st.H i = some o ∧ o.E % 2 = 1 ∧ K { fr := put st.fr d .any, H := upd st.H i (some { o with rows := [] }), n := st.n }
  | _ => False
 | .rng m => match ev G st.fr m with
  | .om i => ∃ o, st.H i = some o ∧ o.E % 2 = 0 ∧ K { fr := put st.fr d (.oit st.n), H := upd st.H st.n (some ⟨i, o.rows.length, itRows (-1) (List.range o.rows.length)⟩), n := st.n + 1 }
  | _ => False
 | .nxt it => match ev G st.fr it with
  | .oit j => ∃ o om k0 idxs, st.H j = some o ∧ st.H o.E = some om ∧ om.rows.length = o.sz ∧ o.rows = itRows k0 idxs ∧
    (idxs = [] → K { fr := put st.fr d (.tup [.bool false]), H := st.H, n := st.n }) ∧
    ∀ k ∈ idxs, ∀ x y, om.rows[k]? = some [x, y] → K { fr := put st.fr d (.tup [.bool true, x, y]), H := upd st.H j (some { o with rows := itRows k (idxs.filter (· != k)) }), n := st.n }
  | _ => False
 | .apps E s x => match ev G st.fr s, ev G st.fr x with
  | .ls false [], .lit (.string t) => t.size ≤ 140737488355328 ∧ (t.size = 0 → K { st with fr := put st.fr d (.ls false []) }) ∧
    (0 < t.size → K { fr := put st.fr d (.os st.n 0 t.size), H := upd st.H st.n (some ⟨E, 1, strRows t⟩), n := st.n + 1 })
  | .os i off len, .lit (.string t) => ∃ o, st.H i = some o ∧ off = 0 ∧ o.sz = 1 ∧ o.E = E ∧ len ≤ o.rows.length ∧ 0 < len ∧ len + t.size ≤ 140737488355328 ∧
    K { fr := put st.fr d (.os st.n 0 (len + t.size)), H := upd (upd st.H i none) st.n (some ⟨E, 1, o.rows.take len ++ strRows t⟩), n := st.n + 1 }
  | _, _ => False
 | .ustr E x k => match ev G st.fr x, ev G st.fr k with
  | .lit (.pointer none), .lit (.int .i64 0) => K { st with fr := put st.fr d (.str ⟨#[]⟩) }
  | .op i 0 0, .lit (.int .i64 m) => ∃ o l, st.H i = some o ∧ o.sz = 1 ∧ o.E = E ∧ 0 < m ∧ m ≤ o.rows.length ∧ m ≤ 9223372036854775807 ∧ rbytes (o.rows.take m.toNat) = some l ∧
    K { fr := put st.fr d (.str ⟨l.toArray⟩), H := upd st.H i none, n := st.n }
  | _, _ => False
 | o => ∃ v, aval G st.H st.fr o = some v ∧ K { st with fr := put st.fr d v }
def aops (P : Program) (G : Nat → AV) : List AOper → St → (St → Prop) → Prop
 | [], st, K => K st
 | o :: os, st, K => match o.g with
  | none => aop P G o.o o.d st fun st' => aops P G os st' K
  | some (j, want) => match st.fr j with
   | .lit (.bool b) =>
    (b = want → aop P G o.o o.d { st with fr := upd st.fr j (.bool want) } fun st' => aops P G os st' K) ∧
    (b = (!want) → aops P G os { st with fr := put (upd st.fr j (.bool (!want))) o.d .und } K)
   | .lit (.tuple _) => aops P G os { st with fr := put st.fr o.d .und } K
   | _ => False
end Go.Ab
/-! What becomes of the relation when memory is made or written. -/
namespace Go.Ab
open Go.RowKit
variable {P : Program} {w w' : World} {g g' : Gh}
theorem Inv.step (hI : Inv w g) (hS : Step w g w' g') (hlt : ∀ i o, g'.H i = some o → i < g'.n ∧ g'.μ i < w'.heap.size)
  (hinj : ∀ i j o o', g'.H i = some o → g'.H j = some o' → g'.μ i = g'.μ j → i = j)
  (hobj : ∀ i o, g'.H i = some o → (g.H i = some o ∧ w'.heap[g.μ i]? = w.heap[g.μ i]?) ∨ ∃ ob, w'.heap[g'.μ i]? = some ob ∧ Lies w' g' o ob) : Inv w' g' where
 lt := hlt
 inj := hinj
 obj i o ho := by
  rcases hobj i o ho with ⟨h1, h2⟩ | ⟨arr, h1, h2⟩
  ·obtain ⟨arr, h3, h4⟩ := hI.obj i o h1
   rw [← hS.mu i (hI.lt i o h1).1] at h2
   exact ⟨arr, by rw [h2, hS.mu i (hI.lt i o h1).1]; exact h3, Lies.mono hS h4⟩
  ·exact ⟨arr, h1, h2⟩
theorem heap_alloc_new' (w : World) (o : Obj) : (w.alloc o).heap[w.heap.size]? = some o := by
 show (w.heap.push o)[w.heap.size]? = _
 rw [Array.getElem?_push, if_pos rfl]
theorem Gh.Own.lt (hI : Inv w g) {b : Nat} (h : g.Own b) : b < w.heap.size := by
 obtain ⟨i, o, h1, rfl⟩ := h
 exact (hI.lt i o h1).2
theorem step_alloc (w : World) (g : Gh) (o : Obj) : Step w g (w.alloc o) g where
 os := rfl
 tape := rfl
 output := rfl
 size := by simp
 keep b hb _ := Below.heap_alloc w o b hb
 shape i _ ob _ _ h := by
  have hb : g.μ i < w.heap.size := by
   rcases Nat.lt_or_ge (g.μ i) w.heap.size with h' | h'
   ·exact h'
   ·simp [Array.getElem?_eq_none h'] at h
  exact ⟨ob, by rw [Below.heap_alloc w o _ hb]; exact h, Like.refl _ _⟩
 own b h := .inl h
 n := Nat.le_refl _
 mu _ _ := rfl
 live i o' _ h := ⟨o', h, rfl, rfl⟩
 dr := rfl
 drawn _ := Nat.le_refl _
theorem inv_alloc (hI : Inv w g) (o : Obj) : Inv (w.alloc o) g :=
 hI.step (step_alloc w g o) (fun i o h => ⟨(hI.lt i o h).1, by have := (hI.lt i o h).2; simp; omega⟩) hI.inj
  fun i o h => .inl ⟨h, Below.heap_alloc _ _ _ (hI.lt i o h).2⟩
theorem step_drew (w : World) (g : Gh) : Step w g w.drew g :=
 ⟨rfl, rfl, rfl, Nat.le_refl _, fun _ _ _ => rfl, fun _ _ ob _ _ h => ⟨ob, h, Like.refl _ _⟩, fun _ h => .inl h, Nat.le_refl _, fun _ _ => rfl, fun _ o' _ h => ⟨o', h, rfl, rfl⟩, rfl, fun _ => Nat.le_succ _⟩
theorem inv_drew (hI : Inv w g) : Inv w.drew g :=
 hI.step (step_drew w g) hI.lt hI.inj fun i o h => .inl ⟨h, rfl⟩
def Gh.more (g : Gh) (b : Nat) (o : AObj) : Gh := { μ := upd g.μ g.n b, H := upd g.H g.n (some o), n := g.n + 1, dr := g.dr }
theorem Gh.more_H (g : Gh) (b : Nat) (o : AObj) : (g.more b o).H = upd g.H g.n (some o) := rfl
theorem step_moreO (hI : Inv w g) (o : AObj) (ob : Obj) : Step w g (w.alloc ob) (g.more w.heap.size o) where
 os := rfl
 tape := rfl
 output := rfl
 size := by simp
 keep b hb _ := Below.heap_alloc w _ b hb
 shape i o' ob' hi ho h := by
  rw [Gh.more_H, upd_ne _ _ _ (Nat.ne_of_lt hi)] at ho
  exact (step_alloc w g _).shape i o' ob' hi ho h
 own b h := by
  obtain ⟨i, o', h1, h2⟩ := h
  simp only [Gh.more, upd] at h1 h2
  by_cases hi : i = g.n
  ·rw [if_pos hi] at h2; exact .inr (by omega)
  ·rw [if_neg hi] at h1 h2; exact .inl ⟨i, o', h1, h2⟩
 n := by simp [Gh.more]
 mu i hi := by simp [Gh.more, upd, Nat.ne_of_lt hi]
 live i o' hi h := by
  rw [Gh.more_H, upd_ne _ _ _ (Nat.ne_of_lt hi)] at h
  exact ⟨o', h, rfl, rfl⟩
 dr := rfl
 drawn _ := Nat.le_refl _
theorem step_more (hI : Inv w g) (o : AObj) (arr : Array Value) : Step w g (w.alloc (.cells arr o.E)) (g.more w.heap.size o) := step_moreO hI o _
theorem inv_moreO (hI : Inv w g) (o : AObj) (ob : Obj) (h : Lies w g o ob) : Inv (w.alloc ob) (g.more w.heap.size o) := by
 have hS := step_moreO hI o ob
 refine hI.step hS (fun i o' ho => ?_) (fun i j o1 o2 h1 h2 h3 => ?_) (fun i o' ho => ?_)
 ·simp only [Gh.more, upd] at ho ⊢
  by_cases hi : i = g.n
  ·simp [hi]
  ·rw [if_neg hi] at ho ⊢
   have := hI.lt i o' ho
   simp
   omega
 ·simp only [Gh.more, upd] at h1 h2 h3
  by_cases hi : i = g.n <;> by_cases hj : j = g.n <;> simp only [hi, hj, if_true, if_false] at h1 h2 h3
  ·omega
  ·have := (hI.lt j o2 h2).2; omega
  ·have := (hI.lt i o1 h1).2; omega
  ·exact hI.inj i j o1 o2 h1 h2 h3
 ·by_cases hi : i = g.n
  ·subst hi
   rw [Gh.more_H, upd_same] at ho
   cases ho
   exact .inr ⟨ob, by show (w.alloc ob).heap[upd g.μ g.n w.heap.size g.n]? = _; rw [upd_same, heap_alloc_new'], h.mono hS⟩
  ·rw [Gh.more_H, upd_ne _ _ _ hi] at ho
   exact .inl ⟨ho, Below.heap_alloc _ _ _ (hI.lt i o' ho).2⟩
theorem inv_more (hI : Inv w g) (o : AObj) (arr : Array Value) (h : ObjIn w g arr o) : Inv (w.alloc (.cells arr o.E)) (g.more w.heap.size o) := inv_moreO hI o _ ⟨rfl, rfl, h⟩
theorem more_lt (g : Gh) (b : Nat) (o : AObj) : g.n < (g.more b o).n := by simp [Gh.more]
def Gh.less (g : Gh) (H : Nat → Option AObj) : Gh := { g with H := H }
def Sub (H' H : Nat → Option AObj) : Prop := ∀ i o, H' i = some o → H i = some o
theorem Sub.refl (H : Nat → Option AObj) : Sub H H := fun _ _ h => h
theorem Sub.trans {A B C : Nat → Option AObj} (h : Sub A B) (k : Sub B C) : Sub A C := fun i o hi => k i o (h i o hi)
theorem step_less (w : World) (g : Gh) {H : Nat → Option AObj} (h : Sub H g.H) : Step w g w (g.less H) :=
 ⟨rfl, rfl, rfl, Nat.le_refl _, fun _ _ _ => rfl, fun _ _ ob _ _ h => ⟨ob, h, Like.refl _ _⟩, fun b ⟨i, o, h1, h2⟩ => .inl ⟨i, o, h i o h1, h2⟩, Nat.le_refl _, fun _ _ => rfl, fun i o' _ hi => ⟨o', h i o' hi, rfl, rfl⟩, rfl, fun _ => Nat.le_refl _⟩
theorem inv_less (hI : Inv w g) {H : Nat → Option AObj} (h : Sub H g.H) : Inv w (g.less H) :=
 hI.step (step_less w g h) (fun i o ho => hI.lt i o (h i o ho)) (fun i j o o' h1 h2 => hI.inj i j o o' (h i o h1) (h j o' h2)) fun i o ho => .inl ⟨h i o ho, rfl⟩
theorem step_setO (hI : Inv w g) {i : Nat} {o : AObj} (hi : g.H i = some o) (rows : List (List AV)) (hdr : g.dr = true → w.drawn ≤ w'.drawn) (hos : w'.os = w.os) (htape : w'.tape = w.tape) (hout : w'.output = w.output) (hsize : w'.heap.size = w.heap.size)
  (hkeep : ∀ b, b ≠ g.μ i → w'.heap[b]? = w.heap[b]?) (hshape : ∀ (ob : Obj), w.heap[g.μ i]? = some ob → ∃ ob', w'.heap[g.μ i]? = some ob' ∧ Like o.E ob ob') :
  Step w g w' { g with H := upd g.H i (some { o with rows := rows }) } where
 os := hos
 tape := htape
 output := hout
 size := by omega
 keep b hb hn := hkeep b (fun e => hn ⟨i, o, hi, e.symm⟩)
 shape j o' ob hj ho h := by
  by_cases hji : j = i
  ·subst hji
   simp only [upd, if_true, Option.some.injEq] at ho
   subst ho
   exact hshape ob h
  ·have ho' : g.H j = some o' := by simpa [upd, hji] using ho
   have hb : g.μ j ≠ g.μ i := fun e => hji (hI.inj j i _ _ ho' hi e)
   exact ⟨ob, by rw [hkeep _ hb]; exact h, Like.refl _ _⟩
 own b h := by
  obtain ⟨j, o', h1, h2⟩ := h
  by_cases hj : j = i
  ·exact .inl ⟨i, o, hi, by rw [← hj]; exact h2⟩
  ·exact .inl ⟨j, o', by simpa [upd, hj] using h1, h2⟩
 n := Nat.le_refl _
 mu _ _ := rfl
 live j o' _ h := by
  by_cases hj : j = i
  ·subst hj
   simp only [upd, if_true, Option.some.injEq] at h
   subst h
   exact ⟨o, hi, rfl, rfl⟩
  ·exact ⟨o', by simpa [upd, hj] using h, rfl, rfl⟩
 dr := rfl
 drawn := hdr
theorem step_set (hI : Inv w g) {i : Nat} {o : AObj} (hi : g.H i = some o) (hc : IsCells w (g.μ i)) (rows : List (List AV)) (hdr : g.dr = true → w.drawn ≤ w'.drawn) (hos : w'.os = w.os) (htape : w'.tape = w.tape) (hout : w'.output = w.output) (hsize : w'.heap.size = w.heap.size)
  (hkeep : ∀ b, b ≠ g.μ i → w'.heap[b]? = w.heap[b]?) (hshape : ∀ (arr : Array Value) (E : TypeId), w.heap[g.μ i]? = some (Obj.cells arr E (0, 0)) → ∃ arr' : Array Value, w'.heap[g.μ i]? = some (Obj.cells arr' E (0, 0)) ∧ arr'.size = arr.size) :
  Step w g w' { g with H := upd g.H i (some { o with rows := rows }) } :=
 step_setO hI hi rows hdr hos htape hout hsize hkeep fun ob hob => by
  obtain ⟨arr, E, hc⟩ := hc
  rw [hc] at hob
  cases hob
  obtain ⟨arr', h1, h2⟩ := hshape arr E hc
  exact ⟨_, h1, fun _ => ⟨arr', rfl, h2⟩⟩
theorem inv_setO (hI : Inv w g) {i : Nat} {o : AObj} (hi : g.H i = some o) (rows : List (List AV)) (hS : Step w g w' { g with H := upd g.H i (some { o with rows := rows }) }) (hsize : w'.heap.size = w.heap.size)
  (hkeep : ∀ b, b ≠ g.μ i → w'.heap[b]? = w.heap[b]?) {ob : Obj} (harr : w'.heap[g.μ i]? = some ob) (hobj : Lies w' { g with H := upd g.H i (some { o with rows := rows }) } { o with rows := rows } ob) : Inv w' { g with H := upd g.H i (some { o with rows := rows }) } := by
 refine hI.step hS (fun j o' ho => ?_) (fun j k o1 o2 h1 h2 h3 => ?_) (fun j o' ho => ?_)
 ·by_cases hj : j = i
  ·subst hj; have := hI.lt j o hi; exact ⟨this.1, by simpa [hsize] using this.2⟩
  ·have := hI.lt j o' (by simpa [upd, hj] using ho)
   exact ⟨this.1, by simpa [hsize] using this.2⟩
 ·have h1' : ∃ o, g.H j = some o := by
   by_cases hj : j = i
   ·exact ⟨o, hj ▸ hi⟩
   ·exact ⟨o1, by simpa [upd, hj] using h1⟩
  have h2' : ∃ o, g.H k = some o := by
   by_cases hk : k = i
   ·exact ⟨o, hk ▸ hi⟩
   ·exact ⟨o2, by simpa [upd, hk] using h2⟩
  obtain ⟨_, h1'⟩ := h1'
  obtain ⟨_, h2'⟩ := h2'
  exact hI.inj j k _ _ h1' h2' h3
 ·by_cases hj : j = i
  ·subst hj
   simp only [upd, if_true, Option.some.injEq] at ho
   subst ho
   exact .inr ⟨ob, harr, hobj⟩
  ·have ho' : g.H j = some o' := by simpa [upd, hj] using ho
   exact .inl ⟨ho', hkeep _ (fun e => hj (hI.inj j i _ _ ho' hi e))⟩
theorem inv_set (hI : Inv w g) {i : Nat} {o : AObj} (hi : g.H i = some o) (rows : List (List AV)) (hS : Step w g w' { g with H := upd g.H i (some { o with rows := rows }) }) (hsize : w'.heap.size = w.heap.size)
  (hkeep : ∀ b, b ≠ g.μ i → w'.heap[b]? = w.heap[b]?) {arr : Array Value} (harr : w'.heap[g.μ i]? = some (.cells arr o.E (0, 0))) (hobj : ObjIn w g arr { o with rows := rows }) : Inv w' { g with H := upd g.H i (some { o with rows := rows }) } :=
 inv_setO hI hi rows hS hsize hkeep harr ⟨rfl, rfl, hobj.mono hS⟩
structure Rel (G : Nat → AV) (N : Nat) (st : St) (g : Gh) (a : Act) (w : World) : Prop where
 H : g.H = st.H
 n : g.n = st.n
 inv : Inv w g
 gl : Gl G g w
 fr : ∀ s, Rep w g (st.fr s) (a.tmps.getD s undef)
 sz : a.tmps.size = N
 df : a.defers = []
theorem Rel.put {G : Nat → AV} {N : Nat} {st : St} {a : Act} (h : Rel G N st g a w) (hS : Step w g w' g') (hI : Inv w' g') {d : Option Nat} (hd : ∀ k, d = some k → k < N) {x : AV} {v : Value} (hx : Rep w' g' x v) :
  Rel G N { fr := put st.fr d x, H := g'.H, n := g'.n } g' (a.put d v) w' where
 H := rfl
 n := rfl
 inv := hI
 gl := h.gl.mono hS
 fr s := by
  cases d with
  | none => exact (h.fr s).mono hS
  | some k =>
   have hk := hd k rfl
   rw [← h.sz] at hk
   by_cases hs : s = k
   ·subst hs
    simp only [Ab.put, upd, if_true, Act.put]
    have : (a.tmps.setIfInBounds s v).getD s undef = v := by simp [Array.getD_eq_getD_getElem?, hk]
    rw [this]
    exact hx
   ·simp only [Ab.put, upd, if_neg hs, Act.put]
    have : (a.tmps.setIfInBounds k v).getD s undef = a.tmps.getD s undef := by
     simp [Array.getD_eq_getD_getElem?, Array.getElem?_setIfInBounds_ne (Ne.symm hs)]
    rw [this]
    exact (h.fr s).mono hS
 sz := by cases d <;> simp [Act.put, h.sz]
 df := by cases d <;> simp [Act.put, h.df]
theorem Rel.drew {G : Nat → AV} {N : Nat} {st : St} {a : Act} (h : Rel G N st g a w) : Rel G N st g a w.drew :=
 ⟨h.H, h.n, inv_drew h.inv, h.gl.mono (step_drew w g), fun s => (h.fr s).mono (step_drew w g), h.sz, h.df⟩
theorem Rel.reset {G : Nat → AV} {N : Nat} {st : St} {a : Act} (h : Rel G N st g a w) {j : Nat} {x : AV} (hx : Rep w g x (a.tmps.getD j undef)) : Rel G N { st with fr := upd st.fr j x } g a w :=
 ⟨h.H, h.n, h.inv, h.gl, fun s => by
  by_cases hs : s = j
  ·subst hs; simpa [upd] using hx
  ·simpa [upd, hs] using h.fr s, h.sz, h.df⟩
end Go.Ab
/-! Operations resolved, and what they do. -/
namespace Go.Ab
open Go.RowKit
variable {P : Program} {w w' : World} {g g' : Gh} {G : Nat → AV} {N : Nat} {st : St} {a : Act}
def absOpd : Operand → Opd
 | .tmp t => .t t
 | .const v => .k (AV.ofVal v)
 | .global g => .g g
 | .func f => .k (.fn (.func f) [])
def aggOf (P : Program) (t : TypeId) : Option Bool := match P.underlying t with
 | some (.struct _) | some (.array _ _) => some true
 | some _ => some false
 | none => none
theorem rep_ofVal (w : World) (g : Gh) (v : Value) : Rep w g (AV.ofVal v) v := by
 unfold AV.ofVal
 split
 ·exact ⟨none, 0, rfl, by simp, by simp [maxLen], rfl, fun _ => ⟨rfl, rfl⟩, fun _ h => by cases h⟩
 ·rfl
theorem ev_rep (h : Rel G N st g a w) (x : Operand) : Rep w g (ev G st.fr (absOpd x)) (a.eval x) := by
 cases x with
 | tmp t => exact h.fr t
 | const v => exact rep_ofVal w g v
 | global k => exact h.gl k
 | func f => exact ⟨#[], rfl, rfl⟩
theorem run_isAgg (w : World) {t : TypeId} {b : Bool} (h : aggOf P t = some b) : (isAgg t).run P w = .ok b w := by
 unfold aggOf at h
 split at h <;> rename_i hu
 ·cases h; simp [isAgg, underlying, hu]
 ·cases h; simp [isAgg, underlying, hu]
 ·rename_i d h1 h2
  cases h
  have : P.underlying t = some d := by assumption
  simp only [isAgg, Sem.run_bind, run_underlying this, Result.andThen_ok]
  cases d <;> first | rfl | exact absurd rfl (h1 _) | exact absurd rfl (h2 _ _)
 ·cases h
theorem run_sizeOf' (w : World) {t : TypeId} {i : TypeInfo} (h : P.info? t = some i) : (sizeOf t).run P w = .ok i.size w := by
 simp [sizeOf, typeInfo, h]
theorem add_none (b o j : Nat) : (⟨b, o, none⟩ : Addr).add j = ⟨b, o + j, none⟩ := by unfold Addr.add; split <;> simp_all
theorem run_loadVar_agg (w : World) {t : TypeId} {i : TypeInfo} (hu : aggOf P t = some true) (hi : P.info? t = some i) (b o : Nat) (cs : List Value) (hl : cs.length = i.size)
  (h : ∀ j v, cs[j]? = some v → w.cell? ⟨b, o + j, none⟩ = some v) : (loadVar t ⟨b, o, none⟩).run P w = .ok (.agg cs.toArray) w := by
 have h1 := run_loadCells_list (P := P) w ⟨b, o, none⟩ cs (fun j v hj => by rw [add_none]; exact h j v hj)
 rw [hl] at h1
 simp [loadVar, run_isAgg w hu, run_sizeOf' w hi, h1]
theorem run_loadVar_one (w : World) {t : TypeId} (hu : aggOf P t = some false) (ad : Addr) (v : Value) (h : w.cell? ad = some v) : (loadVar t ad).run P w = .ok v w := by
 simp [loadVar, run_isAgg w hu, h]
def Yield (P : Program) (a : Act) (o : Oper) (w : World) (g : Gh) (x : AV) : Prop :=
 ∃ v w', (execOp a.eval o).run P w = .ok (.value v) w' ∧ Step w g w' g ∧ Inv w' g ∧ Rep w' g x v
theorem Yield.same {o : Oper} {x : AV} {v : Value} (hI : Inv w g) (h : (execOp a.eval o).run P w = .ok (.value v) w) (hx : Rep w g x v) : Yield P a o w g x :=
 ⟨v, w, h, Step.refl _ _, hI, hx⟩
theorem rep_rows {w : World} {g : Gh} {arr : Array Value} {o : AObj} (k : ObjIn w g arr o) {r : Nat} {row : List AV} (hr : o.rows[r]? = some row) (c n : Nat) (hn : c + n ≤ row.length) :
  ∃ cs : List Value, cs.length = n ∧ (∀ j v, cs[j]? = some v → arr[r * o.sz + c + j]? = some v) ∧ RepList w g ((row.drop c).take n) cs := by
 obtain ⟨hl, hk⟩ := k.2 r row hr
 induction n generalizing c with
 | zero => exact ⟨[], rfl, fun j v h => by simp at h, by simp; rfl⟩
 | succ n ih =>
  obtain ⟨cs, h1, h2, h3⟩ := ih (c + 1) (by omega)
  have hc : c < row.length := by omega
  obtain ⟨v, h4, h5⟩ := hk c row[c] (List.getElem?_eq_getElem hc)
  refine ⟨v :: cs, by simp [h1], fun j u hj => ?_, ?_⟩
  ·cases j with
   | zero => simp at hj; subst hj; simpa using h4
   | succ j =>
    have := h2 j u (by simpa using hj)
    rwa [show r * o.sz + (c + 1) + j = r * o.sz + c + (j + 1) from by omega] at this
  ·rw [List.drop_eq_getElem_cons hc, List.take_succ_cons]
   exact ⟨v, cs, rfl, h5, h3⟩
theorem rep_cells_list {w : World} {g : Gh} {b : Nat} : ∀ {cells : List AV} {o : Nat}, RepCells w g b o cells → ∃ cs : List Value, cs.length = cells.length ∧ (∀ j v, cs[j]? = some v → w.cell? ⟨b, o + j, none⟩ = some v) ∧ RepList w g cells cs
 | [], o, _ => ⟨[], rfl, fun j v h => by simp at h, rfl⟩
 | c :: cs, o, h => by
  obtain ⟨h1, ⟨v, h2, h3⟩, h4⟩ := h
  obtain ⟨vs, h5, h6, h7⟩ := rep_cells_list h4
  refine ⟨v :: vs, by simp [h5], fun j u hj => ?_, v, vs, rfl, h3, h7⟩
  cases j with
  | zero => simp at hj; subst hj; simpa using h2
  | succ j =>
   have := h6 j u (by simpa using hj)
   rwa [show o + 1 + j = o + (j + 1) from by omega] at this
theorem cell_of_heap {w : World} {b : Nat} {arr : Array Value} {E : TypeId} {f : Nat × Nat} (h : w.heap[b]? = some (.cells arr E f)) (o : Nat) : w.cell? ⟨b, o, none⟩ = arr[o]? := by
 simp [World.cell?, h]
theorem load_sound (hI : Inv w g) {t : TypeId} {i : TypeInfo} {ag : Bool} (hu : aggOf P t = some ag) (hi : P.info? t = some i) {p : AV} {pv : Value} (hp : Rep w g p pv) {x : AV}
  (h : aload g.H ag i.size p = some x) : ∃ v, (Instr.loadAt t pv).run P w = .ok v w ∧ Rep w g x v := by
 cases p with
 | pp cells =>
  obtain ⟨b, o, rfl, hc⟩ := hp
  simp only [aload] at h
  cases ag with
  | true =>
   simp only [if_true] at h
   split at h
   ·rename_i hn
    cases h
    obtain ⟨cs, h1, h2, h3⟩ := rep_cells_list (hc.take i.size)
    refine ⟨.agg cs.toArray, ?_, cs.toArray, rfl, by simpa using h3⟩
    simp only [Instr.loadAt, Instr.sureAddr, Sem.run_bind, Sem.run_pure, Result.andThen_ok]
    exact run_loadVar_agg w hu hi b o cs (by rw [h1]; simp; omega) h2
   ·cases h
  | false =>
   simp only [Bool.false_eq_true, if_false] at h
   obtain ⟨_, v, h1, h2⟩ := hc.get 0 x h
   refine ⟨v, ?_, h2⟩
   simp only [Instr.loadAt, Instr.sureAddr, Sem.run_bind, Sem.run_pure, Result.andThen_ok]
   exact run_loadVar_one w hu _ v (by simpa using h1)
 | op j r c =>
  obtain ⟨_, hlt, hp⟩ := hp
  simp only [aload] at h
  split at h
  ·rename_i o ho
   obtain ⟨hv, hcl⟩ := hp o ho
   subst hv
   obtain ⟨arr, ha, hob⟩ := hI.cells ho hcl
   split at h
   ·rename_i row hr
    cases ag with
    | true =>
     simp only [if_true] at h
     split at h
     ·rename_i hn
      cases h
      obtain ⟨cs, h1, h2, h3⟩ := rep_rows ⟨hob.1, hob.2⟩ hr c i.size hn
      refine ⟨.agg cs.toArray, ?_, cs.toArray, rfl, by simpa using h3⟩
      simp only [Instr.loadAt, Instr.sureAddr, Sem.run_bind, Sem.run_pure, Result.andThen_ok]
      exact run_loadVar_agg w hu hi _ _ cs h1 fun j v hj => by rw [cell_of_heap ha]; exact h2 j v hj
     ·cases h
    | false =>
     simp only [Bool.false_eq_true, if_false] at h
     obtain ⟨v, h1, h2⟩ := (hob.2 r row hr).2 c x h
     refine ⟨v, ?_, h2⟩
     simp only [Instr.loadAt, Instr.sureAddr, Sem.run_bind, Sem.run_pure, Result.andThen_ok]
     exact run_loadVar_one w hu _ v (by rw [cell_of_heap ha]; exact h1)
   ·cases h
  ·cases h
 | _ => simp [aload] at h
theorem fld_sound {s : TypeId} {f : Nat} {fs : Array Field} {fi : Field} {i : TypeInfo} (hu : P.underlying s = some (.struct fs)) (hf : fs[f]? = some fi) (hi : P.info? fi.type = some i) (hz : i.size ≠ 0)
  {p : AV} {pv : Value} (hp : Rep w g p pv) {x : AV} (h : afld fi.offset p = some x) : ∃ v, (Instr.fieldAt s pv f).run P w = .ok v w ∧ Rep w g x v := by
 cases p with
 | pp cells =>
  obtain ⟨b, o, rfl, hc⟩ := hp
  cases h
  refine ⟨.pointer (some ⟨b, o + fi.offset, none⟩), ?_, b, o + fi.offset, rfl, hc.drop _⟩
  simp [Instr.fieldAt, run_underlying hu, hf, Instr.sureAddr, fieldPlace, run_sizeOf' w hi, hz, add_none]
 | op j r c =>
  obtain ⟨⟨ad, rfl⟩, hlt, hp⟩ := hp
  cases h
  refine ⟨.pointer (some (ad.add fi.offset)), ?_, ⟨_, rfl⟩, hlt, fun o ho => ?_⟩
  ·simp [Instr.fieldAt, run_underlying hu, hf, Instr.sureAddr, fieldPlace, run_sizeOf' w hi, hz]
  ·obtain ⟨hv, hcl⟩ := hp o ho
   cases hv
   refine ⟨?_, hcl⟩
   rw [add_none, Nat.add_assoc]
 | _ => simp [afld] at h
theorem part_sound {t : TypeId} {i : TypeInfo} {ag : Bool} (hu : aggOf P t = some ag) (hi : P.info? t = some i) {off : Nat} {cells : List AV} {cs : Array Value} (hp : RepList w g cells cs.toList) {x : AV}
  (h : apart ag off i.size (.agg cells) = some x) : ∃ v, (part t cs off).run P w = .ok v w ∧ Rep w g x v := by
 simp only [apart] at h
 cases ag with
 | true =>
  simp only [if_true] at h
  split at h
  ·rename_i hn
   cases h
   refine ⟨.agg (cs.extract off (off + i.size)), by simp [part, run_isAgg w hu, run_sizeOf' w hi], _, rfl, ?_⟩
   have := (hp.drop off).take i.size
   simpa [Array.toList_extract, List.extract_eq_take_drop] using this
  ·cases h
 | false =>
  simp only [Bool.false_eq_true, if_false] at h
  obtain ⟨v, h1, h2⟩ := hp.get off x h
  refine ⟨v, ?_, h2⟩
  have h3 : cs[off]? = some v := by simpa using h1
  simp [part, run_isAgg w hu, h3]
theorem idx_sound {t e : TypeId} {i : TypeInfo} (hu : P.underlying t = some (.slice e)) (hi : P.info? e = some i) {p q : AV} {pv qv : Value} (hp : Rep w g p pv) (hq : Rep w g q qv) {x : AV}
  (he : EvenOf i.size p) (h : aidx g.H i.size p q = some x) : ∃ v, (Instr.indexAt t pv qv).run P w = .ok v w ∧ Rep w g x v := by
 unfold aidx at h
 split at h
 ·rename_i nz rows k n
  cases hq
  split at h
  ·rename_i h0
   split at h
   ·rename_i r hr
    cases h
    obtain ⟨ad, cap, rfl, h1, h2, h3, h4, h5⟩ := hp
    have hlt : n.toNat < rows.length := (List.getElem?_eq_some_iff.1 hr).1
    cases ad with
    | none => have := (h4 rfl).2; subst this; simp at hlt
    | some ad =>
     obtain ⟨h6, h7⟩ := h5 ad rfl
     obtain ⟨b, o, sp⟩ := ad
     cases h6
     refine ⟨.pointer (some ⟨b, o + n.toNat * i.size, none⟩), ?_, _, _, rfl, RepRows.get he h7 _ _ hr⟩
     have hlt' : n < (rows.length : Int) := by omega
     simp [Instr.indexAt, run_underlying hu, asIntOf, h0, hlt', run_sizeOf' w hi, add_none]
   ·cases h
  ·cases h
 ·rename_i j off len k n
  cases hq
  split at h
  ·rename_i h0
   split at h
   ·rename_i o ho
    split at h
    ·rename_i hs
     cases h
     obtain ⟨_, h1, h2⟩ := hp
     obtain ⟨cap, arr, rfl, h3, h4, h5, h6⟩ := h2 o ho
     refine ⟨.pointer (some ⟨g.μ j, off * o.sz + n.toNat * i.size, none⟩), ?_, ⟨_, rfl⟩, h1, fun o' ho' => ?_⟩
     ·simp [Instr.indexAt, run_underlying hu, asIntOf, h0, run_sizeOf' w hi, add_none]
     ·rw [ho] at ho'
      cases ho'
      refine ⟨?_, arr, o.E, h3⟩
      rw [← hs, Nat.add_mul, Nat.add_zero]
    ·cases h
   ·cases h
  ·cases h
 ·cases h
theorem idxA_sound {t e : TypeId} {len : Nat} {i : TypeInfo} (hu : P.underlying t = some (.array len e)) (hi : P.info? e = some i) {p q : AV} {pv qv : Value} (hp : Rep w g p pv) (hq : Rep w g q qv) {x : AV}
  (h : aidxA len i.size p q = some x) : ∃ v, (Instr.indexAt t pv qv).run P w = .ok v w ∧ Rep w g x v := by
 unfold aidxA at h
 split at h
 ·cases hq
  split at h
  ·rename_i h0
   cases h
   obtain ⟨b, o, rfl, hc⟩ := hp
   exact ⟨.pointer (some ⟨b, o + _, none⟩), by simp [Instr.indexAt, run_underlying hu, asIntOf, Instr.sureAddr, h0, run_sizeOf' w hi, add_none], _, _, rfl, hc.drop _⟩
  ·cases h
 ·cases hq
  split at h
  ·rename_i h0
   cases h
   obtain ⟨⟨ad, rfl⟩, hlt, hp⟩ := hp
   refine ⟨.pointer (some (ad.add _)), by simp [Instr.indexAt, run_underlying hu, asIntOf, Instr.sureAddr, h0, run_sizeOf' w hi]; rfl, ⟨_, rfl⟩, hlt, fun o ho => ?_⟩
   obtain ⟨hv, hcl⟩ := hp o ho
   cases hv
   refine ⟨?_, hcl⟩
   rw [add_none, Nat.add_assoc]
  ·cases h
 ·cases h
theorem chr_sound {t : TypeId} (hu : P.underlying t = some .string) {p q : AV} {pv qv : Value} (hp : Rep w g p pv) (hq : Rep w g q qv) {x : AV}
  (h : achr p q = some x) : ∃ v, (Instr.index t pv qv).run P w = .ok v w ∧ Rep w g x v := by
 unfold achr at h
 split at h
 ·rename_i s k n
  cases hp
  cases hq
  split at h
  ·rename_i h0
   cases h
   refine ⟨.int .u8 (byteAt s n.toNat), ?_, rfl⟩
   have hlt : n.toNat < s.size := by omega
   have hb : s[n.toNat]? = some s[n.toNat] := by simp [hlt]
   have hd : s.data[n.toNat]? = some s[n.toNat] := by
    have : n.toNat < s.data.size := hlt
    rw [Array.getElem?_eq_getElem this]; rfl
   simp [Instr.index, run_underlying hu, asIntOf, h0.1, hb, byteAt, hd]
  ·cases h
 ·cases h
/-! More operations. -/
theorem lit_ok {s : Sem Value} {v : Value} (h : s.run P w = .ok v w) : ∃ u, s.run P w = .ok u w ∧ Rep w g (.lit v) u := ⟨v, h, rfl⟩
theorem int_sound (t : TypeId) (op : BinOp) (xo yo : Operand) {k : IntKind} {m n : Int} (h1 : op ≠ .shl) (h2 : op ≠ .shr) {x : AV} (h : aint op k m n = some x) :
  ∃ v, (do eqGuard op t xo yo (.int k m) (.int k n); binOp op t (.int k m) (.int k n)).run P w = .ok v w ∧ Rep w g x v := by
 cases op <;> simp only [aint] at h
 case add => cases h; exact lit_ok (by simp [eqGuard, binOp, Op.intArith])
 case sub => cases h; exact lit_ok (by simp [eqGuard, binOp, Op.intArith])
 case mul => cases h; exact lit_ok (by simp [eqGuard, binOp, Op.intArith])
 case quo =>
  split at h
  ·cases h
  ·rename_i hn; cases h; exact lit_ok (by simp [eqGuard, binOp, Op.intDiv, hn])
 case rem =>
  split at h
  ·cases h
  ·rename_i hn; cases h; exact lit_ok (by simp [eqGuard, binOp, Op.intDiv, hn])
 case eql => cases h; exact lit_ok (by simp [eqGuard, binOp, Op.intCmp])
 case neq => cases h; exact lit_ok (by simp [eqGuard, binOp, Op.intCmp])
 case lss => cases h; exact lit_ok (by simp [eqGuard, binOp, Op.intCmp])
 case leq => cases h; exact lit_ok (by simp [eqGuard, binOp, Op.intCmp])
 case gtr => cases h; exact lit_ok (by simp [eqGuard, binOp, Op.intCmp])
 case geq => cases h; exact lit_ok (by simp [eqGuard, binOp, Op.intCmp])
 all_goals first | cases h | exact absurd rfl h1 | exact absurd rfl h2
theorem bin_sound (t : TypeId) (op : BinOp) (xo yo : Operand) {p q : AV} {pv qv : Value} (hp : Rep w g p pv) (hq : Rep w g q qv) {x : AV} (h : abin op p q = some x) :
  ∃ v, (do eqGuard op t xo yo pv qv; binOp op t pv qv).run P w = .ok v w ∧ Rep w g x v := by
 unfold abin at h
 split at h
 ·rename_i k m k' n
  cases hp
  cases hq
  cases op <;> simp only [] at h
  case shl =>
   split at h
   ·cases h
   ·rename_i h0; cases h; exact lit_ok (by simp [eqGuard, binOp, Op.shift, h0])
  case shr =>
   split at h
   ·cases h
   ·rename_i h0; cases h; exact lit_ok (by simp [eqGuard, binOp, Op.shift, h0])
  all_goals
   split at h
   ·rename_i hk
    subst hk
    exact int_sound t _ xo yo (by simp) (by simp) h
   ·cases h
 ·rename_i s u
  cases hp
  cases hq
  cases op <;> simp only [astr] at h
  case add =>
   split at h
   ·rename_i hn
    cases h
    refine lit_ok ?_
    have : ¬ (((s.size + u.size : Nat) : Int) > IntKind.i64.max) := by
     have : IntKind.i64.max = 9223372036854775807 := by decide
     rw [this]; omega
    simp only [eqGuard, binOp, Op.stringOp]
    rw [if_neg this]
    simp
   ·cases h
  case eql => cases h; exact lit_ok (by simp [eqGuard, binOp, Op.stringOp])
  case neq => cases h; exact lit_ok (by simp [eqGuard, binOp, Op.stringOp])
  case lss => cases h; exact lit_ok (by simp [eqGuard, binOp, Op.stringOp])
  case leq => cases h; exact lit_ok (by simp [eqGuard, binOp, Op.stringOp])
  case gtr => cases h; exact lit_ok (by simp [eqGuard, binOp, Op.stringOp])
  case geq => cases h; exact lit_ok (by simp [eqGuard, binOp, Op.stringOp])
  all_goals cases h
 ·cases h
theorem not_sound {p : AV} {pv : Value} (hp : Rep w g p pv) {x : AV} (h : anot p = some x) : ∃ v, (Op.unary .not pv).run P w = .ok v w ∧ Rep w g x v := by
 unfold anot at h
 split at h
 ·cases hp; cases h; exact lit_ok (by simp [Op.unary])
 ·cases h
theorem neg_sound {p : AV} {pv : Value} (hp : Rep w g p pv) {x : AV} (h : aneg p = some x) : ∃ v, (Op.unary .neg pv).run P w = .ok v w ∧ Rep w g x v := by
 unfold aneg at h
 split at h
 ·cases hp; cases h; exact lit_ok (by simp [Op.unary, Op.intArith])
 ·cases h
theorem cvt_sound {s t : TypeId} {d : TypeDesc} {k : IntKind} (hs : P.underlying s = some d) (ht : P.underlying t = some (.int k)) {p : AV} {pv : Value} (hp : Rep w g p pv) {x : AV} (h : acvt k p = some x) :
  ∃ v, (convert s t pv).run P w = .ok v w ∧ Rep w g x v := by
 unfold acvt at h
 split at h
 ·cases hp; cases h; exact lit_ok (by simp [convert, run_underlying hs, run_underlying ht, Conv.intToInt])
 ·cases h
theorem same_sound {s t : TypeId} {d : TypeDesc} (hs : P.underlying s = some d) (ht : P.underlying t = some .string) {p : AV} {pv : Value} (hp : Rep w g p pv) {x : AV} (h : asame p = some x) :
  ∃ v, (convert s t pv).run P w = .ok v w ∧ Rep w g x v := by
 unfold asame at h
 split at h
 ·cases hp; cases h; exact lit_ok (by simp [convert, run_underlying hs, run_underlying ht])
 ·cases hp; cases h; exact lit_ok (by simp [convert, run_underlying hs, run_underlying ht, Conv.intToString])
 ·cases h
theorem ext_sound {i : Nat} {p : AV} {pv : Value} (hp : Rep w g p pv) {x : AV} (h : aext i p = some x) : ∃ v, (Instr.extract pv i).run P w = .ok v w ∧ Rep w g x v := by
 unfold aext at h
 split at h
 ·obtain ⟨vs, rfl, hl⟩ := hp
  obtain ⟨v, h1, h2⟩ := hl.get i x h
  have h3 : vs[i]? = some v := by simpa using h1
  exact ⟨v, by simp [Instr.extract, h3], h2⟩
 ·cases h
theorem len_sound {t ty e : TypeId} (ht : P.underlying t = some (.slice e)) {p : AV} {pv : Value} (hp : Rep w g p pv) {x : AV} (h : alen p = some x) : ∃ v, (Builtin.len_ #[t] ty #[pv]).run P w = .ok v w ∧ Rep w g x v := by
 unfold alen at h
 split at h
 ·obtain ⟨a, cap, rfl, _⟩ := hp
  cases h; exact lit_ok (by simp [Builtin.len_, run_underlying ht, goInt])
 ·obtain ⟨⟨a, c, rfl⟩, _⟩ := hp
  cases h; exact lit_ok (by simp [Builtin.len_, run_underlying ht, goInt])
 ·cases h
theorem cap_sound {t ty e : TypeId} (ht : P.underlying t = some (.slice e)) {p : AV} {pv : Value} (hp : Rep w g p pv) {x : AV} (h : acap p = some x) : ∃ v, (Builtin.cap_ #[t] ty #[pv]).run P w = .ok v w ∧ Rep w g x v := by
 unfold acap at h
 split at h
 ·obtain ⟨a, cap, rfl, _, _, h3, h4, _⟩ := hp
  have ha : a = none := by cases a <;> simp_all
  obtain ⟨rfl, _⟩ := h4 ha
  cases h; exact lit_ok (by simp [Builtin.cap_, run_underlying ht, goInt])
 ·cases h
theorem lenS_sound {t ty : TypeId} (ht : P.underlying t = some .string) {p : AV} {pv : Value} (hp : Rep w g p pv) {x : AV} (h : alenS p = some x) : ∃ v, (Builtin.len_ #[t] ty #[pv]).run P w = .ok v w ∧ Rep w g x v := by
 unfold alenS at h
 split at h
 ·cases hp
  cases h; exact lit_ok (by simp [Builtin.len_, run_underlying ht, goInt])
 ·cases h
/-! '==' on structs, on booleans, with nil. -/
def flatFs (P : Program) (rec : TypeId → Option (List SK)) : List Field → Nat → Option (List SK)
 | [], _ => some []
 | f :: fs, off =>
  if f.name == "_" then none else if f.offset = off then match rec f.type, P.info? f.type with
   | some ks, some i => if i.size = ks.length ∧ 0 < i.size then (flatFs P rec fs (off + ks.length)).map (ks ++ ·) else none
   | _, _ => none
  else none
def flatK (P : Program) : Nat → TypeId → Option (List SK)
 | 0, _ => none
 | d + 1, t => match P.underlying t with
  | some .bool => some [.b]
  | some (.int _) => some [.i]
  | some .string => some [.s]
  | some (.struct fs) => if P.stoodInHeld t then none else flatFs P (flatK P d) fs.toList 0
  | _ => none
theorem eqAnd_some {x y : Option Bool} {r : Bool} (h : eqAnd x y = some r) : ∃ a b, x = some a ∧ y = some b ∧ r = (a && b) := by
 cases x <;> cases y <;> simp [eqAnd] at h ⊢
 exact h.symm
theorem eqCells_len : ∀ {ks : List SK} {xs ys : List AV} {r : Bool}, eqCells ks xs ys = some r → xs.length = ks.length ∧ ys.length = ks.length
 | [], [], [], _, _ => ⟨rfl, rfl⟩
 | [], _ :: _, _, _, h => by simp [eqCells] at h
 | [], [], _ :: _, _, h => by simp [eqCells] at h
 | _ :: _, [], _, _, h => by simp [eqCells] at h
 | _ :: _, _ :: _, [], _, h => by simp [eqCells] at h
 | k :: ks, x :: xs, y :: ys, r, h => by
  obtain ⟨a, b, h1, h2, h3⟩ := eqAnd_some h
  have := eqCells_len h2
  simp [this.1, this.2]
theorem eqCells_append : ∀ {k1 ks : List SK} {xs ys : List AV} {r : Bool}, eqCells (k1 ++ ks) xs ys = some r →
  ∃ r1 r2, eqCells k1 (xs.take k1.length) (ys.take k1.length) = some r1 ∧ eqCells ks (xs.drop k1.length) (ys.drop k1.length) = some r2 ∧ r = (r1 && r2)
 | [], ks, xs, ys, r, h => ⟨true, r, by simp [eqCells], by simpa using h, by simp⟩
 | k :: k1, ks, [], _, r, h => by simp [eqCells] at h
 | k :: k1, ks, _ :: _, [], r, h => by simp [eqCells] at h
 | k :: k1, ks, x :: xs, y :: ys, r, h => by
  obtain ⟨a, b, h1, h2, h3⟩ := eqAnd_some h
  obtain ⟨r1, r2, h4, h5, h6⟩ := eqCells_append h2
  refine ⟨a && r1, r2, ?_, by simpa using h5, by rw [h3, h6, Bool.and_assoc]⟩
  simp only [List.length_cons, List.take_succ_cons, eqCells, h1, h4, eqAnd]
def valOf (ag : Bool) (vs : List Value) : Value := if ag then .agg vs.toArray else vs.headD undef
theorem part_run {t : TypeId} {i : TypeInfo} {ag : Bool} (hu : aggOf P t = some ag) (hi : P.info? t = some i) (hs : ag = false → i.size = 1) (off : Nat) (cs : Array Value) (hl : off + i.size ≤ cs.size) :
  (part t cs off).run P w = .ok (valOf ag ((cs.toList.drop off).take i.size)) w := by
 cases ag with
 | true =>
  simp only [part, Sem.run_bind, run_isAgg w hu, Result.andThen_ok, if_true, run_sizeOf' w hi, Sem.run_pure, valOf]
  congr 2
  apply Array.ext'
  simp [Array.toList_extract, List.extract_eq_take_drop]
 | false =>
  have h1 := hs rfl
  have h2 : cs[off]? = some cs[off] := Array.getElem?_eq_getElem (by omega)
  simp only [part, Sem.run_bind, run_isAgg w hu, Result.andThen_ok, Bool.false_eq_true, if_false, h2, Sem.run_pure, valOf, h1]
  congr 1
  rw [List.drop_eq_getElem_cons (by simp; omega)]
  simp
def EqAs (P : Program) (w : World) (g : Gh) (d : Nat) (t : TypeId) (ks : List SK) : Prop :=
 ∃ ag, aggOf P t = some ag ∧ (ag = false → ks.length = 1) ∧ ∀ d', d ≤ d' → ∀ (ax ay : List AV) (xs ys : List Value) (r : Bool),
  RepList w g ax xs → RepList w g ay ys → eqCells ks ax ay = some r → (Op.equalIn d' t (valOf ag xs) (valOf ag ys)).run P w = .ok r w
theorem eqAs_one {t : TypeId} {d : Nat} {k : SK} (hu : aggOf P t = some false) (h : ∀ (d' : Nat) (x y : AV) (r : Bool) (v u : Value), Rep w g x v → Rep w g y u → eqOne k x y = some r → (Op.equalIn (d' + 1) t v u).run P w = .ok r w) : EqAs P w g (d + 1) t [k] := by
 refine ⟨false, hu, fun _ => rfl, fun d' hd ax ay xs ys r hx hy he => ?_⟩
 obtain ⟨d', rfl⟩ : ∃ e, d' = e + 1 := ⟨d' - 1, by omega⟩
 have hl := eqCells_len he
 match ax, ay, hl with
 | [x], [y], _ =>
  obtain ⟨v, _, rfl, hv, rfl⟩ := hx
  obtain ⟨u, _, rfl, hu2, rfl⟩ := hy
  obtain ⟨a, b, h1, h2, h3⟩ := eqAnd_some he
  simp [eqCells] at h2
  subst h2
  rw [Bool.and_true] at h3
  subst h3
  exact h d' x y r v u hv hu2 h1
theorem eqFields_sound {d : Nat} {rec : TypeId → Option (List SK)} (hrec : ∀ t ks, rec t = some ks → EqAs P w g d t ks) {d' : Nat} (hd : d ≤ d') {ax ay : List AV} {xs ys : Array Value} (hx : RepList w g ax xs.toList) (hy : RepList w g ay ys.toList) :
  ∀ (fs : List Field) (off : Nat) (ks : List SK) (r : Bool), flatFs P rec fs off = some ks → eqCells ks (ax.drop off) (ay.drop off) = some r → (Op.eqFields d' xs ys fs).run P w = .ok r w
 | [], off, ks, r, h, he => by
  simp only [flatFs, Option.some.injEq] at h
  subst h
  have hl := eqCells_len he
  simp only [List.length_nil, List.length_eq_zero_iff] at hl
  rw [hl.1, hl.2] at he
  simp only [eqCells, Option.some.injEq] at he
  subst he
  simp [Op.eqFields]
 | f :: fs, off, ks, r, h, he => by
  simp only [flatFs] at h
  split at h
  ·cases h
  ·rename_i hname
   split at h
   ·rename_i hoff
    split at h
    ·rename_i k1 i h1 h2
     split at h
     ·rename_i hsz
      obtain ⟨k2, h3, h4⟩ := Option.map_eq_some_iff.1 h
      subst h4
      obtain ⟨r1, r2, h5, h6, h7⟩ := eqCells_append he
      obtain ⟨ag, h8, h9, h10⟩ := hrec _ _ h1
      have hlx := hx.length
      have hly := hy.length
      have hl5 := eqCells_len h5
      simp only [List.length_take, List.length_drop] at hl5
      have hbx : off + i.size ≤ xs.size := by simp at hlx; omega
      have hby : off + i.size ≤ ys.size := by simp at hly; omega
      have hsg : ag = false → i.size = 1 := fun e => by rw [hsz.1]; exact h9 e
      have p1 := part_run (P := P) (w := w) h8 h2 hsg off xs hbx
      have p2 := part_run (P := P) (w := w) h8 h2 hsg off ys hby
      rw [hsz.1] at p1 p2
      have p3 := h10 d' hd _ _ _ _ r1 ((hx.drop off).take k1.length) ((hy.drop off).take k1.length) h5
      have ih := eqFields_sound hrec hd hx hy fs (off + k1.length) k2 r2 h3 (by rw [List.drop_drop, List.drop_drop] at h6; exact h6)
      have hn : f.name ≠ "_" := by simpa using hname
      simp only [Op.eqFields, hn, ne_eq, not_false_eq_true, if_true, Sem.run_bind, hoff, p1, p2, Result.andThen_ok, p3]
      subst h7
      cases r1 <;> simp [ih]
     ·cases h
    ·cases h
   ·cases h
theorem eqK_sound : ∀ (d : Nat) (t : TypeId) (ks : List SK), flatK P d t = some ks → EqAs P w g d t ks
 | 0, t, ks, h => by simp [flatK] at h
 | d + 1, t, ks, h => by
  simp only [flatK] at h
  split at h
  ·rename_i hu
   cases h
   refine eqAs_one (by simp [aggOf, hu]) fun d' x y r v u hv hu2 h1 => ?_
   unfold eqOne at h1
   split at h1 <;> simp_all
   cases hv; cases hu2
   simp [Op.equalIn, run_underlying hu, h1]
  ·rename_i k hu
   cases h
   refine eqAs_one (by simp [aggOf, hu]) fun d' x y r v u hv hu2 h1 => ?_
   unfold eqOne at h1
   split at h1 <;> simp_all
   cases hv; cases hu2
   simp [Op.equalIn, run_underlying hu, h1]
  ·rename_i hu
   cases h
   refine eqAs_one (by simp [aggOf, hu]) fun d' x y r v u hv hu2 h1 => ?_
   unfold eqOne at h1
   split at h1 <;> simp_all
   cases hv; cases hu2
   simp [Op.equalIn, run_underlying hu, h1]
  ·rename_i fs hu
   split at h
   ·cases h
   ·rename_i hst
    refine ⟨true, by simp [aggOf, hu], fun h => (by cases h), fun d' hd ax ay xs ys r hx hy he => ?_⟩
    obtain ⟨d', rfl⟩ : ∃ e, d' = e + 1 := ⟨d' - 1, by omega⟩
    have hf : P.fieldsOf t = fs := by simp [Program.fieldsOf, hu]
    simp only [valOf, if_true]
    rw [run_equalIn_struct w d' t _ _ (by rw [hf]; exact hu) (by simpa using hst), hf]
    exact eqFields_sound (fun t ks h => eqK_sound d t ks h) (by omega) (by simpa using hx) (by simpa using hy) _ 0 ks r h (by simpa using he)
  ·cases h
def EqOk (P : Program) (t : TypeId) : EqK → Prop
 | .bool => P.underlying t = some .bool
 | .slice => ∃ e, P.underlying t = some (.slice e)
 | .ptr => ∃ e, P.underlying t = some (.pointer e)
 | .cells ks => flatK P 50 t = some ks ∧ aggOf P t = some true ∧ P.eqGuardType P.depth t = false
theorem equal_succ : ∃ d, 50 ≤ d ∧ ∀ t x y, Op.equal t x y = Op.equalIn (d + 1) t x y := ⟨9999, by omega, fun t x y => by unfold Op.equal; rw [show Op.maxDepth = 9999 + 1 from rfl]⟩
theorem eq_sound (t : TypeId) (op : BinOp) (neg : Bool) (hop : op = if neg then .neq else .eql) (xo yo : Operand) {k : EqK}
  (hk : EqOk P t k)
  {p q : AV} {pv qv : Value} (hp : Rep w g p pv) (hq : Rep w g q qv) {b : Bool} (h : aeq k p q = some b) :
  (do eqGuard op t xo yo pv qv; binOp op t pv qv).run P w = .ok (.bool (nego neg b)) w := by
 have key : (Op.equal t pv qv).run P w = .ok b w ∧ ((∀ xs ys, pv = .agg xs → qv = .agg ys → P.eqGuardType P.depth t = false) ∧ (pv ≠ .nilIface) ∧ (∀ k n, pv ≠ .int k n) ∧ (∀ k n, pv ≠ .float k n) ∧ (∀ k n m, pv ≠ .complex k n m) ∧ (∀ s, pv ≠ .string s)) := by
  obtain ⟨d, hd, hequal⟩ := equal_succ
  rw [hequal]
  unfold aeq at h
  split at h
  ·cases hp; cases hq; cases h
   have hk : P.underlying t = some .bool := hk
   exact ⟨by simp [Op.equalIn, run_underlying hk], by simp⟩
  ·obtain ⟨e, hk⟩ := hk
   obtain ⟨a1, c1, rfl, _, _, h3, _⟩ := hp
   obtain ⟨a2, c2, rfl, _, _, h4, _⟩ := hq
   cases h
   cases a2 <;> simp at h4
   cases a1 <;> simp at h3 <;> subst h3
   ·exact ⟨by simp [Op.equalIn, run_underlying hk], by simp⟩
   ·exact ⟨by simp [Op.equalIn, run_underlying hk], by simp⟩
  ·obtain ⟨e, hk⟩ := hk
   obtain ⟨⟨a1, c1, rfl⟩, _⟩ := hp
   obtain ⟨a2, c2, rfl, _, _, h4, _⟩ := hq
   cases h
   cases a2 <;> simp at h4
   exact ⟨by simp [Op.equalIn, run_underlying hk], by simp⟩
  ·obtain ⟨hk1, hk2, hk3⟩ := hk
   obtain ⟨xs, rfl, hx⟩ := hp
   obtain ⟨ys, rfl, hy⟩ := hq
   obtain ⟨ag, h1, _, h2⟩ := eqK_sound (w := w) (g := g) 50 t _ hk1
   rw [hk2] at h1
   cases h1
   have := h2 (d + 1) (by omega) _ _ _ _ b hx hy h
   exact ⟨by simpa [valOf] using this, by simp [hk3]⟩
  ·obtain ⟨e, hk⟩ := hk
   obtain ⟨b1, o1, rfl, _⟩ := hp
   cases hq; cases h
   exact ⟨by simp [Op.equalIn, run_underlying hk], by simp⟩
  ·obtain ⟨e, hk⟩ := hk
   obtain ⟨⟨ad, rfl⟩, _⟩ := hp
   cases hq; cases h
   exact ⟨by simp [Op.equalIn, run_underlying hk], by simp⟩
  ·obtain ⟨e, hk⟩ := hk
   cases hp; cases hq; cases h
   exact ⟨by simp [Op.equalIn, run_underlying hk], by simp⟩
  ·cases h
 obtain ⟨k1, k2, k3, k4, k5, k6, k7⟩ := key
 have hg : (eqGuard op t xo yo pv qv).run P w = .ok () w := by
  subst hop
  unfold eqGuard
  cases neg <;> (cases pv <;> cases qv <;> simp_all)
 have hb : (binOp op t pv qv).run P w = .ok (.bool (nego neg b)) w := by
  subst hop
  cases neg
  ·cases pv <;> simp_all [binOp, nego]
  ·cases pv <;> simp_all [binOp, nego]
 simp [hg, hb]
/-! Slice expressions, literals, boxes. -/
def RepO (w : World) (g : Gh) : Option AV → Option Value → Prop
 | none, none => True
 | some x, some v => Rep w g x v
 | _, _ => False
theorem bound_sound {y d : Nat} {x : Option AV} {v : Option Value} (hx : RepO w g x v) {n : Nat} (h : abound y d x = some n) (c : BoundsCode) (hd : d ≤ y) :
  (match v with | some v => Instr.sliceBound v y c | none => pure d).run P w = .ok n w ∧ n ≤ y := by
 unfold abound at h
 split at h
 ·cases v with
  | none => cases h; exact ⟨rfl, hd⟩
  | some v => exact hx.elim
 ·split at h
  ·rename_i h0
   cases v with
   | none => exact hx.elim
   | some v =>
    cases hx
    cases h
    exact ⟨by simp [Instr.sliceBound, asIntOf, h0], by omega⟩
  ·cases h
 ·cases h
theorem bound_le {y z d : Nat} {x : Option AV} {n : Nat} (h : abound y d x = some n) (hyz : y ≤ z) : abound z d x = some n := by
 unfold abound at h ⊢
 split at h
 ·exact h
 ·split at h
  ·rename_i h0
   cases h
   rw [if_pos (by omega)]
  ·cases h
 ·cases h
theorem slS_sound {t : TypeId} (hu : P.underlying t = some .string) {p : AV} {pv : Value} (hp : Rep w g p pv) {lo hi : Option AV} {lov hiv : Option Value} (hlo : RepO w g lo lov) (hhi : RepO w g hi hiv) {x : AV}
  (h : aslS p lo hi = some x) : ∃ v, (Instr.sliceAt t pv lov hiv none).run P w = .ok v w ∧ Rep w g x v := by
 unfold aslS at h
 split at h
 ·rename_i s
  cases hp
  split at h
  ·rename_i hh e1
   split at h
   ·rename_i ll e2
    cases h
    have h1 := bound_sound (P := P) hhi e1 .sliceAlen (Nat.le_refl _)
    have h2 := bound_sound (P := P) hlo e2 .sliceB (Nat.zero_le _)
    refine lit_ok ?_
    simp only [Instr.sliceAt, Sem.run_bind, run_underlying hu, Result.andThen_ok, Instr.slice, Option.isSome_none, Bool.false_eq_true, if_false, Instr.sliceBounds, Sem.run_pure]
    cases hiv <;> cases lov <;> simp_all
   ·cases h
  ·cases h
 ·cases h
theorem sl_sound (hI : Inv w g) {t e : TypeId} {i : TypeInfo} (hu : P.underlying t = some (.slice e)) (hi : P.info? e = some i) {p : AV} {pv : Value} (hp : Rep w g p pv) {lo hi : Option AV} {lov hiv : Option Value} (hlo : RepO w g lo lov) (hhi : RepO w g hi hiv) {x : AV}
  (he : CutOk g.H i.size p) (h : asl p lo hi = some x) : ∃ v, (Instr.sliceAt t pv lov hiv none).run P w = .ok v w ∧ Rep w g x v := by
 have key : ∀ (a : Option Addr) (len cap hh ll : Nat), abound len len hi = some hh → abound hh 0 lo = some ll → len ≤ cap → hh ≤ len ∧ ll ≤ hh ∧
   (Instr.sliceAt t (.slice a len cap) lov hiv none).run P w = .ok (.slice (if cap = ll then a else a.map (·.add (ll * i.size))) (hh - ll) (cap - ll)) w := by
  intro a len cap hh ll e1 e2 hle
  have h0 := bound_sound (P := P) hhi e1 .sliceAcap (Nat.le_refl _)
  have h2 := bound_sound (P := P) hlo e2 .sliceB (Nat.zero_le _)
  refine ⟨h0.2, h2.2, ?_⟩
  have h1 := fun (v : Value) (hv : hiv = some v) => (bound_sound (P := P) (w := w) (g := g) (x := hi) (v := hiv) (y := cap) (d := len) hhi (bound_le e1 hle) .sliceAcap hle).1
  simp only [Instr.sliceAt, Sem.run_bind, run_underlying hu, Result.andThen_ok, Instr.slice, Instr.sliceBounds, Sem.run_pure, Option.isSome_none, if_true]
  cases hiv with
  | none =>
   cases lov with
   | none => simp_all [run_sizeOf' w ‹P.info? e = some i›]
   | some v => simp_all [run_sizeOf' w ‹P.info? e = some i›]
  | some u =>
   have h1 := h1 u rfl
   cases lov with
   | none => simp_all [run_sizeOf' w ‹P.info? e = some i›]
   | some v => simp_all [run_sizeOf' w ‹P.info? e = some i›]
 unfold asl at h
 split at h
 ·rename_i nz rows
  split at h
  ·rename_i hh e1
   split at h
   ·rename_i ll e2
    cases h
    obtain ⟨a, cap, rfl, h1, h2, h3, h4, h5⟩ := hp
    obtain ⟨k1, k2, k3⟩ := key a rows.length cap hh ll e1 e2 h1
    refine ⟨_, k3, (if cap = ll then a else a.map (·.add (ll * i.size))), cap - ll, ?_, ?_, ?_, ?_, ?_, ?_⟩
    ·simp; omega
    ·simp; omega
    ·omega
    ·rw [h3]; split <;> simp
    ·intro hn
     have ha : a = none := by
      cases a with
      | none => rfl
      | some ad => split at hn <;> simp at hn
     obtain ⟨h6, h7⟩ := h4 ha
     subst h7
     simp; omega
    ·intro ad had
     cases a with
     | none => split at had <;> simp at had
     | some ad0 =>
      obtain ⟨h6, h7⟩ := h5 ad0 rfl
      obtain ⟨b, o, sp⟩ := ad0
      cases h6
      split at had
      ·cases had
       refine ⟨rfl, ?_⟩
       rw [List.drop_eq_nil_of_le (by simp; omega)]
       trivial
      ·cases had
       simp only [add_none]
       exact ⟨trivial, RepRows.drop ll (fun r hr => he r (List.mem_of_mem_take hr)) (RepRows.take hh h7) (by simp; omega)⟩
   ·cases h
  ·cases h
 ·rename_i j off len
  split at h
  ·rename_i hh e1
   split at h
   ·rename_i ll e2
    obtain ⟨o, ho, hs⟩ := he
    obtain ⟨_, h1, h2⟩ := hp
    obtain ⟨cap, arr, rfl, h3, h4, h5, h6⟩ := h2 o ho
    obtain ⟨k1, k2, k3⟩ := key _ len cap hh ll e1 e2 h5
    split at h
    ·rename_i hz
     subst hz
     cases h
     refine ⟨_, k3, (by split <;> exact ⟨_, _, rfl⟩), h1, fun o' ho' => ?_⟩
     rw [ho] at ho'
     cases ho'
     refine ⟨cap, arr, ?_, h3, h4, by omega, h6⟩
     simp [add_none]
    ·split at h
     ·rename_i hz hlt
      cases h
      refine ⟨_, k3, (by split <;> exact ⟨_, _, rfl⟩), h1, fun o' ho' => ?_⟩
      rw [ho] at ho'
      cases ho'
      refine ⟨cap - ll, arr, ?_, h3, by rw [h4]; congr 1; omega, by omega, by omega⟩
      rw [if_neg (by omega)]
      simp only [Option.map_some, add_none, hs, Nat.add_mul]
     ·rename_i hz hlt
      cases h
      have e0 : hh - ll = 0 := by omega
      rw [e0] at k3
      refine ⟨_, k3, _, cap - ll, by simp; rfl, by simp, by omega, ?_, fun hn => ?_, fun ad had => ⟨?_, trivial⟩⟩
      ·split <;> simp
      ·split at hn <;> simp at hn
      ·split at had <;> cases had <;> first | rfl | simp only [add_none]
   ·cases h
  ·cases h
 ·cases h
theorem cells_sound {x : AV} {cs : List AV} {v : Value} (h : Rep w g x v) (hc : x.cells? = some cs) : RepList w g cs v.cells.toList := by
 cases x with
 | any => simp [AV.cells?] at hc
 | lit y => simp only [Rep] at h; subst h; cases v <;> simp [AV.cells?] at hc <;> subst hc <;> exact ⟨_, [], rfl, rfl, rfl⟩
 | ls nz rows => cases hc; obtain ⟨a, cap, rfl, h2⟩ := h; exact ⟨_, [], rfl, ⟨a, cap, rfl, h2⟩, rfl⟩
 | pp cells => cases hc; obtain ⟨b, o, rfl, h2⟩ := h; exact ⟨_, [], rfl, ⟨b, o, rfl, h2⟩, rfl⟩
 | agg cells => cases hc; obtain ⟨vs, rfl, h2⟩ := h; exact h2
 | tup cells => simp [AV.cells?] at hc
 | fn f caps => cases hc; obtain ⟨vs, rfl, h2⟩ := h; exact ⟨_, [], rfl, ⟨vs, rfl, h2⟩, rfl⟩
 | os i off len => cases hc; obtain ⟨⟨a, c, rfl⟩, h2⟩ := h; exact ⟨_, [], rfl, ⟨⟨a, c, rfl⟩, h2⟩, rfl⟩
 | op i row col => cases hc; obtain ⟨⟨a, rfl⟩, h2⟩ := h; exact ⟨_, [], rfl, ⟨⟨a, rfl⟩, h2⟩, rfl⟩
 | om i => cases hc; obtain ⟨⟨a, rfl⟩, h2⟩ := h; exact ⟨_, [], rfl, ⟨⟨a, rfl⟩, h2⟩, rfl⟩
 | oit i => cases hc; obtain ⟨⟨a, rfl⟩, h2⟩ := h; exact ⟨_, [], rfl, ⟨⟨a, rfl⟩, h2⟩, rfl⟩
 | ms i k => cases hc; obtain ⟨⟨a, rfl⟩, h2⟩ := h; exact ⟨_, [], rfl, ⟨⟨a, rfl⟩, h2⟩, rfl⟩
/-! 'fill' -/
theorem foldl_set (vs : List Value) : ∀ (k off : Nat) (cells : Array Value) (j : Nat), off + k + vs.length ≤ cells.size →
  ((vs.zipIdx k).foldl (fun cs (p : Value × Nat) => cs.setIfInBounds (off + p.2) p.1) cells)[j]? = if off + k ≤ j ∧ j < off + k + vs.length then vs[j - (off + k)]? else cells[j]? := by
 induction vs with
 | nil => intro k off cells j _; simp; omega
 | cons v vs ih =>
  intro k off cells j hl
  simp only [List.zipIdx_cons, List.foldl_cons]
  simp only [List.length_cons] at hl
  rw [ih (k + 1) off _ j (by simp; omega)]
  by_cases h1 : off + (k + 1) ≤ j ∧ j < off + (k + 1) + vs.length
  ·rw [if_pos h1, if_pos (by simp; omega)]
   obtain ⟨m, rfl⟩ : ∃ m, j = off + k + (m + 1) := ⟨j - (off + k) - 1, by omega⟩
   rw [show off + k + (m + 1) - (off + (k + 1)) = m from by omega, show off + k + (m + 1) - (off + k) = m + 1 from by omega]
   simp
  ·rw [if_neg h1]
   by_cases h2 : j = off + k
   ·subst h2
    have hlt : off + k < cells.size := by omega
    rw [if_pos (by simp)]
    simp [hlt]
   ·rw [if_neg (by simp; omega), Array.getElem?_setIfInBounds_ne (Ne.symm h2)]
theorem foldl_set_size (vs : List Value) : ∀ (k off : Nat) (cells : Array Value), ((vs.zipIdx k).foldl (fun cs (p : Value × Nat) => cs.setIfInBounds (off + p.2) p.1) cells).size = cells.size := by
 induction vs with
 | nil => intro k off cells; rfl
 | cons v vs ih => intro k off cells; simp only [List.zipIdx_cons, List.foldl_cons]; rw [ih]; simp
theorem splice_length {cells cs : List AV} {off : Nat} (h : off + cs.length ≤ cells.length) : (splice cells off cs).length = cells.length := by
 simp [splice]; omega
theorem splice_get {cells cs : List AV} {off : Nat} (h : off + cs.length ≤ cells.length) (j : Nat) : (splice cells off cs)[j]? = if off ≤ j ∧ j < off + cs.length then cs[j - off]? else cells[j]? := by
 unfold splice
 by_cases h1 : j < off
 ·rw [if_neg (by omega), List.getElem?_append_left (by simp; omega), List.getElem?_take_of_lt h1]
 ·rw [List.getElem?_append_right (by simp; omega)]
  simp only [List.length_take, Nat.min_eq_left (show off ≤ cells.length by omega)]
  by_cases h2 : j < off + cs.length
  ·rw [if_pos ⟨by omega, h2⟩, List.getElem?_append_left (by omega)]
  ·rw [if_neg (by omega), List.getElem?_append_right (by omega), List.getElem?_drop]
   congr 1
   omega
theorem fill_list (cells : Array Value) (v : Value) (off : Nat) (h : off + v.cells.size ≤ cells.size) (j : Nat) :
  (v.cells.zipIdx.foldl (fun cs (p : Value × Nat) => cs.setIfInBounds (off + p.2) p.1) cells)[j]? = if off ≤ j ∧ j < off + v.cells.size then v.cells[j - off]? else cells[j]? := by
 have := foldl_set v.cells.toList 0 off cells j (by simpa using h)
 rw [← Array.foldl_toList, Array.toList_zipIdx]
 simpa using this
theorem fill_size (cells : Array Value) (v : Value) (off : Nat) : (v.cells.zipIdx.foldl (fun cs (p : Value × Nat) => cs.setIfInBounds (off + p.2) p.1) cells).size = cells.size := by
 rw [← Array.foldl_toList, Array.toList_zipIdx]
 exact foldl_set_size _ _ _ _
theorem splice_sound {cells cs : List AV} {arr : Array Value} {v : Value} (hc : RepList w g cells arr.toList) (hv : RepList w g cs v.cells.toList) {off : Nat} (h : off + cs.length ≤ cells.length) :
  RepList w g (splice cells off cs) (v.cells.zipIdx.foldl (fun cs (p : Value × Nat) => cs.setIfInBounds (off + p.2) p.1) arr).toList := by
 have l1 := hc.length
 have l2 := hv.length
 simp at l1 l2
 refine RepList.of (by rw [splice_length h]; simp only [Array.length_toList]; rw [fill_size]; exact l1) fun j x hx => ?_
 rw [splice_get h] at hx
 rw [Array.getElem?_toList, fill_list _ _ _ (by omega)]
 split at hx
 ·rename_i h1
  obtain ⟨u, h2, h3⟩ := hv.get _ x hx
  exact ⟨u, by rw [if_pos (by omega)]; simpa using h2, h3⟩
 ·rename_i h1
  obtain ⟨u, h2, h3⟩ := hc.get _ x hx
  exact ⟨u, by rw [if_neg (by omega)]; simpa using h2, h3⟩
def RepParts (w : World) (g : Gh) (place : Nat → Option (Nat × Nat)) : List (Nat × Nat × AV) → List (Nat × Value) → Prop
 | [], ps => ps = []
 | (off, sz, x) :: r, ps => ∃ i v ps', ps = (i, v) :: ps' ∧ place i = some (off, sz) ∧ Rep w g x v ∧ RepParts w g place r ps'
theorem fill_sound {place : Nat → Option (Nat × Nat)} : ∀ {parts : List (Nat × Nat × AV)} {ps : List (Nat × Value)} {cells : List AV} {arr : Array Value} {out : List AV}, RepParts w g place parts ps → RepList w g cells arr.toList → afill cells parts = some out →
  ∃ arr', Instr.fill place arr ps = some arr' ∧ RepList w g out arr'.toList
 | [], ps, cells, arr, out, hp, hc, h => by
  subst hp
  cases h
  exact ⟨arr, rfl, hc⟩
 | (off, sz, x) :: r, ps, cells, arr, out, hp, hc, h => by
  obtain ⟨i, v, ps', rfl, h1, h2, h3⟩ := hp
  simp only [afill] at h
  split at h
  ·rename_i cs hcs
   split at h
   ·rename_i hl
    have hv := cells_sound h2 hcs
    have l1 := hc.length
    have l2 := hv.length
    simp at l1 l2
    obtain ⟨arr', k1, k2⟩ := fill_sound h3 (splice_sound hc hv (by omega)) h
    refine ⟨arr', ?_, k2⟩
    simp only [Instr.fill, h1]
    have : (v.cells.size ≠ sz || decide (off + v.cells.size > arr.size)) = false := by
     simp; omega
    simp only [this]
    exact k1
   ·cases h
  ·cases h
end Go.Ab
/-! Keys of maps. -/
namespace Go.Ab
open Go.RowKit Go.MapKept
variable {P : Program} {w w' : World} {g g' : Gh}
def skc : SK → Nat
 | .i => 1
 | .s => 2
 | .b => 3
def ksc : List SK → Nat
 | [] => 1
 | k :: ks => 4 * ksc ks + skc k
def kcOf (P : Program) (k : TypeId) : Option Nat := match P.underlying k with
 | some .bool => some 3
 | some (.int .i64) => some 1
 | some .string => some 2
 | some (.struct _) => (flatK P 50 k).map fun ks => 4 * ksc ks
 | _ => none
theorem ksc_pos : ∀ ks, 1 ≤ ksc ks
 | [] => Nat.le_refl _
 | k :: ks => by have := ksc_pos ks; simp only [ksc]; omega
theorem skc_lt (k : SK) : 1 ≤ skc k ∧ skc k ≤ 3 := by cases k <;> simp [skc]
theorem k1code_lt {x : AV} {n : Nat} (h : k1code x = some n) : 1 ≤ n ∧ n ≤ 3 := by
 unfold k1code at h
 split at h <;> first | (cases h; decide) | cases h
theorem kscode_cons {x : AV} {xs : List AV} {n : Nat} (h : kscode (x :: xs) = some n) : ∃ a b, k1code x = some a ∧ kscode xs = some b ∧ n = 4 * b + a := by
 simp only [kscode] at h
 cases hx : k1code x with
 | none => rw [hx] at h; cases h
 | some a =>
  cases hs : kscode xs with
  | none => rw [hx, hs] at h; cases h
  | some b => rw [hx, hs] at h; simp at h; exact ⟨a, b, rfl, rfl, h.symm⟩
theorem k1code_lit' {x : AV} {n : Nat} (h : k1code x = some n) : ∃ v, x = .lit v := by
 cases x with
 | lit v => exact ⟨v, rfl⟩
 | _ => simp [k1code] at h
theorem kscode_pos : ∀ {cs : List AV} {n : Nat}, kscode cs = some n → 1 ≤ n
 | [], n, h => by simp [kscode] at h; omega
 | x :: xs, n, h => by
  obtain ⟨a, b, h1, h2, rfl⟩ := kscode_cons h
  have := k1code_lt h1; omega
def litv : AV → Value
 | .lit v => v
 | _ => undef
def kval : AV → Value
 | .lit v => v
 | .agg cs => .agg (cs.map litv).toArray
 | _ => undef
theorem kscode_rep : ∀ {cs : List AV} {n : Nat} {vs : List Value}, kscode cs = some n → RepList w g cs vs → vs = cs.map litv
 | [], _, _, _, h => h
 | x :: xs, n, _, hc, ⟨v, vs, h1, h2, h3⟩ => by
  obtain ⟨a, b, e1, e2, _⟩ := kscode_cons hc
  obtain ⟨y, rfl⟩ := k1code_lit' e1
  have h2 : v = y := h2
  rw [h1, kscode_rep e2 h3, h2]; rfl
theorem kval_of {x : AV} {n : Nat} {v : Value} (h : kcode x = some n) (hr : Rep w g x v) : v = kval x := by
 cases x with
 | lit y => exact hr
 | agg cs =>
  obtain ⟨vs, rfl, h2⟩ := hr
  simp only [kcode] at h
  obtain ⟨m, h1, _⟩ := Option.map_eq_some_iff.1 h
  have := kscode_rep h1 h2
  simp only [kval, ← this]
 | _ => simp [kcode, k1code] at h
theorem kscode_inj : ∀ {cs cs' : List AV} {n n' : Nat}, kscode cs = some n → kscode cs' = some n' → cs.map litv = cs'.map litv → cs = cs'
 | [], [], _, _, _, _, _ => rfl
 | [], _ :: _, _, _, _, _, h => by simp at h
 | _ :: _, [], _, _, _, _, h => by simp at h
 | x :: xs, y :: ys, n, n', h1, h2, h => by
  obtain ⟨a, b, e1, e2, _⟩ := kscode_cons h1
  obtain ⟨a', b', e3, e4, _⟩ := kscode_cons h2
  obtain ⟨u, rfl⟩ := k1code_lit' e1
  obtain ⟨u', rfl⟩ := k1code_lit' e3
  simp only [List.map_cons, List.cons.injEq, litv] at h
  rw [h.1, kscode_inj e2 e4 h.2]
theorem kval_inj {x y : AV} {n n' : Nat} (h1 : kcode x = some n) (h2 : kcode y = some n') (h : kval x = kval y) : x = y := by
 cases x with
 | lit u => cases y with
  | lit u' => have h : u = u' := h; rw [h]
  | agg cs => have h : u = .agg (cs.map litv).toArray := h; subst h; simp [kcode, k1code] at h1
  | _ => simp [kcode, k1code] at h2
 | agg cs => cases y with
  | lit u' => have h : Value.agg (cs.map litv).toArray = u' := h; subst h; simp [kcode, k1code] at h2
  | agg cs' =>
   simp only [kcode] at h1 h2
   obtain ⟨m, h3, _⟩ := Option.map_eq_some_iff.1 h1
   obtain ⟨m', h4, _⟩ := Option.map_eq_some_iff.1 h2
   simp only [kval, Value.agg.injEq] at h
   rw [kscode_inj h3 h4 (List.toArray_inj h)]
  | _ => simp [kcode, k1code] at h2
 | _ => simp [kcode, k1code] at h1
theorem kscode_eq : ∀ {ks : List SK} {cs cs' : List AV}, kscode cs = some (ksc ks) → kscode cs' = some (ksc ks) → ∃ r, eqCells ks cs cs' = some r ∧ (r = true ↔ cs = cs')
 | [], [], [], _, _ => ⟨true, rfl, by simp⟩
 | [], x :: xs, cs', h, _ => by
  obtain ⟨a, b, e1, e2, e3⟩ := kscode_cons h
  have := k1code_lt e1
  have := kscode_pos e2
  simp only [ksc] at e3
  omega
 | [], [], y :: ys, _, h => by
  obtain ⟨a, b, e1, e2, e3⟩ := kscode_cons h
  have := k1code_lt e1
  have := kscode_pos e2
  simp only [ksc] at e3
  omega
 | k :: ks, [], cs', h, _ => by
  simp only [kscode, ksc, Option.some.injEq] at h
  have := skc_lt k; have := ksc_pos ks; omega
 | k :: ks, x :: xs, [], _, h => by
  simp only [kscode, ksc, Option.some.injEq] at h
  have := skc_lt k; have := ksc_pos ks; omega
 | k :: ks, x :: xs, y :: ys, h1, h2 => by
  obtain ⟨a, b, e1, e2, e5⟩ := kscode_cons h1
  obtain ⟨a', b', e3, e4, e6⟩ := kscode_cons h2
  simp only [ksc] at e5 e6
  have ha := k1code_lt e1
  have ha' := k1code_lt e3
  have hs := skc_lt k
  have hb : b = ksc ks := by omega
  have hb' : b' = ksc ks := by omega
  have hk : a = skc k := by omega
  have hk' : a' = skc k := by omega
  rw [hb] at e2
  rw [hb'] at e4
  rw [hk] at e1
  rw [hk'] at e3
  obtain ⟨r, h3, h4⟩ := kscode_eq e2 e4
  have h5 : ∃ r, eqOne k x y = some r ∧ (r = true ↔ x = y) := by
   obtain ⟨p, rfl⟩ := k1code_lit' e1
   obtain ⟨q, rfl⟩ := k1code_lit' e3
   cases k with
   | i =>
    have hp : ∃ m, p = .int .i64 m := by unfold k1code at e1; split at e1 <;> simp_all [skc]
    have hq : ∃ m, q = .int .i64 m := by unfold k1code at e3; split at e3 <;> simp_all [skc]
    obtain ⟨m, rfl⟩ := hp
    obtain ⟨m', rfl⟩ := hq
    exact ⟨m == m', by simp [eqOne], by simp⟩
   | s =>
    have hp : ∃ m, p = .string m := by unfold k1code at e1; split at e1 <;> simp_all [skc]
    have hq : ∃ m, q = .string m := by unfold k1code at e3; split at e3 <;> simp_all [skc]
    obtain ⟨m, rfl⟩ := hp
    obtain ⟨m', rfl⟩ := hq
    refine ⟨m == m', rfl, ?_⟩
    have : (m == m') = true ↔ m = m' := by
     have h1 : (m == m') = (m.data == m'.data) := by cases m; cases m'; rfl
     rw [h1, beq_iff_eq]
     constructor
     ·intro h; cases m; cases m'; simp only at h; rw [h]
     ·rintro rfl; rfl
    rw [this]; simp
   | b =>
    have hp : ∃ m, p = .bool m := by unfold k1code at e1; split at e1 <;> simp_all [skc]
    have hq : ∃ m, q = .bool m := by unfold k1code at e3; split at e3 <;> simp_all [skc]
    obtain ⟨m, rfl⟩ := hp
    obtain ⟨m', rfl⟩ := hq
    exact ⟨m == m', rfl, by simp⟩
  obtain ⟨r', h5, h6⟩ := h5
  refine ⟨r' && r, by simp [eqCells, h5, h3, eqAnd], ?_⟩
  rw [Bool.and_eq_true, h6, h4, List.cons.injEq]
theorem kscode_len : ∀ {ks : List SK} {cs : List AV}, kscode cs = some (ksc ks) → cs.length = ks.length
 | ks, cs, h => by
  obtain ⟨r, h1, _⟩ := kscode_eq h h
  exact (eqCells_len h1).1
/-! Whether a key can be asked for. -/
def CheckAs (P : Program) (w : World) (em : Bool) (d : Nat) (t : TypeId) (ks : List SK) : Prop :=
 ∃ ag, aggOf P t = some ag ∧ (ag = false → ks.length = 1) ∧ ∀ d', d ≤ d' → ∀ vs : List Value, vs.length = ks.length → (Instr.checkKey em d' t (valOf ag vs)).run P w = .ok () w
theorem checkFields_sound {em : Bool} {d : Nat} {rec : TypeId → Option (List SK)} (hrec : ∀ t ks, rec t = some ks → CheckAs P w em d t ks) {d' : Nat} (hd : d ≤ d') (xs : Array Value) :
  ∀ (fs : List Field) (off : Nat) (ks : List SK), flatFs P rec fs off = some ks → off + ks.length ≤ xs.size → ∀ f ∈ fs, f.name ≠ "_" ∧ ∃ v, (part f.type xs f.offset).run P w = .ok v w ∧ (Instr.checkKey em d' f.type v).run P w = .ok () w
 | [], off, ks, h, hl => by simp
 | f :: fs, off, ks, h, hl => by
  simp only [flatFs] at h
  split at h
  ·cases h
  ·rename_i hname
   split at h
   ·rename_i hoff
    split at h
    ·rename_i k1 i h1 h2
     split at h
     ·rename_i hsz
      obtain ⟨k2, h3, h4⟩ := Option.map_eq_some_iff.1 h
      subst h4
      simp only [List.length_append] at hl
      obtain ⟨ag, h8, h9, h10⟩ := hrec _ _ h1
      have hsg : ag = false → i.size = 1 := fun e => by rw [hsz.1]; exact h9 e
      have p1 := part_run (P := P) (w := w) h8 h2 hsg off xs (by omega)
      have ih := checkFields_sound hrec hd xs fs (off + k1.length) k2 h3 (by omega)
      intro f' hf'
      rcases List.mem_cons.1 hf' with rfl | hf'
      ·exact ⟨by simpa using hname, _, by rw [hoff]; exact p1, h10 d' hd _ (by simp; omega)⟩
      ·exact ih f' hf'
     ·cases h
    ·cases h
   ·cases h
theorem checkK_sound (em : Bool) : ∀ (d : Nat) (t : TypeId) (ks : List SK), flatK P d t = some ks → CheckAs P w em d t ks
 | 0, t, ks, h => by simp [flatK] at h
 | d + 1, t, ks, h => by
  simp only [flatK] at h
  have leaf : ∀ (dd : TypeDesc), P.underlying t = some dd → (∀ v n, (Instr.checkKey em (n + 1) t v).run P w = .ok () w) → aggOf P t = some false → ks.length = 1 → CheckAs P w em (d + 1) t ks := fun dd hu hc ha hl =>
   ⟨false, ha, fun _ => hl, fun d' hd vs hv => by
    obtain ⟨d', rfl⟩ : ∃ e, d' = e + 1 := ⟨d' - 1, by omega⟩
    exact hc _ _⟩
  split at h
  ·rename_i hu
   cases h
   exact leaf _ hu (fun v n => by simp [Instr.checkKey, run_underlying hu]) (by simp [aggOf, hu]) rfl
  ·rename_i k hu
   cases h
   exact leaf _ hu (fun v n => by simp [Instr.checkKey, run_underlying hu]) (by simp [aggOf, hu]) rfl
  ·rename_i hu
   cases h
   exact leaf _ hu (fun v n => by simp [Instr.checkKey, run_underlying hu]) (by simp [aggOf, hu]) rfl
  ·rename_i fs hu
   split at h
   ·cases h
   ·refine ⟨true, by simp [aggOf, hu], fun h => (by cases h), fun d' hd vs hv => ?_⟩
    obtain ⟨d', rfl⟩ : ∃ e, d' = e + 1 := ⟨d' - 1, by omega⟩
    have key := checkFields_sound (fun t ks h => checkK_sound em d t ks h) (show d ≤ d' by omega) vs.toArray fs.toList 0 ks h (by simp [hv])
    simp only [valOf, if_true]
    rw [Instr.checkKey]
    simp only [Sem.run_bind, run_underlying hu, Result.andThen_ok]
    rw [← Array.forIn_toList]
    clear hu h
    generalize fs.toList = L at key
    induction L with
    | nil => simp
    | cons f L ih =>
     obtain ⟨hn, v, p1, p2⟩ := key f (by simp)
     simp only [List.forIn_cons, Sem.run_bind, hn, ne_eq, not_false_eq_true, if_true, Result.andThen_ok, p1, p2, Sem.run_pure]
     exact ih fun f' hf' => key f' (by simp [hf'])
  ·cases h
theorem plain_code {kt kc : Nat} (hk : kcOf P kt = some kc) : (∃ d, P.underlying kt = some d ∧ ∀ x, kcode x = some kc → IsKey d (kval x)) ∨ (∃ fs ks, P.underlying kt = some (.struct fs) ∧ flatK P 50 kt = some ks ∧ kc = 4 * ksc ks ∧ ∀ x, kcode x = some kc → ∃ cs, x = .agg cs ∧ kscode cs = some (ksc ks)) := by
 have sing : ∀ x n, n ≤ 3 → kcode x = some n → 1 ≤ n → ∃ v, x = .lit v ∧ k1code (.lit v) = some n := fun x n hn hx h1 => by
  cases x with
  | lit v => exact ⟨v, rfl, hx⟩
  | agg cs =>
   simp only [kcode] at hx
   obtain ⟨m, h2, h3⟩ := Option.map_eq_some_iff.1 hx
   omega
  | _ => simp [kcode, k1code] at hx
 unfold kcOf at hk
 split at hk
 ·rename_i hu
  cases hk
  refine .inl ⟨_, hu, fun x hx => ?_⟩
  obtain ⟨v, rfl, h⟩ := sing x 3 (by omega) hx (by omega)
  unfold k1code at h; split at h <;> simp_all [IsKey, kval]
 ·rename_i hu
  cases hk
  refine .inl ⟨_, hu, fun x hx => ?_⟩
  obtain ⟨v, rfl, h⟩ := sing x 1 (by omega) hx (by omega)
  unfold k1code at h; split at h <;> simp_all [IsKey, kval]
 ·rename_i hu
  cases hk
  refine .inl ⟨_, hu, fun x hx => ?_⟩
  obtain ⟨v, rfl, h⟩ := sing x 2 (by omega) hx (by omega)
  unfold k1code at h; split at h <;> simp_all [IsKey, kval]
 ·rename_i fs hu
  obtain ⟨ks, h1, h2⟩ := Option.map_eq_some_iff.1 hk
  refine .inr ⟨fs, ks, hu, h1, h2.symm, fun x hx => ?_⟩
  subst h2
  have := ksc_pos ks
  cases x with
  | lit v =>
   have := k1code_lt (show k1code (.lit v) = some (4 * ksc ks) from hx)
   omega
  | agg cs =>
   simp only [kcode] at hx
   obtain ⟨m, h2, h3⟩ := Option.map_eq_some_iff.1 hx
   exact ⟨cs, rfl, by rw [h2]; congr 1; omega⟩
  | _ => simp [kcode, k1code] at hx
 ·cases hk
theorem check_sound (em : Bool) {kt kc : Nat} (hk : kcOf P kt = some kc) {x : AV} {v : Value} (hx : kcode x = some kc) (hv : Rep w g x v) : (Instr.checkKey em 10000 kt v).run P w = .ok () w := by
 rcases plain_code hk with ⟨d, h1, h2⟩ | ⟨fs, ks, h1, h2, h3, h4⟩
 ·rw [kval_of hx hv]
  exact run_checkKey h1 (h2 x hx) em 9999
 ·obtain ⟨cs, rfl, hc⟩ := h4 x hx
  obtain ⟨vs, rfl, hl⟩ := hv
  obtain ⟨ag, k1, _, k2⟩ := checkK_sound (P := P) (w := w) em 50 kt ks h2
  have hag : ag = true := by simp [aggOf, h1] at k1; first | exact k1 | exact k1.symm
  subst hag
  have := k2 10000 (by omega) vs.toList (by rw [← hl.length, kscode_len hc])
  simpa [valOf] using this
theorem find_sound {kt kc : Nat} (hk : kcOf P kt = some kc) {x : AV} {v : Value} (hx : kcode x = some kc) (hv : Rep w g x v) (es : List MapEntry) (hes : ∀ e ∈ es, ∃ y, kcode y = some kc ∧ Rep w g y e.key) :
  ((Instr.findKey kt v es).run P w = .ok none w ∧ ∀ e ∈ es, e.key ≠ v) ∨ ∃ j e, (Instr.findKey kt v es).run P w = .ok (some (j, e.val)) w ∧ es[j]? = some e ∧ e.key = v := by
 rcases plain_code hk with ⟨d, h1, h2⟩ | ⟨fs, ks, h1, h2, h3, h4⟩
 ·have hv' := kval_of hx hv
  have hks : ∀ y ∈ es, IsKey d y.key := fun y hy => by
   obtain ⟨z, hz1, hz2⟩ := hes y hy
   rw [kval_of hz1 hz2]
   exact h2 z hz1
  rcases findNow_spec (k := v) (d := d) (by rw [hv']; exact h2 x hx) es 0 hks with ⟨k1, k2⟩ | ⟨j, e0, k1, k2, k3⟩
  ·exact .inl ⟨run_findKey h1 k1, k2⟩
  ·exact .inr ⟨j, e0, by simpa using run_findKey h1 k1, k2, k3⟩
 ·have hwide : (match P.underlying kt with | some (.array _ _) | some (.struct _) => true | _ => false) = true := by rw [h1]
  rw [run_findKey_eq w hwide]
  have heq : ∀ e ∈ es, ∃ r : Bool, (Op.equal kt v e.key).run P w = .ok r w ∧ (r = true ↔ e.key = v) := fun e he => by
   obtain ⟨y, hy1, hy2⟩ := hes e he
   have hx' := hx
   have hvv := kval_of hx hv
   have hyv := kval_of hy1 hy2
   obtain ⟨cs, rfl, hc⟩ := h4 x hx'
   obtain ⟨cs', rfl, hc'⟩ := h4 y hy1
   obtain ⟨xs, rfl, hxs⟩ := hv
   obtain ⟨ys, hye, hys⟩ := hy2
   obtain ⟨r, r1, r2⟩ := kscode_eq hc hc'
   obtain ⟨ag, k1, _, k2⟩ := eqK_sound (w := w) (g := g) 50 kt ks h2
   have hag : ag = true := by simp [aggOf, h1] at k1; first | exact k1 | exact k1.symm
   subst hag
   obtain ⟨d, hd, hequal⟩ := equal_succ
   have := k2 (d + 1) (by omega) _ _ _ _ r hxs hys r1
   refine ⟨r, by rw [hequal, hye]; simpa [valOf] using this, ?_⟩
   rw [r2]
   constructor
   ·rintro rfl; rw [hvv, hyv]
   ·intro h
    rw [hvv, hyv] at h
    have := kval_inj hy1 hx h
    injection this with this
    exact this.symm
  have key : ∀ (l : List MapEntry) (i : Nat), (∀ e ∈ l, e ∈ es) → ((Instr.findAsking kt v l i).run P w = .ok none w ∧ ∀ e ∈ l, e.key ≠ v) ∨ ∃ j e, (Instr.findAsking kt v l i).run P w = .ok (some (i + j, e.val)) w ∧ l[j]? = some e ∧ e.key = v := by
   intro l
   induction l with
   | nil => intro i _; exact .inl ⟨by simp [Instr.findAsking], by simp⟩
   | cons e l ih =>
    intro i hl
    obtain ⟨r, hr, hiff⟩ := heq e (hl e (by simp))
    cases r with
    | true => exact .inr ⟨0, e, by simp [Instr.findAsking, hr], rfl, hiff.1 rfl⟩
    | false =>
     have hne : e.key ≠ v := fun q => by have := hiff.2 q; cases this
     rcases ih (i + 1) (fun y hy => hl y (by simp [hy])) with ⟨k1, k2⟩ | ⟨j, e', k1, k2, k3⟩
     ·refine .inl ⟨by simp [Instr.findAsking, hr, k1], fun y hy => ?_⟩
      rcases List.mem_cons.1 hy with rfl | hy
      ·exact hne
      ·exact k2 y hy
     ·exact .inr ⟨j + 1, e', by simp [Instr.findAsking, hr, k1]; omega, by simpa using k2, k3⟩
  simpa using key es 0 (fun _ h => h)
theorem sameBits_lit {x : AV} {n : Nat} (h : k1code x = some n) (m : Nat) : Instr.sameBits m (litv x) (litv x) = true := by
 unfold k1code at h
 split at h <;> first | cases h; done | (simp [litv, Instr.sameBits, bytes_beq])
theorem stays_sound {x : AV} {n : Nat} {v : Value} (h : kcode x = some n) (hv : Rep w g x v) : (Instr.keyThatStays v v).run P w = .ok v w := by
 have key : Instr.sameBits 10000 v v = true := by
  rw [kval_of h hv]
  cases x with
  | lit u => exact sameBits_lit (show k1code (.lit u) = some n from h) 10000
  | agg cs =>
   simp only [kcode] at h
   obtain ⟨m, h1, _⟩ := Option.map_eq_some_iff.1 h
   simp only [kval, Instr.sameBits, beq_self_eq_true, Bool.true_and]
   have : ∀ {cs : List AV} {m : Nat}, kscode cs = some m → ((cs.map litv).zip (cs.map litv)).all (fun (x, y) => Instr.sameBits 9999 x y) = true := by
    intro cs
    induction cs with
    | nil => intro m _; rfl
    | cons x xs ih =>
     intro m h
     obtain ⟨a, b, e1, e2, _⟩ := kscode_cons h
     simp only [List.map_cons, List.zip_cons_cons, List.all_cons, Bool.and_eq_true]
     exact ⟨sameBits_lit e1 _, ih e2⟩
   simpa using this h1
  | _ => simp [kcode, k1code] at h
 simp [Instr.keyThatStays, key]
end Go.Ab
/-! Each operation resolved. -/
namespace Go.Ab
open Go.RowKit
variable {P : Program} {w w' : World} {g g' : Gh} {G : Nat → AV} {N : Nat} {st : St} {a : Act}
def absParts (places : List (Nat × Nat)) : List (Nat × Operand) → Option (List (Nat × Nat × Opd))
 | [] => some []
 | (i, x) :: r => match places[i]?, absParts places r with
  | some (o, s), some ps => some ((o, s, absOpd x) :: ps)
  | _, _ => none
def isStrT (P : Program) (t : TypeId) : Bool := match P.underlying t with | some .string => true | _ => false
def isByteT (P : Program) (t : TypeId) : Bool := match P.underlying t with | some (.int .u8) => true | _ => false
theorem isByteT_eq {t : TypeId} (h : isByteT P t = true) : P.underlying t = some (.int .u8) := by
 unfold isByteT at h
 split at h
 ·assumption
 ·cases h
def isByteZ : Option Value → Bool
 | some (.int .u8 0) => true
 | _ => false
theorem isByteZ_eq {z : Option Value} (h : isByteZ z = true) : z = some (.int .u8 0) := by
 unfold isByteZ at h
 split at h
 ·rfl
 ·cases h
def eqKind (P : Program) (t : TypeId) : Option (Option EqK) := match P.underlying t with
 | some .bool => some (some .bool)
 | some (.int _) | some .string => some none
 | some (.slice _) => some (some .slice)
 | some (.pointer _) => some (some .ptr)
 | some (.struct _) => match flatK P 50 t with
  | some ks => if P.eqGuardType P.depth t = false then some (some (.cells ks)) else none
  | none => none
 | _ => none
def isCmp : BinOp → Bool
 | .eql | .neq => true
 | _ => false
def absBin (P : Program) (op : BinOp) (t : TypeId) (x y : Operand) : Option AOp :=
 if isCmp op then (match eqKind P t with
  | some none => some (.bin op (absOpd x) (absOpd y))
  | some (some k) => some (.eq (match op with | .neq => true | _ => false) k (absOpd x) (absOpd y))
  | none => none) else some (.bin op (absOpd x) (absOpd y))
def ownD (own : List Nat) : Option Nat → Bool
 | some k => own.contains k
 | none => false
def zeroAV : Value → AV
 | .agg cs => .agg (cs.toList.map AV.ofVal)
 | v => AV.ofVal v
def mapOf (P : Program) (t : TypeId) : Option (Nat × AV) := match P.underlying t with
 | some (.map k e) => match kcOf P k, P.info? e with
  | some kc, some i => match i.zero with
   | some z => some (kc, zeroAV z)
   | none => none
  | _, _ => none
 | _ => none
def absOp (P : Program) (own : List Nat) (d : Option Nat) : Op → Option AOp
 | .move x | .assign x => some (.mov (absOpd x))
 | .pick c x y => some (.pick (absOpd c) (absOpd x) (absOpd y))
 | .load t x => match aggOf P t, P.info? t with
  | some ag, some i => some (.load ag i.size (absOpd x))
  | _, _ => none
 | .store t x y => match P.info? t with
  | some i => some (.store false i.size (absOpd x) (absOpd y))
  | _ => none
 | .alloc E => match P.info? E with
  | some i => match i.zero with
   | some z => if z.cells.all Value.oneCell' then some (.alloc E (z.cells.toList.map AV.ofVal)) else none
   | none => none
  | none => none
 | .box E x => match P.info? E with
  | some i => if ownD own d then some (.boxo E i.size (absOpd x)) else some (.box i.size (absOpd x))
  | none => none
 | .build t parts => match P.underlying t, P.info? t with
  | some (.struct fs), some i => match i.zero, fs.toList.mapM (fun f => (P.info? f.type).map fun j => (f.offset, j.size)) with
   | some z, some places => match absParts places parts.toList with
    | some ps => some (.build (z.cells.toList.map AV.ofVal) ps)
    | none => none
   | _, _ => none
  | some (.array _ e), some i => match i.zero, P.info? e with
   | some z, some ie => some (.build (z.cells.toList.map AV.ofVal) (parts.toList.map fun (k, x) => (k * ie.size, ie.size, absOpd x)))
   | _, _ => none
  | _, _ => none
 | .buildSlice t len parts => match P.underlying t with
  | some (.slice e) => match P.info? e with
   | some i => match i.zero with
    | some z => if len * i.size ≤ 2 ^ 24 ∧ len ≤ 2 ^ 24 then
      (if ownD own d then some (.bslo e i.size len (parts.toList.map fun (k, x) => (k, absOpd x))) else some (.bsl i.size len (parts.toList.map fun (k, x) => (k, absOpd x)))) else none
    | none => none
   | none => none
  | _ => none
 | .nilCheck x => some (.nilc (absOpd x))
 | .binOp op t x y _ => absBin P op t x y
 | .unOp .not _ x => some (.not (absOpd x))
 | .unOp .neg _ x => some (.neg (absOpd x))
 | .convert s t x => match P.underlying s, P.underlying t with
  | some _, some (.int k) => some (.cvt k (absOpd x))
  | some .string, some .string => some (.same (absOpd x))
  | some (.int _), some .string => some (.same (absOpd x))
  | some (.slice e), some .string => if isByteT P e then some (.bts (absOpd x)) else none
  | some (.pointer u), some .unsafePointer => match P.info? u with
   | some j => if j.size ≠ 0 ∧ P.cellsOf u = j.size then some (.upc u j.size (absOpd x)) else none
   | none => none
  | some .unsafePointer, some (.pointer u) => match P.info? u with
   | some j => if j.size ≠ 0 ∧ P.cellsOf u = j.size then some (.upc u j.size (absOpd x)) else none
   | none => none
  | _, _ => none
 | .extract x i => some (.ext i (absOpd x))
 | .field t x f => match P.underlying t with
  | some (.struct fs) => match fs[f]? with
   | some fi => match aggOf P fi.type, P.info? fi.type with
    | some ag, some i => some (.part ag fi.offset i.size (absOpd x))
    | _, _ => none
   | none => none
  | _ => none
 | .fieldAddr t x f => match P.underlying t with
  | some (.struct fs) => match fs[f]? with
   | some fi => match P.info? fi.type with
    | some i => if i.size = 0 then none else some (.fld fi.offset (absOpd x))
    | none => none
   | none => none
  | _ => none
 | .indexAddr t x i => match P.underlying t with
  | some (.slice e) => match P.info? e with
   | some j => some (.idx j.size (absOpd x) (absOpd i))
   | none => none
  | some (.array n e) => match P.info? e with
   | some j => some (.idxA n j.size (absOpd x) (absOpd i))
   | none => none
  | _ => none
 | .index t x i => if isStrT P t then some (.chr (absOpd x) (absOpd i)) else match P.underlying t with
  | some (.array n e) => match aggOf P e, P.info? e with
   | some ag, some j => some (.idxV ag n j.size (absOpd x) (absOpd i))
   | _, _ => none
  | _ => none
 | .slice t x lo hi none => match P.underlying t with
  | some .string => some (.slS (absOpd x) (lo.map absOpd) (hi.map absOpd))
  | some (.slice e) => match P.info? e with
   | some j => some (.sl j.size (absOpd x) (lo.map absOpd) (hi.map absOpd))
   | none => none
  | _ => none
 | .makeFunc f first caps => if first = #[] then some (.mkf f (caps.toList.map absOpd)) else none
 | .makeSlice t l c => match P.underlying t with
  | some (.slice e) => match P.info? e with
   | some i => match i.zero with
    | some z => if z.cells.size = i.size ∧ z.cells.all Value.oneCell' then some (.make e i.bytes (z.cells.toList.map AV.ofVal) (absOpd l) (absOpd c)) else none
    | none => none
   | none => none
  | _ => none
 | .call c => match c.callee with
  | .value (.func f) => some (.call f (c.args.toList.map absOpd))
  | .value (.tmp t) => some (.callv (.t t) (c.args.toList.map absOpd))
  | .builtin .len => match c.args.toList, c.argTypes.toList with
   | [x], [t] => match P.underlying t with
    | some .string => some (.lenS (absOpd x))
    | some (.slice _) => some (.len (absOpd x))
    | some (.map _ _) => some (.lenM (absOpd x))
    | _ => none
   | _, _ => none
  | .builtin .cap => match c.args.toList, c.argTypes.toList with
   | [x], [t] => match P.underlying t with
    | some (.slice _) => some (.cap (absOpd x))
    | _ => none
   | _, _ => none
  | .builtin .append => match c.args.toList, c.argTypes.toList with
   | [s, x], [t, t'] => if t = t' then (match P.underlying t with
    | some (.slice e) => match P.info? e with
     | some i => match i.zero with
      | some z => if z.cells.size = i.size ∧ 0 < i.size ∧ 0 < i.bytes then some (.app e i.size i.bytes (absOpd s) (absOpd x)) else none
      | none => none
     | none => none
    | _ => none) else (match P.underlying t, P.underlying t' with
    | some (.slice e), some (.int _) => match P.info? e with
     | some i => match i.zero with
      | some z => if z.cells.size = i.size ∧ 0 < i.size then some (.appz e i.size i.bytes (z.cells.toList.map AV.ofVal) (absOpd s) (absOpd x)) else none
      | none => none
     | none => none
    | some (.slice e), some .string => match P.info? e with
     | some i => if isByteZ i.zero && (i.size == 1 && i.bytes == 1) then some (.apps e (absOpd s) (absOpd x)) else none
     | none => none
    | _, _ => none)
   | _, _ => none
  | .builtin .unsafeSliceData => match c.args.toList with
   | [x] => some (.sdat (absOpd x))
   | _ => none
  | .builtin .unsafeString => match c.args.toList, c.argTypes.toList with
   | [x, k], [pt, _] => match P.underlying pt with
    | some (.pointer e) => if P.cellsOf e = 1 then some (.ustr e (absOpd x) (absOpd k)) else none
    | _ => none
   | _, _ => none
  | .builtin .copy => match c.args.toList, c.argTypes.toList with
   | [x, y], [t, _] => match P.underlying t with
    | some (.slice e) => match P.info? e with
     | some i => some (.copy i.size (absOpd x) (absOpd y))
     | none => none
    | _ => none
   | _, _ => none
  | .builtin .clear => match c.args.toList, c.argTypes.toList with
   | [x], [t] => match P.underlying t with
    | some (.slice e) => match P.info? e with
     | some i => match i.zero with
      | some z => if z.cells.size = i.size ∧ z.cells.all Value.oneCell' then some (.clear i.size (z.cells.toList.map AV.ofVal) (absOpd x)) else none
      | none => none
     | none => none
    | _ => none
   | _, _ => none
  | .builtin .max => match c.args.toList with
   | [x, y] => some (.mm true (absOpd x) (absOpd y))
   | [x, y, z] => some (.mm3 true (absOpd x) (absOpd y) (absOpd z))
   | _ => none
  | .builtin .min => match c.args.toList with
   | [x, y] => some (.mm false (absOpd x) (absOpd y))
   | [x, y, z] => some (.mm3 false (absOpd x) (absOpd y) (absOpd z))
   | _ => none
  | _ => none
 | .makeMap t none => match mapOf P t with
  | some (kc, _) => some (.mkm (2 * t + (if ownD own d then 1 else 0)) kc)
  | none => none
 | .lookup t m k ok => match mapOf P t with
  | some (kc, z) => some (.look ok kc z (absOpd m) (absOpd k))
  | none => none
 | .mapUpdate t m k v => match mapOf P t with
  | some (kc, _) => some (.mset kc (absOpd m) (absOpd k) (absOpd v))
  | none => none
 | .insert t m k v => match mapOf P t with
  | some (kc, _) => some (.mset kc (absOpd m) (absOpd k) (absOpd v))
  | none => none
 | .mapEntry t m k => match mapOf P t with
  | some (kc, z) => some (.ment kc z (absOpd m) (absOpd k))
  | none => none
 | .entryStore t m s v => some (.mest (absOpd m) (absOpd s) (absOpd v))
 | .range t x => match mapOf P t with
  | some _ => some (.rng (absOpd x))
  | none => none
 | .next x false => some (.nxt (absOpd x))
 | .entry x => some (.ent (absOpd x))
 | _ => none
theorem mapOf_some {t : TypeId} {kc : Nat} {z : AV} (h : mapOf P t = some (kc, z)) : ∃ k e i zv, P.underlying t = some (.map k e) ∧ kcOf P k = some kc ∧ P.info? e = some i ∧ i.zero = some zv ∧ z = zeroAV zv := by
 unfold mapOf at h
 split at h
 ·rename_i k e hu
  split at h
  ·rename_i kc' i h1 h2
   split at h
   ·rename_i zv h3
    cases h
    exact ⟨k, e, i, zv, hu, h1, h2, h3, rfl⟩
   ·cases h
  ·cases h
 ·cases h
theorem ev_evs (h : Rel G N st g a w) : ∀ (xs : List Operand), RepList w g (evs G st.fr (xs.map absOpd)) (xs.map a.eval)
 | [] => rfl
 | x :: xs => ⟨_, _, rfl, ev_rep h x, ev_evs h xs⟩
theorem ev_evo (h : Rel G N st g a w) (x : Option Operand) : RepO w g (evo G st.fr (x.map absOpd)) (x.map a.eval) := by
 cases x with
 | none => trivial
 | some x => exact ev_rep h x
theorem zero_rep (w : World) (g : Gh) (vs : List Value) : RepList w g (vs.map AV.ofVal) vs := by
 induction vs with
 | nil => rfl
 | cons v vs ih => exact ⟨v, vs, rfl, rep_ofVal w g v, ih⟩
theorem any_rep (w : World) (g : Gh) : ∀ (vs : List Value), RepList w g (List.replicate vs.length .any) vs
 | [] => rfl
 | v :: vs => ⟨v, vs, rfl, trivial, any_rep w g vs⟩
theorem parts_rep (h : Rel G N st g a w) {places : List (Nat × Nat)} : ∀ {parts : List (Nat × Operand)} {ps : List (Nat × Nat × Opd)}, absParts places parts = some ps →
  RepParts w g (places.toArray[·]?) (evp G st.fr ps) (parts.map fun (i, x) => (i, a.eval x))
 | [], ps, hp => by cases hp; rfl
 | (i, x) :: r, ps, hp => by
  simp only [absParts] at hp
  split at hp
  ·rename_i o s ps' h1 h2
   cases hp
   exact ⟨i, a.eval x, _, rfl, by simpa using h1, ev_rep h x, parts_rep h h2⟩
  ·cases hp
theorem parts_rep_arr (h : Rel G N st g a w) (sz : Nat) : ∀ (parts : List (Nat × Operand)),
  RepParts w g (fun i => some (i * sz, sz)) (evp G st.fr (parts.map fun (k, x) => (k * sz, sz, absOpd x))) (parts.map fun (i, x) => (i, a.eval x))
 | [] => rfl
 | (i, x) :: r => ⟨i, a.eval x, _, rfl, rfl, ev_rep h x, parts_rep_arr h sz r⟩
theorem arows_fill (sz : Nat) : ∀ (ps : List (Nat × AV)) (k : Nat) (rows : List (List AV)), arows sz k ps = some rows → rows.length = ps.length ∧ (∀ r ∈ rows, r.length = sz) ∧
  ∀ pre : List AV, pre.length = k * sz → afill (pre ++ List.replicate (rows.length * sz) .any) (ps.map fun (i, v) => (i * sz, sz, v)) = some (pre ++ rows.flatten)
 | [], k, rows, h => by
  simp only [arows, Option.some.injEq] at h
  subst h
  exact ⟨rfl, by simp, fun pre _ => by simp [afill]⟩
 | (i, v) :: r, k, rows, h => by
  simp only [arows] at h
  split at h
  ·rename_i cs hcs
   split at h
   ·rename_i hk
    obtain ⟨rows', h1, h2⟩ := Option.map_eq_some_iff.1 h
    subst h2
    obtain ⟨h3, h4, h5⟩ := arows_fill sz r (k + 1) rows' h1
    refine ⟨by simp [h3], fun r hr => ?_, fun pre hpre => ?_⟩
    ·rcases List.mem_cons.1 hr with rfl | hr
     ·exact hk.2
     ·exact h4 r hr
    ·simp only [List.map_cons, afill, hcs]
     have e1 : (pre ++ List.replicate ((rows'.length + 1) * sz) AV.any).length = k * sz + (rows'.length * sz + sz) := by simp [hpre, Nat.succ_mul]
     rw [List.length_cons, if_pos ⟨hk.2, by rw [e1, hk.1]; omega⟩]
     have : splice (pre ++ List.replicate ((rows'.length + 1) * sz) AV.any) (i * sz) cs = (pre ++ cs) ++ List.replicate (rows'.length * sz) AV.any := by
      unfold splice
      rw [hk.1, ← hpre, List.take_left', List.drop_append, List.drop_eq_nil_of_le (by omega), List.nil_append, List.drop_replicate, List.append_assoc]
      ·congr 3
       rw [hpre, hk.2, Nat.succ_mul]; omega
      ·rfl
     rw [this, h5 (pre ++ cs) (by simp [hpre, hk.2, Nat.succ_mul])]
     simp
   ·cases h
  ·cases h
theorem evp_map (sz : Nat) (fr : Nat → AV) : ∀ (ps : List (Nat × Opd)), evp G fr (ps.map fun (k, x) => (k * sz, sz, x)) = (evq G fr ps).map fun (i, v) => (i * sz, sz, v)
 | [] => rfl
 | (k, x) :: r => by simp only [List.map_cons, evp, evq]; rw [evp_map sz fr r]
theorem RepRows.of_flat {b : Nat} : ∀ {rows : List (List AV)} {o : Nat}, RepCells w g b o rows.flatten → RepRows w g b o rows
 | [], o, _ => trivial
 | r :: rows, o, h => by
  have h1 := h.take r.length
  have h2 := h.drop r.length
  simp only [List.flatten_cons, List.take_left', List.drop_left'] at h1 h2
  exact ⟨h1, RepRows.of_flat h2⟩
theorem new_cells (hI : Inv w g) {E : TypeId} {arr : Array Value} {cs : List AV} (h : RepList w g cs arr.toList) : RepCells (w.alloc (.cells arr E)) g w.heap.size 0 cs := by
 refine RepCells.of (fun ho => by have := Gh.Own.lt hI ho; omega) fun i x hx => ?_
 obtain ⟨v, h1, h2⟩ := h.get i x hx
 exact ⟨v, by rw [Nat.zero_add, World.cell?_alloc_new]; simpa using h1, h2.mono (step_alloc w g _)⟩
theorem flat_len {sz : Nat} : ∀ {rows : List (List AV)}, (∀ r ∈ rows, r.length = sz) → rows.flatten.length = rows.length * sz
 | [], _ => by simp
 | r :: rows, h => by
  rw [List.flatten_cons, List.length_append, flat_len (fun r hr => h r (by simp [hr])), h r (by simp), List.length_cons, Nat.succ_mul, Nat.add_comm]
theorem slice_lit (h : Rel G N st g a w) {t e : TypeId} {i : TypeInfo} {z : Value} {len : Nat} (hu : P.underlying t = some (.slice e)) (hi : P.info? e = some i) (hz : i.zero = some z) (hs : len * i.size ≤ 2 ^ 24) {parts : Array (Nat × Operand)}
  {rows : List (List AV)} (hr : arows i.size 0 (evq G st.fr (parts.toList.map fun (k, x) => (k, absOpd x))) = some rows) (hl : rows.length = len) :
  ∃ arr : Array Value, (Instr.buildSlice t len (parts.map fun (i, x) => (i, a.eval x))).run P w = .ok (.slice (some ⟨w.heap.size, 0, none⟩) len len) (w.alloc (.cells arr e)) ∧ RepList w g rows.flatten arr.toList ∧ (∀ r ∈ rows, r.length = i.size) ∧ arr.size = len * i.size := by
 obtain ⟨h1, h2, h3⟩ := arows_fill i.size _ 0 rows hr
 have h4 := h3 [] (by simp)
 rw [← evp_map, List.map_map] at h4
 simp only [List.nil_append] at h4
 have hp := parts_rep_arr h i.size parts.toList
 have hzz : ∀ zc : Array Value, ((Array.range (len * i.size)).map (zc[· % zc.size]!)).size = len * i.size := by simp
 by_cases h0 : len * i.size = 0
 ·have hz0 := hzz #[]
  have hb := any_rep w g ((Array.range (len * i.size)).map (fun k => (#[] : Array Value)[k % (#[] : Array Value).size]!)).toList
  rw [Array.length_toList, hz0, ← hl] at hb
  obtain ⟨arr, k1, k2⟩ := fill_sound hp hb h4
  refine ⟨arr, ?_, k2, h2, ?_⟩
  ·rw [hl] at k1
   simp only [Instr.buildSlice, Sem.run_bind, run_underlying hu, Result.andThen_ok, run_sizeOf' w hi]
   rw [if_neg (by omega), if_pos h0]
   simp only [Sem.run_pure, Result.andThen_ok, Sem.run_bind, Array.toList_map, k1]
   simp [newRow, Array.toList_map] at *
  ·have := k2.length
   simp only [Array.length_toList] at this
   rw [← this, flat_len h2, hl]
 ·have hz0 := hzz z.cells
  have hb := any_rep w g ((Array.range (len * i.size)).map (z.cells[· % z.cells.size]!)).toList
  rw [Array.length_toList, hz0, ← hl] at hb
  obtain ⟨arr, k1, k2⟩ := fill_sound hp hb h4
  refine ⟨arr, ?_, k2, h2, ?_⟩
  ·rw [hl] at k1
   exact run_buildSlice w t e len _ arr i z hu hi hz (by omega) h0 (by rw [Array.toList_map]; exact k1)
  ·have := k2.length
   simp only [Array.length_toList] at this
   rw [← this, flat_len h2, hl]
end Go.Ab
