/- A part of an abstract logic over the model's runs, proved sound against the model; no condition. -/
import Derived.Test.YthcedgclhoggcaaGreatDoorAb1
/-! The resolved code and what it does to abstract states. -/
set_option linter.unusedVariables false
namespace Go.Ab
open Go.RowKit

/-- The constant's abstract value: a nil slice is a slice without elements. -/
def AV.ofVal : Value → AV
  | .slice none 0 0 => .ls false []
  | v => .lit v
abbrev AV.int (n : Int) : AV := .lit (.int .i64 n)
abbrev AV.str (s : ByteArray) : AV := .lit (.string s)
abbrev AV.bool (b : Bool) : AV := .lit (.bool b)
/-- What a slot holds whose operation was passed over. -/
abbrev AV.und : AV := .lit (.tuple #[])

inductive Opd where
  | t (n : Nat)
  | k (v : AV)
  | g (n : Nat)
  deriving Inhabited

inductive SK where
  | i | s | b
  deriving DecidableEq, Inhabited
inductive EqK where
  | bool | slice | ptr
  | cells (ks : List SK)
  deriving Inhabited

inductive AOp where
  | mov (x : Opd)
  | pick (c a b : Opd)
  | load (ag : Bool) (n : Nat) (x : Opd)
  | fld (off : Nat) (x : Opd)
  | part (ag : Bool) (off n : Nat) (x : Opd)
  | idx (sz : Nat) (x i : Opd)
  | idxA (len sz : Nat) (x i : Opd)
  | chr (x i : Opd)
  | bin (op : BinOp) (x y : Opd)
  | eq (neg : Bool) (k : EqK) (x y : Opd)
  | not (x : Opd)
  | neg (x : Opd)
  | cvt (k : IntKind) (x : Opd)
  | same (x : Opd)
  | ext (i : Nat) (x : Opd)
  | len (x : Opd)
  | lenS (x : Opd)
  | slS (x : Opd) (lo hi : Option Opd)
  | sl (sz : Nat) (x : Opd) (lo hi : Option Opd)
  | build (zero : List AV) (parts : List (Nat × Nat × Opd))
  | box (n : Nat) (x : Opd)
  | bsl (sz : Nat) (len : Nat) (parts : List (Nat × Opd))
  | mkf (f : Fn) (caps : List Opd)
  | nilc (x : Opd)
  | alloc (E : TypeId) (zero : List AV)
  | boxo (E : TypeId) (n : Nat) (x : Opd)
  | bslo (E : TypeId) (sz : Nat) (len : Nat) (parts : List (Nat × Opd))
  | store (ag : Bool) (n : Nat) (a x : Opd)
  | app (E : TypeId) (sz bytes : Nat) (s x : Opd)
  | make (E : TypeId) (bytes : Nat) (zero : List AV) (l c : Opd)
  | clear (sz : Nat) (zero : List AV) (x : Opd)
  | call (f : FuncId) (args : List Opd)
  | callv (x : Opd) (args : List Opd)
  | bad
  deriving Inhabited

/-- An operation: where its value goes; what it does; under which guard (the guard's slot); behind which others of its region. -/
structure AOper where
  d : Option Nat
  o : AOp
  g : Option (Nat × Bool) := none
  af : List Nat := []
  deriving Inhabited

inductive ACode where
  | skip
  | reg (ops : List AOper)
  | dreg (ops : List AOper)
  | seq (a b : ACode)
  | cond (c : Opd) (a b : ACode)
  | blk (id : Nat) (b : ACode)
  | loop (b : ACode)
  | exit (id : Nat)
  | ret
  | bad
  deriving Inhabited

structure St where
  fr : Nat → AV
  H : Nat → Option AObj
  n : Nat

def upd {α : Type} (f : Nat → α) (k : Nat) (v : α) : Nat → α := fun i => if i = k then v else f i
theorem upd_same {α : Type} (f : Nat → α) (k : Nat) (v : α) : upd f k v k = v := by simp [upd]
theorem upd_ne {α : Type} (f : Nat → α) (k : Nat) (v : α) {i : Nat} (h : i ≠ k) : upd f k v i = f i := by simp [upd, h]

def put (fr : Nat → AV) (d : Option Nat) (v : AV) : Nat → AV := match d with
  | some d => upd fr d v
  | none => fr

/-- What an operand stands for. -/
def ev (G : Nat → AV) (fr : Nat → AV) : Opd → AV
  | .t n => fr n
  | .k v => v
  | .g n => G n
def evs (G : Nat → AV) (fr : Nat → AV) : List Opd → List AV
  | [] => []
  | x :: xs => ev G fr x :: evs G fr xs
def evo (G : Nat → AV) (fr : Nat → AV) : Option Opd → Option AV
  | none => none
  | some x => some (ev G fr x)

/-- The cells of a value. -/
def AV.cells? : AV → Option (List AV)
  | .agg cs => some cs
  | .any | .tup _ => none
  | .lit (.agg _) | .lit (.tuple _) => none
  | v => some [v]

def aload (H : Nat → Option AObj) (ag : Bool) (n : Nat) : AV → Option AV
  | .pp cells => if ag then (if n ≤ cells.length then some (.agg (cells.take n)) else none) else cells[0]?
  | .op i r c => match H i with
    | some o => match o.rows[r]? with
      | some row => if ag then (if c + n ≤ row.length then some (.agg ((row.drop c).take n)) else none) else row[c]?
      | none => none
    | none => none
  | _ => none
def afld (off : Nat) : AV → Option AV
  | .pp cells => some (.pp (cells.drop off))
  | .op i r c => some (.op i r (c + off))
  | _ => none
def apart (ag : Bool) (off n : Nat) : AV → Option AV
  | .agg cells => if ag then (if off + n ≤ cells.length then some (.agg ((cells.drop off).take n)) else none) else cells[off]?
  | _ => none
/-- An element's address; 'Even' is asked beside. -/
def aidx (H : Nat → Option AObj) (sz : Nat) : AV → AV → Option AV
  | .ls _ rows, .lit (.int _ i) => if 0 ≤ i then (match rows[i.toNat]? with | some r => some (.pp r) | none => none) else none
  | .os j off len, .lit (.int _ i) => if 0 ≤ i ∧ i < len then (match H j with | some o => if o.sz = sz then some (.op j (off + i.toNat) 0) else none | none => none) else none
  | _, _ => none
def aidxA (len sz : Nat) : AV → AV → Option AV
  | .pp cells, .lit (.int _ i) => if 0 ≤ i ∧ i < len then some (.pp (cells.drop (i.toNat * sz))) else none
  | .op j r c, .lit (.int _ i) => if 0 ≤ i ∧ i < len then some (.op j r (c + i.toNat * sz)) else none
  | _, _ => none
/-- Byte number i of a string. -/
def byteAt (s : ByteArray) (i : Nat) : Int := (((s.data[i]?).getD 0).toNat : Int)
def achr : AV → AV → Option AV
  | .lit (.string s), .lit (.int _ i) => if 0 ≤ i ∧ i < s.size then some (.lit (.int .u8 (byteAt s i.toNat))) else none
  | _, _ => none
def aint (op : BinOp) (k : IntKind) (a b : Int) : Option AV :=
  match op with
  | .add => some (.lit (.int k (k.wrap (a + b))))
  | .sub => some (.lit (.int k (k.wrap (a - b))))
  | .mul => some (.lit (.int k (k.wrap (a * b))))
  | .quo => if b = 0 then none else some (.lit (.int k (k.wrap (a.tdiv b))))
  | .rem => if b = 0 then none else some (.lit (.int k (a.tmod b)))
  | .eql => some (.bool (a == b))
  | .neq => some (.bool (a != b))
  | .lss => some (.bool (decide (a < b)))
  | .leq => some (.bool (decide (a ≤ b)))
  | .gtr => some (.bool (decide (b < a)))
  | .geq => some (.bool (decide (b ≤ a)))
  | _ => none
def astr (op : BinOp) (a b : ByteArray) : Option AV :=
  match op with
  | .add => if a.size + b.size ≤ 9223372036854775807 then some (.str (a ++ b)) else none
  | .eql => some (.bool (a.toList == b.toList))
  | .neq => some (.bool (!(a.toList == b.toList)))
  | .lss => some (.bool (Op.bytesLess a.toList b.toList))
  | .leq => some (.bool (Op.bytesLess a.toList b.toList || a.toList == b.toList))
  | .gtr => some (.bool (!(Op.bytesLess a.toList b.toList || a.toList == b.toList)))
  | .geq => some (.bool (!(Op.bytesLess a.toList b.toList)))
  | _ => none
def abin (op : BinOp) : AV → AV → Option AV
  | .lit (.int k a), .lit (.int k' b) => match op with
    | .shl => if b < 0 then none else some (.lit (.int k (k.wrap (a * 2 ^ (min b.toNat k.bits)))))
    | .shr => if b < 0 then none else some (.lit (.int k (a.fdiv (2 ^ (min b.toNat k.bits)))))
    | _ => if k = k' then aint op k a b else none
  | .lit (.string a), .lit (.string b) => astr op a b
  | _, _ => none
def eqOne : SK → AV → AV → Option Bool
  | .i, .lit (.int k a), .lit (.int k' b) => if k = k' then some (a == b) else none
  | .s, .lit (.string a), .lit (.string b) => some (a == b)
  | .b, .lit (.bool a), .lit (.bool b) => some (a == b)
  | _, _, _ => none
def eqAnd : Option Bool → Option Bool → Option Bool
  | some a, some b => some (a && b)
  | _, _ => none
def eqCells : List SK → List AV → List AV → Option Bool
  | [], [], [] => some true
  | k :: ks, x :: xs, y :: ys => eqAnd (eqOne k x y) (eqCells ks xs ys)
  | _, _, _ => none
def aeq : EqK → AV → AV → Option Bool
  | .bool, .lit (.bool a), .lit (.bool b) => some (a == b)
  | .slice, .ls nz _, .ls false [] => some (!nz)
  | .cells ks, .agg xs, .agg ys => eqCells ks xs ys
  | .ptr, .pp _, .lit (.pointer none) => some false
  | .ptr, .op _ _ _, .lit (.pointer none) => some false
  | .ptr, .lit (.pointer none), .lit (.pointer none) => some true
  | _, _, _ => none
def nego : Bool → Bool → Bool
  | true, b => !b
  | false, b => b
def anot : AV → Option AV
  | .lit (.bool b) => some (.bool (!b))
  | _ => none
def aneg : AV → Option AV
  | .lit (.int k n) => some (.lit (.int k (k.wrap (0 - n))))
  | _ => none
def acvt (k : IntKind) : AV → Option AV
  | .lit (.int _ n) => some (.lit (.int k (k.wrap n)))
  | _ => none
def asame : AV → Option AV
  | .lit (.string s) => some (.str s)
  | .lit (.int _ n) => some (.str (Utf8.encode n))
  | _ => none
def aext (i : Nat) : AV → Option AV
  | .tup vs => vs[i]?
  | _ => none
def alen : AV → Option AV
  | .ls _ rows => some (.int rows.length)
  | .os _ _ len => some (.int len)
  | _ => none
def alenS : AV → Option AV
  | .lit (.string s) => some (.int s.size)
  | _ => none
/-- A bound of a slice expression: 'def_' where it is not written; from 0 to y. -/
def abound (y : Nat) (def_ : Nat) : Option AV → Option Nat
  | none => some def_
  | some (.lit (.int _ i)) => if 0 ≤ i ∧ i ≤ y then some i.toNat else none
  | _ => none
def aslS (x : AV) (lo hi : Option AV) : Option AV :=
  match x with
  | .lit (.string s) => match abound s.size s.size hi with
    | some h => match abound h 0 lo with
      | some l => some (.str (s.extract l h))
      | none => none
    | none => none
  | _ => none
/-- A slice of a slice: no farther than its length. -/
def asl (x : AV) (lo hi : Option AV) : Option AV :=
  match x with
  | .ls nz rows => match abound rows.length rows.length hi with
    | some h => match abound h 0 lo with
      | some l => some (.ls nz ((rows.take h).drop l))
      | none => none
    | none => none
  | .os i off len => match abound len len hi with
    | some h => match abound h 0 lo with
      | some l => if l = 0 then some (.os i off h) else if l < h then some (.os i (off + l) (h - l)) else some (.ls true [])
      | none => none
    | none => none
  | _ => none
def splice (cells : List AV) (off : Nat) (cs : List AV) : List AV := cells.take off ++ (cs ++ cells.drop (off + cs.length))
def afill : List AV → List (Nat × Nat × AV) → Option (List AV)
  | cells, [] => some cells
  | cells, (off, sz, v) :: rest => match v.cells? with
    | some cs => if cs.length = sz ∧ off + sz ≤ cells.length then afill (splice cells off cs) rest else none
    | none => none
def evp (G : Nat → AV) (fr : Nat → AV) : List (Nat × Nat × Opd) → List (Nat × Nat × AV)
  | [] => []
  | (a, b, x) :: r => (a, b, ev G fr x) :: evp G fr r
/-- A slice literal whose places are all written, in order. -/
def arows (sz : Nat) : Nat → List (Nat × AV) → Option (List (List AV))
  | _, [] => some []
  | k, (i, v) :: rest => match v.cells? with
    | some cs => if i = k ∧ cs.length = sz then (arows sz (k + 1) rest).map fun r => cs :: r else none
    | none => none
def evq (G : Nat → AV) (fr : Nat → AV) : List (Nat × Opd) → List (Nat × AV)
  | [] => []
  | (a, x) :: r => (a, ev G fr x) :: evq G fr r
def anilc : AV → Option AV
  | .pp c => some (.pp c)
  | .op i r c => some (.op i r c)
  | .fn (.func f) caps => some (.fn (.func f) caps)
  | _ => none

def avIf : Bool → AV → AV → AV
  | true, a, _ => a
  | false, _, b => b
/-- The operations that make nothing that is owned and change nothing. -/
def aval (G : Nat → AV) (H : Nat → Option AObj) (fr : Nat → AV) : AOp → Option AV
  | .mov x => some (ev G fr x)
  | .pick c a b => match ev G fr c with
    | .lit (.bool t) => some (avIf t (ev G fr a) (ev G fr b))
    | _ => none
  | .load ag n x => aload H ag n (ev G fr x)
  | .fld off x => afld off (ev G fr x)
  | .part ag off n x => apart ag off n (ev G fr x)
  | .idxA len sz x i => aidxA len sz (ev G fr x) (ev G fr i)
  | .chr x i => achr (ev G fr x) (ev G fr i)
  | .bin op x y => abin op (ev G fr x) (ev G fr y)
  | .eq neg k x y => (aeq k (ev G fr x) (ev G fr y)).map fun b => .bool (nego neg b)
  | .not x => anot (ev G fr x)
  | .neg x => aneg (ev G fr x)
  | .cvt k x => acvt k (ev G fr x)
  | .same x => asame (ev G fr x)
  | .ext i x => aext i (ev G fr x)
  | .len x => alen (ev G fr x)
  | .lenS x => alenS (ev G fr x)
  | .slS x lo hi => aslS (ev G fr x) (evo G fr lo) (evo G fr hi)
  | .build zero parts => (afill zero (evp G fr parts)).map .agg
  | .box n x => match (ev G fr x).cells? with
    | some cs => if cs.length = n then some (.pp cs) else none
    | none => none
  | .bsl sz len parts => match arows sz 0 (evq G fr parts) with
    | some rows => if rows.length = len then some (.ls true rows) else none
    | none => none
  | .mkf f caps => some (.fn f (evs G fr caps))
  | .nilc x => anilc (ev G fr x)
  | _ => none

/-- A function that the walk enters; or one of the model's own that gives its value at once. -/
def Enters (P : Program) (f : FuncId) : Prop := ∃ fn c, P.funcs[f]? = some fn ∧ (fn.name == "runtime.NumGoroutine") = false ∧ fn.body = some c
def Invokes (P : Program) (f : FuncId) (vs : Array Value) (w : World) (R : Ending → World → Prop) : Prop :=
  (Enters P f ∧ Calls P f vs w R) ∨ ∃ v w', (callFunc f vs).run P w = .ok (.value v) w' ∧ R (.returned v) w'
theorem Invokes.mono {P : Program} {f : FuncId} {vs : Array Value} {w : World} {R R' : Ending → World → Prop} (h : Invokes P f vs w R) (hr : ∀ e w', R e w' → R' e w') : Invokes P f vs w R' := by
  rcases h with ⟨h1, h2⟩ | ⟨v, w', h1, h2⟩
  · exact .inl ⟨h1, h2.mono hr⟩
  · exact .inr ⟨v, w', h1, hr _ _ h2⟩
/-- A function's contract over abstract values: called so, it returns, and 'R' holds of what it returns and of the owned objects then. -/
def ACalls (P : Program) (G : Nat → AV) (f : FuncId) (args : List AV) (H : Nat → Option AObj) (n : Nat) (R : AV → (Nat → Option AObj) → Nat → Prop) : Prop :=
  ∀ (w : World) (g : Gh) (vs : Array Value), Inv w g → g.H = H → g.n = n → (∀ k, Rep w g (G k) (.pointer (some ⟨k, 0, none⟩))) → RepList w g args vs.toList →
    Invokes P f vs w fun e w' => ∃ v r g', e = .returned v ∧ R r g'.H g'.n ∧ Rep w' g' r v ∧ Inv w' g' ∧ Step w g w' g'
theorem ACalls.mono {P : Program} {G : Nat → AV} {f : FuncId} {args : List AV} {H : Nat → Option AObj} {n : Nat} {R R' : AV → (Nat → Option AObj) → Nat → Prop}
    (h : ACalls P G f args H n R) (hr : ∀ r H' n', R r H' n' → R' r H' n') : ACalls P G f args H n R' :=
  fun w g vs h1 h2 h3 h4 h5 => (h w g vs h1 h2 h3 h4 h5).mono fun _ _ ⟨v, r, g', k1, k2, k3⟩ => ⟨v, r, g', k1, hr _ _ _ k2, k3⟩

def astore (o : AObj) (r c : Nat) (cs : List AV) : Option AObj :=
  match o.rows[r]? with
  | some row => if c + cs.length ≤ row.length then some { o with rows := o.rows.set r (splice row c cs) } else none
  | none => none

/-- What is asked of the rows of a slice that is looked into, or cut. -/
def EvenOf (sz : Nat) : AV → Prop
  | .ls _ rows => Even sz rows
  | _ => True
def CutOk (H : Nat → Option AObj) (sz : Nat) : AV → Prop
  | .ls _ rows => Even sz rows
  | .os i _ _ => ∃ o, H i = some o ∧ o.sz = sz
  | _ => True
/-- What an operation does, handed on to 'K'. -/
def aop (P : Program) (G : Nat → AV) (o : AOp) (d : Option Nat) (st : St) (K : St → Prop) : Prop :=
  match o with
  | .idx sz x i => EvenOf sz (ev G st.fr x) ∧ ∃ v, aidx st.H sz (ev G st.fr x) (ev G st.fr i) = some v ∧ K { st with fr := put st.fr d v }
  | .sl sz x lo hi => CutOk st.H sz (ev G st.fr x) ∧ ∃ v, asl (ev G st.fr x) (evo G st.fr lo) (evo G st.fr hi) = some v ∧ K { st with fr := put st.fr d v }
  | .alloc E zero => K { fr := put st.fr d (.op st.n 0 0), H := upd st.H st.n (some ⟨E, zero.length, [zero]⟩), n := st.n + 1 }
  | .boxo E n x => ∃ cs, (ev G st.fr x).cells? = some cs ∧ cs.length = n ∧ K { fr := put st.fr d (.op st.n 0 0), H := upd st.H st.n (some ⟨E, n, [cs]⟩), n := st.n + 1 }
  | .bslo E sz len parts => ∃ rows, arows sz 0 (evq G st.fr parts) = some rows ∧ rows.length = len ∧ K { fr := put st.fr d (.os st.n 0 len), H := upd st.H st.n (some ⟨E, sz, rows⟩), n := st.n + 1 }
  | .store ag n a x => match ev G st.fr a with
    | .op i r c => ∃ o cs o', st.H i = some o ∧ (ev G st.fr x).cells? = some cs ∧ cs.length = n ∧ cs.all AV.one = true ∧ astore o r c cs = some o' ∧ K { fr := put st.fr d .any, H := upd st.H i (some o'), n := st.n }
    | _ => False
  | .app E sz bytes s x => match ev G st.fr s, ev G st.fr x with
    | .ls false [], .ls _ news => Even sz news ∧ news.length ≤ 9223372036854775807 ∧ news.length * bytes ≤ 140737488355328 ∧
        (match news with
          | [] => K { st with fr := put st.fr d (.ls false []) }
          | _ => K { fr := put st.fr d (.os st.n 0 news.length), H := upd st.H st.n (some ⟨E, sz, news⟩), n := st.n + 1 })
    | .os i off len, .ls _ news => ∃ o, st.H i = some o ∧ off = 0 ∧ o.sz = sz ∧ o.E = E ∧ o.rows.length = len ∧ Even sz news ∧ 0 < len + news.length ∧ (len + news.length) * bytes ≤ 140737488355328 ∧
        K { fr := put st.fr d (.os st.n 0 (len + news.length)), H := upd (upd st.H i none) st.n (some ⟨E, sz, o.rows ++ news⟩), n := st.n + 1 }
    | _, _ => False
  | .make E bytes zero l c => match ev G st.fr l, ev G st.fr c with
    | .lit (.int .i64 m), .lit (.int .i64 m') => 0 ≤ m ∧ m ≤ m' ∧ m' * bytes ≤ 140737488355328 ∧ m' ≤ 9223372036854775807 ∧ K { fr := put st.fr d (.os st.n 0 m.toNat), H := upd st.H st.n (some ⟨E, zero.length, List.replicate m.toNat zero⟩), n := st.n + 1 }
    | _, _ => False
  | .clear sz zero x => match ev G st.fr x with
    | .os i off len => ∃ o, st.H i = some o ∧ o.sz = sz ∧ zero.length = sz ∧ 0 < sz ∧ off + len ≤ o.rows.length ∧ K { fr := put st.fr d .any, H := upd st.H i (some { o with rows := o.rows.take off ++ (List.replicate len zero ++ o.rows.drop (off + len)) }), n := st.n }
    | _ => False
  | .call f args => ACalls P G f (evs G st.fr args) st.H st.n fun r H' n' => K { fr := put st.fr d r, H := H', n := n' }
  | .callv x args => match ev G st.fr x with
    | .fn (.func f) caps => ACalls P G f (evs G st.fr args ++ caps) st.H st.n fun r H' n' => K { fr := put st.fr d r, H := H', n := n' }
    | _ => False
  | o => ∃ v, aval G st.H st.fr o = some v ∧ K { st with fr := put st.fr d v }

/-- A list of operations, one behind the other. -/
def aops (P : Program) (G : Nat → AV) : List AOper → St → (St → Prop) → Prop
  | [], st, K => K st
  | o :: os, st, K => match o.g with
    | none => aop P G o.o o.d st fun st' => aops P G os st' K
    | some (j, want) => match st.fr j with
      | .lit (.bool b) =>
        (b = want → aop P G o.o o.d { st with fr := upd st.fr j (.bool want) } fun st' => aops P G os st' K) ∧
        (b = (!want) → aops P G os { st with fr := put (upd st.fr j (.bool (!want))) o.d .und } K)
      | .lit (.tuple _) => aops P G os { st with fr := put st.fr o.d .und } K
      | _ => False

end Go.Ab
