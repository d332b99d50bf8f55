/- A part of an abstract logic over the model's runs, proved sound against the model; no condition. -/
import Derived.Test.YthcedgclhoggcaaGreatDoorAb15
import Derived.IntWalk
/-! Rules by which a walk is reckoned: what comes later is held back till its turn. -/
set_option linter.unusedVariables false
namespace Go.Ab
/-- Holds a term back: no rule looks into it. -/
structure Wit {α : Type} (k : α) : Type where
structure WitP (k : Prop) : Type where

variable {P : Program} {G : Nat → AV}

def hold (K : AV → Prop) (_ : Wit K) (x : Option AV) : Prop := ∃ v, x = some v ∧ K v
theorem hold_some {K : AV → Prop} {w : Wit K} {v : AV} : hold K w (some v) = K v := by simp [hold]
def holdC (K : List AV → Prop) (_ : Wit K) (x : Option (List AV)) : Prop := ∃ v, x = some v ∧ K v
theorem holdC_some {K : List AV → Prop} {w : Wit K} {v : List AV} : holdC K w (some v) = K v := by simp [holdC]
def holdR (K : List (List AV) → Prop) (_ : Wit K) (x : Option (List (List AV))) : Prop := ∃ v, x = some v ∧ K v
theorem holdR_some {K : List (List AV) → Prop} {w : Wit K} {v : List (List AV)} : holdR K w (some v) = K v := by simp [holdR]
def cnd (x : Prop) (_ : WitP x) (y : Prop) (_ : WitP y) (c : AV) : Prop := match c with
  | .lit (.bool t) => (t = true → x) ∧ (t = false → y)
  | _ => False
/-- A guard: what is done where it lets by, where it does not, and where it was itself passed over. -/
def gcnd (x : Prop) (_ : WitP x) (y : Prop) (_ : WitP y) (z : Prop) (_ : WitP z) (c : AV) : Prop := match c with
  | .lit (.bool t) => (t = true → x) ∧ (t = false → y)
  | .lit (.tuple _) => z
  | _ => False
theorem gcnd_bool {x y z : Prop} {w : WitP x} {u : WitP y} {t : WitP z} {b : Bool} : gcnd x w y u z t (.lit (.bool b)) = cnd x w y u (.lit (.bool b)) := rfl
theorem gcnd_und {x y z : Prop} {w : WitP x} {u : WitP y} {t : WitP z} {vs : Array Value} : gcnd x w y u z t (.lit (.tuple vs)) = z := rfl
theorem cnd_true {x y : Prop} {w : WitP x} {u : WitP y} : cnd x w y u (.lit (.bool true)) = x := by simp [cnd]
theorem cnd_false {x y : Prop} {w : WitP x} {u : WitP y} : cnd x w y u (.lit (.bool false)) = y := by simp [cnd]
theorem cnd_intro {x y : Prop} {w : WitP x} {u : WitP y} {b : Bool} (h1 : b = true → x) (h2 : b = false → y) : cnd x w y u (.lit (.bool b)) := ⟨h1, h2⟩

def xops (P : Program) (G : Nat → AV) (K : St → Prop) (_ : Wit K) (os : List AOper) (st : St) : Prop := aops P G os st K
def xw (P : Program) (G : Nat → AV) (Q : AExit → St → Prop) (_ : Wit Q) (c : ACode) (st : St) : Prop := aw P G c Q st
def xdops (P : Program) (G : Nat → AV) (H : Nat → Option AObj) (K : (Nat → AV) → (Nat → Option AObj) → Prop) (_ : Wit K) (os : List AOper) (fr : Nat → AV) : Prop := adops P G H os fr K
def xq (Q : AExit → St → Prop) (_ : Wit Q) (e : AExit) (st : St) : Prop := Q e st
def xcall (P : Program) (G : Nat → AV) (R : AV → (Nat → Option AObj) → Nat → Prop) (_ : Wit R) (f : FuncId) (args : List AV) (H : Nat → Option AObj) (n : Nat) : Prop := ACalls P G f args H n R
def xfn (P : Program) (G : Nat → AV) (K : AV → Prop) (_ : Wit K) (f : FuncId) (args : List AV) (H : Nat → Option AObj) : Prop := ∃ v, AFn P G f args H v ∧ K v
def pr (p : Prop) (K : Prop) (_ : WitP K) : Prop := p ∧ K
theorem pr_true {K : Prop} {w : WitP K} : pr True K w = K := by simp [pr]
theorem pr_intro {p K : Prop} {w : WitP K} (h : p) (k : K) : pr p K w := ⟨h, k⟩

variable {Q : AExit → St → Prop} {w : Wit Q} {K : St → Prop} {u : Wit K} {st : St} {fr : Nat → AV} {H : Nat → Option AObj} {n : Nat}
theorem xw_skip : xw P G Q w .skip st = xq Q w .normal st := rfl
theorem xw_reg {ops : List AOper} : xw P G Q w (.reg ops) st = xops P G (fun st => xq Q w .normal st) ⟨⟩ ops st := rfl
def anyN (K : Nat → Prop) (_ : Wit K) (n : Nat) : Prop := ∀ n', n ≤ n' → K n'
theorem anyN_intro {K : Nat → Prop} {w : Wit K} {n : Nat} (h : ∀ n', n ≤ n' → K n') : anyN K w n := h
theorem xw_dreg {ops : List AOper} : xw P G Q w (.dreg ops) ⟨fr, H, n⟩ = xdops P G H (fun fr H' => anyN (fun n' => xq Q w .normal ⟨fr, H', n'⟩) ⟨⟩ n) ⟨⟩ ops fr := rfl
theorem xw_seq {x y : ACode} : xw P G Q w (.seq x y) st = xw P G (seqQ (fun st' => xw P G Q w y st') Q) ⟨⟩ x st := rfl
theorem xw_blk {id : Nat} {b : ACode} : xw P G Q w (.blk id b) st = xw P G (blkQ id Q) ⟨⟩ b st := rfl
theorem xw_exit {id : Nat} : xw P G Q w (.exit id) st = xq Q w (.exit id) st := rfl
theorem xw_ret : xw P G Q w .ret st = xq Q w .ret st := rfl
theorem xw_cond {c : Opd} {x y : ACode} : xw P G Q w (.cond c x y) ⟨fr, H, n⟩ = cnd (xw P G Q w x ⟨fr, H, n⟩) ⟨⟩ (xw P G Q w y ⟨fr, H, n⟩) ⟨⟩ (ev G fr c) := by
  simp only [xw, aw, cnd]
  generalize ev G fr c = v
  cases v with
  | lit v => cases v <;> rfl
  | _ => rfl
theorem xw_loop {b : ACode} (I : Nat → St → Prop) (m : Nat) (h0 : I m st) (h : ∀ n st, I n st → xw P G (loopQ I n Q) ⟨⟩ b st) : xw P G Q w (.loop b) st := ⟨I, m, h0, h⟩

theorem xq_seq_normal {next : St → Prop} {w : Wit (seqQ next Q)} : xq (seqQ next Q) w .normal st = next st := rfl
theorem xq_seq_exit {next : St → Prop} {k : Nat} {w : Wit (seqQ next Q)} : xq (seqQ next Q) w (.exit k) st = xq Q ⟨⟩ (.exit k) st := rfl
theorem xq_seq_ret {next : St → Prop} {w : Wit (seqQ next Q)} : xq (seqQ next Q) w .ret st = xq Q ⟨⟩ .ret st := rfl
theorem xq_blk_normal {id : Nat} {w : Wit (blkQ id Q)} : xq (blkQ id Q) w .normal st = xq Q ⟨⟩ .normal st := rfl
theorem xq_blk_exit_same {id : Nat} {w : Wit (blkQ id Q)} : xq (blkQ id Q) w (.exit id) st = xq Q ⟨⟩ .normal st := by simp [xq, blkQ]
theorem xq_blk_exit {id k : Nat} {w : Wit (blkQ id Q)} : xq (blkQ id Q) w (.exit k) st = if k = id then xq Q ⟨⟩ .normal st else xq Q ⟨⟩ (.exit k) st := rfl
theorem xq_blk_ret {id : Nat} {w : Wit (blkQ id Q)} : xq (blkQ id Q) w .ret st = xq Q ⟨⟩ .ret st := rfl
theorem xq_loop_exit {I : Nat → St → Prop} {n k : Nat} {w : Wit (loopQ I n Q)} : xq (loopQ I n Q) w (.exit k) st = xq Q ⟨⟩ (.exit k) st := rfl
theorem xq_loop_ret {I : Nat → St → Prop} {n : Nat} {w : Wit (loopQ I n Q)} : xq (loopQ I n Q) w .ret st = xq Q ⟨⟩ .ret st := rfl
/-- The loop goes round again. -/
def again (I : Nat → St → Prop) (_ : Wit I) (n : Nat) (st : St) : Prop := ∃ m, m < n ∧ ∃ st', Soft st st' ∧ I m st'
theorem xq_loop_normal {I : Nat → St → Prop} {n : Nat} {w : Wit (loopQ I n Q)} : xq (loopQ I n Q) w .normal st = again I ⟨⟩ n st := rfl
theorem again_intro {I : Nat → St → Prop} {w : Wit I} {n : Nat} (m : Nat) (hm : m < n) (h : I m st) : again I w n st := ⟨m, hm, st, Soft.refl st, h⟩
/-- The end: what is returned, and the objects then. -/
def fin (R : AV → (Nat → Option AObj) → Nat → Prop) (_ : Wit R) (x : Option AV) (H : Nat → Option AObj) (n : Nat) : Prop := ∃ r H', x = some r ∧ Sub H' H ∧ R r H' n
theorem xq_end_normal {rs : List ARes} {R : AV → (Nat → Option AObj) → Nat → Prop} {w : Wit (endQ rs R)} : xq (endQ rs R) w .normal ⟨fr, H, n⟩ = fin R ⟨⟩ (ares H fr rs) H n := rfl
theorem xq_end_ret {rs : List ARes} {R : AV → (Nat → Option AObj) → Nat → Prop} {w : Wit (endQ rs R)} : xq (endQ rs R) w .ret ⟨fr, H, n⟩ = fin R ⟨⟩ (ares H fr rs) H n := rfl
theorem fin_fn {v : AV} {H0 : Nat → Option AObj} {x : AV} {w : Wit (fun (r : AV) (H' : Nat → Option AObj) (_ : Nat) => r = v ∧ H' = H0)} : fin (fun r H' _ => r = v ∧ H' = H0) w (some x) H n = (x = v ∧ Sub H0 H) := by
  apply propext
  constructor
  · rintro ⟨r, H', h1, h2, rfl, rfl⟩; exact ⟨Option.some.inj h1, h2⟩
  · rintro ⟨h1, h2⟩; exact ⟨v, H0, by rw [h1], h2, rfl, rfl⟩
theorem fin_intro {R : AV → (Nat → Option AObj) → Nat → Prop} {w : Wit R} {x : AV} {H' : Nat → Option AObj} (h1 : Sub H' H) (h2 : R x H' n) : fin R w (some x) H n := ⟨x, H', rfl, h1, h2⟩

/-! One operation. -/
variable {d : Option Nat} {af : List Nat} {os : List AOper}
theorem xo_nil : xops P G K u [] st = K st := rfl
theorem xo_mov {x : Opd} : xops P G K u (⟨d, .mov x, none, af⟩ :: os) ⟨fr, H, n⟩ = hold (fun v => xops P G K u os ⟨put fr d v, H, n⟩) ⟨⟩ (some (ev G fr x)) := rfl
theorem xo_pick {c a b : Opd} : xops P G K u (⟨d, .pick c a b, none, af⟩ :: os) ⟨fr, H, n⟩ = hold (fun v => xops P G K u os ⟨put fr d v, H, n⟩) ⟨⟩ (match ev G fr c with
    | .lit (.bool t) => some (avIf t (ev G fr a) (ev G fr b))
    | _ => none) := rfl
theorem xo_load {ag : Bool} {m : Nat} {x : Opd} : xops P G K u (⟨d, .load ag m x, none, af⟩ :: os) ⟨fr, H, n⟩ = hold (fun v => xops P G K u os ⟨put fr d v, H, n⟩) ⟨⟩ (aload H ag m (ev G fr x)) := rfl
theorem xo_fld {off : Nat} {x : Opd} : xops P G K u (⟨d, .fld off x, none, af⟩ :: os) ⟨fr, H, n⟩ = hold (fun v => xops P G K u os ⟨put fr d v, H, n⟩) ⟨⟩ (afld off (ev G fr x)) := rfl
theorem xo_part {ag : Bool} {off m : Nat} {x : Opd} : xops P G K u (⟨d, .part ag off m x, none, af⟩ :: os) ⟨fr, H, n⟩ = hold (fun v => xops P G K u os ⟨put fr d v, H, n⟩) ⟨⟩ (apart ag off m (ev G fr x)) := rfl
theorem xo_idxA {len sz : Nat} {x i : Opd} : xops P G K u (⟨d, .idxA len sz x i, none, af⟩ :: os) ⟨fr, H, n⟩ = hold (fun v => xops P G K u os ⟨put fr d v, H, n⟩) ⟨⟩ (aidxA len sz (ev G fr x) (ev G fr i)) := rfl
theorem xo_chr {x i : Opd} : xops P G K u (⟨d, .chr x i, none, af⟩ :: os) ⟨fr, H, n⟩ = hold (fun v => xops P G K u os ⟨put fr d v, H, n⟩) ⟨⟩ (achr (ev G fr x) (ev G fr i)) := rfl
theorem xo_bin {op : BinOp} {x y : Opd} : xops P G K u (⟨d, .bin op x y, none, af⟩ :: os) ⟨fr, H, n⟩ = hold (fun v => xops P G K u os ⟨put fr d v, H, n⟩) ⟨⟩ (abin op (ev G fr x) (ev G fr y)) := rfl
theorem xo_eq {neg : Bool} {k : EqK} {x y : Opd} : xops P G K u (⟨d, .eq neg k x y, none, af⟩ :: os) ⟨fr, H, n⟩ = hold (fun v => xops P G K u os ⟨put fr d v, H, n⟩) ⟨⟩ ((aeq k (ev G fr x) (ev G fr y)).map fun b => .bool (nego neg b)) := rfl
theorem xo_not {x : Opd} : xops P G K u (⟨d, .not x, none, af⟩ :: os) ⟨fr, H, n⟩ = hold (fun v => xops P G K u os ⟨put fr d v, H, n⟩) ⟨⟩ (anot (ev G fr x)) := rfl
theorem xo_neg {x : Opd} : xops P G K u (⟨d, .neg x, none, af⟩ :: os) ⟨fr, H, n⟩ = hold (fun v => xops P G K u os ⟨put fr d v, H, n⟩) ⟨⟩ (aneg (ev G fr x)) := rfl
theorem xo_cvt {k : IntKind} {x : Opd} : xops P G K u (⟨d, .cvt k x, none, af⟩ :: os) ⟨fr, H, n⟩ = hold (fun v => xops P G K u os ⟨put fr d v, H, n⟩) ⟨⟩ (acvt k (ev G fr x)) := rfl
theorem xo_same {x : Opd} : xops P G K u (⟨d, .same x, none, af⟩ :: os) ⟨fr, H, n⟩ = hold (fun v => xops P G K u os ⟨put fr d v, H, n⟩) ⟨⟩ (asame (ev G fr x)) := rfl
theorem xo_ext {i : Nat} {x : Opd} : xops P G K u (⟨d, .ext i x, none, af⟩ :: os) ⟨fr, H, n⟩ = hold (fun v => xops P G K u os ⟨put fr d v, H, n⟩) ⟨⟩ (aext i (ev G fr x)) := rfl
theorem xo_len {x : Opd} : xops P G K u (⟨d, .len x, none, af⟩ :: os) ⟨fr, H, n⟩ = hold (fun v => xops P G K u os ⟨put fr d v, H, n⟩) ⟨⟩ (alen (ev G fr x)) := rfl
theorem xo_lenS {x : Opd} : xops P G K u (⟨d, .lenS x, none, af⟩ :: os) ⟨fr, H, n⟩ = hold (fun v => xops P G K u os ⟨put fr d v, H, n⟩) ⟨⟩ (alenS (ev G fr x)) := rfl
theorem xo_slS {x : Opd} {lo hi : Option Opd} : xops P G K u (⟨d, .slS x lo hi, none, af⟩ :: os) ⟨fr, H, n⟩ = hold (fun v => xops P G K u os ⟨put fr d v, H, n⟩) ⟨⟩ (aslS (ev G fr x) (evo G fr lo) (evo G fr hi)) := rfl
theorem xo_build {zero : List AV} {parts : List (Nat × Nat × Opd)} : xops P G K u (⟨d, .build zero parts, none, af⟩ :: os) ⟨fr, H, n⟩ = hold (fun v => xops P G K u os ⟨put fr d v, H, n⟩) ⟨⟩ ((afill zero (evp G fr parts)).map .agg) := rfl
theorem xo_box {m : Nat} {x : Opd} : xops P G K u (⟨d, .box m x, none, af⟩ :: os) ⟨fr, H, n⟩ = hold (fun v => xops P G K u os ⟨put fr d v, H, n⟩) ⟨⟩ (match (ev G fr x).cells? with
    | some cs => if cs.length = m then some (.pp cs) else none
    | none => none) := rfl
theorem xo_bsl {sz len : Nat} {parts : List (Nat × Opd)} : xops P G K u (⟨d, .bsl sz len parts, none, af⟩ :: os) ⟨fr, H, n⟩ = hold (fun v => xops P G K u os ⟨put fr d v, H, n⟩) ⟨⟩ (match arows sz 0 (evq G fr parts) with
    | some rows => if rows.length = len then some (.ls true rows) else none
    | none => none) := rfl
theorem xo_mkf {f : Fn} {caps : List Opd} : xops P G K u (⟨d, .mkf f caps, none, af⟩ :: os) ⟨fr, H, n⟩ = hold (fun v => xops P G K u os ⟨put fr d v, H, n⟩) ⟨⟩ (some (.fn f (evs G fr caps))) := rfl
theorem xo_nilc {x : Opd} : xops P G K u (⟨d, .nilc x, none, af⟩ :: os) ⟨fr, H, n⟩ = hold (fun v => xops P G K u os ⟨put fr d v, H, n⟩) ⟨⟩ (anilc (ev G fr x)) := rfl
theorem xo_idx {sz : Nat} {x i : Opd} : xops P G K u (⟨d, .idx sz x i, none, af⟩ :: os) ⟨fr, H, n⟩ = pr (EvenOf sz (ev G fr x)) (hold (fun v => xops P G K u os ⟨put fr d v, H, n⟩) ⟨⟩ (aidx H sz (ev G fr x) (ev G fr i))) ⟨⟩ := rfl
theorem xo_sl {sz : Nat} {x : Opd} {lo hi : Option Opd} : xops P G K u (⟨d, .sl sz x lo hi, none, af⟩ :: os) ⟨fr, H, n⟩ = pr (CutOk H sz (ev G fr x)) (hold (fun v => xops P G K u os ⟨put fr d v, H, n⟩) ⟨⟩ (asl (ev G fr x) (evo G fr lo) (evo G fr hi))) ⟨⟩ := rfl
/-- The objects, one of them new or changed. -/
def hu (H : Nat → Option AObj) (k : Nat) (o : Option AObj) : Nat → Option AObj := upd H k o
theorem hu_same {k : Nat} {o : Option AObj} : hu H k o k = o := upd_same _ _ _
theorem hu_ne {k i : Nat} {o : Option AObj} (h : i ≠ k) : hu H k o i = H i := upd_ne _ _ _ h
theorem xo_alloc {E : TypeId} {zero : List AV} : xops P G K u (⟨d, .alloc E zero, none, af⟩ :: os) ⟨fr, H, n⟩ = xops P G K u os ⟨put fr d (.op n 0 0), hu H n (some ⟨E, zero.length, [zero]⟩), n + 1⟩ := rfl
theorem xo_boxo {E : TypeId} {m : Nat} {x : Opd} : xops P G K u (⟨d, .boxo E m x, none, af⟩ :: os) ⟨fr, H, n⟩ = holdC (fun cs => pr (cs.length = m) (xops P G K u os ⟨put fr d (.op n 0 0), hu H n (some ⟨E, m, [cs]⟩), n + 1⟩) ⟨⟩) ⟨⟩ (ev G fr x).cells? := rfl
theorem xo_bslo {E : TypeId} {sz len : Nat} {parts : List (Nat × Opd)} : xops P G K u (⟨d, .bslo E sz len parts, none, af⟩ :: os) ⟨fr, H, n⟩ = holdR (fun rows => pr (rows.length = len) (xops P G K u os ⟨put fr d (.os n 0 len), hu H n (some ⟨E, sz, rows⟩), n + 1⟩) ⟨⟩) ⟨⟩ (arows sz 0 (evq G fr parts)) := rfl
def holdO (K : AObj → Prop) (_ : Wit K) (x : Option AObj) : Prop := ∃ v, x = some v ∧ K v
theorem holdO_some {K : AObj → Prop} {w : Wit K} {v : AObj} : holdO K w (some v) = K v := by simp [holdO]
/-- A store's parts. -/
def xstore (P : Program) (G : Nat → AV) (K : St → Prop) (u : Wit K) (os : List AOper) (d : Option Nat) (m : Nat) (fr : Nat → AV) (H : Nat → Option AObj) (n : Nat) (a x : AV) : Prop := match a with
    | .op i r c => ∃ o cs o', H i = some o ∧ x.cells? = some cs ∧ cs.length = m ∧ cs.all AV.one = true ∧ astore o r c cs = some o' ∧ xops P G K u os ⟨put fr d .any, hu H i (some o'), n⟩
    | _ => False
theorem xo_store {ag : Bool} {m : Nat} {a x : Opd} : xops P G K u (⟨d, .store ag m a x, none, af⟩ :: os) ⟨fr, H, n⟩ = xstore P G K u os d m fr H n (ev G fr a) (ev G fr x) := rfl
theorem xstore_op {m i r c : Nat} {x : AV} : xstore P G K u os d m fr H n (.op i r c) x = holdO (fun o => holdC (fun cs => pr (cs.length = m ∧ cs.all AV.one = true) (holdO (fun o' => xops P G K u os ⟨put fr d .any, hu H i (some o'), n⟩) ⟨⟩ (astore o r c cs)) ⟨⟩) ⟨⟩ x.cells?) ⟨⟩ (H i) := by
  apply propext
  simp only [xstore, holdO, holdC, pr]
  constructor
  · rintro ⟨o, cs, o', h1, h2, h3, h4, h5, h6⟩; exact ⟨o, h1, cs, h2, ⟨h3, h4⟩, o', h5, h6⟩
  · rintro ⟨o, h1, cs, h2, ⟨h3, h4⟩, o', h5, h6⟩; exact ⟨o, cs, o', h1, h2, h3, h4, h5, h6⟩
/-- Handing on rows to the end of a slice. -/
def xapp (P : Program) (G : Nat → AV) (K : St → Prop) (u : Wit K) (os : List AOper) (d : Option Nat) (E : TypeId) (sz bytes : Nat) (fr : Nat → AV) (H : Nat → Option AObj) (n : Nat) (s x : AV) : Prop := aop P G (.app E sz bytes (.k s) (.k x)) d ⟨fr, H, n⟩ fun st' => xops P G K u os st'
theorem xo_app {E : TypeId} {sz bytes : Nat} {s x : Opd} : xops P G K u (⟨d, .app E sz bytes s x, none, af⟩ :: os) ⟨fr, H, n⟩ = xapp P G K u os d E sz bytes fr H n (ev G fr s) (ev G fr x) := rfl
theorem xapp_nil {E : TypeId} {sz bytes : Nat} {nz : Bool} : xapp P G K u os d E sz bytes fr H n (.ls false []) (.ls nz []) = xops P G K u os ⟨put fr d (.ls false []), H, n⟩ := by
  apply propext
  simp [xapp, aop, ev, Even]
theorem xapp_first {E : TypeId} {sz bytes : Nat} {nz : Bool} {r : List AV} {rs : List (List AV)} (h1 : Even sz (r :: rs)) (h2 : (r :: rs).length ≤ 9223372036854775807) (h3 : (r :: rs).length * bytes ≤ 140737488355328) :
    xapp P G K u os d E sz bytes fr H n (.ls false []) (.ls nz (r :: rs)) = xops P G K u os ⟨put fr d (.os n 0 (r :: rs).length), hu H n (some ⟨E, sz, r :: rs⟩), n + 1⟩ := by
  apply propext
  simp only [xapp, aop, ev]
  exact ⟨fun h => h.2.2.2, fun h => ⟨h1, h2, h3, h⟩⟩
theorem xapp_os {E : TypeId} {sz bytes i len : Nat} {nz : Bool} {rows news : List (List AV)} (ho : H i = some ⟨E, sz, rows⟩) (hl : rows.length = len) (h1 : Even sz news) (h2 : 0 < len + news.length) (h3 : (len + news.length) * bytes ≤ 140737488355328) :
    xapp P G K u os d E sz bytes fr H n (.os i 0 len) (.ls nz news) = xops P G K u os ⟨put fr d (.os n 0 (len + news.length)), hu (hu H i none) n (some ⟨E, sz, rows ++ news⟩), n + 1⟩ := by
  apply propext
  simp only [xapp, aop, ev]
  constructor
  · rintro ⟨o, k1, _, _, _, _, _, _, _, k2⟩
    rw [ho] at k1; cases k1
    exact k2
  · intro h
    exact ⟨_, ho, trivial, rfl, rfl, hl, h1, h2, h3, h⟩
/-- Room for a slice. -/
def xmake (P : Program) (G : Nat → AV) (K : St → Prop) (u : Wit K) (os : List AOper) (d : Option Nat) (E : TypeId) (bytes : Nat) (zero : List AV) (fr : Nat → AV) (H : Nat → Option AObj) (n : Nat) (l c : AV) : Prop := aop P G (.make E bytes zero (.k l) (.k c)) d ⟨fr, H, n⟩ fun st' => xops P G K u os st'
theorem xo_make {E : TypeId} {bytes : Nat} {zero : List AV} {l c : Opd} : xops P G K u (⟨d, .make E bytes zero l c, none, af⟩ :: os) ⟨fr, H, n⟩ = xmake P G K u os d E bytes zero fr H n (ev G fr l) (ev G fr c) := rfl
theorem xmake_int {E : TypeId} {bytes : Nat} {zero : List AV} {m m' : Int} (h1 : 0 ≤ m) (h2 : m ≤ m') (h3 : m' * bytes ≤ 140737488355328) (h4 : m' ≤ 9223372036854775807) :
    xmake P G K u os d E bytes zero fr H n (.lit (.int .i64 m)) (.lit (.int .i64 m')) = xops P G K u os ⟨put fr d (.os n 0 m.toNat), hu H n (some ⟨E, zero.length, List.replicate m.toNat zero⟩), n + 1⟩ := by
  apply propext
  simp only [xmake, aop, ev]
  exact ⟨fun h => h.2.2.2.2, fun h => ⟨h1, h2, h3, h4, h⟩⟩
/-- Zeros over a slice's length. -/
def xclear (P : Program) (G : Nat → AV) (K : St → Prop) (u : Wit K) (os : List AOper) (d : Option Nat) (sz : Nat) (zero : List AV) (fr : Nat → AV) (H : Nat → Option AObj) (n : Nat) (x : AV) : Prop := aop P G (.clear sz zero (.k x)) d ⟨fr, H, n⟩ fun st' => xops P G K u os st'
theorem xo_clear {sz : Nat} {zero : List AV} {x : Opd} : xops P G K u (⟨d, .clear sz zero x, none, af⟩ :: os) ⟨fr, H, n⟩ = xclear P G K u os d sz zero fr H n (ev G fr x) := rfl
theorem xclear_os {E : TypeId} {sz i off len : Nat} {zero : List AV} {rows : List (List AV)} (ho : H i = some ⟨E, sz, rows⟩) (hz : zero.length = sz) (h0 : 0 < sz) (hl : off + len ≤ rows.length) :
    xclear P G K u os d sz zero fr H n (.os i off len) = xops P G K u os ⟨put fr d .any, hu H i (some ⟨E, sz, rows.take off ++ (List.replicate len zero ++ rows.drop (off + len))⟩), n⟩ := by
  apply propext
  simp only [xclear, aop, ev]
  constructor
  · rintro ⟨o, k1, _, _, _, _, k2⟩
    rw [ho] at k1; cases k1
    exact k2
  · intro h
    exact ⟨_, ho, rfl, hz, h0, hl, h⟩
theorem xo_call {f : FuncId} {args : List Opd} : xops P G K u (⟨d, .call f args, none, af⟩ :: os) ⟨fr, H, n⟩ = xcall P G (fun r H' n' => xops P G K u os ⟨put fr d r, H', n'⟩) ⟨⟩ f (evs G fr args) H n := rfl
def xcallv (P : Program) (G : Nat → AV) (R : AV → (Nat → Option AObj) → Nat → Prop) (u : Wit R) (x : AV) (args : List AV) (H : Nat → Option AObj) (n : Nat) : Prop := match x with
    | .fn (.func f) caps => xcall P G R u f (args ++ caps) H n
    | _ => False
theorem xcallv_fn {R : AV → (Nat → Option AObj) → Nat → Prop} {u : Wit R} {f : FuncId} {caps args : List AV} : xcallv P G R u (.fn (.func f) caps) args H n = xcall P G R u f (args ++ caps) H n := rfl
theorem xo_callv {x : Opd} {args : List Opd} : xops P G K u (⟨d, .callv x args, none, af⟩ :: os) ⟨fr, H, n⟩ = xcallv P G (fun r H' n' => xops P G K u os ⟨put fr d r, H', n'⟩) ⟨⟩ (ev G fr x) (evs G fr args) H n := rfl
/-- An operation behind a guard. -/
theorem xo_guard {o : AOp} {j : Nat} {want : Bool} : xops P G K u (⟨d, o, some (j, want), af⟩ :: os) ⟨fr, H, n⟩ = gcnd (bif want then xops P G K u (⟨d, o, none, af⟩ :: os) ⟨put fr (some j) (.bool true), H, n⟩ else xops P G K u os ⟨put (put fr (some j) (.bool true)) d .und, H, n⟩) ⟨⟩ (bif want then xops P G K u os ⟨put (put fr (some j) (.bool false)) d .und, H, n⟩ else xops P G K u (⟨d, o, none, af⟩ :: os) ⟨put fr (some j) (.bool false), H, n⟩) ⟨⟩ (xops P G K u os ⟨put fr d .und, H, n⟩) ⟨⟩ (fr j) := by
  apply propext
  simp only [xops, aops, gcnd]
  show _ ↔ match fr j with | .lit (.bool t) => _ | .lit (.tuple _) => _ | _ => _
  generalize fr j = v
  cases v with
  | lit v => cases v <;> cases want <;> first | exact Iff.rfl | exact and_comm
  | _ => exact Iff.rfl

/-! Drawn regions. -/
variable {KD : (Nat → AV) → (Nat → Option AObj) → Prop} {ud : Wit KD}
theorem xd_nil : xdops P G H KD ud [] fr = KD fr H := rfl
/-- One operation of a drawn region: it gives a value, or it stores. -/
def xdop (P : Program) (G : Nat → AV) (H : Nat → Option AObj) (K : AV → Prop) (_ : Wit K) (KS : (Nat → Option AObj) → Prop) (_ : Wit KS) (o : AOp) (d : Option Nat) (fr : Nat → AV) : Prop := (∃ v, dop P G H fr o v ∧ K v) ∨ (d = none ∧ ∃ H', SStep G o fr H H' ∧ KS H')
theorem xd_plain {o : AOp} : xdops P G H KD ud (⟨d, o, none, af⟩ :: os) fr = xdop P G H (fun v => xdops P G H KD ud os (put fr d v)) ⟨⟩ (fun H' => xdops P G H' KD ud os fr) ⟨⟩ o d fr := rfl
theorem xdop_false {K : AV → Prop} {u : Wit K} {w : Wit (fun (_ : Nat → Option AObj) => False)} {o : AOp} : xdop P G H K u (fun _ => False) w o d fr = ∃ v, dop P G H fr o v ∧ K v := by
  apply propext
  simp only [xdop, and_false, exists_false, or_false]
theorem xd_guard {o : AOp} {j : Nat} {want : Bool} : xdops P G H KD ud (⟨d, o, some (j, want), af⟩ :: os) fr = gcnd (bif want then xdop P G H (fun v => xdops P G H KD ud os (put (put fr (some j) (.bool true)) d v)) ⟨⟩ (fun _ => False) ⟨⟩ o d (put fr (some j) (.bool true)) else xdops P G H KD ud os (put (put fr (some j) (.bool true)) d .und)) ⟨⟩ (bif want then xdops P G H KD ud os (put (put fr (some j) (.bool false)) d .und) else xdop P G H (fun v => xdops P G H KD ud os (put (put fr (some j) (.bool false)) d v)) ⟨⟩ (fun _ => False) ⟨⟩ o d (put fr (some j) (.bool false))) ⟨⟩ (xdops P G H KD ud os (put fr d .und)) ⟨⟩ (fr j) := by
  apply propext
  simp only [xdops, adops, gcnd, xdop_false]
  show _ ↔ match fr j with | .lit (.bool t) => _ | .lit (.tuple _) => _ | _ => _
  generalize fr j = v
  cases v with
  | lit v => cases v <;> cases want <;> first | exact Iff.rfl | exact and_comm
  | _ => exact Iff.rfl
variable {KV : AV → Prop} {uv : Wit KV} {KS : (Nat → Option AObj) → Prop} {us : Wit KS}
theorem xdop_value {o : AOp} (hs : isStore o = false) : xdop P G H KV uv KS us o d fr = ∃ v, dop P G H fr o v ∧ KV v := by
  apply propext
  simp only [xdop]
  refine ⟨fun h => h.elim id fun ⟨_, H', h, _⟩ => ?_, .inl⟩
  cases o with
  | store => cases hs
  | _ => exact h.elim
theorem xp_mov {x : Opd} : xdop P G H KV uv KS us (.mov x) d fr = hold KV uv (some (ev G fr x)) := (xdop_value rfl).trans rfl
theorem xp_pick {c a b : Opd} : xdop P G H KV uv KS us (.pick c a b) d fr = hold KV uv (match ev G fr c with
    | .lit (.bool t) => some (avIf t (ev G fr a) (ev G fr b))
    | _ => none) := (xdop_value rfl).trans rfl
theorem xp_load {ag : Bool} {m : Nat} {x : Opd} : xdop P G H KV uv KS us (.load ag m x) d fr = hold KV uv (aload H ag m (ev G fr x)) := (xdop_value rfl).trans rfl
theorem xp_fld {off : Nat} {x : Opd} : xdop P G H KV uv KS us (.fld off x) d fr = hold KV uv (afld off (ev G fr x)) := (xdop_value rfl).trans rfl
theorem xp_part {ag : Bool} {off m : Nat} {x : Opd} : xdop P G H KV uv KS us (.part ag off m x) d fr = hold KV uv (apart ag off m (ev G fr x)) := (xdop_value rfl).trans rfl
theorem xp_idxA {len sz : Nat} {x i : Opd} : xdop P G H KV uv KS us (.idxA len sz x i) d fr = hold KV uv (aidxA len sz (ev G fr x) (ev G fr i)) := (xdop_value rfl).trans rfl
theorem xp_chr {x i : Opd} : xdop P G H KV uv KS us (.chr x i) d fr = hold KV uv (achr (ev G fr x) (ev G fr i)) := (xdop_value rfl).trans rfl
theorem xp_bin {op : BinOp} {x y : Opd} : xdop P G H KV uv KS us (.bin op x y) d fr = hold KV uv (abin op (ev G fr x) (ev G fr y)) := (xdop_value rfl).trans rfl
theorem xp_eq {neg : Bool} {k : EqK} {x y : Opd} : xdop P G H KV uv KS us (.eq neg k x y) d fr = hold KV uv ((aeq k (ev G fr x) (ev G fr y)).map fun b => .bool (nego neg b)) := (xdop_value rfl).trans rfl
theorem xp_not {x : Opd} : xdop P G H KV uv KS us (.not x) d fr = hold KV uv (anot (ev G fr x)) := (xdop_value rfl).trans rfl
theorem xp_neg {x : Opd} : xdop P G H KV uv KS us (.neg x) d fr = hold KV uv (aneg (ev G fr x)) := (xdop_value rfl).trans rfl
theorem xp_cvt {k : IntKind} {x : Opd} : xdop P G H KV uv KS us (.cvt k x) d fr = hold KV uv (acvt k (ev G fr x)) := (xdop_value rfl).trans rfl
theorem xp_same {x : Opd} : xdop P G H KV uv KS us (.same x) d fr = hold KV uv (asame (ev G fr x)) := (xdop_value rfl).trans rfl
theorem xp_ext {i : Nat} {x : Opd} : xdop P G H KV uv KS us (.ext i x) d fr = hold KV uv (aext i (ev G fr x)) := (xdop_value rfl).trans rfl
theorem xp_len {x : Opd} : xdop P G H KV uv KS us (.len x) d fr = hold KV uv (alen (ev G fr x)) := (xdop_value rfl).trans rfl
theorem xp_lenS {x : Opd} : xdop P G H KV uv KS us (.lenS x) d fr = hold KV uv (alenS (ev G fr x)) := (xdop_value rfl).trans rfl
theorem xp_slS {x : Opd} {lo hi : Option Opd} : xdop P G H KV uv KS us (.slS x lo hi) d fr = hold KV uv (aslS (ev G fr x) (evo G fr lo) (evo G fr hi)) := (xdop_value rfl).trans rfl
theorem xp_build {zero : List AV} {parts : List (Nat × Nat × Opd)} : xdop P G H KV uv KS us (.build zero parts) d fr = hold KV uv ((afill zero (evp G fr parts)).map .agg) := (xdop_value rfl).trans rfl
theorem xp_box {m : Nat} {x : Opd} : xdop P G H KV uv KS us (.box m x) d fr = hold KV uv (match (ev G fr x).cells? with
    | some cs => if cs.length = m then some (.pp cs) else none
    | none => none) := (xdop_value rfl).trans rfl
theorem xp_bsl {sz len : Nat} {parts : List (Nat × Opd)} : xdop P G H KV uv KS us (.bsl sz len parts) d fr = hold KV uv (match arows sz 0 (evq G fr parts) with
    | some rows => if rows.length = len then some (.ls true rows) else none
    | none => none) := (xdop_value rfl).trans rfl
theorem xp_mkf {f : Fn} {caps : List Opd} : xdop P G H KV uv KS us (.mkf f caps) d fr = hold KV uv (some (.fn f (evs G fr caps))) := (xdop_value rfl).trans rfl
theorem xp_nilc {x : Opd} : xdop P G H KV uv KS us (.nilc x) d fr = hold KV uv (anilc (ev G fr x)) := (xdop_value rfl).trans rfl
theorem xp_idx {sz : Nat} {x i : Opd} : xdop P G H KV uv KS us (.idx sz x i) d fr = pr (EvenOf sz (ev G fr x)) (hold KV uv (aidx H sz (ev G fr x) (ev G fr i))) ⟨⟩ := by
  rw [xdop_value rfl]
  apply propext
  simp only [dop, pr, hold]
  exact ⟨fun ⟨v, h1, h2⟩ => ⟨h1.1, v, h1.2, h2⟩, fun ⟨h1, v, h2, h3⟩ => ⟨v, ⟨h1, h2⟩, h3⟩⟩
theorem xp_sl {sz : Nat} {x : Opd} {lo hi : Option Opd} : xdop P G H KV uv KS us (.sl sz x lo hi) d fr = pr (CutOk H sz (ev G fr x)) (hold KV uv (asl (ev G fr x) (evo G fr lo) (evo G fr hi))) ⟨⟩ := by
  rw [xdop_value rfl]
  apply propext
  simp only [dop, pr, hold]
  exact ⟨fun ⟨v, h1, h2⟩ => ⟨h1.1, v, h1.2, h2⟩, fun ⟨h1, v, h2, h3⟩ => ⟨v, ⟨h1, h2⟩, h3⟩⟩
theorem xp_call {f : FuncId} {args : List Opd} : xdop P G H KV uv KS us (.call f args) d fr = xfn P G KV uv f (evs G fr args) H := (xdop_value rfl).trans rfl
def xfnv (P : Program) (G : Nat → AV) (K : AV → Prop) (u : Wit K) (x : AV) (args : List AV) (H : Nat → Option AObj) : Prop := match x with
  | .fn (.func f) caps => xfn P G K u f (args ++ caps) H
  | _ => False
theorem xfnv_fn {K : AV → Prop} {u : Wit K} {f : FuncId} {caps args : List AV} : xfnv P G K u (.fn (.func f) caps) args H = xfn P G K u f (args ++ caps) H := rfl
theorem xp_callv {x : Opd} {args : List Opd} : xdop P G H KV uv KS us (.callv x args) d fr = xfnv P G KV uv (ev G fr x) (evs G fr args) H := by
  rw [xdop_value rfl]
  apply propext
  simp only [dop, xfnv, xfn]
  generalize ev G fr x = y
  cases y with
  | fn f caps => cases f with
    | func f => exact Iff.rfl
    | _ => exact ⟨fun ⟨v, h, _⟩ => h, fun h => h.elim⟩
  | _ => exact ⟨fun ⟨v, h, _⟩ => h, fun h => h.elim⟩
theorem xfn_intro {f : FuncId} {args : List AV} {v : AV} (h : AFn P G f args H v) (k : KV v) : xfn P G KV uv f args H := ⟨v, h, k⟩

/-- A store in a drawn region. -/
def xdstore (K : (Nat → Option AObj) → Prop) (_ : Wit K) (m : Nat) (H : Nat → Option AObj) (a x : AV) : Prop := match a with
  | .op i r c => holdO (fun ob => holdC (fun cs => pr (cs.length = m ∧ cs.all AV.one = true) (holdO (fun o' => K (hu H i (some o'))) ⟨⟩ (astore ob r c cs)) ⟨⟩) ⟨⟩ x.cells?) ⟨⟩ (H i)
  | _ => False
theorem xdstore_op {m i r c : Nat} {x : AV} : xdstore KS us m H (.op i r c) x = holdO (fun ob => holdC (fun cs => pr (cs.length = m ∧ cs.all AV.one = true) (holdO (fun o' => KS (hu H i (some o'))) ⟨⟩ (astore ob r c cs)) ⟨⟩) ⟨⟩ x.cells?) ⟨⟩ (H i) := rfl
theorem xp_store {ag : Bool} {m : Nat} {a x : Opd} : xdop P G H KV uv KS us (.store ag m a x) none fr = xdstore KS us m H (ev G fr a) (ev G fr x) := by
  apply propext
  simp only [xdop, dop, aval, SStep, xdstore, holdO, holdC, pr]
  constructor
  · rintro (⟨v, h, _⟩ | ⟨_, H', ⟨i, r, c, ob, cs, o', h1, h2, h3, h4, h5, h6, rfl⟩, hK⟩)
    · cases h
    · rw [h1]
      exact ⟨ob, h2, cs, h3, ⟨h4, h5⟩, o', h6, hK⟩
  · intro h
    right
    refine ⟨trivial, ?_⟩
    generalize ev G fr a = av at h
    cases av with
    | op i r c =>
      obtain ⟨ob, h2, cs, h3, ⟨h4, h5⟩, o', h6, hK⟩ := h
      exact ⟨_, ⟨i, r, c, ob, cs, o', rfl, h2, h3, h4, h5, h6, rfl⟩, hK⟩
    | _ => exact h.elim

/-! Frames. -/
theorem put_same {k : Nat} {v : AV} : put fr (some k) v k = v := upd_same _ _ _
theorem put_at {k i : Nat} {v : AV} : put fr (some k) v i = if i = k then v else fr i := rfl
theorem put_none {i : Nat} {v : AV} : put fr none v i = fr i := rfl

theorem evenOf_ls {sz : Nat} {nz : Bool} {rows : List (List AV)} : EvenOf sz (.ls nz rows) = Even sz rows := rfl
theorem evenOf_os {sz i off len : Nat} : EvenOf sz (.os i off len) = True := rfl
theorem cutOk_ls {sz : Nat} {nz : Bool} {rows : List (List AV)} : CutOk H sz (.ls nz rows) = Even sz rows := rfl
theorem cutOk_os {sz i off len : Nat} : CutOk H sz (.os i off len) = ∃ o, H i = some o ∧ o.sz = sz := rfl
theorem aidx_split {α : Type} {sz : Nat} {nz : Bool} {c : α → List AV} {a : List α} {x : α} {b : List α} {k : IntKind} {i : Int} (hi : i = (a.length : Int)) : aidx H sz (.ls nz ((a ++ x :: b).map c)) (.lit (.int k i)) = some (.pp (c x)) := by
  subst hi
  simp [aidx]
theorem sub_refl (H : Nat → Option AObj) : Sub H H = True := eq_true (Sub.refl H)
/-- New names do not touch old objects. -/
def Low (H : Nat → Option AObj) (n : Nat) : Prop := ∀ i o, H i = some o → i < n
theorem Sub.hu {H' H : Nat → Option AObj} {n m : Nat} {o : Option AObj} (h : Sub H' H) (hl : Low H' m) (hm : m ≤ n) : Sub H' (hu H n o) := fun i x hx => by
  have := hl i x hx
  rw [hu_ne (by omega)]
  exact h i x hx
theorem Low.mono {H : Nat → Option AObj} {n m : Nat} (h : Low H n) (hm : n ≤ m) : Low H m := fun i o hi => Nat.lt_of_lt_of_le (h i o hi) hm
theorem Low.hu {H : Nat → Option AObj} {n m : Nat} {o : Option AObj} (h : Low H m) (hm : m ≤ n) {k : Nat} (hk : k < n) : Low (hu H k o) n := fun i x hx => by
  by_cases hi : i = k
  · omega
  · rw [hu_ne hi] at hx; exact Nat.lt_of_lt_of_le (h i x hx) hm

theorem AFn.calls {f : FuncId} {args : List AV} {v : AV} (h : AFn P G f args H v) {R : AV → (Nat → Option AObj) → Nat → Prop} (hR : ∀ n', n ≤ n' → R v H n') : ACalls P G f args H n R := by
  intro w g vs h1 h2 h3 h4 h5
  refine (h n w g vs h1 h2 h3 h4 h5).mono fun e w' ⟨x, r, g', k1, ⟨k2, k3⟩, k4, k5, k6⟩ => ?_
  subst k2
  refine ⟨x, r, g', k1, ?_, k4, k5, k6⟩
  rw [k3]
  exact hR _ (by rw [← h3]; exact k6.n)
theorem AFn.x {f : FuncId} {args : List AV} {v : AV} (h : AFn P G f args H v) {R : AV → (Nat → Option AObj) → Nat → Prop} {u : Wit R} (hR : ∀ n', n ≤ n' → R v H n') : xcall P G R u f args H n := h.calls hR
theorem ACalls.x {f : FuncId} {args : List AV} {R R' : AV → (Nat → Option AObj) → Nat → Prop} {u : Wit R'} (h : ACalls P G f args H n R) (hR : ∀ r H' n', R r H' n' → R' r H' n') : xcall P G R' u f args H n := h.mono hR
/-- A walk's start. -/
theorem AFn.start {own : List Nat} (hmix : P.follows .mixedOrders = true) {f : FuncId} {F : AFunc} (hf : absFn P own f = some F) {args : List AV} {v : AV} (hl : args.length ≤ F.N)
    (h : ∀ n, Low H n → xw P G (endQ F.r fun r H' _ => r = v ∧ H' = H) ⟨⟩ F.c ⟨argFr args, H, n⟩) : AFn P G f args H v := fun n => ACalls.of_aw hmix hf hl fun hlow => h n hlow
theorem ACalls.start {own : List Nat} (hmix : P.follows .mixedOrders = true) {f : FuncId} {F : AFunc} (hf : absFn P own f = some F) {args : List AV} {R : AV → (Nat → Option AObj) → Nat → Prop} (hl : args.length ≤ F.N)
    (h : Low H n → xw P G (endQ F.r R) ⟨⟩ F.c ⟨argFr args, H, n⟩) : ACalls P G f args H n R := ACalls.of_aw hmix hf hl fun hlow => h hlow

/-! Whole numbers. -/
theorem wrap64_of {x : Int} (h1 : -9223372036854775808 ≤ x) (h2 : x ≤ 9223372036854775807) : IntKind.i64.wrap x = x := IntWalk.i64_in x ⟨h1, h2⟩
theorem le_refl' (n : Nat) : (n ≤ n) = True := eq_true (Nat.le_refl n)
end Go.Ab
