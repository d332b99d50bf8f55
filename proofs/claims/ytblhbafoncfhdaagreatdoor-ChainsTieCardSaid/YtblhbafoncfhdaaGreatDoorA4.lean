/- A part of an abstract logic over the model's runs, proved sound against the model; no condition. -/
import Derived.Test.YtblhbafoncfhdaaGreatDoorA3
import Derived.IntWalk
import Derived.Laws.Strings
import Derived.Deep.Draws
set_option linter.unusedVariables false
set_option linter.unusedSimpArgs false
/-! Rules by which a walk is reckoned: what comes later is held back till its turn. -/
namespace Go.Ab
structure Wit {α : Type} (k : α) : Type where
structure WitP (k : Prop) : Type where
variable {P : Program} {G : Nat → AV}
def hold (K : AV → Prop) (_ : Wit K) (x : Option AV) : Prop := ∃ v, x = some v ∧ K v
theorem hold_some {K : AV → Prop} {w : Wit K} {v : AV} : hold K w (some v) = K v := by simp [hold]
def holdC (K : List AV → Prop) (_ : Wit K) (x : Option (List AV)) : Prop := ∃ v, x = some v ∧ K v
theorem holdC_some {K : List AV → Prop} {w : Wit K} {v : List AV} : holdC K w (some v) = K v := by simp [holdC]
def holdR (K : List (List AV) → Prop) (_ : Wit K) (x : Option (List (List AV))) : Prop := ∃ v, x = some v ∧ K v
theorem holdR_some {K : List (List AV) → Prop} {w : Wit K} {v : List (List AV)} : holdR K w (some v) = K v := by simp [holdR]
def cnd (x : Prop) (_ : WitP x) (y : Prop) (_ : WitP y) (c : AV) : Prop := match c with
 | .lit (.bool t) => (t = true → x) ∧ (t = false → y)
 | _ => False
def gcnd (x : Prop) (_ : WitP x) (y : Prop) (_ : WitP y) (z : Prop) (_ : WitP z) (c : AV) : Prop := match c with
 | .lit (.bool t) => (t = true → x) ∧ (t = false → y)
 | .lit (.tuple _) => z
 | _ => False
theorem gcnd_bool {x y z : Prop} {w : WitP x} {u : WitP y} {t : WitP z} {b : Bool} : gcnd x w y u z t (.lit (.bool b)) = cnd x w y u (.lit (.bool b)) := rfl
theorem gcnd_und {x y z : Prop} {w : WitP x} {u : WitP y} {t : WitP z} {vs : Array Value} : gcnd x w y u z t (.lit (.tuple vs)) = z := rfl
theorem cnd_true {x y : Prop} {w : WitP x} {u : WitP y} : cnd x w y u (.lit (.bool true)) = x := by simp [cnd]
theorem cnd_false {x y : Prop} {w : WitP x} {u : WitP y} : cnd x w y u (.lit (.bool false)) = y := by simp [cnd]
theorem cnd_intro {x y : Prop} {w : WitP x} {u : WitP y} {b : Bool} (h1 : b = true → x) (h2 : b = false → y) : cnd x w y u (.lit (.bool b)) := ⟨h1, h2⟩
def xops (P : Program) (G : Nat → AV) (K : St → Prop) (_ : Wit K) (os : List AOper) (st : St) : Prop := aops P G os st K
def xw (P : Program) (G : Nat → AV) (Q : AExit → St → Prop) (_ : Wit Q) (c : ACode) (st : St) : Prop := aw P G c Q st
def xdops (P : Program) (G : Nat → AV) (H : Nat → Option AObj) (K : (Nat → AV) → (Nat → Option AObj) → Prop) (_ : Wit K) (os : List AOper) (fr : Nat → AV) : Prop := adops P G H os fr K
def xq (Q : AExit → St → Prop) (_ : Wit Q) (e : AExit) (st : St) : Prop := Q e st
def xcall (P : Program) (G : Nat → AV) (R : AV → (Nat → Option AObj) → Nat → Prop) (_ : Wit R) (f : FuncId) (args : List AV) (H : Nat → Option AObj) (n : Nat) : Prop := ACalls P G f args H n R
def xfn (P : Program) (G : Nat → AV) (K : AV → Prop) (_ : Wit K) (f : FuncId) (args : List AV) (H : Nat → Option AObj) : Prop := ∃ v, AFn P G f args H v ∧ K v
def pr (p : Prop) (K : Prop) (_ : WitP K) : Prop := p ∧ K
theorem pr_true {K : Prop} {w : WitP K} : pr True K w = K := by simp [pr]
variable {Q : AExit → St → Prop} {w : Wit Q} {K : St → Prop} {u : Wit K} {st : St} {fr : Nat → AV} {H : Nat → Option AObj} {n : Nat}
theorem xw_skip : xw P G Q w .skip st = xq Q w .normal st := rfl
theorem xw_reg {ops : List AOper} : xw P G Q w (.reg ops) st = xops P G (fun st => xq Q w .normal st) ⟨⟩ ops st := rfl
def anyN (K : Nat → Prop) (_ : Wit K) (n : Nat) : Prop := ∀ n', n ≤ n' → K n'
theorem anyN_intro {K : Nat → Prop} {w : Wit K} {n : Nat} (h : ∀ n', n ≤ n' → K n') : anyN K w n := h
theorem xw_dreg {ops : List AOper} : xw P G Q w (.dreg ops) ⟨fr, H, n⟩ = xdops P G H (fun fr H' => anyN (fun n' => xq Q w .normal ⟨fr, H', n'⟩) ⟨⟩ n) ⟨⟩ ops fr := rfl
theorem xw_seq {x y : ACode} : xw P G Q w (.seq x y) st = xw P G (seqQ (fun st' => xw P G Q w y st') Q) ⟨⟩ x st := rfl
theorem xw_blk {id : Nat} {b : ACode} : xw P G Q w (.blk id b) st = xw P G (blkQ id Q) ⟨⟩ b st := rfl
theorem xw_exit {id : Nat} : xw P G Q w (.exit id) st = xq Q w (.exit id) st := rfl
theorem xw_ret : xw P G Q w .ret st = xq Q w .ret st := rfl
theorem xw_cond {c : Opd} {x y : ACode} : xw P G Q w (.cond c x y) ⟨fr, H, n⟩ = cnd (xw P G Q w x ⟨fr, H, n⟩) ⟨⟩ (xw P G Q w y ⟨fr, H, n⟩) ⟨⟩ (ev G fr c) := by
 simp only [xw, aw, cnd]
 generalize ev G fr c = v
 cases v with
 | lit v => cases v <;> rfl
 | _ => rfl
theorem xw_loop {b : ACode} (I : Nat → St → Prop) (m : Nat) (h0 : I m st) (h : ∀ n st, I n st → xw P G (loopQ I n Q) ⟨⟩ b st) : xw P G Q w (.loop b) st := ⟨I, m, ⟨st, Soft.refl st, h0⟩, h⟩
theorem xq_seq_normal {next : St → Prop} {w : Wit (seqQ next Q)} : xq (seqQ next Q) w .normal st = next st := rfl
theorem xq_seq_exit {next : St → Prop} {k : Nat} {w : Wit (seqQ next Q)} : xq (seqQ next Q) w (.exit k) st = xq Q ⟨⟩ (.exit k) st := rfl
theorem xq_seq_ret {next : St → Prop} {w : Wit (seqQ next Q)} : xq (seqQ next Q) w .ret st = xq Q ⟨⟩ .ret st := rfl
theorem xq_blk_normal {id : Nat} {w : Wit (blkQ id Q)} : xq (blkQ id Q) w .normal st = xq Q ⟨⟩ .normal st := rfl
theorem xq_blk_exit_same {id : Nat} {w : Wit (blkQ id Q)} : xq (blkQ id Q) w (.exit id) st = xq Q ⟨⟩ .normal st := by simp [xq, blkQ]
theorem xq_blk_exit {id k : Nat} {w : Wit (blkQ id Q)} : xq (blkQ id Q) w (.exit k) st = if k = id then xq Q ⟨⟩ .normal st else xq Q ⟨⟩ (.exit k) st := rfl
theorem xq_blk_ret {id : Nat} {w : Wit (blkQ id Q)} : xq (blkQ id Q) w .ret st = xq Q ⟨⟩ .ret st := rfl
theorem xq_loop_exit {I : Nat → St → Prop} {n k : Nat} {w : Wit (loopQ I n Q)} : xq (loopQ I n Q) w (.exit k) st = xq Q ⟨⟩ (.exit k) st := rfl
theorem xq_loop_ret {I : Nat → St → Prop} {n : Nat} {w : Wit (loopQ I n Q)} : xq (loopQ I n Q) w .ret st = xq Q ⟨⟩ .ret st := rfl
def again (I : Nat → St → Prop) (_ : Wit I) (n : Nat) (st : St) : Prop := ∃ m, m < n ∧ ∃ st', Soft st st' ∧ I m st'
theorem xq_loop_normal {I : Nat → St → Prop} {n : Nat} {w : Wit (loopQ I n Q)} : xq (loopQ I n Q) w .normal st = again I ⟨⟩ n st := rfl
theorem again_intro {I : Nat → St → Prop} {w : Wit I} {n : Nat} (m : Nat) (hm : m < n) (h : I m st) : again I w n st := ⟨m, hm, st, Soft.refl st, h⟩
def fin (R : AV → (Nat → Option AObj) → Nat → Prop) (_ : Wit R) (x : Option AV) (H : Nat → Option AObj) (n : Nat) : Prop := ∃ r H', x = some r ∧ Sub H' H ∧ R r H' n
theorem xq_end_normal {rs : List ARes} {R : AV → (Nat → Option AObj) → Nat → Prop} {w : Wit (endQ rs R)} : xq (endQ rs R) w .normal ⟨fr, H, n⟩ = fin R ⟨⟩ (ares H fr rs) H n := rfl
theorem xq_end_ret {rs : List ARes} {R : AV → (Nat → Option AObj) → Nat → Prop} {w : Wit (endQ rs R)} : xq (endQ rs R) w .ret ⟨fr, H, n⟩ = fin R ⟨⟩ (ares H fr rs) H n := rfl
theorem fin_fn {v : AV} {H0 : Nat → Option AObj} {x : AV} {w : Wit (fun (r : AV) (H' : Nat → Option AObj) (_ : Nat) => r = v ∧ H' = H0)} : fin (fun r H' _ => r = v ∧ H' = H0) w (some x) H n = (x = v ∧ Sub H0 H) := by
 apply propext
 constructor
 ·rintro ⟨r, H', h1, h2, rfl, rfl⟩; exact ⟨Option.some.inj h1, h2⟩
 ·rintro ⟨h1, h2⟩; exact ⟨v, H0, by rw [h1], h2, rfl, rfl⟩
theorem fin_intro {R : AV → (Nat → Option AObj) → Nat → Prop} {w : Wit R} {x : AV} {H' : Nat → Option AObj} (h1 : Sub H' H) (h2 : R x H' n) : fin R w (some x) H n := ⟨x, H', rfl, h1, h2⟩
/-! One operation. -/
variable {d : Option Nat} {af : List Nat} {os : List AOper}
theorem xo_nil : xops P G K u [] st = K st := rfl
theorem xo_mov {x : Opd} : xops P G K u (⟨d, .mov x, none, af⟩ :: os) ⟨fr, H, n⟩ = hold (fun v => xops P G K u os ⟨put fr d v, H, n⟩) ⟨⟩ (some (ev G fr x)) := rfl
theorem xo_pick {c a b : Opd} : xops P G K u (⟨d, .pick c a b, none, af⟩ :: os) ⟨fr, H, n⟩ = hold (fun v => xops P G K u os ⟨put fr d v, H, n⟩) ⟨⟩ (match ev G fr c with
  | .lit (.bool t) => some (avIf t (ev G fr a) (ev G fr b))
  | _ => none) := rfl
theorem xo_load {ag : Bool} {m : Nat} {x : Opd} : xops P G K u (⟨d, .load ag m x, none, af⟩ :: os) ⟨fr, H, n⟩ = hold (fun v => xops P G K u os ⟨put fr d v, H, n⟩) ⟨⟩ (aload H ag m (ev G fr x)) := rfl
theorem xo_fld {off : Nat} {x : Opd} : xops P G K u (⟨d, .fld off x, none, af⟩ :: os) ⟨fr, H, n⟩ = hold (fun v => xops P G K u os ⟨put fr d v, H, n⟩) ⟨⟩ (afld off (ev G fr x)) := rfl
theorem xo_part {ag : Bool} {off m : Nat} {x : Opd} : xops P G K u (⟨d, .part ag off m x, none, af⟩ :: os) ⟨fr, H, n⟩ = hold (fun v => xops P G K u os ⟨put fr d v, H, n⟩) ⟨⟩ (apart ag off m (ev G fr x)) := rfl
theorem xo_idxV {ag : Bool} {len sz : Nat} {x i : Opd} : xops P G K u (⟨d, .idxV ag len sz x i, none, af⟩ :: os) ⟨fr, H, n⟩ = hold (fun v => xops P G K u os ⟨put fr d v, H, n⟩) ⟨⟩ (aidxV ag len sz (ev G fr x) (ev G fr i)) := rfl
theorem xo_idxA {len sz : Nat} {x i : Opd} : xops P G K u (⟨d, .idxA len sz x i, none, af⟩ :: os) ⟨fr, H, n⟩ = hold (fun v => xops P G K u os ⟨put fr d v, H, n⟩) ⟨⟩ (aidxA len sz (ev G fr x) (ev G fr i)) := rfl
theorem xo_chr {x i : Opd} : xops P G K u (⟨d, .chr x i, none, af⟩ :: os) ⟨fr, H, n⟩ = hold (fun v => xops P G K u os ⟨put fr d v, H, n⟩) ⟨⟩ (achr (ev G fr x) (ev G fr i)) := rfl
theorem xo_bin {op : BinOp} {x y : Opd} : xops P G K u (⟨d, .bin op x y, none, af⟩ :: os) ⟨fr, H, n⟩ = hold (fun v => xops P G K u os ⟨put fr d v, H, n⟩) ⟨⟩ (abin op (ev G fr x) (ev G fr y)) := rfl
theorem xo_eq {neg : Bool} {k : EqK} {x y : Opd} : xops P G K u (⟨d, .eq neg k x y, none, af⟩ :: os) ⟨fr, H, n⟩ = hold (fun v => xops P G K u os ⟨put fr d v, H, n⟩) ⟨⟩ ((aeq k (ev G fr x) (ev G fr y)).map fun b => .bool (nego neg b)) := rfl
theorem xo_not {x : Opd} : xops P G K u (⟨d, .not x, none, af⟩ :: os) ⟨fr, H, n⟩ = hold (fun v => xops P G K u os ⟨put fr d v, H, n⟩) ⟨⟩ (anot (ev G fr x)) := rfl
theorem xo_neg {x : Opd} : xops P G K u (⟨d, .neg x, none, af⟩ :: os) ⟨fr, H, n⟩ = hold (fun v => xops P G K u os ⟨put fr d v, H, n⟩) ⟨⟩ (aneg (ev G fr x)) := rfl
theorem xo_mm {mx : Bool} {x y : Opd} : xops P G K u (⟨d, .mm mx x y, none, af⟩ :: os) ⟨fr, H, n⟩ = hold (fun v => xops P G K u os ⟨put fr d v, H, n⟩) ⟨⟩ (amm mx (ev G fr x) (ev G fr y)) := rfl
theorem xo_mm3 {mx : Bool} {x y z : Opd} : xops P G K u (⟨d, .mm3 mx x y z, none, af⟩ :: os) ⟨fr, H, n⟩ = hold (fun v => xops P G K u os ⟨put fr d v, H, n⟩) ⟨⟩ (amm3 mx (ev G fr x) (ev G fr y) (ev G fr z)) := rfl
theorem xo_cvt {k : IntKind} {x : Opd} : xops P G K u (⟨d, .cvt k x, none, af⟩ :: os) ⟨fr, H, n⟩ = hold (fun v => xops P G K u os ⟨put fr d v, H, n⟩) ⟨⟩ (acvt k (ev G fr x)) := rfl
theorem xo_same {x : Opd} : xops P G K u (⟨d, .same x, none, af⟩ :: os) ⟨fr, H, n⟩ = hold (fun v => xops P G K u os ⟨put fr d v, H, n⟩) ⟨⟩ (asame (ev G fr x)) := rfl
theorem xo_ext {i : Nat} {x : Opd} : xops P G K u (⟨d, .ext i x, none, af⟩ :: os) ⟨fr, H, n⟩ = hold (fun v => xops P G K u os ⟨put fr d v, H, n⟩) ⟨⟩ (aext i (ev G fr x)) := rfl
theorem xo_len {x : Opd} : xops P G K u (⟨d, .len x, none, af⟩ :: os) ⟨fr, H, n⟩ = hold (fun v => xops P G K u os ⟨put fr d v, H, n⟩) ⟨⟩ (alen (ev G fr x)) := rfl
theorem xo_lenS {x : Opd} : xops P G K u (⟨d, .lenS x, none, af⟩ :: os) ⟨fr, H, n⟩ = hold (fun v => xops P G K u os ⟨put fr d v, H, n⟩) ⟨⟩ (alenS (ev G fr x)) := rfl
theorem xo_cap {x : Opd} : xops P G K u (⟨d, .cap x, none, af⟩ :: os) ⟨fr, H, n⟩ = hold (fun v => xops P G K u os ⟨put fr d v, H, n⟩) ⟨⟩ (acap (ev G fr x)) := rfl
theorem xo_slS {x : Opd} {lo hi : Option Opd} : xops P G K u (⟨d, .slS x lo hi, none, af⟩ :: os) ⟨fr, H, n⟩ = hold (fun v => xops P G K u os ⟨put fr d v, H, n⟩) ⟨⟩ (aslS (ev G fr x) (evo G fr lo) (evo G fr hi)) := rfl
theorem xo_build {zero : List AV} {parts : List (Nat × Nat × Opd)} : xops P G K u (⟨d, .build zero parts, none, af⟩ :: os) ⟨fr, H, n⟩ = hold (fun v => xops P G K u os ⟨put fr d v, H, n⟩) ⟨⟩ ((afill zero (evp G fr parts)).map .agg) := rfl
theorem xo_box {m : Nat} {x : Opd} : xops P G K u (⟨d, .box m x, none, af⟩ :: os) ⟨fr, H, n⟩ = hold (fun v => xops P G K u os ⟨put fr d v, H, n⟩) ⟨⟩ (match (ev G fr x).cells? with
  | some cs => if cs.length = m then some (.pp cs) else none
  | none => none) := rfl
theorem xo_bsl {sz len : Nat} {parts : List (Nat × Opd)} : xops P G K u (⟨d, .bsl sz len parts, none, af⟩ :: os) ⟨fr, H, n⟩ = hold (fun v => xops P G K u os ⟨put fr d v, H, n⟩) ⟨⟩ (match arows sz 0 (evq G fr parts) with
  | some rows => if rows.length = len then some (.ls true rows) else none
  | none => none) := rfl
theorem xo_mkf {f : Fn} {caps : List Opd} : xops P G K u (⟨d, .mkf f caps, none, af⟩ :: os) ⟨fr, H, n⟩ = hold (fun v => xops P G K u os ⟨put fr d v, H, n⟩) ⟨⟩ (some (.fn f (evs G fr caps))) := rfl
theorem xo_nilc {x : Opd} : xops P G K u (⟨d, .nilc x, none, af⟩ :: os) ⟨fr, H, n⟩ = hold (fun v => xops P G K u os ⟨put fr d v, H, n⟩) ⟨⟩ (anilc (ev G fr x)) := rfl
theorem xo_idx {sz : Nat} {x i : Opd} : xops P G K u (⟨d, .idx sz x i, none, af⟩ :: os) ⟨fr, H, n⟩ = pr (EvenOf sz (ev G fr x)) (hold (fun v => xops P G K u os ⟨put fr d v, H, n⟩) ⟨⟩ (aidx H sz (ev G fr x) (ev G fr i))) ⟨⟩ := rfl
theorem xo_sl {sz : Nat} {x : Opd} {lo hi : Option Opd} : xops P G K u (⟨d, .sl sz x lo hi, none, af⟩ :: os) ⟨fr, H, n⟩ = pr (CutOk H sz (ev G fr x)) (hold (fun v => xops P G K u os ⟨put fr d v, H, n⟩) ⟨⟩ (asl (ev G fr x) (evo G fr lo) (evo G fr hi))) ⟨⟩ := rfl
def hu (H : Nat → Option AObj) (k : Nat) (o : Option AObj) : Nat → Option AObj := upd H k o
theorem hu_same {k : Nat} {o : Option AObj} : hu H k o k = o := upd_same _ _ _
theorem hu_ne {k i : Nat} {o : Option AObj} (h : i ≠ k) : hu H k o i = H i := upd_ne _ _ _ h
theorem xo_alloc {E : TypeId} {zero : List AV} : xops P G K u (⟨d, .alloc E zero, none, af⟩ :: os) ⟨fr, H, n⟩ = xops P G K u os ⟨put fr d (.op n 0 0), hu H n (some ⟨E, zero.length, [zero]⟩), n + 1⟩ := rfl
theorem xo_boxo {E : TypeId} {m : Nat} {x : Opd} : xops P G K u (⟨d, .boxo E m x, none, af⟩ :: os) ⟨fr, H, n⟩ = holdC (fun cs => pr (cs.length = m) (xops P G K u os ⟨put fr d (.op n 0 0), hu H n (some ⟨E, m, [cs]⟩), n + 1⟩) ⟨⟩) ⟨⟩ (ev G fr x).cells? := rfl
theorem xo_bslo {E : TypeId} {sz len : Nat} {parts : List (Nat × Opd)} : xops P G K u (⟨d, .bslo E sz len parts, none, af⟩ :: os) ⟨fr, H, n⟩ = holdR (fun rows => pr (rows.length = len) (xops P G K u os ⟨put fr d (.os n 0 len), hu H n (some ⟨E, sz, rows⟩), n + 1⟩) ⟨⟩) ⟨⟩ (arows sz 0 (evq G fr parts)) := rfl
def holdO (K : AObj → Prop) (_ : Wit K) (x : Option AObj) : Prop := ∃ v, x = some v ∧ K v
theorem holdO_some {K : AObj → Prop} {w : Wit K} {v : AObj} : holdO K w (some v) = K v := by simp [holdO]
def xstore (P : Program) (G : Nat → AV) (K : St → Prop) (u : Wit K) (os : List AOper) (d : Option Nat) (m : Nat) (fr : Nat → AV) (H : Nat → Option AObj) (n : Nat) (a x : AV) : Prop := match a with
  | .op i r c => ∃ o cs o', H i = some o ∧ x.cells? = some cs ∧ cs.length = m ∧ cs.all AV.one = true ∧ astore o r c cs = some o' ∧ xops P G K u os ⟨put fr d .any, hu H i (some o'), n⟩
  | _ => False
theorem xo_store {ag : Bool} {m : Nat} {a x : Opd} : xops P G K u (⟨d, .store ag m a x, none, af⟩ :: os) ⟨fr, H, n⟩ = xstore P G K u os d m fr H n (ev G fr a) (ev G fr x) := rfl
theorem xstore_op {m i r c : Nat} {x : AV} : xstore P G K u os d m fr H n (.op i r c) x = holdO (fun o => holdC (fun cs => pr (cs.length = m ∧ cs.all AV.one = true) (holdO (fun o' => xops P G K u os ⟨put fr d .any, hu H i (some o'), n⟩) ⟨⟩ (astore o r c cs)) ⟨⟩) ⟨⟩ x.cells?) ⟨⟩ (H i) := by
 apply propext
 simp only [xstore, holdO, holdC, pr]
 constructor
 ·rintro ⟨o, cs, o', h1, h2, h3, h4, h5, h6⟩; exact ⟨o, h1, cs, h2, ⟨h3, h4⟩, o', h5, h6⟩
 ·rintro ⟨o, h1, cs, h2, ⟨h3, h4⟩, o', h5, h6⟩; exact ⟨o, cs, o', h1, h2, h3, h4, h5, h6⟩
def xapp (P : Program) (G : Nat → AV) (K : St → Prop) (u : Wit K) (os : List AOper) (d : Option Nat) (E : TypeId) (sz bytes : Nat) (fr : Nat → AV) (H : Nat → Option AObj) (n : Nat) (s x : AV) : Prop := aop P G (.app E sz bytes (.k s) (.k x)) d ⟨fr, H, n⟩ fun st' => xops P G K u os st'
theorem xo_app {E : TypeId} {sz bytes : Nat} {s x : Opd} : xops P G K u (⟨d, .app E sz bytes s x, none, af⟩ :: os) ⟨fr, H, n⟩ = xapp P G K u os d E sz bytes fr H n (ev G fr s) (ev G fr x) := rfl
theorem xapp_nil {E : TypeId} {sz bytes : Nat} {nz : Bool} : xapp P G K u os d E sz bytes fr H n (.ls false []) (.ls nz []) = xops P G K u os ⟨put fr d (.ls false []), H, n⟩ := by
 apply propext
 simp [xapp, aop, ev, srcRows, Even]
theorem xapp_first {E : TypeId} {sz bytes : Nat} {nz : Bool} {r : List AV} {rs : List (List AV)} (h1 : Even sz (r :: rs)) (h2 : (r :: rs).length ≤ 9223372036854775807) (h3 : (r :: rs).length * bytes ≤ 140737488355328) :
  xapp P G K u os d E sz bytes fr H n (.ls false []) (.ls nz (r :: rs)) = xops P G K u os ⟨put fr d (.os n 0 (r :: rs).length), hu H n (some ⟨E, sz, r :: rs⟩), n + 1⟩ := by
 apply propext
 simp only [xapp, aop, ev, srcRows]
 exact ⟨fun h => h.2.2.2, fun h => ⟨h1, h2, h3, h⟩⟩
theorem xapp_src {E : TypeId} {sz bytes i len : Nat} {x : AV} {rows news : List (List AV)} (ho : H i = some ⟨E, sz, rows⟩) (hl : len ≤ rows.length) (hx : srcRows H x = some news) (h1 : Even sz news) (h2 : 0 < len + news.length) (h3 : (len + news.length) * bytes ≤ 140737488355328) :
  xapp P G K u os d E sz bytes fr H n (.os i 0 len) x = xops P G K u os ⟨put fr d (.os n 0 (len + news.length)), hu (hu H i none) n (some ⟨E, sz, rows.take len ++ news⟩), n + 1⟩ := by
 apply propext
 simp only [xapp, aop, ev, hx]
 constructor
 ·rintro (⟨k0, _⟩ | ⟨o, k1, _, _, _, _, _, _, _, k2⟩ | ⟨o, k1, _, _, _, _, _, _, k2, _⟩)
  ·omega
  ·rw [ho] at k1; cases k1
   exact k2
  ·rw [ho] at k1; cases k1
   rw [Nat.zero_add] at k2
   exact k2
 ·intro h
  exact .inr (.inl ⟨_, ho, trivial, rfl, rfl, hl, h1, h2, h3, h⟩)
theorem xapp_off {E : TypeId} {sz bytes i off len : Nat} {x : AV} {rows news : List (List AV)} (ho : H i = some ⟨E, sz, rows⟩) (hl : off + len ≤ rows.length) (hx : srcRows H x = some news) (h1 : Even sz news) (h2 : 0 < len + news.length) (h3 : (off + len + news.length) * bytes ≤ 140737488355328)
  (h : ∀ off' rows', rows'.length = off' + len + news.length → off' ≤ off → (rows'.drop off') = (rows.drop off).take len ++ news → xops P G K u os ⟨put fr d (.os n off' (len + news.length)), hu (hu H i none) n (some ⟨E, sz, rows'⟩), n + 1⟩) : xapp P G K u os d E sz bytes fr H n (.os i off len) x := by
 simp only [xapp, aop, ev, hx]
 refine .inr (.inr ⟨_, ho, rfl, rfl, hl, h1, h2, h3, h _ _ ?_ (Nat.le_refl _) ?_, h _ _ ?_ (Nat.zero_le _) ?_⟩)
 ·rw [List.length_append, List.length_take, Nat.min_eq_left hl]
 ·show (rows.take (off + len) ++ news).drop off = _
  rw [List.drop_append_of_le_length (by rw [List.length_take]; omega), List.drop_take, show off + len - off = len from by omega]
 ·show ((rows.drop off).take len ++ news).length = _
  rw [List.length_append, List.length_take, List.length_drop]; omega
 ·rfl
theorem xapp_srcN {E : TypeId} {sz bytes : Nat} {x : AV} {r : List AV} {rs : List (List AV)} (hx : srcRows H x = some (r :: rs)) (h1 : Even sz (r :: rs)) (h2 : (r :: rs).length ≤ 9223372036854775807) (h3 : (r :: rs).length * bytes ≤ 140737488355328) :
  xapp P G K u os d E sz bytes fr H n (.ls false []) x = xops P G K u os ⟨put fr d (.os n 0 (r :: rs).length), hu H n (some ⟨E, sz, r :: rs⟩), n + 1⟩ := by
 apply propext
 simp only [xapp, aop, ev, hx]
 exact ⟨fun h => h.2.2.2, fun h => ⟨h1, h2, h3, h⟩⟩
theorem xapp_os {E : TypeId} {sz bytes i len : Nat} {nz : Bool} {rows news : List (List AV)} (ho : H i = some ⟨E, sz, rows⟩) (hl : rows.length = len) (h1 : Even sz news) (h2 : 0 < len + news.length) (h3 : (len + news.length) * bytes ≤ 140737488355328) :
  xapp P G K u os d E sz bytes fr H n (.os i 0 len) (.ls nz news) = xops P G K u os ⟨put fr d (.os n 0 (len + news.length)), hu (hu H i none) n (some ⟨E, sz, rows ++ news⟩), n + 1⟩ := by
 rw [xapp_src ho (by omega) rfl h1 h2 h3, ← hl, List.take_length]
def xappz (P : Program) (G : Nat → AV) (K : St → Prop) (u : Wit K) (os : List AOper) (d : Option Nat) (E : TypeId) (sz bytes : Nat) (zero : List AV) (fr : Nat → AV) (H : Nat → Option AObj) (n : Nat) (s m : AV) : Prop := aop P G (.appz E sz bytes zero (.k s) (.k m)) d ⟨fr, H, n⟩ fun st' => xops P G K u os st'
theorem xo_appz {E : TypeId} {sz bytes : Nat} {zero : List AV} {s m : Opd} : xops P G K u (⟨d, .appz E sz bytes zero s m, none, af⟩ :: os) ⟨fr, H, n⟩ = xappz P G K u os d E sz bytes zero fr H n (ev G fr s) (ev G fr m) := rfl
def xmake (P : Program) (G : Nat → AV) (K : St → Prop) (u : Wit K) (os : List AOper) (d : Option Nat) (E : TypeId) (bytes : Nat) (zero : List AV) (fr : Nat → AV) (H : Nat → Option AObj) (n : Nat) (l c : AV) : Prop := aop P G (.make E bytes zero (.k l) (.k c)) d ⟨fr, H, n⟩ fun st' => xops P G K u os st'
theorem xo_make {E : TypeId} {bytes : Nat} {zero : List AV} {l c : Opd} : xops P G K u (⟨d, .make E bytes zero l c, none, af⟩ :: os) ⟨fr, H, n⟩ = xmake P G K u os d E bytes zero fr H n (ev G fr l) (ev G fr c) := rfl
theorem xmake_int {E : TypeId} {bytes : Nat} {zero : List AV} {m m' : Int} (h1 : 0 ≤ m) (h2 : m ≤ m') (h3 : m' * bytes ≤ 140737488355328) (h4 : m' ≤ 9223372036854775807) :
  xmake P G K u os d E bytes zero fr H n (.lit (.int .i64 m)) (.lit (.int .i64 m')) = xops P G K u os ⟨put fr d (.os n 0 m.toNat), hu H n (some ⟨E, zero.length, List.replicate m.toNat zero⟩), n + 1⟩ := by
 apply propext
 simp only [xmake, aop, ev]
 exact ⟨fun h => h.2.2.2.2, fun h => ⟨h1, h2, h3, h4, h⟩⟩
def xcopy (P : Program) (G : Nat → AV) (K : St → Prop) (u : Wit K) (os : List AOper) (d : Option Nat) (sz : Nat) (fr : Nat → AV) (H : Nat → Option AObj) (n : Nat) (x y : AV) : Prop := aop P G (.copy sz (.k x) (.k y)) d ⟨fr, H, n⟩ fun st' => xops P G K u os st'
theorem xo_copy {sz : Nat} {x y : Opd} : xops P G K u (⟨d, .copy sz x y, none, af⟩ :: os) ⟨fr, H, n⟩ = xcopy P G K u os d sz fr H n (ev G fr x) (ev G fr y) := rfl
theorem xcopy_os {E : TypeId} {sz i off len m : Nat} {y : AV} {rows news : List (List AV)} (ho : H i = some ⟨E, sz, rows⟩) (hl : off + len ≤ rows.length) (hy : srcRows H y = some news) (hev : Even sz news) (hm : Nat.min news.length len = m) :
  xcopy P G K u os d sz fr H n (.os i off len) y = xops P G K u os ⟨put fr d (.int (m : Nat)), hu H i (some ⟨E, sz, rows.take off ++ (news.take m ++ rows.drop (off + m))⟩), n⟩ := by
 subst hm
 apply propext
 simp only [xcopy, aop, ev, hy]
 constructor
 ·rintro ⟨o, k1, _, _, _, k2⟩
  rw [ho] at k1; cases k1
  exact k2
 ·intro h
  exact ⟨_, ho, rfl, hev, hl, h⟩
def xclear (P : Program) (G : Nat → AV) (K : St → Prop) (u : Wit K) (os : List AOper) (d : Option Nat) (sz : Nat) (zero : List AV) (fr : Nat → AV) (H : Nat → Option AObj) (n : Nat) (x : AV) : Prop := aop P G (.clear sz zero (.k x)) d ⟨fr, H, n⟩ fun st' => xops P G K u os st'
theorem xo_clear {sz : Nat} {zero : List AV} {x : Opd} : xops P G K u (⟨d, .clear sz zero x, none, af⟩ :: os) ⟨fr, H, n⟩ = xclear P G K u os d sz zero fr H n (ev G fr x) := rfl
theorem xclear_os {E : TypeId} {sz i off len : Nat} {zero : List AV} {rows : List (List AV)} (ho : H i = some ⟨E, sz, rows⟩) (hz : zero.length = sz) (h0 : 0 < sz) (hl : off + len ≤ rows.length) :
  xclear P G K u os d sz zero fr H n (.os i off len) = xops P G K u os ⟨put fr d .any, hu H i (some ⟨E, sz, rows.take off ++ (List.replicate len zero ++ rows.drop (off + len))⟩), n⟩ := by
 apply propext
 simp only [xclear, aop, ev]
 constructor
 ·rintro ⟨o, k1, _, _, _, _, k2⟩
  rw [ho] at k1; cases k1
  exact k2
 ·intro h
  exact ⟨_, ho, rfl, hz, h0, hl, h⟩
theorem xo_call {f : FuncId} {args : List Opd} : xops P G K u (⟨d, .call f args, none, af⟩ :: os) ⟨fr, H, n⟩ = xcall P G (fun r H' n' => xops P G K u os ⟨put fr d r, H', n'⟩) ⟨⟩ f (evs G fr args) H n := rfl
def xcallv (P : Program) (G : Nat → AV) (R : AV → (Nat → Option AObj) → Nat → Prop) (u : Wit R) (x : AV) (args : List AV) (H : Nat → Option AObj) (n : Nat) : Prop := match x with
  | .fn (.func f) caps => xcall P G R u f (args ++ caps) H n
  | _ => False
theorem xcallv_fn {R : AV → (Nat → Option AObj) → Nat → Prop} {u : Wit R} {f : FuncId} {caps args : List AV} : xcallv P G R u (.fn (.func f) caps) args H n = xcall P G R u f (args ++ caps) H n := rfl
theorem xo_callv {x : Opd} {args : List Opd} : xops P G K u (⟨d, .callv x args, none, af⟩ :: os) ⟨fr, H, n⟩ = xcallv P G (fun r H' n' => xops P G K u os ⟨put fr d r, H', n'⟩) ⟨⟩ (ev G fr x) (evs G fr args) H n := rfl
theorem xo_guard {o : AOp} {j : Nat} {want : Bool} : xops P G K u (⟨d, o, some (j, want), af⟩ :: os) ⟨fr, H, n⟩ = gcnd (bif want then xops P G K u (⟨d, o, none, af⟩ :: os) ⟨put fr (some j) (.bool true), H, n⟩ else xops P G K u os ⟨put (put fr (some j) (.bool true)) d .und, H, n⟩) ⟨⟩ (bif want then xops P G K u os ⟨put (put fr (some j) (.bool false)) d .und, H, n⟩ else xops P G K u (⟨d, o, none, af⟩ :: os) ⟨put fr (some j) (.bool false), H, n⟩) ⟨⟩ (xops P G K u os ⟨put fr d .und, H, n⟩) ⟨⟩ (fr j) := by
 apply propext
 simp only [xops, aops, gcnd]
 show _ ↔ match fr j with | .lit (.bool t) => _ | .lit (.tuple _) => _ | _ => _
 generalize fr j = v
 cases v with
 | lit v => cases v <;> cases want <;> first | exact Iff.rfl | exact and_comm
 | _ => exact Iff.rfl
/-! Drawn regions. -/
variable {KD : (Nat → AV) → (Nat → Option AObj) → Prop} {ud : Wit KD}
theorem xd_nil : xdops P G H KD ud [] fr = KD fr H := rfl
def xdop (P : Program) (G : Nat → AV) (H : Nat → Option AObj) (K : AV → Prop) (_ : Wit K) (KS : (Nat → Option AObj) → Prop) (_ : Wit KS) (o : AOp) (d : Option Nat) (fr : Nat → AV) : Prop := (∃ v, dop P G H fr o v ∧ K v) ∨ (d = none ∧ ∃ H', SStep G o fr H H' ∧ KS H')
theorem xd_plain {o : AOp} : xdops P G H KD ud (⟨d, o, none, af⟩ :: os) fr = xdop P G H (fun v => xdops P G H KD ud os (put fr d v)) ⟨⟩ (fun H' => xdops P G H' KD ud os fr) ⟨⟩ o d fr := rfl
theorem xdop_false {K : AV → Prop} {u : Wit K} {w : Wit (fun (_ : Nat → Option AObj) => False)} {o : AOp} : xdop P G H K u (fun _ => False) w o d fr = ∃ v, dop P G H fr o v ∧ K v := by
 apply propext
 simp only [xdop, and_false, exists_false, or_false]
theorem xd_guard {o : AOp} {j : Nat} {want : Bool} : xdops P G H KD ud (⟨d, o, some (j, want), af⟩ :: os) fr = gcnd (bif want then xdop P G H (fun v => xdops P G H KD ud os (put (put fr (some j) (.bool true)) d v)) ⟨⟩ (fun _ => False) ⟨⟩ o d (put fr (some j) (.bool true)) else xdops P G H KD ud os (put (put fr (some j) (.bool true)) d .und)) ⟨⟩ (bif want then xdops P G H KD ud os (put (put fr (some j) (.bool false)) d .und) else xdop P G H (fun v => xdops P G H KD ud os (put (put fr (some j) (.bool false)) d v)) ⟨⟩ (fun _ => False) ⟨⟩ o d (put fr (some j) (.bool false))) ⟨⟩ (xdops P G H KD ud os (put fr d .und)) ⟨⟩ (fr j) := by
 apply propext
 simp only [xdops, adops, gcnd, xdop_false]
 show _ ↔ match fr j with | .lit (.bool t) => _ | .lit (.tuple _) => _ | _ => _
 generalize fr j = v
 cases v with
 | lit v => cases v <;> cases want <;> first | exact Iff.rfl | exact and_comm
 | _ => exact Iff.rfl
variable {KV : AV → Prop} {uv : Wit KV} {KS : (Nat → Option AObj) → Prop} {us : Wit KS}
theorem xdop_value {o : AOp} (hs : isStore o = false) : xdop P G H KV uv KS us o d fr = ∃ v, dop P G H fr o v ∧ KV v := by
 apply propext
 simp only [xdop]
 refine ⟨fun h => h.elim id fun ⟨_, H', h, _⟩ => ?_, .inl⟩
 cases o with
 | store | mset => cases hs
 | _ => exact h.elim
theorem xp_mov {x : Opd} : xdop P G H KV uv KS us (.mov x) d fr = hold KV uv (some (ev G fr x)) := (xdop_value rfl).trans rfl
theorem xp_pick {c a b : Opd} : xdop P G H KV uv KS us (.pick c a b) d fr = hold KV uv (match ev G fr c with
  | .lit (.bool t) => some (avIf t (ev G fr a) (ev G fr b))
  | _ => none) := (xdop_value rfl).trans rfl
theorem xp_load {ag : Bool} {m : Nat} {x : Opd} : xdop P G H KV uv KS us (.load ag m x) d fr = hold KV uv (aload H ag m (ev G fr x)) := (xdop_value rfl).trans rfl
theorem xp_fld {off : Nat} {x : Opd} : xdop P G H KV uv KS us (.fld off x) d fr = hold KV uv (afld off (ev G fr x)) := (xdop_value rfl).trans rfl
theorem xp_part {ag : Bool} {off m : Nat} {x : Opd} : xdop P G H KV uv KS us (.part ag off m x) d fr = hold KV uv (apart ag off m (ev G fr x)) := (xdop_value rfl).trans rfl
theorem xp_idxV {ag : Bool} {len sz : Nat} {x i : Opd} : xdop P G H KV uv KS us (.idxV ag len sz x i) d fr = hold KV uv (aidxV ag len sz (ev G fr x) (ev G fr i)) := (xdop_value rfl).trans rfl
theorem xp_idxA {len sz : Nat} {x i : Opd} : xdop P G H KV uv KS us (.idxA len sz x i) d fr = hold KV uv (aidxA len sz (ev G fr x) (ev G fr i)) := (xdop_value rfl).trans rfl
theorem xp_chr {x i : Opd} : xdop P G H KV uv KS us (.chr x i) d fr = hold KV uv (achr (ev G fr x) (ev G fr i)) := (xdop_value rfl).trans rfl
theorem xp_bin {op : BinOp} {x y : Opd} : xdop P G H KV uv KS us (.bin op x y) d fr = hold KV uv (abin op (ev G fr x) (ev G fr y)) := (xdop_value rfl).trans rfl
theorem xp_eq {neg : Bool} {k : EqK} {x y : Opd} : xdop P G H KV uv KS us (.eq neg k x y) d fr = hold KV uv ((aeq k (ev G fr x) (ev G fr y)).map fun b => .bool (nego neg b)) := (xdop_value rfl).trans rfl
theorem xp_not {x : Opd} : xdop P G H KV uv KS us (.not x) d fr = hold KV uv (anot (ev G fr x)) := (xdop_value rfl).trans rfl
theorem xp_neg {x : Opd} : xdop P G H KV uv KS us (.neg x) d fr = hold KV uv (aneg (ev G fr x)) := (xdop_value rfl).trans rfl
theorem xp_mm {mx : Bool} {x y : Opd} : xdop P G H KV uv KS us (.mm mx x y) d fr = hold KV uv (amm mx (ev G fr x) (ev G fr y)) := (xdop_value rfl).trans rfl
theorem xp_mm3 {mx : Bool} {x y z : Opd} : xdop P G H KV uv KS us (.mm3 mx x y z) d fr = hold KV uv (amm3 mx (ev G fr x) (ev G fr y) (ev G fr z)) := (xdop_value rfl).trans rfl
theorem xp_cvt {k : IntKind} {x : Opd} : xdop P G H KV uv KS us (.cvt k x) d fr = hold KV uv (acvt k (ev G fr x)) := (xdop_value rfl).trans rfl
theorem xp_same {x : Opd} : xdop P G H KV uv KS us (.same x) d fr = hold KV uv (asame (ev G fr x)) := (xdop_value rfl).trans rfl
theorem xp_ext {i : Nat} {x : Opd} : xdop P G H KV uv KS us (.ext i x) d fr = hold KV uv (aext i (ev G fr x)) := (xdop_value rfl).trans rfl
theorem xp_len {x : Opd} : xdop P G H KV uv KS us (.len x) d fr = hold KV uv (alen (ev G fr x)) := (xdop_value rfl).trans rfl
theorem xp_lenS {x : Opd} : xdop P G H KV uv KS us (.lenS x) d fr = hold KV uv (alenS (ev G fr x)) := (xdop_value rfl).trans rfl
theorem xp_cap {x : Opd} : xdop P G H KV uv KS us (.cap x) d fr = hold KV uv (acap (ev G fr x)) := (xdop_value rfl).trans rfl
theorem acap_nil : acap (.ls false []) = some (.int 0) := rfl
theorem xp_slS {x : Opd} {lo hi : Option Opd} : xdop P G H KV uv KS us (.slS x lo hi) d fr = hold KV uv (aslS (ev G fr x) (evo G fr lo) (evo G fr hi)) := (xdop_value rfl).trans rfl
theorem xp_build {zero : List AV} {parts : List (Nat × Nat × Opd)} : xdop P G H KV uv KS us (.build zero parts) d fr = hold KV uv ((afill zero (evp G fr parts)).map .agg) := (xdop_value rfl).trans rfl
theorem xp_box {m : Nat} {x : Opd} : xdop P G H KV uv KS us (.box m x) d fr = hold KV uv (match (ev G fr x).cells? with
  | some cs => if cs.length = m then some (.pp cs) else none
  | none => none) := (xdop_value rfl).trans rfl
theorem xp_bsl {sz len : Nat} {parts : List (Nat × Opd)} : xdop P G H KV uv KS us (.bsl sz len parts) d fr = hold KV uv (match arows sz 0 (evq G fr parts) with
  | some rows => if rows.length = len then some (.ls true rows) else none
  | none => none) := (xdop_value rfl).trans rfl
theorem xp_mkf {f : Fn} {caps : List Opd} : xdop P G H KV uv KS us (.mkf f caps) d fr = hold KV uv (some (.fn f (evs G fr caps))) := (xdop_value rfl).trans rfl
theorem xp_nilc {x : Opd} : xdop P G H KV uv KS us (.nilc x) d fr = hold KV uv (anilc (ev G fr x)) := (xdop_value rfl).trans rfl
theorem xp_idx {sz : Nat} {x i : Opd} : xdop P G H KV uv KS us (.idx sz x i) d fr = pr (EvenOf sz (ev G fr x)) (hold KV uv (aidx H sz (ev G fr x) (ev G fr i))) ⟨⟩ := by
 rw [xdop_value rfl]
 apply propext
 simp only [dop, pr, hold]
 exact ⟨fun ⟨v, h1, h2⟩ => ⟨h1.1, v, h1.2, h2⟩, fun ⟨h1, v, h2, h3⟩ => ⟨v, ⟨h1, h2⟩, h3⟩⟩
theorem xp_sl {sz : Nat} {x : Opd} {lo hi : Option Opd} : xdop P G H KV uv KS us (.sl sz x lo hi) d fr = pr (CutOk H sz (ev G fr x)) (hold KV uv (asl (ev G fr x) (evo G fr lo) (evo G fr hi))) ⟨⟩ := by
 rw [xdop_value rfl]
 apply propext
 simp only [dop, pr, hold]
 exact ⟨fun ⟨v, h1, h2⟩ => ⟨h1.1, v, h1.2, h2⟩, fun ⟨h1, v, h2, h3⟩ => ⟨v, ⟨h1, h2⟩, h3⟩⟩
theorem xp_call {f : FuncId} {args : List Opd} : xdop P G H KV uv KS us (.call f args) d fr = xfn P G KV uv f (evs G fr args) H := (xdop_value rfl).trans rfl
def xfnv (P : Program) (G : Nat → AV) (K : AV → Prop) (u : Wit K) (x : AV) (args : List AV) (H : Nat → Option AObj) : Prop := match x with
 | .fn (.func f) caps => xfn P G K u f (args ++ caps) H
 | _ => False
theorem xfnv_fn {K : AV → Prop} {u : Wit K} {f : FuncId} {caps args : List AV} : xfnv P G K u (.fn (.func f) caps) args H = xfn P G K u f (args ++ caps) H := rfl
theorem xp_callv {x : Opd} {args : List Opd} : xdop P G H KV uv KS us (.callv x args) d fr = xfnv P G KV uv (ev G fr x) (evs G fr args) H := by
 rw [xdop_value rfl]
 apply propext
 simp only [dop, xfnv, xfn]
 generalize ev G fr x = y
 cases y with
 | fn f caps => cases f with
  | func f => exact Iff.rfl
  | _ => exact ⟨fun ⟨v, h, _⟩ => h, fun h => h.elim⟩
 | _ => exact ⟨fun ⟨v, h, _⟩ => h, fun h => h.elim⟩
theorem xfn_intro {f : FuncId} {args : List AV} {v : AV} (h : AFn P G f args H v) (k : KV v) : xfn P G KV uv f args H := ⟨v, h, k⟩
def xdstore (K : (Nat → Option AObj) → Prop) (_ : Wit K) (m : Nat) (H : Nat → Option AObj) (a x : AV) : Prop := match a with
 | .op i r c => holdO (fun ob => holdC (fun cs => pr (cs.length = m ∧ cs.all AV.one = true) (holdO (fun o' => K (hu H i (some o'))) ⟨⟩ (astore ob r c cs)) ⟨⟩) ⟨⟩ x.cells?) ⟨⟩ (H i)
 | _ => False
theorem xdstore_op {m i r c : Nat} {x : AV} : xdstore KS us m H (.op i r c) x = holdO (fun ob => holdC (fun cs => pr (cs.length = m ∧ cs.all AV.one = true) (holdO (fun o' => KS (hu H i (some o'))) ⟨⟩ (astore ob r c cs)) ⟨⟩) ⟨⟩ x.cells?) ⟨⟩ (H i) := rfl
theorem xp_store {ag : Bool} {m : Nat} {a x : Opd} : xdop P G H KV uv KS us (.store ag m a x) none fr = xdstore KS us m H (ev G fr a) (ev G fr x) := by
 apply propext
 simp only [xdop, dop, aval, SStep, xdstore, holdO, holdC, pr]
 constructor
 ·rintro (⟨v, h, _⟩ | ⟨_, H', ⟨i, r, c, ob, cs, o', h1, h2, h3, h4, h5, h6, rfl⟩, hK⟩)
  ·cases h
  ·rw [h1]
   exact ⟨ob, h2, cs, h3, ⟨h4, h5⟩, o', h6, hK⟩
 ·intro h
  right
  refine ⟨trivial, ?_⟩
  generalize ev G fr a = av at h
  cases av with
  | op i r c =>
   obtain ⟨ob, h2, cs, h3, ⟨h4, h5⟩, o', h6, hK⟩ := h
   exact ⟨_, ⟨i, r, c, ob, cs, o', rfl, h2, h3, h4, h5, h6, rfl⟩, hK⟩
  | _ => exact h.elim
theorem put_at {k i : Nat} {v : AV} : put fr (some k) v i = if i = k then v else fr i := rfl
theorem put_none {i : Nat} {v : AV} : put fr none v i = fr i := rfl
theorem evenOf_ls {sz : Nat} {nz : Bool} {rows : List (List AV)} : EvenOf sz (.ls nz rows) = Even sz rows := rfl
theorem evenOf_os {sz i off len : Nat} : EvenOf sz (.os i off len) = True := rfl
theorem cutOk_ls {sz : Nat} {nz : Bool} {rows : List (List AV)} : CutOk H sz (.ls nz rows) = Even sz rows := rfl
theorem aidx_split {α : Type} {sz : Nat} {nz : Bool} {c : α → List AV} {a : List α} {x : α} {b : List α} {k : IntKind} {i : Int} (hi : i = (a.length : Int)) : aidx H sz (.ls nz ((a ++ x :: b).map c)) (.lit (.int k i)) = some (.pp (c x)) := by
 subst hi
 simp [aidx]
theorem sub_refl (H : Nat → Option AObj) : Sub H H = True := eq_true (Sub.refl H)
def Low (H : Nat → Option AObj) (n : Nat) : Prop := ∀ i o, H i = some o → i < n
theorem Sub.hu {H' H : Nat → Option AObj} {n m : Nat} {o : Option AObj} (h : Sub H' H) (hl : Low H' m) (hm : m ≤ n) : Sub H' (hu H n o) := fun i x hx => by
 have := hl i x hx
 rw [hu_ne (by omega)]
 exact h i x hx
theorem Low.mono {H : Nat → Option AObj} {n m : Nat} (h : Low H n) (hm : n ≤ m) : Low H m := fun i o hi => Nat.lt_of_lt_of_le (h i o hi) hm
theorem Low.hu {H : Nat → Option AObj} {n m : Nat} {o : Option AObj} (h : Low H m) (hm : m ≤ n) {k : Nat} (hk : k < n) : Low (hu H k o) n := fun i x hx => by
 by_cases hi : i = k
 ·omega
 ·rw [hu_ne hi] at hx; exact Nat.lt_of_lt_of_le (h i x hx) hm
theorem AFn.calls {f : FuncId} {args : List AV} {v : AV} (h : AFn P G f args H v) {R : AV → (Nat → Option AObj) → Nat → Prop} (hR : ∀ n', n ≤ n' → R v H n') : ACalls P G f args H n R := by
 intro w g vs h1 h2 h3 h4 h5
 refine (h n w g vs h1 h2 h3 h4 h5).mono fun e w' ⟨x, r, g', k1, ⟨k2, k3⟩, k4, k5, k6⟩ => ?_
 subst k2
 refine ⟨x, r, g', k1, ?_, k4, k5, k6⟩
 rw [k3]
 exact hR _ (by rw [← h3]; exact k6.n)
theorem AFn.x {f : FuncId} {args : List AV} {v : AV} (h : AFn P G f args H v) {R : AV → (Nat → Option AObj) → Nat → Prop} {u : Wit R} (hR : ∀ n', n ≤ n' → R v H n') : xcall P G R u f args H n := h.calls hR
theorem ACalls.x {f : FuncId} {args : List AV} {R R' : AV → (Nat → Option AObj) → Nat → Prop} {u : Wit R'} (h : ACalls P G f args H n R) (hR : ∀ r H' n', R r H' n' → R' r H' n') : xcall P G R' u f args H n := h.mono hR
theorem AFn.start {own : List Nat} (hmix : P.follows .mixedOrders = true) {f : FuncId} {F : AFunc} (hf : absFn P own f = some F) {args : List AV} {v : AV} (hl : args.length ≤ F.N)
  (h : ∀ n, Low H n → xw P G (endQ F.r fun r H' _ => r = v ∧ H' = H) ⟨⟩ F.c ⟨argFr args, H, n⟩) : AFn P G f args H v := fun n => ACalls.of_aw hmix hf hl fun hlow => h n hlow
theorem ACalls.start {own : List Nat} (hmix : P.follows .mixedOrders = true) {f : FuncId} {F : AFunc} (hf : absFn P own f = some F) {args : List AV} {R : AV → (Nat → Option AObj) → Nat → Prop} (hl : args.length ≤ F.N)
  (h : Low H n → xw P G (endQ F.r R) ⟨⟩ F.c ⟨argFr args, H, n⟩) : ACalls P G f args H n R := ACalls.of_aw hmix hf hl fun hlow => h hlow
/-! Whole numbers. -/
theorem wrap64_of {x : Int} (h1 : -9223372036854775808 ≤ x) (h2 : x ≤ 9223372036854775807) : IntKind.i64.wrap x = x := IntWalk.i64_in x ⟨h1, h2⟩
theorem le_refl' (n : Nat) : (n ≤ n) = True := eq_true (Nat.le_refl n)
end Go.Ab
/-! What each operation gives, as rules. -/
namespace Go.Ab
variable {P : Program} {G fr : Nat → AV} {H : Nat → Option AObj}
theorem ev_t {n : Nat} : ev G fr (.t n) = fr n := rfl
theorem ev_k {v : AV} : ev G fr (.k v) = v := rfl
theorem ev_g {n : Nat} : ev G fr (.g n) = G n := rfl
theorem evs_nil : evs G fr [] = [] := rfl
theorem evs_cons {x : Opd} {xs : List Opd} : evs G fr (x :: xs) = ev G fr x :: evs G fr xs := rfl
theorem evo_none : evo G fr none = none := rfl
theorem evo_some {x : Opd} : evo G fr (some x) = some (ev G fr x) := rfl
theorem evp_nil : evp G fr [] = [] := rfl
theorem evp_cons {a b : Nat} {x : Opd} {r : List (Nat × Nat × Opd)} : evp G fr ((a, b, x) :: r) = (a, b, ev G fr x) :: evp G fr r := rfl
theorem evq_nil : evq G fr [] = [] := rfl
theorem evq_cons {a : Nat} {x : Opd} {r : List (Nat × Opd)} : evq G fr ((a, x) :: r) = (a, ev G fr x) :: evq G fr r := rfl
theorem argFr_nil {i : Nat} : argFr [] i = .any := rfl
theorem argFr_at {x : AV} {xs : List AV} {i : Nat} : argFr (x :: xs) i = if i = 0 then x else argFr xs (i - 1) := by
 cases i <;> rfl
/-! Branches. -/
theorem cnd_dec {x y p : Prop} {_ : Decidable p} {w : WitP x} {u : WitP y} (h1 : p → x) (h2 : ¬ p → y) : cnd x w y u (.lit (.bool (decide p))) := ⟨fun h => h1 (of_decide_eq_true h), fun h => h2 (of_decide_eq_false h)⟩
theorem cnd_ndec {x y p : Prop} {_ : Decidable p} {w : WitP x} {u : WitP y} (h1 : ¬ p → x) (h2 : p → y) : cnd x w y u (.lit (.bool (!decide p))) := ⟨fun h => h1 (by simpa using h), fun h => h2 (by simpa using h)⟩
theorem cnd_nb {x y : Prop} {b : Bool} {w : WitP x} {u : WitP y} (h1 : b = false → x) (h2 : b = true → y) : cnd x w y u (.lit (.bool (!b))) := ⟨fun h => h1 (by simpa using h), fun h => h2 (by simpa using h)⟩
/-! Memory. -/
def aloadR (ag : Bool) (n c : Nat) : Option (List AV) → Option AV
 | some row => if ag then (if c + n ≤ row.length then some (.agg ((row.drop c).take n)) else none) else row[c]?
 | none => none
def aloadO (ag : Bool) (n r c : Nat) : Option AObj → Option AV
 | some o => aloadR ag n c o.rows[r]?
 | none => none
theorem aload_op {ag : Bool} {n i r c : Nat} : aload H ag n (.op i r c) = aloadO ag n r c (H i) := by
 simp only [aload, aloadO]
 cases H i with
 | none => rfl
 | some o => simp only [aloadR]; cases o.rows[r]? <;> rfl
theorem aloadO_some {ag : Bool} {n r c : Nat} {E : TypeId} {sz : Nat} {rows : List (List AV)} : aloadO ag n r c (some ⟨E, sz, rows⟩) = aloadR ag n c rows[r]? := rfl
theorem aloadR_ag {n c : Nat} {row : List AV} : aloadR true n c (some row) = if c + n ≤ row.length then some (.agg ((row.drop c).take n)) else none := rfl
theorem aloadR_one {n c : Nat} {row : List AV} : aloadR false n c (some row) = row[c]? := rfl
theorem aload_pp_ag {n : Nat} {cells : List AV} : aload H true n (.pp cells) = if n ≤ cells.length then some (.agg (cells.take n)) else none := rfl
theorem aload_pp {n : Nat} {cells : List AV} : aload H false n (.pp cells) = cells[0]? := rfl
theorem afld_pp {off : Nat} {cells : List AV} : afld off (.pp cells) = some (.pp (cells.drop off)) := rfl
theorem afld_op {off i r c : Nat} : afld off (.op i r c) = some (.op i r (c + off)) := rfl
theorem apart_ag {off n : Nat} {cells : List AV} : apart true off n (.agg cells) = if off + n ≤ cells.length then some (.agg ((cells.drop off).take n)) else none := rfl
theorem apart_one {off n : Nat} {cells : List AV} : apart false off n (.agg cells) = cells[off]? := rfl
def aidxO (sz j off : Nat) (i : Int) : Option AObj → Option AV
 | some o => if o.sz = sz then some (.op j (off + i.toNat) 0) else none
 | none => none
theorem aidx_os {sz j off len : Nat} {k : IntKind} {i : Int} : aidx H sz (.os j off len) (.lit (.int k i)) = if 0 ≤ i ∧ i < len then aidxO sz j off i (H j) else none := by
 simp only [aidx]
 split <;> first | rfl | (cases H j <;> rfl)
theorem aidxO_some {sz j off sz' : Nat} {i : Int} {E : TypeId} {rows : List (List AV)} : aidxO sz j off i (some ⟨E, sz', rows⟩) = if sz' = sz then some (.op j (off + i.toNat) 0) else none := rfl
theorem aidx_ls {sz : Nat} {nz : Bool} {rows : List (List AV)} {k : IntKind} {i : Int} (h0 : 0 ≤ i) : aidx H sz (.ls nz rows) (.lit (.int k i)) = (rows[i.toNat]?).map .pp := by
 simp only [aidx, if_pos h0]
 cases rows[i.toNat]? <;> rfl
theorem aidxA_pp {len sz : Nat} {cells : List AV} {k : IntKind} {i : Int} : aidxA len sz (.pp cells) (.lit (.int k i)) = if 0 ≤ i ∧ i < len then some (.pp (cells.drop (i.toNat * sz))) else none := rfl
theorem aidxV_agg {ag : Bool} {len sz : Nat} {cells : List AV} {k : IntKind} {i : Int} : aidxV ag len sz (.agg cells) (.lit (.int k i)) = if 0 ≤ i ∧ i < len then apart ag (i.toNat * sz) sz (.agg cells) else none := rfl
theorem aidxA_op {len sz j r c : Nat} {k : IntKind} {i : Int} : aidxA len sz (.op j r c) (.lit (.int k i)) = if 0 ≤ i ∧ i < len then some (.op j r (c + i.toNat * sz)) else none := rfl
theorem achr_lit {s : ByteArray} {k : IntKind} {i : Int} (h : 0 ≤ i ∧ i < s.size) : achr (.lit (.string s)) (.lit (.int k i)) = some (.lit (.int .u8 (byteAt s i.toNat))) := by
 simp only [achr, if_pos h]
/-! Whole numbers. -/
section
variable {k : IntKind} {a b : Int}
theorem bin_add : abin .add (.lit (.int k a)) (.lit (.int k b)) = some (.lit (.int k (k.wrap (a + b)))) := by simp [abin, aint]
theorem bin_sub : abin .sub (.lit (.int k a)) (.lit (.int k b)) = some (.lit (.int k (k.wrap (a - b)))) := by simp [abin, aint]
theorem bin_mul : abin .mul (.lit (.int k a)) (.lit (.int k b)) = some (.lit (.int k (k.wrap (a * b)))) := by simp [abin, aint]
theorem amm_t : amm true (.lit (.int k a)) (.lit (.int k b)) = some (.lit (.int k (max a b))) := by simp [amm, mmI]
theorem amm_f : amm false (.lit (.int k a)) (.lit (.int k b)) = some (.lit (.int k (min a b))) := by simp [amm, mmI]
theorem amm3_t {c : Int} : amm3 true (.lit (.int k a)) (.lit (.int k b)) (.lit (.int k c)) = some (.lit (.int k (max (max a b) c))) := by simp [amm3, mmI]
theorem amm3_f {c : Int} : amm3 false (.lit (.int k a)) (.lit (.int k b)) (.lit (.int k c)) = some (.lit (.int k (min (min a b) c))) := by simp [amm3, mmI]
theorem bin_quo (h : b ≠ 0) : abin .quo (.lit (.int k a)) (.lit (.int k b)) = some (.lit (.int k (k.wrap (a.tdiv b)))) := by simp [abin, aint, h]
theorem bin_rem (h : b ≠ 0) : abin .rem (.lit (.int k a)) (.lit (.int k b)) = some (.lit (.int k (a.tmod b))) := by simp [abin, aint, h]
theorem bin_eql : abin .eql (.lit (.int k a)) (.lit (.int k b)) = some (.bool (decide (a = b))) := by simp only [abin, aint, if_true]; exact congrArg (fun b => some (AV.bool b)) (by rw [Bool.eq_iff_iff]; simp)
theorem bin_neq : abin .neq (.lit (.int k a)) (.lit (.int k b)) = some (.bool (!decide (a = b))) := by simp only [abin, aint, if_true]; exact congrArg (fun b => some (AV.bool b)) (by rw [Bool.eq_iff_iff]; simp)
theorem bin_lss : abin .lss (.lit (.int k a)) (.lit (.int k b)) = some (.bool (decide (a < b))) := by simp [abin, aint]
theorem bin_leq : abin .leq (.lit (.int k a)) (.lit (.int k b)) = some (.bool (decide (a ≤ b))) := by simp [abin, aint]
theorem bin_gtr : abin .gtr (.lit (.int k a)) (.lit (.int k b)) = some (.bool (decide (b < a))) := by simp [abin, aint]
theorem bin_geq : abin .geq (.lit (.int k a)) (.lit (.int k b)) = some (.bool (decide (b ≤ a))) := by simp [abin, aint]
end
/-! Texts. -/
section
variable {a b : ByteArray}
theorem bins_add (h : a.size + b.size ≤ 9223372036854775807) : abin .add (.lit (.string a)) (.lit (.string b)) = some (.lit (.string (a ++ b))) := by simp [abin, astr, h]
theorem beq_dec (a b : ByteArray) : (a == b) = decide (a = b) := by
 have h1 : (a == b) = (a.data == b.data) := by cases a; cases b; rfl
 rw [h1]
 by_cases h : a = b
 ·subst h; simp
 ·rw [decide_eq_false h, beq_eq_false_iff_ne]
  intro k; apply h; cases a; cases b; simp only at k; rw [k]
theorem toList_dec (a b : ByteArray) : (a.toList == b.toList) = decide (a = b) := by
 have h1 : (a.toList = b.toList) ↔ a = b := by
  constructor
  ·intro h
   rw [ByteArray.toList_eq, ByteArray.toList_eq] at h
   cases a; cases b
   simp only at h
   congr
   exact Array.toList_inj.1 h
  ·rintro rfl; rfl
 by_cases h : a = b
 ·rw [decide_eq_true h, beq_iff_eq.2 (h1.2 h)]
 ·rw [decide_eq_false h, beq_eq_false_iff_ne.2 fun k => h (h1.1 k)]
theorem bins_eql : abin .eql (.lit (.string a)) (.lit (.string b)) = some (.bool (decide (a = b))) := by rw [← toList_dec]; rfl
theorem bins_neq : abin .neq (.lit (.string a)) (.lit (.string b)) = some (.bool (!decide (a = b))) := by rw [← toList_dec]; rfl
def strLt (a b : ByteArray) : Bool := Op.bytesLess a.toList b.toList
theorem bins_lss : abin .lss (.lit (.string a)) (.lit (.string b)) = some (.bool (strLt a b)) := rfl
theorem bins_leq : abin .leq (.lit (.string a)) (.lit (.string b)) = some (.bool (strLt a b || decide (a = b))) := by rw [← toList_dec]; rfl
theorem bins_gtr : abin .gtr (.lit (.string a)) (.lit (.string b)) = some (.bool (!(strLt a b || decide (a = b)))) := by rw [← toList_dec]; rfl
theorem bins_geq : abin .geq (.lit (.string a)) (.lit (.string b)) = some (.bool (!strLt a b)) := rfl
end
/-! Likeness. -/
theorem eqOne_i {k : IntKind} {a b : Int} : eqOne .i (.lit (.int k a)) (.lit (.int k b)) = some (decide (a = b)) := by simp only [eqOne, if_true]; exact congrArg some (by rw [Bool.eq_iff_iff]; simp)
theorem eqOne_s {a b : ByteArray} : eqOne .s (.lit (.string a)) (.lit (.string b)) = some (decide (a = b)) := congrArg some (beq_dec a b)
theorem eqOne_b {a b : Bool} : eqOne .b (.lit (.bool a)) (.lit (.bool b)) = some (a == b) := rfl
theorem eqCells_nil : eqCells [] [] [] = some true := rfl
theorem eqCells_cons {k : SK} {ks : List SK} {x y : AV} {xs ys : List AV} : eqCells (k :: ks) (x :: xs) (y :: ys) = eqAnd (eqOne k x y) (eqCells ks xs ys) := rfl
theorem eqAnd_two {a b : Bool} : eqAnd (some a) (some b) = some (a && b) := rfl
theorem aeq_bool {a b : Bool} : aeq .bool (.lit (.bool a)) (.lit (.bool b)) = some (a == b) := rfl
theorem aeq_slice {nz : Bool} {rows : List (List AV)} : aeq .slice (.ls nz rows) (.ls false []) = some (!nz) := rfl
theorem aeq_slice_os {i off len : Nat} : aeq .slice (.os i off len) (.ls false []) = some false := rfl
theorem aeq_cells {ks : List SK} {xs ys : List AV} : aeq (.cells ks) (.agg xs) (.agg ys) = eqCells ks xs ys := rfl
theorem aeq_ptr_pp {xs : List AV} : aeq .ptr (.pp xs) (.lit (.pointer none)) = some false := rfl
theorem aeq_ptr_op {i r c : Nat} : aeq .ptr (.op i r c) (.lit (.pointer none)) = some false := rfl
theorem aeq_ptr_nil : aeq .ptr (.lit (.pointer none)) (.lit (.pointer none)) = some true := rfl
theorem nego_t {b : Bool} : nego true b = !b := rfl
theorem nego_f {b : Bool} : nego false b = b := rfl
theorem anot_lit {b : Bool} : anot (.lit (.bool b)) = some (.lit (.bool (!b))) := rfl
theorem aneg_lit {k : IntKind} {n : Int} : aneg (.lit (.int k n)) = some (.lit (.int k (k.wrap (0 - n)))) := rfl
theorem acvt_lit {k k' : IntKind} {n : Int} : acvt k (.lit (.int k' n)) = some (.lit (.int k (k.wrap n))) := rfl
theorem asame_lit {s : ByteArray} : asame (.lit (.string s)) = some (.lit (.string s)) := rfl
theorem aext_tup {i : Nat} {vs : List AV} : aext i (.tup vs) = vs[i]? := rfl
theorem alen_ls {nz : Bool} {rows : List (List AV)} : alen (.ls nz rows) = some (.int rows.length) := rfl
theorem alen_os {i off len : Nat} : alen (.os i off len) = some (.int len) := rfl
theorem alenS_lit {s : ByteArray} : alenS (.lit (.string s)) = some (.int s.size) := rfl
theorem abound_none {y d : Nat} : abound y d none = some d := rfl
theorem abound_some {y d : Nat} {k : IntKind} {i : Int} (h : 0 ≤ i ∧ i ≤ y) : abound y d (some (.lit (.int k i))) = some i.toNat := by simp only [abound, if_pos h]
def aslL (nz : Bool) (rows : List (List AV)) (lo : Option AV) : Option Nat → Option AV
 | some h => (abound h 0 lo).map fun l => .ls nz ((rows.take h).drop l)
 | none => none
theorem asl_ls {nz : Bool} {rows : List (List AV)} {lo hi : Option AV} : asl (.ls nz rows) lo hi = aslL nz rows lo (abound rows.length rows.length hi) := by
 simp only [asl]
 cases abound rows.length rows.length hi with
 | none => rfl
 | some h => simp only [aslL]; cases abound h 0 lo <;> rfl
theorem aslL_some {nz : Bool} {rows : List (List AV)} {lo : Option AV} {h : Nat} : aslL nz rows lo (some h) = (abound h 0 lo).map fun l => .ls nz ((rows.take h).drop l) := rfl
def aslOz (i off h : Nat) : Option Nat → Option AV
 | some l => if l = 0 then some (.os i off h) else if l < h then some (.os i (off + l) (h - l)) else some (.ls true [])
 | none => none
def aslO (i off : Nat) (lo : Option AV) : Option Nat → Option AV
 | some h => aslOz i off h (abound h 0 lo)
 | none => none
theorem asl_os {i off len : Nat} {lo hi : Option AV} : asl (.os i off len) lo hi = aslO i off lo (abound len len hi) := by
 simp only [asl]
 cases abound len len hi with
 | none => rfl
 | some h =>
  simp only [aslO, aslOz]
  cases abound h 0 lo with
  | none => rfl
  | some k => rfl
theorem aslO_some {i off h : Nat} {lo : Option AV} : aslO i off lo (some h) = aslOz i off h (abound h 0 lo) := rfl
theorem aslOz_zero {i off h : Nat} : aslOz i off h (some 0) = some (.os i off h) := by simp [aslOz]
theorem aslOz_pos {i off h l : Nat} (h0 : 0 < l) (h1 : l < h) : aslOz i off h (some l) = some (.os i (off + l) (h - l)) := by
 simp only [aslOz, if_neg (show ¬ l = 0 by omega), if_pos h1]
def aslT (s : ByteArray) (lo : Option AV) : Option Nat → Option AV
 | some h => (abound h 0 lo).map fun l => .lit (.string (s.extract l h))
 | none => none
theorem aslS_lit {s : ByteArray} {lo hi : Option AV} : aslS (.lit (.string s)) lo hi = aslT s lo (abound s.size s.size hi) := by
 simp only [aslS]
 cases abound s.size s.size hi with
 | none => rfl
 | some h => simp only [aslT]; cases abound h 0 lo <;> rfl
theorem aslT_some {s : ByteArray} {lo : Option AV} {h : Nat} : aslT s lo (some h) = (abound h 0 lo).map fun l => .lit (.string (s.extract l h)) := rfl
/-! Cells. -/
theorem cells_agg {cs : List AV} : (AV.agg cs).cells? = some cs := rfl
theorem cells_int {k : IntKind} {n : Int} : (AV.lit (.int k n)).cells? = some [.lit (.int k n)] := rfl
theorem cells_str {s : ByteArray} : (AV.lit (.string s)).cells? = some [.lit (.string s)] := rfl
theorem cells_bool {b : Bool} : (AV.lit (.bool b)).cells? = some [.lit (.bool b)] := rfl
theorem cells_nilp : (AV.lit (.pointer none)).cells? = some [.lit (.pointer none)] := rfl
theorem cells_ls {nz : Bool} {rows : List (List AV)} : (AV.ls nz rows).cells? = some [.ls nz rows] := rfl
theorem cells_pp {cs : List AV} : (AV.pp cs).cells? = some [.pp cs] := rfl
theorem cells_os {i off len : Nat} : (AV.os i off len).cells? = some [.os i off len] := rfl
theorem cells_op {i r c : Nat} : (AV.op i r c).cells? = some [.op i r c] := rfl
theorem cells_fn {f : Fn} {caps : List AV} : (AV.fn f caps).cells? = some [.fn f caps] := rfl
theorem one_int {k : IntKind} {n : Int} : (AV.lit (.int k n)).one = true := rfl
theorem one_str {s : ByteArray} : (AV.lit (.string s)).one = true := rfl
theorem one_bool {b : Bool} : (AV.lit (.bool b)).one = true := rfl
theorem one_nilp : (AV.lit (.pointer none)).one = true := rfl
theorem one_ls {nz : Bool} {rows : List (List AV)} : (AV.ls nz rows).one = true := rfl
theorem one_pp {cs : List AV} : (AV.pp cs).one = true := rfl
theorem one_os {i off len : Nat} : (AV.os i off len).one = true := rfl
theorem one_op {i r c : Nat} : (AV.op i r c).one = true := rfl
theorem one_fn {f : Fn} {caps : List AV} : (AV.fn f caps).one = true := rfl
def astoreR (E : TypeId) (sz : Nat) (rows : List (List AV)) (r c : Nat) (cs : List AV) : Option (List AV) → Option AObj
 | some row => if c + cs.length ≤ row.length then some ⟨E, sz, rows.set r (splice row c cs)⟩ else none
 | none => none
theorem astore_mk {E : TypeId} {sz r c : Nat} {rows : List (List AV)} {cs : List AV} : astore ⟨E, sz, rows⟩ r c cs = astoreR E sz rows r c cs rows[r]? := by
 simp only [astore, astoreR]
 cases rows[r]? <;> rfl
theorem astoreR_some {E : TypeId} {sz r c : Nat} {rows : List (List AV)} {cs row : List AV} : astoreR E sz rows r c cs (some row) = if c + cs.length ≤ row.length then some ⟨E, sz, rows.set r (splice row c cs)⟩ else none := rfl
theorem splice_eq {cells cs : List AV} {off : Nat} : splice cells off cs = cells.take off ++ (cs ++ cells.drop (off + cs.length)) := rfl
def afillO (cells : List AV) (off sz : Nat) (rest : List (Nat × Nat × AV)) : Option (List AV) → Option (List AV)
 | some cs => if cs.length = sz ∧ off + sz ≤ cells.length then afill (splice cells off cs) rest else none
 | none => none
theorem afill_nil {cells : List AV} : afill cells [] = some cells := rfl
theorem afill_cons {cells : List AV} {off sz : Nat} {v : AV} {rest : List (Nat × Nat × AV)} : afill cells ((off, sz, v) :: rest) = afillO cells off sz rest v.cells? := by
 simp only [afill, afillO]
 cases v.cells? <;> rfl
theorem afillO_some {cells cs : List AV} {off sz : Nat} {rest : List (Nat × Nat × AV)} : afillO cells off sz rest (some cs) = if cs.length = sz ∧ off + sz ≤ cells.length then afill (splice cells off cs) rest else none := rfl
def arowsO (sz k i : Nat) (rest : List (Nat × AV)) : Option (List AV) → Option (List (List AV))
 | some cs => if i = k ∧ cs.length = sz then (arows sz (k + 1) rest).map fun r => cs :: r else none
 | none => none
theorem arows_nil {sz k : Nat} : arows sz k [] = some [] := rfl
theorem arows_cons {sz k i : Nat} {v : AV} {rest : List (Nat × AV)} : arows sz k ((i, v) :: rest) = arowsO sz k i rest v.cells? := by
 simp only [arows, arowsO]
 cases v.cells? <;> rfl
theorem arowsO_some {sz k i : Nat} {cs : List AV} {rest : List (Nat × AV)} : arowsO sz k i rest (some cs) = if i = k ∧ cs.length = sz then (arows sz (k + 1) rest).map fun r => cs :: r else none := rfl
theorem anilc_pp {c : List AV} : anilc (.pp c) = some (.pp c) := rfl
theorem anilc_op {i r c : Nat} : anilc (.op i r c) = some (.op i r c) := rfl
theorem anilc_fn {f : FuncId} {caps : List AV} : anilc (.fn (.func f) caps) = some (.fn (.func f) caps) := rfl
theorem ofVal_nil : AV.ofVal (.slice none 0 0) = .ls false [] := rfl
/-! What is returned. -/
theorem ares1_t {n : Nat} : ares1 H fr (.t n) = some (fr n) := rfl
theorem ares1_c {ag : Bool} {n s : Nat} : ares1 H fr (.c ag n s) = aload H ag n (fr s) := rfl
def aresC (xs : Option (List AV)) (x : Option AV) : Option (List AV) := match x, xs with
 | some x, some xs => some (x :: xs)
 | _, _ => none
theorem aresL_nil : aresL H fr [] = some [] := rfl
theorem aresL_cons {r : ARes} {rs : List ARes} : aresL H fr (r :: rs) = aresC (aresL H fr rs) (ares1 H fr r) := rfl
theorem aresC_some {x : AV} {xs : List AV} : aresC (some xs) (some x) = some (x :: xs) := rfl
theorem aone_one {x : AV} : aone [x] = x := rfl
theorem aone_nil : aone [] = .tup [] := rfl
theorem aone_two {x y : AV} {xs : List AV} : aone (x :: y :: xs) = .tup (x :: y :: xs) := rfl
theorem ares_eq {rs : List ARes} : ares H fr rs = (aresL H fr rs).map aone := rfl
end Go.Ab
/-! Rules for maps. -/
namespace Go.Ab
variable {P : Program} {G : Nat → AV} {K : St → Prop} {u : Wit K} {fr : Nat → AV} {H : Nat → Option AObj} {n : Nat} {d : Option Nat} {af : List Nat} {os : List AOper}
theorem xo_mkm {E kc : Nat} : xops P G K u (⟨d, .mkm E kc, none, af⟩ :: os) ⟨fr, H, n⟩ = xops P G K u os ⟨put fr d (.om n), hu H n (some ⟨E, kc, []⟩), n + 1⟩ := rfl
theorem xo_look {ok : Bool} {kc : Nat} {z : AV} {m k : Opd} : xops P G K u (⟨d, .look ok kc z m k, none, af⟩ :: os) ⟨fr, H, n⟩ = hold (fun v => xops P G K u os ⟨put fr d v, H, n⟩) ⟨⟩ (alook H ok kc z (ev G fr m) (ev G fr k)) := rfl
theorem xo_lenM {m : Opd} : xops P G K u (⟨d, .lenM m, none, af⟩ :: os) ⟨fr, H, n⟩ = hold (fun v => xops P G K u os ⟨put fr d v, H, n⟩) ⟨⟩ (alenM H (ev G fr m)) := rfl
theorem xo_ent {m : Opd} : xops P G K u (⟨d, .ent m, none, af⟩ :: os) ⟨fr, H, n⟩ = hold (fun v => xops P G K u os ⟨put fr d v, H, n⟩) ⟨⟩ (aent H (ev G fr m)) := rfl
def xmset (P : Program) (G : Nat → AV) (K : St → Prop) (u : Wit K) (os : List AOper) (d : Option Nat) (kc : Nat) (fr : Nat → AV) (H : Nat → Option AObj) (n : Nat) (m k v : AV) : Prop := aop P G (.mset kc (.k m) (.k k) (.k v)) d ⟨fr, H, n⟩ fun st' => xops P G K u os st'
theorem xo_mset {kc : Nat} {m k v : Opd} : xops P G K u (⟨d, .mset kc m k v, none, af⟩ :: os) ⟨fr, H, n⟩ = xmset P G K u os d kc fr H n (ev G fr m) (ev G fr k) (ev G fr v) := rfl
noncomputable def amput (kc : Nat) (k v : AV) (o : AObj) : Option AObj := if o.sz = kc ∧ kcode k = some kc then some { o with rows := mput o.rows k v } else none
theorem amput_mk {E sz kc : Nat} {rows : List (List AV)} {k v : AV} : amput kc k v ⟨E, sz, rows⟩ = if sz = kc ∧ kcode k = some kc then some ⟨E, sz, mput rows k v⟩ else none := rfl
theorem xmset_om {kc i : Nat} {k v : AV} : xmset P G K u os d kc fr H n (.om i) k v = holdO (fun o => holdO (fun o' => xops P G K u os ⟨put fr d .any, hu H i (some o'), n⟩) ⟨⟩ (amput kc k v o)) ⟨⟩ (H i) := by
 apply propext
 simp only [xmset, aop, ev, holdO, amput]
 constructor
 ·rintro ⟨o, h1, h2, h3, h4⟩
  exact ⟨o, h1, _, if_pos ⟨h2, h3⟩, h4⟩
 ·rintro ⟨o, h1, o', h2, h3⟩
  split at h2
  ·rename_i h; cases h2; exact ⟨o, h1, h.1, h.2, h3⟩
  ·cases h2
def xment (P : Program) (G : Nat → AV) (K : St → Prop) (u : Wit K) (os : List AOper) (d : Option Nat) (kc : Nat) (z : AV) (fr : Nat → AV) (H : Nat → Option AObj) (n : Nat) (m k : AV) : Prop := aop P G (.ment kc z (.k m) (.k k)) d ⟨fr, H, n⟩ fun st' => xops P G K u os st'
theorem xo_ment {kc : Nat} {z : AV} {m k : Opd} : xops P G K u (⟨d, .ment kc z m k, none, af⟩ :: os) ⟨fr, H, n⟩ = xment P G K u os d kc z fr H n (ev G fr m) (ev G fr k) := rfl
theorem xment_om {kc i E sz : Nat} {z k : AV} {rows : List (List AV)} (h : H i = some ⟨E, sz, rows⟩) (h1 : sz = kc) (hE : E % 2 = 0) (hk : kcode k = some kc)
  (hK : xops P G K u os ⟨put fr d (.tup [(mget rows k).getD z, .ms i (midx rows k)]), hu H i (some ⟨E, sz, mwith rows k z⟩), n⟩) : xment P G K u os d kc z fr H n (.om i) k := ⟨_, h, h1, hE, hk, hK⟩
def xmest (P : Program) (G : Nat → AV) (K : St → Prop) (u : Wit K) (os : List AOper) (d : Option Nat) (fr : Nat → AV) (H : Nat → Option AObj) (n : Nat) (m s v : AV) : Prop := aop P G (.mest (.k m) (.k s) (.k v)) d ⟨fr, H, n⟩ fun st' => xops P G K u os st'
theorem xo_mest {m s v : Opd} : xops P G K u (⟨d, .mest m s v, none, af⟩ :: os) ⟨fr, H, n⟩ = xmest P G K u os d fr H n (ev G fr m) (ev G fr s) (ev G fr v) := rfl
theorem xmest_om {i j E sz : Nat} {key old v : AV} {rows : List (List AV)} (h : H i = some ⟨E, sz, rows⟩) (hE : E % 2 = 0) (hk : rows[j]? = some [key, old])
  (hK : xops P G K u os ⟨put fr d .any, hu H i (some ⟨E, sz, rows.set j [key, v]⟩), n⟩) : xmest P G K u os d fr H n (.om i) (.ms i j) v := ⟨rfl, _, key, old, h, hE, hk, hK⟩
def xrng (P : Program) (G : Nat → AV) (K : St → Prop) (u : Wit K) (os : List AOper) (d : Option Nat) (fr : Nat → AV) (H : Nat → Option AObj) (n : Nat) (m : AV) : Prop := aop P G (.rng (.k m)) d ⟨fr, H, n⟩ fun st' => xops P G K u os st'
theorem xo_rng {m : Opd} : xops P G K u (⟨d, .rng m, none, af⟩ :: os) ⟨fr, H, n⟩ = xrng P G K u os d fr H n (ev G fr m) := rfl
theorem xrng_om {i E sz : Nat} {rows : List (List AV)} (h : H i = some ⟨E, sz, rows⟩) (hE : E % 2 = 0)
  (hK : xops P G K u os ⟨put fr d (.oit n), hu H n (some ⟨i, rows.length, itRows (-1) (List.range rows.length)⟩), n + 1⟩) : xrng P G K u os d fr H n (.om i) := ⟨_, h, hE, hK⟩
def xnxt (P : Program) (G : Nat → AV) (K : St → Prop) (u : Wit K) (os : List AOper) (d : Option Nat) (fr : Nat → AV) (H : Nat → Option AObj) (n : Nat) (m : AV) : Prop := aop P G (.nxt (.k m)) d ⟨fr, H, n⟩ fun st' => xops P G K u os st'
theorem xo_nxt {m : Opd} : xops P G K u (⟨d, .nxt m, none, af⟩ :: os) ⟨fr, H, n⟩ = xnxt P G K u os d fr H n (ev G fr m) := rfl
theorem xnxt_oit {i j E sz len : Nat} {rows : List (List AV)} {k0 : Int} {idxs : List Nat} (h : H j = some ⟨i, len, itRows k0 idxs⟩) (h1 : H i = some ⟨E, sz, rows⟩) (hl : rows.length = len)
  (hK0 : idxs = [] → xops P G K u os ⟨put fr d (.tup [.bool false]), H, n⟩)
  (hK : ∀ k ∈ idxs, ∀ x y, rows[k]? = some [x, y] → xops P G K u os ⟨put fr d (.tup [.bool true, x, y]), hu H j (some ⟨i, len, itRows k (idxs.filter (· != k))⟩), n⟩) : xnxt P G K u os d fr H n (.oit j) := ⟨_, _, k0, idxs, h, h1, hl, rfl, hK0, hK⟩
/-! Drawn. -/
variable {KV : AV → Prop} {uv : Wit KV} {KS : (Nat → Option AObj) → Prop} {us : Wit KS}
theorem xp_look {ok : Bool} {kc : Nat} {z : AV} {m k : Opd} : xdop P G H KV uv KS us (.look ok kc z m k) d fr = hold KV uv (alook H ok kc z (ev G fr m) (ev G fr k)) := (xdop_value rfl).trans rfl
theorem xp_lenM {m : Opd} : xdop P G H KV uv KS us (.lenM m) d fr = hold KV uv (alenM H (ev G fr m)) := (xdop_value rfl).trans rfl
theorem xp_ent {m : Opd} : xdop P G H KV uv KS us (.ent m) d fr = hold KV uv (aent H (ev G fr m)) := (xdop_value rfl).trans rfl
def xdmset (K : (Nat → Option AObj) → Prop) (_ : Wit K) (kc : Nat) (H : Nat → Option AObj) (m k v : AV) : Prop := match m with
 | .om i => holdO (fun o => holdO (fun o' => K (hu H i (some o'))) ⟨⟩ (amput kc k v o)) ⟨⟩ (H i)
 | _ => False
theorem xdmset_om {kc i : Nat} {k v : AV} : xdmset KS us kc H (.om i) k v = holdO (fun o => holdO (fun o' => KS (hu H i (some o'))) ⟨⟩ (amput kc k v o)) ⟨⟩ (H i) := rfl
theorem xp_mset {kc : Nat} {m k v : Opd} : xdop P G H KV uv KS us (.mset kc m k v) none fr = xdmset KS us kc H (ev G fr m) (ev G fr k) (ev G fr v) := by
 apply propext
 simp only [xdop, dop, aval, SStep, xdmset, holdO, amput]
 constructor
 ·rintro (⟨v, h, _⟩ | ⟨_, H', ⟨i, o, h1, h2, h3, h4, rfl⟩, hK⟩)
  ·cases h
  ·rw [h1]
   exact ⟨o, h2, _, if_pos ⟨h3, h4⟩, hK⟩
 ·intro h
  right
  refine ⟨trivial, ?_⟩
  generalize hm : ev G fr m = av at h
  cases av with
  | om i =>
   obtain ⟨o, h1, o', h2, h3⟩ := h
   split at h2
   ·rename_i hc; cases h2; exact ⟨_, ⟨i, o, rfl, h1, hc.1, hc.2, rfl⟩, h3⟩
   ·cases h2
  | _ => exact h.elim
/-! Reckoning. -/
noncomputable def alookO (ok : Bool) (kc : Nat) (z k : AV) : Option AObj → Option AV
 | some o => if o.sz = kc ∧ kcode k = some kc then some (lookRes ok z (mget o.rows k)) else none
 | none => none
theorem alook_om {ok : Bool} {kc i : Nat} {z k : AV} : alook H ok kc z (.om i) k = alookO ok kc z k (H i) := by
 simp only [alook, alookO]
 cases H i <;> rfl
theorem alookO_some {ok : Bool} {kc E sz : Nat} {z k : AV} {rows : List (List AV)} : alookO ok kc z k (some ⟨E, sz, rows⟩) = if sz = kc ∧ kcode k = some kc then some (lookRes ok z (mget rows k)) else none := rfl
def alenO : Option AObj → Option AV
 | some o => some (.int o.rows.length)
 | none => none
theorem alenM_om {i : Nat} : alenM H (.om i) = alenO (H i) := by
 simp only [alenM, alenO]
 cases H i <;> rfl
theorem alenO_some {E sz : Nat} {rows : List (List AV)} : alenO (some ⟨E, sz, rows⟩) = some (.int rows.length) := rfl
theorem lookRes_tt {z v : AV} : lookRes true z (some v) = .tup [v, .bool true] := rfl
theorem lookRes_tn {z : AV} : lookRes true z none = .tup [z, .bool false] := rfl
theorem lookRes_ft {z v : AV} : lookRes false z (some v) = v := rfl
theorem lookRes_fn {z : AV} : lookRes false z none = z := rfl
theorem kcode_int {x : Int} : kcode (.lit (.int .i64 x)) = some 1 := rfl
theorem kcode_str {s : ByteArray} : kcode (.lit (.string s)) = some 2 := rfl
theorem kcode_bool {b : Bool} : kcode (.lit (.bool b)) = some 3 := rfl
theorem kcode_agg {cs : List AV} : kcode (.agg cs) = (kscode cs).map (4 * ·) := rfl
theorem kscode_nil : kscode [] = some 1 := rfl
theorem kscode_int {x : Int} {xs : List AV} : kscode (.lit (.int .i64 x) :: xs) = (kscode xs).map (4 * · + 1) := by
 simp only [kscode, k1code]; cases kscode xs <;> rfl
theorem kscode_str {s : ByteArray} {xs : List AV} : kscode (.lit (.string s) :: xs) = (kscode xs).map (4 * · + 2) := by
 simp only [kscode, k1code]; cases kscode xs <;> rfl
theorem kscode_bool {b : Bool} {xs : List AV} : kscode (.lit (.bool b) :: xs) = (kscode xs).map (4 * · + 3) := by
 simp only [kscode, k1code]; cases kscode xs <;> rfl
theorem cells_om {i : Nat} : (AV.om i).cells? = some [.om i] := rfl
theorem one_om {i : Nat} : (AV.om i).one = true := rfl
theorem mget_nil {k : AV} : mget [] k = none := rfl
/-! What rows say. -/
def Pairs (rows : List (List AV)) : Prop := ∀ r ∈ rows, ∃ k v, r = [k, v]
theorem mwith_set {k z v : AV} : ∀ {rows : List (List AV)}, Pairs rows → (mwith rows k z)[midx rows k]? = some [k, (mget rows k).getD z] ∧ (mwith rows k z).set (midx rows k) [k, v] = mput rows k v
 | [], _ => by simp [mwith, mget, midx, mput]
 | r :: rs, hp => by
  obtain ⟨k1, v1, rfl⟩ := hp r (by simp)
  by_cases h : k1 = k
  ·subst h; simp [mwith, mget, midx, mput]
  ·have h' : ¬ some k1 = some k := by simpa using h
   have ih := mwith_set (k := k) (z := z) (v := v) (rows := rs) fun r hr => hp r (List.mem_cons_of_mem _ hr)
   have hm : mget ([k1, v1] :: rs) k = mget rs k := by simp only [mget, List.head?_cons]; exact if_neg h'
   have hw : mwith ([k1, v1] :: rs) k z = [k1, v1] :: mwith rs k z := by
    simp only [mwith, hm]
    cases mget rs k <;> rfl
   have hi : midx ([k1, v1] :: rs) k = midx rs k + 1 := by simp only [midx, List.head?_cons]; exact if_neg h'
   have hpu : mput ([k1, v1] :: rs) k v = [k1, v1] :: mput rs k v := by simp only [mput, List.head?_cons]; exact if_neg h'
   rw [hw, hi, hpu, hm, List.getElem?_cons_succ, List.set_cons_succ]
   exact ⟨ih.1, by rw [ih.2]⟩
end Go.Ab
/-! Loops. -/
namespace Go.Ab
variable {P : Program} {G fr : Nat → AV} {H : Nat → Option AObj} {n : Nat} {Q : AExit → St → Prop} {w : Wit Q}
def Has (fr : Nat → AV) : List (Nat × AV) → Prop
 | [] => True
 | (k, v) :: r => fr k = v ∧ Has fr r
theorem has_nil : Has fr [] = True := rfl
theorem has_cons {k : Nat} {v : AV} {r : List (Nat × AV)} : Has fr ((k, v) :: r) = (fr k = v ∧ Has fr r) := rfl
def LI {σ : Type} (J : σ → List (Nat × AV)) (inv : σ → (Nat → Option AObj) → Nat → Prop) (m : σ → Nat) : Nat → St → Prop := fun n st => ∃ s, n = m s ∧ inv s st.H st.n ∧ Has st.fr (J s)
theorem xw_loopJ {b : ACode} {σ : Type} (J : σ → List (Nat × AV)) (inv : σ → (Nat → Option AObj) → Nat → Prop) (m : σ → Nat) (s0 : σ) (h0 : inv s0 H n) (hf : Has fr (J s0))
  (h : ∀ s fr' H' n', inv s H' n' → Has fr' (J s) → xw P G (loopQ (LI J inv m) (m s) Q) ⟨⟩ b ⟨fr', H', n'⟩) : xw P G Q w (.loop b) ⟨fr, H, n⟩ :=
 xw_loop (LI J inv m) (m s0) ⟨s0, rfl, h0, hf⟩ fun n st ⟨s, h1, h2, h3⟩ => by
  subst h1
  exact h s st.fr st.H st.n h2 h3
theorem againJ {σ : Type} {J : σ → List (Nat × AV)} {inv : σ → (Nat → Option AObj) → Nat → Prop} {m : σ → Nat} {k : Nat} {u : Wit (LI J inv m)} (s : σ) (hm : m s < k) (hi : inv s H n) (hf : Has fr (J s)) : again (LI J inv m) u k ⟨fr, H, n⟩ :=
 again_intro (m s) hm ⟨s, rfl, hi, hf⟩
def Qt (H0 H : Nat → Option AObj) (n : Nat) : Prop := Sub H0 H ∧ Low H0 n
theorem Qt.hu {H0 : Nat → Option AObj} {k : Nat} {o : Option AObj} (h : Qt H0 H n) (hk : n ≤ k) : Qt H0 (hu H k o) n := ⟨h.1.hu h.2 hk, h.2⟩
theorem Qt.mono {H0 : Nat → Option AObj} {m : Nat} (h : Qt H0 H n) (hm : n ≤ m) : Qt H0 H m := ⟨h.1, h.2.mono hm⟩
theorem Qt.refl {H0 : Nat → Option AObj} (h : Low H0 n) : Qt H0 H0 n := ⟨Sub.refl _, h⟩
theorem wrapu64_of {x : Int} (h1 : 0 ≤ x) (h2 : x < 18446744073709551616) : IntKind.u64.wrap x = x := by
 have : IntKind.u64.wrap x = x % 18446744073709551616 := by simp [IntKind.wrap, IntKind.bits, IntKind.signed]
 rw [this]; exact Int.emod_eq_of_lt h1 h2
theorem wrapu8_of {x : Int} (h1 : 0 ≤ x) (h2 : x < 256) : IntKind.u8.wrap x = x := by
 have : IntKind.u8.wrap x = x % 256 := by simp [IntKind.wrap, IntKind.bits, IntKind.signed]
 rw [this]; exact Int.emod_eq_of_lt h1 h2
theorem wrapu32_of {x : Int} (h1 : 0 ≤ x) (h2 : x < 4294967296) : IntKind.u32.wrap x = x := by
 have : IntKind.u32.wrap x = x % 4294967296 := by simp [IntKind.wrap, IntKind.bits, IntKind.signed]
 rw [this]; exact Int.emod_eq_of_lt h1 h2
theorem bin_shr1 {a : Int} : abin .shr (.lit (.int .u64 a)) (.lit (.int .u64 1)) = some (.lit (.int .u64 (a / 2))) := by
 have : a.fdiv 2 = a / 2 := Int.fdiv_eq_ediv_of_nonneg a (by decide)
 simp [abin, IntKind.bits, this]
theorem aidx_at {sz : Nat} {nz : Bool} {α : Type} {c : α → List AV} {l : List α} {x : α} {k : IntKind} {i : Int} {j : Nat} (hi : i = (j : Int)) (hx : l[j]? = some x) : aidx H sz (.ls nz (l.map c)) (.lit (.int k i)) = some (.pp (c x)) := by
 subst hi
 rw [aidx_ls (by omega)]
 simp [hx]
theorem len_of_last {α : Type} {a : List α} {p : α} (h : a.getLast? = some p) : (0 : Int) < a.length := by
 cases a with
 | nil => simp at h
 | cons x a => simp only [List.length_cons]; omega
theorem len_of_none {α : Type} {a : List α} (h : a.getLast? = none) : ¬ (0 : Int) < a.length := by
 cases a with
 | nil => simp
 | cons x a => simp at h
theorem aidx_osd {sz j off len : Nat} {k : IntKind} {i : Int} (h : 0 ≤ i ∧ i < len) : aidx H sz (.os j off len) (.lit (.int k i)) = aidxO sz j off i (H j) := by
 rw [aidx_os, if_pos h]
theorem last_of {α : Type} (a : List α) : a = [] ∨ ∃ a' p, a = a' ++ [p] := by
 rcases List.eq_nil_or_concat a with h | ⟨a', p, h⟩
 ·exact .inl h
 ·exact .inr ⟨a', p, by simpa using h⟩
end Go.Ab
/-! What is owned is handed on as what is only read: for good, or for the time of a call. -/
namespace Go.Ab
variable {P : Program} {G : Nat → AV} {w w' : World} {g g' : Gh} {H : Nat → Option AObj} {n : Nat}
theorem ACalls.frz {f : FuncId} {args : List AV} {R R' : AV → (Nat → Option AObj) → Nat → Prop} (h : ACalls P G f args H n R)
  (hR : ∀ r H1 n1, R r H1 n1 → ∃ D H2 k, Sub D H1 ∧ Sub H2 H1 ∧ (∀ i o, D i = some o → H2 i = none) ∧ R' (frz D k r) H2 n1) : ACalls P G f args H n R' := by
 intro w g vs h1 h2 h3 h4 h5
 refine (h w g vs h1 h2 h3 h4 h5).mono fun e w' ⟨v, r, g', k1, k2, k3, k4, k5⟩ => ?_
 obtain ⟨D, H2, k, j1, j2, j3, j4⟩ := hR r g'.H g'.n k2
 exact ⟨v, Ab.frz D k r, g'.less H2, k1, j4, frz_sound k4 ⟨j1, j2, j3⟩ k r v k3, inv_less k4 j2, k5.trans (step_less w' g' j2)⟩
def AV.flat : AV → Bool
 | .lit _ => true
 | .tup [.lit _] => true
 | .tup [.lit _, .lit _] => true
 | .tup [.lit _, .lit _, .lit _] => true
 | _ => false
mutual
def flat : AV → Bool
 | .lit _ => true
 | .any => true
 | .agg cs => flats cs
 | .tup cs => flats cs
 | _ => false
def flats : List AV → Bool
 | [] => true
 | x :: xs => flat x && flats xs
end
mutual
theorem Rep.flat : ∀ {x : AV} {v : Value}, flat x = true → Rep w g x v → Rep w' g' x v
 | .lit _, _, _, h => h
 | .any, _, _, h => h
 | .agg cs, v, hf, ⟨vs, h1, h2⟩ => ⟨vs, h1, RepList.flat (by simpa [Ab.flat] using hf) h2⟩
 | .tup cs, v, hf, ⟨vs, h1, h2⟩ => ⟨vs, h1, RepList.flat (by simpa [Ab.flat] using hf) h2⟩
 | .ls _ _, _, hf, _ => by simp [Ab.flat] at hf
 | .pp _, _, hf, _ => by simp [Ab.flat] at hf
 | .fn _ _, _, hf, _ => by simp [Ab.flat] at hf
 | .os _ _ _, _, hf, _ => by simp [Ab.flat] at hf
 | .op _ _ _, _, hf, _ => by simp [Ab.flat] at hf
 | .om _, _, hf, _ => by simp [Ab.flat] at hf
 | .oit _, _, hf, _ => by simp [Ab.flat] at hf
 | .ms _ _, _, hf, _ => by simp [Ab.flat] at hf
theorem RepList.flat : ∀ {xs : List AV} {vs : List Value}, flats xs = true → RepList w g xs vs → RepList w' g' xs vs
 | [], _, _, h => h
 | x :: xs, _, hf, ⟨v, vs, h1, h2, h3⟩ => by
  simp only [flats, Bool.and_eq_true] at hf
  exact ⟨v, vs, h1, Rep.flat hf.1 h2, RepList.flat hf.2 h3⟩
end
def noObj : Nat → Option AObj := fun _ => none
theorem AFn.borrow {f : FuncId} {args : List AV} {v : AV} (D : Nat → Option AObj) (k : Nat) (hD : Sub D H) (h : AFn P G f (args.map (Ab.frz D k)) noObj v) (hv : flat v = true) {R : AV → (Nat → Option AObj) → Nat → Prop} (hR : ∀ n', n ≤ n' → R v H n') : ACalls P G f args H n R := by
 intro w g vs h1 h2 h3 h4 h5
 have hd : Drops g D noObj := ⟨by rw [h2]; exact hD, fun i o hi => (by cases hi), fun _ _ _ => rfl⟩
 have hS0 : Step w g w (g.less noObj) := step_less w g hd.h
 refine (h n w (g.less noObj) vs (inv_less h1 hd.h) rfl h3 (h4.mono hS0) (h5.map_frz fun x v => frz_sound h1 hd k x v)).mono fun e w' ⟨x, r, g', k1, ⟨k2, k3⟩, k4, k5, k6⟩ => ?_
 subst k2
 have hno : ∀ b, ¬ (g.less noObj).Own b := fun b ⟨i, o, hi, _⟩ => by cases hi
 have hkeep : ∀ b, b < w.heap.size → w'.heap[b]? = w.heap[b]? := fun b hb => k6.keep b hb (hno b)
 have hmu : ∀ i, i < g.n → g'.μ i = g.μ i := k6.mu
 have hn : g.n ≤ g'.n := k6.n
 have hS : Step w g w' ⟨g'.μ, g.H, g'.n, g.dr⟩ := by
  refine ⟨k6.os, k6.tape, k6.output, k6.size, fun b hb _ => hkeep b hb, fun i o' ob hi ho hb => ⟨ob, ?_, Like.refl _ _⟩, fun b ⟨i, o, h1', h2'⟩ => .inl ⟨i, o, h1', ?_⟩, hn, hmu, fun i o' hi ho => ⟨o', ho, rfl, rfl⟩, rfl, k6.drawn⟩
  ·rw [hkeep _ (h1.lt i o' ho).2]; exact hb
  ·rw [← hmu i (h1.lt i o h1').1]; exact h2'
 refine ⟨x, r, ⟨g'.μ, g.H, g'.n, g.dr⟩, k1, ?_, Rep.flat hv k4, ?_, hS⟩
 ·show R r g.H g'.n
  rw [h2]; exact hR _ (by rw [← h3]; exact hn)
 ·refine h1.step hS (fun i o ho => ⟨Nat.lt_of_lt_of_le (h1.lt i o ho).1 hn, ?_⟩) (fun i j o o' hi hj he => ?_) fun i o ho => .inl ⟨ho, hkeep _ (h1.lt i o ho).2⟩
  ·show g'.μ i < _
   rw [hmu i (h1.lt i o ho).1]
   exact Nat.lt_of_lt_of_le (h1.lt i o ho).2 k6.size
  ·have he : g'.μ i = g'.μ j := he
   rw [hmu i (h1.lt i o hi).1, hmu j (h1.lt j o' hj).1] at he
   exact h1.inj i j o o' hi hj he
/-! Reckoning. -/
theorem frz_lit {D : Nat → Option AObj} {k : Nat} {v : Value} : frz D k (.lit v) = .lit v := by cases k <;> rfl
def only (i : Nat) (o : AObj) : Nat → Option AObj := fun j => if j = i then some o else none
theorem only_sub {i : Nat} {o : AObj} (h : H i = some o) : Sub (only i o) H := fun j x hj => by
 unfold only at hj
 split at hj
 ·rename_i e; subst e; cases hj; exact h
 ·cases hj
def plain (cs : List AV) : Bool := cs.all fun x => match x with | .lit _ => true | _ => false
theorem map_plain {D : Nat → Option AObj} {k : Nat} : ∀ {cs : List AV}, plain cs = true → cs.map (frz D k) = cs
 | [], _ => rfl
 | x :: xs, h => by
  simp only [plain, List.all_cons, Bool.and_eq_true] at h
  cases x <;> simp only [Bool.false_eq_true, false_and] at h
  rw [List.map_cons, frz_lit, map_plain (by simpa [plain] using h)]
theorem rows_plain {D : Nat → Option AObj} {k : Nat} : ∀ {rows : List (List AV)}, (∀ r ∈ rows, plain r = true) → rows.map (List.map (frz D k)) = rows
 | [], _ => rfl
 | r :: rs, h => by rw [List.map_cons, map_plain (h r (by simp)), rows_plain fun r hr => h r (by simp [hr])]
theorem frz_os_plain {i : Nat} {E : TypeId} {sz k : Nat} {rows : List (List AV)} (h : ∀ r ∈ rows, plain r = true) {len : Nat} (hl : len = rows.length) : frz (only i ⟨E, sz, rows⟩) (k + 1) (.os i 0 len) = .ls true rows := by
 subst hl
 simp only [frz, only, if_true, Nat.zero_add, Nat.le_refl, List.drop_zero, List.take_length, rows_plain h]
end Go.Ab
/-! The library's functions by contracts that others have proved; texts. -/
namespace Go.Ab
variable {P : Program} {G : Nat → AV} {H : Nat → Option AObj}
def entersB (P : Program) (f : FuncId) : Bool := match P.funcs[f]? with
 | some fn => !(fn.name == "runtime.NumGoroutine") && fn.body.isSome
 | none => false
theorem enters_of_b {f : FuncId} (h : entersB P f = true) : Enters P f := by
 unfold entersB at h
 split at h
 ·rename_i fn hf
  simp only [Bool.and_eq_true, Bool.not_eq_true', Option.isSome_iff_exists] at h
  obtain ⟨h1, c, h2⟩ := h
  exact ⟨fn, c, hf, h1, h2⟩
 ·cases h
theorem repList_lits {w : World} {g : Gh} : ∀ {xs : List Value} {vs : List Value}, RepList w g (xs.map .lit) vs → vs = xs
 | [], _, h => h
 | x :: xs, _, ⟨v, vs, h1, h2, h3⟩ => by
  have h2 : v = x := h2
  subst h2
  rw [h1, repList_lits h3]
theorem AFn.of_calls {f : FuncId} (he : Enters P f) {xs : List Value} {v : AV}
  (h : ∀ (w : World) (g : Gh), Inv w g → Gl G g w → Calls P f xs.toArray w fun e w' => ∃ x, e = .returned x ∧ Rep w' g v x ∧ Inv w' g ∧ Step w g w' g) : AFn P G f (xs.map .lit) H v := by
 intro n w g vs h1 h2 h3 h4 h5
 have : vs = xs.toArray := by
  have := repList_lits h5
  rw [← this]
 subst this
 refine .inl ⟨he, (h w g h1 h4).mono fun e w' ⟨x, k1, k2, k3, k4⟩ => ⟨x, v, g, k1, ⟨rfl, h2⟩, k2, k3, k4⟩⟩
theorem AFn.of_still {f : FuncId} (he : Enters P f) {xs : List Value} {v : Value}
  (h : ∀ (w : World) (g : Gh), Gl G g w → Calls P f xs.toArray w fun e w' => e = .returned v ∧ w' = w) : AFn P G f (xs.map .lit) H (.lit v) :=
 .of_calls he fun w g hI hG => (h w g hG).mono fun e w' ⟨k1, k2⟩ => ⟨v, k1, rfl, by subst k2; exact ⟨hI, Step.refl _ _⟩⟩
theorem glob_cell {w : World} {g : Gh} {k : Nat} {v : Value} {cs : List AV} (hG : G k = .pp (.lit v :: cs)) (h : Rep w g (G k) (.pointer (some ⟨k, 0, none⟩))) : w.cell? ⟨k, 0, none⟩ = some v := by
 rw [hG] at h
 obtain ⟨b, o, h1, h2⟩ := h
 injection h1 with h1
 cases h1
 obtain ⟨_, ⟨v', h3, h4⟩, _⟩ := h2
 have h4 : v' = v := h4
 rw [h3, h4]
theorem step_drewN (w : World) (g : Gh) : ∀ n, Step w g (w.drewN n) g ∧ (Inv w g → Inv (w.drewN n) g) := fun n =>
  ⟨⟨rfl, rfl, rfl, Nat.le_refl _, fun _ _ _ => rfl, fun _ _ ob _ _ h => ⟨ob, h, Like.refl _ _⟩, fun _ h => .inl h, Nat.le_refl _, fun _ _ => rfl, fun _ o' _ h => ⟨o', h, rfl, rfl⟩, rfl, fun _ => Nat.le_add_right _ _⟩,
   fun hI => hI.step ⟨rfl, rfl, rfl, Nat.le_refl _, fun _ _ _ => rfl, fun _ _ ob _ _ h => ⟨ob, h, Like.refl _ _⟩, fun _ h => .inl h, Nat.le_refl _, fun _ _ => rfl, fun _ o' _ h => ⟨o', h, rfl, rfl⟩, rfl, fun _ => Nat.le_add_right _ _⟩ hI.lt hI.inj fun i o h => .inl ⟨h, rfl⟩⟩
theorem new_ls {w : World} {g : Gh} (hI : Inv w g) {xs : List Value} {E : TypeId} {n : Nat} (hn : n = xs.length) (hm : n ≤ maxLen) :
  Rep (w.alloc (.cells xs.toArray E)) g (.ls true (xs.map fun x => [.lit x])) (.slice (some ⟨w.heap.size, 0, none⟩) n n) := by
 subst hn
 refine ⟨some ⟨w.heap.size, 0, none⟩, xs.length, by simp, by simp, hm, rfl, by simp, ?_⟩
 rintro ad ⟨rfl⟩
 refine ⟨rfl, ?_⟩
 have hb : (w.alloc (.cells xs.toArray E)).heap[w.heap.size]? = some (.cells xs.toArray E (0, 0)) := heap_alloc_new' _ _
 have hno : ¬ g.Own w.heap.size := fun h => Nat.lt_irrefl _ (Gh.Own.lt hI h)
 have key : ∀ (ys : List Value) (o : Nat), (∀ j y, ys[j]? = some y → xs[o + j]? = some y) → RepRows (w.alloc (.cells xs.toArray E)) g w.heap.size o (ys.map fun x => [.lit x]) := by
  intro ys
  induction ys with
  | nil => intro o _; trivial
  | cons y ys ih =>
   intro o hh
   refine ⟨⟨hno, ⟨y, cell_of_arr hb ?_, rfl⟩, trivial⟩, ih (o + 1) fun j z hj => ?_⟩
   ·have := hh 0 y rfl
    simpa using this
   ·have := hh (j + 1) z (by simpa using hj)
    rwa [show o + (j + 1) = o + 1 + j from by omega] at this
 exact key xs 0 fun j y hj => by simpa using hj
end Go.Ab
/-! A slice that is built row by row. -/
namespace Go.Ab
variable {P : Program} {G fr : Nat → AV} {H H0 : Nat → Option AObj} {n n0 : Nat} {K : St → Prop} {u : Wit K} {d : Option Nat} {os : List AOper}
def outAV (i : Option Nat) (len : Nat) : AV := match i with
 | none => .ls false []
 | some i => .os i 0 len
def OutIs (n0 : Nat) (H : Nat → Option AObj) (i : Option Nat) (E : TypeId) (sz : Nat) (rows : List (List AV)) (n : Nat) : Prop := match i with
 | none => rows = []
 | some i => H i = some ⟨E, sz, rows⟩ ∧ n0 ≤ i ∧ i < n
def dropO (H : Nat → Option AObj) : Option Nat → Nat → Option AObj
 | none => H
 | some i => hu H i none
theorem OutIs.hu {i : Option Nat} {E : TypeId} {sz : Nat} {rows : List (List AV)} (h : OutIs n0 H i E sz rows n) {k m : Nat} {o : Option AObj} (hk : n ≤ k) (hm : n ≤ m) : OutIs n0 (hu H k o) i E sz rows m := by
 cases i with
 | none => exact h
 | some i =>
  obtain ⟨h1, h2, h3⟩ := h
  exact ⟨by rw [hu_ne (by omega)]; exact h1, h2, by omega⟩
theorem OutIs.mono {i : Option Nat} {E : TypeId} {sz : Nat} {rows : List (List AV)} (h : OutIs n0 H i E sz rows n) {m : Nat} (hm : n ≤ m) : OutIs n0 H i E sz rows m := by
 cases i with
 | none => exact h
 | some i => exact ⟨h.1, h.2.1, Nat.lt_of_lt_of_le h.2.2 hm⟩
theorem OutIs.new {E : TypeId} {sz : Nat} {rows : List (List AV)} (hn : n0 ≤ n) : OutIs n0 (Ab.hu H n (some ⟨E, sz, rows⟩)) (some n) E sz rows (n + 1) := ⟨hu_same, hn, Nat.lt_succ_self _⟩
theorem Qt.dropO {i : Option Nat} {E : TypeId} {sz : Nat} {rows : List (List AV)} (h : OutIs n0 H i E sz rows n) (hq : Qt H0 H n0) : Qt H0 (Ab.dropO H i) n0 := by
 cases i with
 | none => exact hq
 | some i => exact hq.hu h.2.1
theorem xapp_out {i : Option Nat} {E : TypeId} {sz bytes : Nat} {rows : List (List AV)} {nz : Bool} {r : List AV} {len : Nat} (h : OutIs n0 H i E sz rows n) (hl : len = rows.length) (hr : Even sz [r]) (hb : (rows.length + 1) * bytes ≤ 140737488355328)
  (k : xops P G K u os ⟨put fr d (outAV (some n) (rows.length + 1)), hu (dropO H i) n (some ⟨E, sz, rows ++ [r]⟩), n + 1⟩) : xapp P G K u os d E sz bytes fr H n (outAV i len) (.ls nz [r]) := by
 subst hl
 cases i with
 | none =>
  have h : rows = [] := h
  subst h
  rw [outAV, xapp_first hr (by simp) (by simpa using hb)]
  exact k
 | some i =>
  rw [outAV, xapp_os h.1 rfl hr (by simp) (by simpa using hb)]
  exact k
end Go.Ab
/-! The rules of the walk, as one set. -/
namespace Go.Ab
attribute [push_cast] gcnd_bool gcnd_und ev_t ev_k ev_g evs_nil evs_cons evo_none evo_some evp_nil evp_cons evq_nil
attribute [push_cast] evq_cons argFr_nil argFr_at hold_some holdC_some holdR_some holdO_some cnd_true cnd_false pr_true fin_fn xstore_op
attribute [push_cast] xdstore_op xcallv_fn xfnv_fn hu_same xapp_nil avIf aload_op aloadO_some aloadR_ag aloadR_one aload_pp_ag aload_pp
attribute [push_cast] afld_pp afld_op apart_ag apart_one aidxO_some aidxA_pp aidxA_op aidxV_agg xo_idxV xp_idxV bin_add bin_sub bin_mul bin_eql bin_neq
attribute [push_cast] bin_lss bin_leq bin_gtr bin_geq bins_eql bins_neq bins_lss bins_leq bins_gtr bins_geq eqOne_i eqOne_s
attribute [push_cast] eqOne_b eqCells_nil eqCells_cons eqAnd_two aeq_bool aeq_slice aeq_slice_os aeq_cells aeq_ptr_pp aeq_ptr_op aeq_ptr_nil nego_t nego_f
attribute [push_cast] anot_lit aneg_lit acvt_lit asame_lit aext_tup alen_ls alen_os alenS_lit abound_none asl_ls aslL_some asl_os
attribute [push_cast] aslO_some aslOz_zero aslOz_pos aslS_lit aslT_some cells_agg cells_int cells_str cells_bool cells_nilp cells_ls cells_pp cells_os
attribute [push_cast] cells_op cells_fn one_int one_str one_bool one_nilp one_ls one_pp one_os one_op one_fn astore_mk
attribute [push_cast] astoreR_some splice_eq afill_nil afill_cons afillO_some arows_nil arows_cons arowsO_some anilc_pp anilc_op anilc_fn ofVal_nil
attribute [push_cast] ares1_t ares1_c aresL_nil aresL_cons aresC_some aone_one aone_nil aone_two ares_eq evenOf_ls evenOf_os cutOk_ls
attribute [push_cast] Option.map_some Option.some.injEq ne_eq not_false_eq_true if_true if_false and_true true_and Bool.not_true Bool.not_false Bool.not_not Bool.true_eq_false
attribute [push_cast] Bool.false_eq_true decide_true decide_false decide_eq_true_eq decide_eq_false_iff_not List.drop_succ_cons List.drop_zero List.drop_nil List.take_succ_cons List.take_zero List.length_cons List.length_nil
attribute [push_cast] List.getElem?_cons_succ List.getElem?_cons_zero List.append_nil List.nil_append List.cons_append List.set_cons_zero List.set_cons_succ List.all_cons List.all_nil Bool.and_true Bool.true_and Bool.and_self
attribute [push_cast] Bool.and_false Bool.false_and Bool.or_true Bool.true_or Bool.or_false Bool.false_or Nat.add_zero Nat.zero_add Nat.zero_mul Nat.le_refl sub_refl implies_true
attribute [push_cast] forall_const le_refl' beq_self_eq_true bne_self_eq_false BEq.rfl and_self Int.lt_irrefl Int.le_refl List.length_append List.length_map Int.natCast_add Int.natCast_zero
attribute [push_cast] Int.natCast_one Int.cast_ofNat_Int has_nil has_cons aidx_osd wrapu64_of wrapu8_of wrapu32_of bin_shr1 wrap64_of hu_ne abound_some
attribute [push_cast] achr_lit bin_quo bin_rem xo_mm xo_mm3 xp_mm xp_mm3 amm_t amm_f amm3_t amm3_f
attribute [push_cast] xmset_om amput_mk xdmset_om alook_om alookO_some alenM_om alenO_some lookRes_tt lookRes_tn lookRes_ft lookRes_fn kcode_int kcode_str kcode_bool kcode_agg kscode_nil kscode_int kscode_str kscode_bool cells_om one_om mget_nil acap_nil
end Go.Ab
namespace Go.Ab
theorem bif_t {a b : Prop} : (bif true then a else b) = a := rfl
theorem bif_f {a b : Prop} : (bif false then a else b) = b := rfl
theorem wpr0 : type_of% (And.intro (And.intro (And.intro (And.intro (And.intro (And.intro (@xw_skip) (@xw_reg)) (And.intro (@xw_dreg) (And.intro (@xw_seq) (@xw_blk)))) (And.intro (And.intro (@xw_exit) (And.intro (@xw_ret) (@xw_cond))) (And.intro (@xq_seq_normal) (And.intro (@xq_seq_exit) (@xq_seq_ret))))) (And.intro (And.intro (And.intro (@xq_blk_normal) (@xq_blk_exit_same)) (And.intro (@xq_blk_exit) (And.intro (@xq_blk_ret) (@xq_loop_exit)))) (And.intro (And.intro (@xq_loop_ret) (And.intro (@xq_loop_normal) (@xq_end_normal))) (And.intro (@xq_end_ret) (And.intro (@xo_nil) (@xo_mov)))))) (And.intro (And.intro (And.intro (And.intro (@xo_pick) (@xo_load)) (And.intro (@xo_fld) (And.intro (@xo_part) (@xo_idxA)))) (And.intro (And.intro (@xo_chr) (And.intro (@xo_bin) (@xo_eq))) (And.intro (@xo_not) (And.intro (@xo_neg) (@xo_cvt))))) (And.intro (And.intro (And.intro (@xo_same) (And.intro (@xo_ext) (@xo_len))) (And.intro (@xo_lenS) (And.intro (@xo_slS) (@xo_build)))) (And.intro (And.intro (@xo_box) (And.intro (@xo_bsl) (@xo_mkf))) (And.intro (@xo_nilc) (And.intro (@xo_idx) (@xo_sl))))))) (And.intro (And.intro (And.intro (And.intro (And.intro (@xo_alloc) (@xo_boxo)) (And.intro (@xo_bslo) (And.intro (@xo_store) (@xo_app)))) (And.intro (And.intro (@xo_make) (And.intro (@xo_clear) (@xo_call))) (And.intro (@xo_callv) (And.intro (@xo_guard) (@xd_nil))))) (And.intro (And.intro (And.intro (@xd_plain) (@xd_guard)) (And.intro (@xp_mov) (And.intro (@xp_pick) (@xp_load)))) (And.intro (And.intro (@xp_fld) (And.intro (@xp_part) (@xp_idxA))) (And.intro (@xp_chr) (And.intro (@xp_bin) (@xp_eq)))))) (And.intro (And.intro (And.intro (And.intro (@xp_not) (@xp_neg)) (And.intro (@xp_cvt) (And.intro (@xp_same) (@xp_ext)))) (And.intro (And.intro (@xp_len) (And.intro (@xp_lenS) (@xp_slS))) (And.intro (@xp_build) (And.intro (@xp_box) (@xp_bsl))))) (And.intro (And.intro (And.intro (@xp_mkf) (And.intro (@xp_nilc) (@xp_idx))) (And.intro (@xp_sl) (And.intro (@xp_call) (@xp_callv)))) (And.intro (And.intro (@xp_store) (And.intro (@put_at) (@put_none))) (And.intro (@bif_t) (And.intro (@bif_f) (@gcnd_und)))))))) := And.intro (And.intro (And.intro (And.intro (And.intro (And.intro (@xw_skip) (@xw_reg)) (And.intro (@xw_dreg) (And.intro (@xw_seq) (@xw_blk)))) (And.intro (And.intro (@xw_exit) (And.intro (@xw_ret) (@xw_cond))) (And.intro (@xq_seq_normal) (And.intro (@xq_seq_exit) (@xq_seq_ret))))) (And.intro (And.intro (And.intro (@xq_blk_normal) (@xq_blk_exit_same)) (And.intro (@xq_blk_exit) (And.intro (@xq_blk_ret) (@xq_loop_exit)))) (And.intro (And.intro (@xq_loop_ret) (And.intro (@xq_loop_normal) (@xq_end_normal))) (And.intro (@xq_end_ret) (And.intro (@xo_nil) (@xo_mov)))))) (And.intro (And.intro (And.intro (And.intro (@xo_pick) (@xo_load)) (And.intro (@xo_fld) (And.intro (@xo_part) (@xo_idxA)))) (And.intro (And.intro (@xo_chr) (And.intro (@xo_bin) (@xo_eq))) (And.intro (@xo_not) (And.intro (@xo_neg) (@xo_cvt))))) (And.intro (And.intro (And.intro (@xo_same) (And.intro (@xo_ext) (@xo_len))) (And.intro (@xo_lenS) (And.intro (@xo_slS) (@xo_build)))) (And.intro (And.intro (@xo_box) (And.intro (@xo_bsl) (@xo_mkf))) (And.intro (@xo_nilc) (And.intro (@xo_idx) (@xo_sl))))))) (And.intro (And.intro (And.intro (And.intro (And.intro (@xo_alloc) (@xo_boxo)) (And.intro (@xo_bslo) (And.intro (@xo_store) (@xo_app)))) (And.intro (And.intro (@xo_make) (And.intro (@xo_clear) (@xo_call))) (And.intro (@xo_callv) (And.intro (@xo_guard) (@xd_nil))))) (And.intro (And.intro (And.intro (@xd_plain) (@xd_guard)) (And.intro (@xp_mov) (And.intro (@xp_pick) (@xp_load)))) (And.intro (And.intro (@xp_fld) (And.intro (@xp_part) (@xp_idxA))) (And.intro (@xp_chr) (And.intro (@xp_bin) (@xp_eq)))))) (And.intro (And.intro (And.intro (And.intro (@xp_not) (@xp_neg)) (And.intro (@xp_cvt) (And.intro (@xp_same) (@xp_ext)))) (And.intro (And.intro (@xp_len) (And.intro (@xp_lenS) (@xp_slS))) (And.intro (@xp_build) (And.intro (@xp_box) (@xp_bsl))))) (And.intro (And.intro (And.intro (@xp_mkf) (And.intro (@xp_nilc) (@xp_idx))) (And.intro (@xp_sl) (And.intro (@xp_call) (@xp_callv)))) (And.intro (And.intro (@xp_store) (And.intro (@put_at) (@put_none))) (And.intro (@bif_t) (And.intro (@bif_f) (@gcnd_und)))))))
theorem wmap : type_of% (And.intro (And.intro (And.intro (And.intro (@xo_mkm) (@xo_look)) (And.intro (@xo_lenM) (@xo_ent))) (And.intro (And.intro (@xo_mset) (@xo_ment)) (And.intro (@xo_mest) (@xo_rng)))) (And.intro (And.intro (And.intro (@xo_nxt) (@xp_look)) (And.intro (@xp_lenM) (@xp_ent))) (And.intro (And.intro (@xp_mset) (@xo_cap)) (And.intro (@xp_cap) (@xo_appz))))) := And.intro (And.intro (And.intro (And.intro (@xo_mkm) (@xo_look)) (And.intro (@xo_lenM) (@xo_ent))) (And.intro (And.intro (@xo_mset) (@xo_ment)) (And.intro (@xo_mest) (@xo_rng)))) (And.intro (And.intro (And.intro (@xo_nxt) (@xp_look)) (And.intro (@xp_lenM) (@xp_ent))) (And.intro (And.intro (@xp_mset) (@xo_cap)) (And.intro (@xp_cap) (@xo_appz))))
theorem wpre : type_of% (And.intro (@wpr0) (@wmap)) := And.intro (@wpr0) (@wmap)
end Go.Ab
