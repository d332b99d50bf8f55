/- A part of an abstract logic over the model's runs, proved sound against the model; no condition. -/
import Derived.Test.YthcedgclhoggcaaGreatDoorAb16
import Derived.Laws.Strings
/-! What each operation gives, as rules. -/
set_option linter.unusedVariables false
set_option linter.unusedSimpArgs false
namespace Go.Ab
variable {P : Program} {G fr : Nat → AV} {H : Nat → Option AObj}

theorem ev_t {n : Nat} : ev G fr (.t n) = fr n := rfl
theorem ev_k {v : AV} : ev G fr (.k v) = v := rfl
theorem ev_g {n : Nat} : ev G fr (.g n) = G n := rfl
theorem evs_nil : evs G fr [] = [] := rfl
theorem evs_cons {x : Opd} {xs : List Opd} : evs G fr (x :: xs) = ev G fr x :: evs G fr xs := rfl
theorem evo_none : evo G fr none = none := rfl
theorem evo_some {x : Opd} : evo G fr (some x) = some (ev G fr x) := rfl
theorem evp_nil : evp G fr [] = [] := rfl
theorem evp_cons {a b : Nat} {x : Opd} {r : List (Nat × Nat × Opd)} : evp G fr ((a, b, x) :: r) = (a, b, ev G fr x) :: evp G fr r := rfl
theorem evq_nil : evq G fr [] = [] := rfl
theorem evq_cons {a : Nat} {x : Opd} {r : List (Nat × Opd)} : evq G fr ((a, x) :: r) = (a, ev G fr x) :: evq G fr r := rfl
theorem argFr_nil {i : Nat} : argFr [] i = .any := rfl
theorem argFr_zero {x : AV} {xs : List AV} : argFr (x :: xs) 0 = x := rfl
def argAt (xs : List AV) (i : Nat) : AV := xs.getD i .any
theorem argFr_at {x : AV} {xs : List AV} {i : Nat} : argFr (x :: xs) i = if i = 0 then x else argFr xs (i - 1) := by
  cases i <;> rfl

/-! Branches. -/
theorem cnd_dec {x y p : Prop} {_ : Decidable p} {w : WitP x} {u : WitP y} (h1 : p → x) (h2 : ¬ p → y) : cnd x w y u (.lit (.bool (decide p))) := ⟨fun h => h1 (of_decide_eq_true h), fun h => h2 (of_decide_eq_false h)⟩
theorem cnd_ndec {x y p : Prop} {_ : Decidable p} {w : WitP x} {u : WitP y} (h1 : ¬ p → x) (h2 : p → y) : cnd x w y u (.lit (.bool (!decide p))) := ⟨fun h => h1 (by simpa using h), fun h => h2 (by simpa using h)⟩

theorem cnd_nb {x y : Prop} {b : Bool} {w : WitP x} {u : WitP y} (h1 : b = false → x) (h2 : b = true → y) : cnd x w y u (.lit (.bool (!b))) := ⟨fun h => h1 (by simpa using h), fun h => h2 (by simpa using h)⟩

/-! Pick. -/
theorem pick_true {a b : AV} : (match AV.lit (.bool true) with | .lit (.bool t) => some (avIf t a b) | _ => none) = some a := rfl
theorem pick_false {a b : AV} : (match AV.lit (.bool false) with | .lit (.bool t) => some (avIf t a b) | _ => none) = some b := rfl

/-! Memory. -/
def aloadR (ag : Bool) (n c : Nat) : Option (List AV) → Option AV
  | some row => if ag then (if c + n ≤ row.length then some (.agg ((row.drop c).take n)) else none) else row[c]?
  | none => none
def aloadO (ag : Bool) (n r c : Nat) : Option AObj → Option AV
  | some o => aloadR ag n c o.rows[r]?
  | none => none
theorem aload_op {ag : Bool} {n i r c : Nat} : aload H ag n (.op i r c) = aloadO ag n r c (H i) := by
  simp only [aload, aloadO]
  cases H i with
  | none => rfl
  | some o => simp only [aloadR]; cases o.rows[r]? <;> rfl
theorem aloadO_some {ag : Bool} {n r c : Nat} {E : TypeId} {sz : Nat} {rows : List (List AV)} : aloadO ag n r c (some ⟨E, sz, rows⟩) = aloadR ag n c rows[r]? := rfl
theorem aloadR_ag {n c : Nat} {row : List AV} : aloadR true n c (some row) = if c + n ≤ row.length then some (.agg ((row.drop c).take n)) else none := rfl
theorem aloadR_one {n c : Nat} {row : List AV} : aloadR false n c (some row) = row[c]? := rfl
theorem aload_pp_ag {n : Nat} {cells : List AV} : aload H true n (.pp cells) = if n ≤ cells.length then some (.agg (cells.take n)) else none := rfl
theorem aload_pp {n : Nat} {cells : List AV} : aload H false n (.pp cells) = cells[0]? := rfl
theorem afld_pp {off : Nat} {cells : List AV} : afld off (.pp cells) = some (.pp (cells.drop off)) := rfl
theorem afld_op {off i r c : Nat} : afld off (.op i r c) = some (.op i r (c + off)) := rfl
theorem apart_ag {off n : Nat} {cells : List AV} : apart true off n (.agg cells) = if off + n ≤ cells.length then some (.agg ((cells.drop off).take n)) else none := rfl
theorem apart_one {off n : Nat} {cells : List AV} : apart false off n (.agg cells) = cells[off]? := rfl
def aidxO (sz j off : Nat) (i : Int) : Option AObj → Option AV
  | some o => if o.sz = sz then some (.op j (off + i.toNat) 0) else none
  | none => none
theorem aidx_os {sz j off len : Nat} {k : IntKind} {i : Int} : aidx H sz (.os j off len) (.lit (.int k i)) = if 0 ≤ i ∧ i < len then aidxO sz j off i (H j) else none := by
  simp only [aidx]
  split <;> first | rfl | (cases H j <;> rfl)
theorem aidxO_some {sz j off sz' : Nat} {i : Int} {E : TypeId} {rows : List (List AV)} : aidxO sz j off i (some ⟨E, sz', rows⟩) = if sz' = sz then some (.op j (off + i.toNat) 0) else none := rfl
theorem aidx_ls {sz : Nat} {nz : Bool} {rows : List (List AV)} {k : IntKind} {i : Int} (h0 : 0 ≤ i) : aidx H sz (.ls nz rows) (.lit (.int k i)) = (rows[i.toNat]?).map .pp := by
  simp only [aidx, if_pos h0]
  cases rows[i.toNat]? <;> rfl
theorem aidxA_pp {len sz : Nat} {cells : List AV} {k : IntKind} {i : Int} : aidxA len sz (.pp cells) (.lit (.int k i)) = if 0 ≤ i ∧ i < len then some (.pp (cells.drop (i.toNat * sz))) else none := rfl
theorem aidxA_op {len sz j r c : Nat} {k : IntKind} {i : Int} : aidxA len sz (.op j r c) (.lit (.int k i)) = if 0 ≤ i ∧ i < len then some (.op j r (c + i.toNat * sz)) else none := rfl
theorem achr_lit {s : ByteArray} {k : IntKind} {i : Int} (h : 0 ≤ i ∧ i < s.size) : achr (.lit (.string s)) (.lit (.int k i)) = some (.lit (.int .u8 (byteAt s i.toNat))) := by
  simp only [achr, if_pos h]

/-! Whole numbers. -/
section
variable {k : IntKind} {a b : Int}
theorem bin_add : abin .add (.lit (.int k a)) (.lit (.int k b)) = some (.lit (.int k (k.wrap (a + b)))) := by simp [abin, aint]
theorem bin_sub : abin .sub (.lit (.int k a)) (.lit (.int k b)) = some (.lit (.int k (k.wrap (a - b)))) := by simp [abin, aint]
theorem bin_mul : abin .mul (.lit (.int k a)) (.lit (.int k b)) = some (.lit (.int k (k.wrap (a * b)))) := by simp [abin, aint]
theorem bin_quo (h : b ≠ 0) : abin .quo (.lit (.int k a)) (.lit (.int k b)) = some (.lit (.int k (k.wrap (a.tdiv b)))) := by simp [abin, aint, h]
theorem bin_rem (h : b ≠ 0) : abin .rem (.lit (.int k a)) (.lit (.int k b)) = some (.lit (.int k (a.tmod b))) := by simp [abin, aint, h]
theorem bin_eql : abin .eql (.lit (.int k a)) (.lit (.int k b)) = some (.bool (decide (a = b))) := by simp only [abin, aint, if_true]; exact congrArg (fun b => some (AV.bool b)) (by rw [Bool.eq_iff_iff]; simp)
theorem bin_neq : abin .neq (.lit (.int k a)) (.lit (.int k b)) = some (.bool (!decide (a = b))) := by simp only [abin, aint, if_true]; exact congrArg (fun b => some (AV.bool b)) (by rw [Bool.eq_iff_iff]; simp)
theorem bin_lss : abin .lss (.lit (.int k a)) (.lit (.int k b)) = some (.bool (decide (a < b))) := by simp [abin, aint]
theorem bin_leq : abin .leq (.lit (.int k a)) (.lit (.int k b)) = some (.bool (decide (a ≤ b))) := by simp [abin, aint]
theorem bin_gtr : abin .gtr (.lit (.int k a)) (.lit (.int k b)) = some (.bool (decide (b < a))) := by simp [abin, aint]
theorem bin_geq : abin .geq (.lit (.int k a)) (.lit (.int k b)) = some (.bool (decide (b ≤ a))) := by simp [abin, aint]
theorem bin_shl {k' : IntKind} (h : 0 ≤ b) : abin .shl (.lit (.int k a)) (.lit (.int k' b)) = some (.lit (.int k (k.wrap (a * 2 ^ (min b.toNat k.bits))))) := by
  simp only [abin]; rw [if_neg (by omega)]
theorem bin_shr {k' : IntKind} (h : 0 ≤ b) : abin .shr (.lit (.int k a)) (.lit (.int k' b)) = some (.lit (.int k (a.fdiv (2 ^ (min b.toNat k.bits))))) := by
  simp only [abin]; rw [if_neg (by omega)]
end
/-! Texts. -/
section
variable {a b : ByteArray}
theorem bins_add (h : a.size + b.size ≤ 9223372036854775807) : abin .add (.lit (.string a)) (.lit (.string b)) = some (.lit (.string (a ++ b))) := by simp [abin, astr, h]
theorem beq_dec (a b : ByteArray) : (a == b) = decide (a = b) := by
  have h1 : (a == b) = (a.data == b.data) := by cases a; cases b; rfl
  rw [h1]
  by_cases h : a = b
  · subst h; simp
  · rw [decide_eq_false h, beq_eq_false_iff_ne]
    intro k; apply h; cases a; cases b; simp only at k; rw [k]
theorem toList_dec (a b : ByteArray) : (a.toList == b.toList) = decide (a = b) := by
  have h1 : (a.toList = b.toList) ↔ a = b := by
    constructor
    · intro h
      rw [ByteArray.toList_eq, ByteArray.toList_eq] at h
      cases a; cases b
      simp only at h
      congr
      exact Array.toList_inj.1 h
    · rintro rfl; rfl
  by_cases h : a = b
  · rw [decide_eq_true h, beq_iff_eq.2 (h1.2 h)]
  · rw [decide_eq_false h, beq_eq_false_iff_ne.2 fun k => h (h1.1 k)]
theorem bins_eql : abin .eql (.lit (.string a)) (.lit (.string b)) = some (.bool (decide (a = b))) := by rw [← toList_dec]; rfl
theorem bins_neq : abin .neq (.lit (.string a)) (.lit (.string b)) = some (.bool (!decide (a = b))) := by rw [← toList_dec]; rfl
/-- Which text is first. -/
def strLt (a b : ByteArray) : Bool := Op.bytesLess a.toList b.toList
theorem bins_lss : abin .lss (.lit (.string a)) (.lit (.string b)) = some (.bool (strLt a b)) := rfl
theorem bins_leq : abin .leq (.lit (.string a)) (.lit (.string b)) = some (.bool (strLt a b || decide (a = b))) := by rw [← toList_dec]; rfl
theorem bins_gtr : abin .gtr (.lit (.string a)) (.lit (.string b)) = some (.bool (!(strLt a b || decide (a = b)))) := by rw [← toList_dec]; rfl
theorem bins_geq : abin .geq (.lit (.string a)) (.lit (.string b)) = some (.bool (!strLt a b)) := rfl
end
/-! Likeness. -/
theorem eqOne_i {k : IntKind} {a b : Int} : eqOne .i (.lit (.int k a)) (.lit (.int k b)) = some (decide (a = b)) := by simp only [eqOne, if_true]; exact congrArg some (by rw [Bool.eq_iff_iff]; simp)
theorem eqOne_s {a b : ByteArray} : eqOne .s (.lit (.string a)) (.lit (.string b)) = some (decide (a = b)) := congrArg some (beq_dec a b)
theorem eqOne_b {a b : Bool} : eqOne .b (.lit (.bool a)) (.lit (.bool b)) = some (a == b) := rfl
theorem eqCells_nil : eqCells [] [] [] = some true := rfl
theorem eqCells_cons {k : SK} {ks : List SK} {x y : AV} {xs ys : List AV} : eqCells (k :: ks) (x :: xs) (y :: ys) = eqAnd (eqOne k x y) (eqCells ks xs ys) := rfl
theorem eqAnd_two {a b : Bool} : eqAnd (some a) (some b) = some (a && b) := rfl
theorem aeq_bool {a b : Bool} : aeq .bool (.lit (.bool a)) (.lit (.bool b)) = some (a == b) := rfl
theorem aeq_slice {nz : Bool} {rows : List (List AV)} : aeq .slice (.ls nz rows) (.ls false []) = some (!nz) := rfl
theorem aeq_cells {ks : List SK} {xs ys : List AV} : aeq (.cells ks) (.agg xs) (.agg ys) = eqCells ks xs ys := rfl
theorem aeq_ptr_pp {xs : List AV} : aeq .ptr (.pp xs) (.lit (.pointer none)) = some false := rfl
theorem aeq_ptr_op {i r c : Nat} : aeq .ptr (.op i r c) (.lit (.pointer none)) = some false := rfl
theorem aeq_ptr_nil : aeq .ptr (.lit (.pointer none)) (.lit (.pointer none)) = some true := rfl
theorem nego_t {b : Bool} : nego true b = !b := rfl
theorem nego_f {b : Bool} : nego false b = b := rfl
theorem anot_lit {b : Bool} : anot (.lit (.bool b)) = some (.lit (.bool (!b))) := rfl
theorem aneg_lit {k : IntKind} {n : Int} : aneg (.lit (.int k n)) = some (.lit (.int k (k.wrap (0 - n)))) := rfl
theorem acvt_lit {k k' : IntKind} {n : Int} : acvt k (.lit (.int k' n)) = some (.lit (.int k (k.wrap n))) := rfl
theorem asame_lit {s : ByteArray} : asame (.lit (.string s)) = some (.lit (.string s)) := rfl
theorem aext_tup {i : Nat} {vs : List AV} : aext i (.tup vs) = vs[i]? := rfl
theorem alen_ls {nz : Bool} {rows : List (List AV)} : alen (.ls nz rows) = some (.int rows.length) := rfl
theorem alen_os {i off len : Nat} : alen (.os i off len) = some (.int len) := rfl
theorem alenS_lit {s : ByteArray} : alenS (.lit (.string s)) = some (.int s.size) := rfl
theorem abound_none {y d : Nat} : abound y d none = some d := rfl
theorem abound_some {y d : Nat} {k : IntKind} {i : Int} (h : 0 ≤ i ∧ i ≤ y) : abound y d (some (.lit (.int k i))) = some i.toNat := by simp only [abound, if_pos h]
def aslL (nz : Bool) (rows : List (List AV)) (lo : Option AV) : Option Nat → Option AV
  | some h => (abound h 0 lo).map fun l => .ls nz ((rows.take h).drop l)
  | none => none
theorem asl_ls {nz : Bool} {rows : List (List AV)} {lo hi : Option AV} : asl (.ls nz rows) lo hi = aslL nz rows lo (abound rows.length rows.length hi) := by
  simp only [asl]
  cases abound rows.length rows.length hi with
  | none => rfl
  | some h => simp only [aslL]; cases abound h 0 lo <;> rfl
theorem aslL_some {nz : Bool} {rows : List (List AV)} {lo : Option AV} {h : Nat} : aslL nz rows lo (some h) = (abound h 0 lo).map fun l => .ls nz ((rows.take h).drop l) := rfl
def aslOz (i off h : Nat) : Option Nat → Option AV
  | some l => if l = 0 then some (.os i off h) else if l < h then some (.os i (off + l) (h - l)) else some (.ls true [])
  | none => none
def aslO (i off : Nat) (lo : Option AV) : Option Nat → Option AV
  | some h => aslOz i off h (abound h 0 lo)
  | none => none
theorem asl_os {i off len : Nat} {lo hi : Option AV} : asl (.os i off len) lo hi = aslO i off lo (abound len len hi) := by
  simp only [asl]
  cases abound len len hi with
  | none => rfl
  | some h =>
    simp only [aslO, aslOz]
    cases abound h 0 lo with
    | none => rfl
    | some k => rfl
theorem aslO_some {i off h : Nat} {lo : Option AV} : aslO i off lo (some h) = aslOz i off h (abound h 0 lo) := rfl
theorem aslOz_zero {i off h : Nat} : aslOz i off h (some 0) = some (.os i off h) := by simp [aslOz]
theorem aslOz_pos {i off h l : Nat} (h0 : 0 < l) (h1 : l < h) : aslOz i off h (some l) = some (.os i (off + l) (h - l)) := by
  simp only [aslOz, if_neg (show ¬ l = 0 by omega), if_pos h1]
def aslT (s : ByteArray) (lo : Option AV) : Option Nat → Option AV
  | some h => (abound h 0 lo).map fun l => .lit (.string (s.extract l h))
  | none => none
theorem aslS_lit {s : ByteArray} {lo hi : Option AV} : aslS (.lit (.string s)) lo hi = aslT s lo (abound s.size s.size hi) := by
  simp only [aslS]
  cases abound s.size s.size hi with
  | none => rfl
  | some h => simp only [aslT]; cases abound h 0 lo <;> rfl
theorem aslT_some {s : ByteArray} {lo : Option AV} {h : Nat} : aslT s lo (some h) = (abound h 0 lo).map fun l => .lit (.string (s.extract l h)) := rfl
/-! Cells. -/
theorem cells_agg {cs : List AV} : (AV.agg cs).cells? = some cs := rfl
theorem cells_int {k : IntKind} {n : Int} : (AV.lit (.int k n)).cells? = some [.lit (.int k n)] := rfl
theorem cells_str {s : ByteArray} : (AV.lit (.string s)).cells? = some [.lit (.string s)] := rfl
theorem cells_bool {b : Bool} : (AV.lit (.bool b)).cells? = some [.lit (.bool b)] := rfl
theorem cells_nilp : (AV.lit (.pointer none)).cells? = some [.lit (.pointer none)] := rfl
theorem cells_ls {nz : Bool} {rows : List (List AV)} : (AV.ls nz rows).cells? = some [.ls nz rows] := rfl
theorem cells_pp {cs : List AV} : (AV.pp cs).cells? = some [.pp cs] := rfl
theorem cells_os {i off len : Nat} : (AV.os i off len).cells? = some [.os i off len] := rfl
theorem cells_op {i r c : Nat} : (AV.op i r c).cells? = some [.op i r c] := rfl
theorem cells_fn {f : Fn} {caps : List AV} : (AV.fn f caps).cells? = some [.fn f caps] := rfl
theorem one_int {k : IntKind} {n : Int} : (AV.lit (.int k n)).one = true := rfl
theorem one_str {s : ByteArray} : (AV.lit (.string s)).one = true := rfl
theorem one_bool {b : Bool} : (AV.lit (.bool b)).one = true := rfl
theorem one_nilp : (AV.lit (.pointer none)).one = true := rfl
theorem one_ls {nz : Bool} {rows : List (List AV)} : (AV.ls nz rows).one = true := rfl
theorem one_pp {cs : List AV} : (AV.pp cs).one = true := rfl
theorem one_os {i off len : Nat} : (AV.os i off len).one = true := rfl
theorem one_op {i r c : Nat} : (AV.op i r c).one = true := rfl
theorem one_fn {f : Fn} {caps : List AV} : (AV.fn f caps).one = true := rfl
def astoreR (E : TypeId) (sz : Nat) (rows : List (List AV)) (r c : Nat) (cs : List AV) : Option (List AV) → Option AObj
  | some row => if c + cs.length ≤ row.length then some ⟨E, sz, rows.set r (splice row c cs)⟩ else none
  | none => none
theorem astore_mk {E : TypeId} {sz r c : Nat} {rows : List (List AV)} {cs : List AV} : astore ⟨E, sz, rows⟩ r c cs = astoreR E sz rows r c cs rows[r]? := by
  simp only [astore, astoreR]
  cases rows[r]? <;> rfl
theorem astoreR_some {E : TypeId} {sz r c : Nat} {rows : List (List AV)} {cs row : List AV} : astoreR E sz rows r c cs (some row) = if c + cs.length ≤ row.length then some ⟨E, sz, rows.set r (splice row c cs)⟩ else none := rfl
theorem splice_eq {cells cs : List AV} {off : Nat} : splice cells off cs = cells.take off ++ (cs ++ cells.drop (off + cs.length)) := rfl
def afillO (cells : List AV) (off sz : Nat) (rest : List (Nat × Nat × AV)) : Option (List AV) → Option (List AV)
  | some cs => if cs.length = sz ∧ off + sz ≤ cells.length then afill (splice cells off cs) rest else none
  | none => none
theorem afill_nil {cells : List AV} : afill cells [] = some cells := rfl
theorem afill_cons {cells : List AV} {off sz : Nat} {v : AV} {rest : List (Nat × Nat × AV)} : afill cells ((off, sz, v) :: rest) = afillO cells off sz rest v.cells? := by
  simp only [afill, afillO]
  cases v.cells? <;> rfl
theorem afillO_some {cells cs : List AV} {off sz : Nat} {rest : List (Nat × Nat × AV)} : afillO cells off sz rest (some cs) = if cs.length = sz ∧ off + sz ≤ cells.length then afill (splice cells off cs) rest else none := rfl
def arowsO (sz k i : Nat) (rest : List (Nat × AV)) : Option (List AV) → Option (List (List AV))
  | some cs => if i = k ∧ cs.length = sz then (arows sz (k + 1) rest).map fun r => cs :: r else none
  | none => none
theorem arows_nil {sz k : Nat} : arows sz k [] = some [] := rfl
theorem arows_cons {sz k i : Nat} {v : AV} {rest : List (Nat × AV)} : arows sz k ((i, v) :: rest) = arowsO sz k i rest v.cells? := by
  simp only [arows, arowsO]
  cases v.cells? <;> rfl
theorem arowsO_some {sz k i : Nat} {cs : List AV} {rest : List (Nat × AV)} : arowsO sz k i rest (some cs) = if i = k ∧ cs.length = sz then (arows sz (k + 1) rest).map fun r => cs :: r else none := rfl
def lenIs (n : Nat) (f : List (List AV) → AV) : Option (List (List AV)) → Option AV
  | some rows => if rows.length = n then some (f rows) else none
  | none => none
theorem anilc_pp {c : List AV} : anilc (.pp c) = some (.pp c) := rfl
theorem anilc_op {i r c : Nat} : anilc (.op i r c) = some (.op i r c) := rfl
theorem anilc_fn {f : FuncId} {caps : List AV} : anilc (.fn (.func f) caps) = some (.fn (.func f) caps) := rfl
theorem ofVal_nil : AV.ofVal (.slice none 0 0) = .ls false [] := rfl
/-! What is returned. -/
theorem ares1_t {n : Nat} : ares1 H fr (.t n) = some (fr n) := rfl
theorem ares1_c {ag : Bool} {n s : Nat} : ares1 H fr (.c ag n s) = aload H ag n (fr s) := rfl
def aresC (xs : Option (List AV)) (x : Option AV) : Option (List AV) := match x, xs with
  | some x, some xs => some (x :: xs)
  | _, _ => none
theorem aresL_nil : aresL H fr [] = some [] := rfl
theorem aresL_cons {r : ARes} {rs : List ARes} : aresL H fr (r :: rs) = aresC (aresL H fr rs) (ares1 H fr r) := rfl
theorem aresC_some {x : AV} {xs : List AV} : aresC (some xs) (some x) = some (x :: xs) := rfl
theorem aone_one {x : AV} : aone [x] = x := rfl
theorem aone_nil : aone [] = .tup [] := rfl
theorem aone_two {x y : AV} {xs : List AV} : aone (x :: y :: xs) = .tup (x :: y :: xs) := rfl
theorem ares_eq {rs : List ARes} : ares H fr rs = (aresL H fr rs).map aone := rfl
end Go.Ab
