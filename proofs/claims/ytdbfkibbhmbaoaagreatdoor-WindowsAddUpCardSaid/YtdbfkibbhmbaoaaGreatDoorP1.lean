/- What functions of the program compute, as plain functions; no condition. -/
import Derived.Test.YtdbfkibbhmbaoaaGreatDoorA4
import Derived.Test.YtdbfkibbhmbaoaaGreatDoorShelf
import Derived.Lib.SlTrimSet
import Derived.Lib.ValidU
import Derived.Shelf.Unicode.DecodeSlow
import Derived.Sort.Statements
import Derived.Shelf.SlSortCmp.Insertion
/-! What the functions on ids and keys compute. -/
namespace Go.Pm
open Go Go.Ab
/-- A text's bytes as whole numbers. -/
def bytesOf (s : ByteArray) : List Int := s.data.toList.map fun b => (b.toNat : Int)
def allB (s : ByteArray) (p : Int → Bool) : Bool := (bytesOf s).all p
def within (n lo hi : Int) : Bool := decide (lo ≤ n ∧ n ≤ hi)
def small (c : Int) : Bool := decide (97 ≤ c) && decide (c ≤ 122)
def digit (c : Int) : Bool := decide (48 ≤ c) && decide (c ≤ 57)
def capital (c : Int) : Bool := decide (65 ≤ c) && decide (c ≤ 90)
def keyC (c : Int) : Bool := small c || digit c || decide (c = 45) || decide (c = 95)
def labelC (c : Int) : Bool := small c || digit c || decide (c = 45)
def mailC (c : Int) : Bool := small c || digit c || decide (c = 46) || decide (c = 45) || decide (c = 95)
def memberC (c : Int) : Bool := digit c || capital c
def deviceC (c : Int) : Bool := digit c || (decide (97 ≤ c) && decide (c ≤ 102))
def isKey (s : ByteArray) : Bool := within s.size 1 40 && small (byteAt s 0) && allB s keyC
def isLabel (s : ByteArray) : Bool := within s.size 1 30 && !decide (byteAt s 0 = 45) && !decide (byteAt s ((s.size : Int) - 1).toNat = 45) && allB s labelC
def cutT (s sep : ByteArray) : ByteArray × ByteArray × Bool :=
  (⟨(Lib.cut s.data.toList sep.data.toList).1.toArray⟩, ⟨(Lib.cut s.data.toList sep.data.toList).2.1.toArray⟩, (Lib.cut s.data.toList sep.data.toList).2.2)
def splitT (s sep : ByteArray) : List ByteArray := Lib.splitB sep 0 (Lib.countB s sep) s
def isMail (s : ByteArray) : Bool :=
  let c := cutT s ⟨#[64]⟩
  if !c.2.2 || decide (80 < (s.size : Int)) || !within c.1.size 1 64 || decide (byteAt c.1 0 = 46) || decide (byteAt c.1 ((c.1.size : Int) - 1).toNat = 46) || Lib.contains c.1.data.toList [46, 46] then false
  else if !allB c.1 mailC then false
  else (splitT c.2.1 ⟨#[46]⟩).all isLabel && decide (2 ≤ ((splitT c.2.1 ⟨#[46]⟩).length : Int))
def hasPrefix (s p : ByteArray) : Bool := decide (p.size ≤ s.size) && decide (s.extract 0 p.size = p)
def isPhone (s : ByteArray) : Bool := hasPrefix s ⟨#[43]⟩ && within s.size 8 16 && allB (s.extract 1 s.size) digit && !decide (byteAt s 1 = 48)
def isMember (s : ByteArray) : Bool := within s.size 4 20 && allB s memberC
def isDevice (s : ByteArray) : Bool := decide ((s.size : Int) = 32) && allB s deviceC
def signs : ByteArray := ⟨#[48, 49, 50, 51, 52, 53, 54, 55, 56, 57, 65, 66, 67, 68, 69, 70, 71, 72, 73, 74, 75, 76, 77, 78, 79, 80, 81, 82, 83, 84, 85, 86, 87, 88, 89, 90]⟩
/-- The sum over the signs, from the last on. -/
def signSum : List Int → Int → Int → Int
  | [], sum, _ => sum
  | c :: cs, sum, times =>
    let product := times * Lib.indexByte signs.data.toList c.toNat.toUInt8
    signSum cs (sum + (product.tdiv 36 + product.tmod 36)) (3 - times)
def checkSign (s : ByteArray) : Int := byteAt signs ((36 - (signSum (bytesOf s).reverse 0 2).tmod 36).tmod 36).toNat
def checkId (kind : Int) (s : ByteArray) : Int :=
  if kind < 1 ∨ 4 < kind then 4
  else if !(if kind = 1 then isMail s else if kind = 2 then isPhone s else if kind = 3 then isMember s else isDevice s) then 3
  else if kind = 3 ∧ checkSign (s.extract 0 ((s.size : Int) - 1).toNat) ≠ byteAt s ((s.size : Int) - 1).toNat then 15
  else 0
end Go.Pm

/-! What the functions of package consent compute. -/
namespace Go.Cm
open Go Go.Ab Go.Pm
abbrev T := ByteArray
structure Idn where
  kind : Int
  text : T
  deriving DecidableEq
abbrev Idn.c (x : Idn) : List AV := [.int x.kind, .str x.text]
structure Stm where
  no : Int
  at' : Int
  id : Idn
  purpose : T
  region : T
  channel : Int
  what : Int
  deriving DecidableEq
abbrev Stm.c (s : Stm) : List AV := [.int s.no, .int s.at', .int s.id.kind, .str s.id.text, .str s.purpose, .str s.region, .int s.channel, .int s.what]
structure Term where
  region : T
  channel : Int
  free : Bool
  days : Int
  wait : Int
  deriving DecidableEq
abbrev Term.c (t : Term) : List AV := [.str t.region, .int t.channel, .bool t.free, .int t.days, .int t.wait]
structure Purpose where
  name : T
  nz : Bool
  terms : List Term
abbrev Purpose.c (p : Purpose) : List AV := [.str p.name, .ls p.nz (p.terms.map Term.c)]
structure Answer where
  may : Bool
  why : Int
  no : Int
  deriving DecidableEq
abbrev Answer.c (a : Answer) : List AV := [.bool a.may, .int a.why, .int a.no]

def cmpI (a b : Int) : Int := if a < b then -1 else if b < a then 1 else 0
def cmpS (a b : T) : Int := if strLt a b = true then -1 else if strLt a b = true ∨ a = b then 0 else 1
def cmpOr : List Int → Int
  | [] => 0
  | x :: xs => if x ≠ 0 then x else cmpOr xs
def termCmp (a b : Term) : Int := cmpOr [cmpS a.region b.region, cmpI a.channel b.channel]
/-- The search by halves, where 'c i' compares element i. -/
def bsGo (c : Nat → Int) : Nat → Nat → Nat → Nat
  | 0, lo, _ => lo
  | k + 1, lo, hi => if lo < hi then (if c ((lo + hi) / 2) < 0 then bsGo c k ((lo + hi) / 2 + 1) hi else bsGo c k lo ((lo + hi) / 2)) else lo
def at0 {α : Type} (f : α → Int) (l : List α) (i : Nat) : Int := match l[i]? with
  | some x => f x
  | none => 0
def bsAt {α : Type} (f : α → Int) (l : List α) : Nat := bsGo (at0 f l) l.length 0 l.length
def bsHas {α : Type} (f : α → Int) (l : List α) : Bool := decide (bsAt f l < l.length) && decide (at0 f l (bsAt f l) = 0)
def purposeOf (l : List Purpose) (name : T) : Option Purpose := if bsHas (fun p => cmpS p.name name) l then l[bsAt (fun p => cmpS p.name name) l]? else none
def noPurpose : Purpose := ⟨⟨#[]⟩, false, []⟩
def termOf (l : List Purpose) (purpose region : T) (channel : Int) : Option Term :=
  let p := (purposeOf l purpose).getD noPurpose
  let q : Term := ⟨region, channel, false, 0, 0⟩
  if bsHas (fun t => termCmp t q) p.terms then p.terms[bsAt (fun t => termCmp t q) p.terms]? else none
def termErr (prev : Option Term) (t : Term) : Int :=
  if isKey t.region = false then 5
  else if within t.channel 1 4 = false then 4
  else if t.free = true ∧ (t.days ≠ 0 ∨ t.wait ≠ 0) then 3
  else if within t.days 0 2000 = false ∨ within t.wait 0 100000 = false then 1
  else match prev with
    | some p => if 0 ≤ termCmp p t then 7 else 0
    | none => 0
def checkTermsGo : Option Term → List Term → Int
  | _, [] => 0
  | prev, t :: r => if termErr prev t ≠ 0 then termErr prev t else checkTermsGo (some t) r
def checkTerms (l : List Term) : Int := if 160 < l.length then 2 else checkTermsGo none l
def purposeErr (prev : Option Purpose) (p : Purpose) : Int :=
  if isKey p.name = false then 5
  else if (match prev with | some q => strLt p.name q.name || decide (p.name = q.name) | none => false) then 7
  else checkTerms p.terms
def checkPolicyGo : Option Purpose → List Purpose → Int
  | _, [] => 0
  | prev, p :: r => if purposeErr prev p ≠ 0 then purposeErr prev p else checkPolicyGo (some p) r
def checkPolicy (l : List Purpose) : Int := if l.length = 0 then 3 else if 30 < l.length then 2 else checkPolicyGo none l
def ofCh (w : Int) : Bool := decide (w = 4) || decide (w = 5)
def stmErr (p : List Purpose) (prev : Option Stm) (s : Stm) : Int :=
  if within s.no 1 1000000 = false then 1
  else if (match prev with | some q => decide (s.no ≤ q.no) | none => false) then 7
  else if within s.at' 0 4321439 = false then 1
  else if checkId s.id.kind s.id.text ≠ 0 then checkId s.id.kind s.id.text
  else if within s.channel 1 4 = false ∨ within s.what 1 5 = false then 4
  else if ofCh s.what = true ∧ s.purpose ≠ ⟨#[]⟩ then 3
  else if ofCh s.what = false ∧ (purposeOf p s.purpose).isSome = false then 8
  else if isKey s.region = false then 5
  else 0
def checkGo (p : List Purpose) : Option Stm → List Stm → Int
  | _, [] => 0
  | prev, s :: r => if stmErr p prev s ≠ 0 then stmErr p prev s else checkGo p (some s) r
def check (p : List Purpose) (l : List Stm) : Int := if checkPolicy p ≠ 0 then checkPolicy p else if 3000 < l.length then 2 else checkGo p none l
structure Q where
  p : List Purpose
  nz : Bool
  purpose : T
  region : T
  channel : Int
  at' : Int
abbrev Q.c (q : Q) : List AV := [.ls q.nz (q.p.map Purpose.c), .str q.purpose, .str q.region, .int q.channel, .int q.at']
def Q.check (q : Q) : Int :=
  if (purposeOf q.p q.purpose).isSome = false then 8
  else if isKey q.region = false then 5
  else if within q.channel 1 4 = false then 4
  else if within q.at' 0 4321439 = false then 1
  else 0
def checkIdsGo : List Idn → Int
  | [] => 0
  | x :: r => if checkId x.kind x.text ≠ 0 then checkId x.kind x.text else checkIdsGo r
def checkIds (l : List Idn) (most : Int) : Int := if most < (l.length : Int) then 2 else checkIdsGo l
def checkAll (q : Q) (l : List Stm) (most : Int) (ids : List Idn) : Int :=
  if Cm.check q.p l ≠ 0 then Cm.check q.p l else if checkIds ids most ≠ 0 then checkIds ids most else q.check
/-! Sorting by insertion: the sorted part lies in reverse. -/
def insRev {α : Type} (f : α → α → Int) (x : α) : List α → List α
  | [] => [x]
  | p :: r => if f x p < 0 then p :: insRev f x r else x :: p :: r
def isort {α : Type} (f : α → α → Int) (l : List α) : List α := (l.foldl (fun r x => insRev f x r) []).reverse
def stmCmp (a b : Stm) : Int := cmpOr [cmpI a.at' b.at', cmpI a.no b.no]
def saidBy (l : List Stm) (x : Idn) (channel : Int) : List Stm := isort stmCmp (l.filter fun s => decide (s.id = x) && decide (s.channel = channel))
def upTo (l : List Stm) (at' : Int) : List Stm := l.take (bsAt (fun s => cmpI s.at' (at' + 1)) l)
def objStep (a : Int × Int × Bool) (s : Stm) : Int × Int × Bool :=
  if ofCh s.what = true then
    let b := if a.2.1 < s.at' then (0, s.at', false) else a
    if s.what = 4 ∧ b.2.2 = false then (s.no, b.2.1, true) else b
  else a
def objected (l : List Stm) : Int × Int × Bool := l.foldl objStep (0, -1, false)
def wdStep (purpose : T) (a : Option Stm) (s : Stm) : Option Stm :=
  if s.what = 3 ∧ s.purpose = purpose ∧ (match a with | some w => decide (w.at' < s.at') | none => true) = true then some s else a
def withdrawal (l : List Stm) (purpose : T) : Option Stm := l.foldl (wdStep purpose) none
def grants (l : List Stm) (purpose : T) : List Stm :=
  l.filter fun s => decide (s.what = 1) && decide (s.purpose = purpose) && (match withdrawal l purpose with | some w => decide (w.at' < s.at') | none => true)
def noStm : Stm := ⟨0, 0, ⟨0, ⟨#[]⟩⟩, ⟨#[]⟩, ⟨#[]⟩, 0, 0⟩
def confirmation (l : List Stm) (purpose : T) (lo hi : Int) : Option Stm := l.find? fun s => decide (s.what = 2) && decide (s.purpose = purpose) && within s.at' lo hi
def stateOf (l : List Stm) (t : Term) (g : Stm) (at' : Int) : Int :=
  if t.days ≠ 0 ∧ g.at' + t.days * 1440 ≤ at' then 7
  else if t.wait = 0 then 2
  else if (confirmation l g.purpose g.at' (g.at' + t.wait)).isSome = true then 2
  else if at' ≤ g.at' + t.wait then 8
  else 9
def rank (w : Int) : Int := if w = 2 then 0 else if w = 8 then 1 else if w = 9 then 2 else if w = 7 then 3 else -1
def bestStep (l : List Stm) (t : Term) (at' : Int) (a : Stm × Int) (g : Stm) : Stm × Int :=
  let s := stateOf l t g at'
  if a.2 = 0 ∨ rank s < rank a.2 ∨ (s = a.2 ∧ a.1.at' < g.at') then (g, s) else a
def allowed (l : List Stm) (t : Term) (purpose : T) (at' : Int) : Answer :=
  let g := grants l purpose
  match withdrawal l purpose with
  | some w => if g.length = 0 then ⟨false, 5, w.no⟩ else if t.free = true then ⟨true, 1, 0⟩ else
      let b := g.foldl (bestStep l t at') (noStm, 0)
      ⟨decide (b.2 = 2), b.2, b.1.no⟩
  | none => if t.free = true then ⟨true, 1, 0⟩ else if g.length = 0 then ⟨false, 4, 0⟩ else
      let b := g.foldl (bestStep l t at') (noStm, 0)
      ⟨decide (b.2 = 2), b.2, b.1.no⟩
def answerL (t : Option Term) (purpose : T) (l : List Stm) (at' : Int) : Answer :=
  match t with
  | none => ⟨false, 3, 0⟩
  | some t =>
    let u := upTo l at'
    if (objected u).2.2 = true then ⟨false, 6, (objected u).1⟩ else allowed u t purpose at'
def answer (q : Q) (l : List Stm) (x : Idn) (at' : Int) : Answer := answerL (termOf q.p q.purpose q.region q.channel) q.purpose (saidBy l x q.channel) at'
def may (q : Q) (l : List Stm) (x : Idn) : Answer × Int :=
  if checkAll q l 1 [x] ≠ 0 then (⟨false, 0, 0⟩, checkAll q l 1 [x]) else (answer q l x q.at', 0)
end Go.Cm

/-! What the references say of ids and keys is what the program says. -/
namespace Go.Rm
open Go Go.Ab Go.Pm Go.Cm
theorem dw_nil {α : Type} (p : α → Bool) : ∀ l : List α, l.dropWhile p = [] ↔ ∀ b ∈ l, p b = true
  | [] => by simp
  | x :: l => by
    rw [List.dropWhile_cons]
    by_cases h : p x = true
    · rw [if_pos h, dw_nil p l]; simp [h]
    · rw [if_neg h]; simp [h]
theorem dw_head {α : Type} (p : α → Bool) : ∀ (l : List α) (x : α) (r : List α), l.dropWhile p = x :: r → p x = false
  | [], x, r, h => by simp at h
  | y :: l, x, r, h => by
    rw [List.dropWhile_cons] at h
    by_cases hy : p y = true
    · rw [if_pos hy] at h; exact dw_head p l x r h
    · rw [if_neg hy] at h
      cases h
      simpa using hy
theorem dw_len {α : Type} (p : α → Bool) : ∀ l : List α, (l.dropWhile p).length ≤ l.length
  | [] => by simp
  | y :: l => by
    rw [List.dropWhile_cons]
    have := dw_len p l
    split
    · simp; omega
    · exact Nat.le_refl _
theorem dw_same {α : Type} (p : α → Bool) {l : List α} (h : l.length ≤ (l.dropWhile p).length) : l.dropWhile p = l := by
  cases l with
  | nil => rfl
  | cons y l =>
    rw [List.dropWhile_cons] at h ⊢
    by_cases hy : p y = true
    · rw [if_pos hy] at h
      have := dw_len p l
      simp only [List.length_cons] at h
      omega
    · rw [if_neg hy]
theorem trim_nil (l cs : List UInt8) : Lib.trimS l cs = [] ↔ ∀ b ∈ l, cs.contains b = true := by
  unfold Lib.trimS Lib.trimLeftS Lib.trimRightS
  rw [dw_nil]
  constructor
  · intro h
    have h1 : ∀ b ∈ l.reverse.dropWhile (cs.contains ·), cs.contains b = true := fun b hb => h b (by simpa using hb)
    have h2 : l.reverse.dropWhile (cs.contains ·) = [] := by
      cases hx : l.reverse.dropWhile (cs.contains ·) with
      | nil => rfl
      | cons x r =>
        have h3 := dw_head _ _ _ _ hx
        have h4 := h1 x (by rw [hx]; simp)
        rw [h3] at h4; cases h4
    rw [dw_nil] at h2
    intro b hb
    exact h2 b (by simpa using hb)
  · intro h b hb
    have : l.reverse.dropWhile (cs.contains ·) = [] := by
      rw [dw_nil]; intro b hb; exact h b (by simpa using hb)
    rw [this] at hb
    simp at hb
theorem trim_ends {l cs : List UInt8} (h : Lib.trimS l cs = l) {x y : UInt8} {r q : List UInt8} (h1 : l = x :: r) (h2 : l = q ++ [y]) : cs.contains x = false ∧ cs.contains y = false := by
  unfold Lib.trimS Lib.trimLeftS Lib.trimRightS at h
  have hl := congrArg List.length h
  have h3 := dw_len (cs.contains ·) (l.reverse.dropWhile (cs.contains ·)).reverse
  have h4 := dw_len (cs.contains ·) l.reverse
  simp only [List.length_reverse] at h3 h4
  have h5 : l.reverse.dropWhile (cs.contains ·) = l.reverse := dw_same _ (by simp only [List.length_reverse]; omega)
  rw [h5, List.reverse_reverse] at h
  constructor
  · rw [h1] at h; exact dw_head _ _ _ _ h
  · have : l.reverse = y :: q.reverse := by rw [h2]; simp
    rw [this] at h5
    exact dw_head _ _ _ _ h5

abbrev smallsT : T := ⟨#[97, 98, 99, 100, 101, 102, 103, 104, 105, 106, 107, 108, 109, 110, 111, 112, 113, 114, 115, 116, 117, 118, 119, 120, 121, 122]⟩
def trimT (s set : T) : T := ⟨(Lib.trimS s.data.toList set.data.toList).toArray⟩
/-- A text of which all bytes are some. -/
def only (s set : T) : Bool := decide (trimT s set = ⟨#[]⟩)
theorem toList_ext {a b : T} (h : a.data.toList = b.data.toList) : a = b := by
  obtain ⟨⟨a⟩⟩ := a
  obtain ⟨⟨b⟩⟩ := b
  have : a = b := h
  rw [this]
theorem only_all {s set : T} (h : only s set = true) : ∀ b ∈ s.data.toList, b ∈ set.data.toList := by
  have h := of_decide_eq_true h
  have h : (trimT s set).data.toList = [] := by rw [h]
  intro b hb
  have := (trim_nil _ _).1 h b hb
  simpa using this
theorem only_allB {s set : T} (h : only s set = true) (p : Int → Bool) (hp : ∀ b ∈ set.data.toList, p b.toNat = true) : allB s p = true := by
  unfold allB bytesOf
  rw [List.all_map, List.all_eq_true]
  exact fun b hb => hp b (only_all h b hb)
def keyT : T := ⟨#[97, 98, 99, 100, 101, 102, 103, 104, 105, 106, 107, 108, 109, 110, 111, 112, 113, 114, 115, 116, 117, 118, 119, 120, 121, 122, 48, 49, 50, 51, 52, 53, 54, 55, 56, 57, 45, 95]⟩
def mailT : T := ⟨#[97, 98, 99, 100, 101, 102, 103, 104, 105, 106, 107, 108, 109, 110, 111, 112, 113, 114, 115, 116, 117, 118, 119, 120, 121, 122, 48, 49, 50, 51, 52, 53, 54, 55, 56, 57, 46, 45, 95]⟩
def labelT : T := ⟨#[97, 98, 99, 100, 101, 102, 103, 104, 105, 106, 107, 108, 109, 110, 111, 112, 113, 114, 115, 116, 117, 118, 119, 120, 121, 122, 48, 49, 50, 51, 52, 53, 54, 55, 56, 57, 45]⟩
def digitT : T := ⟨#[48, 49, 50, 51, 52, 53, 54, 55, 56, 57]⟩
def deviceT : T := ⟨#[48, 49, 50, 51, 52, 53, 54, 55, 56, 57, 97, 98, 99, 100, 101, 102]⟩
theorem byteAt_get {s : T} {i : Nat} {b : UInt8} (h : s.data.toList[i]? = some b) : byteAt s i = b.toNat := by
  unfold byteAt
  rw [Array.getElem?_toList] at h
  rw [h]; rfl
theorem list_ends {l : List UInt8} (h : 0 < l.length) : ∃ x r y q, l = x :: r ∧ l = q ++ [y] ∧ l[0]? = some x ∧ l[l.length - 1]? = some y := by
  cases l with
  | nil => simp at h
  | cons x r =>
    refine ⟨x, r, (x :: r).getLast (by simp), (x :: r).dropLast, rfl, (List.dropLast_concat_getLast (by simp)).symm, rfl, ?_⟩
    rw [← List.getLast?_eq_getElem?, List.getLast?_eq_some_getLast (by simp)]
theorem tlen (s : T) : s.data.toList.length = s.size := by rw [Array.length_toList]; rfl
def rKey (s : T) : Bool := within s.size 1 40 && (only (s.extract 0 1) smallsT && only s keyT)
theorem key_of {s : T} (h : rKey s = true) : isKey s = true := by
  simp only [rKey, Bool.and_eq_true] at h
  obtain ⟨h1, h2, h3⟩ := h
  have hs : 1 ≤ s.size := by have := of_decide_eq_true h1; omega
  obtain ⟨x, r, y, q, e1, e2, e3, e4⟩ := list_ends (l := s.data.toList) (by rw [tlen]; omega)
  have hb := byteAt_get e3
  simp only [isKey, Bool.and_eq_true]
  refine ⟨⟨h1, ?_⟩, only_allB h3 _ (by decide)⟩
  rw [hb]
  have hx : x ∈ (s.extract 0 1).data.toList := by
    rw [ByteArray.data_extract, Array.toList_extract]
    rw [e1]; simp
  have hx := only_all h2 x hx
  have : ∀ b ∈ smallsT.data.toList, small b.toNat = true := by decide
  exact this x hx

/-! Ids. -/
def rLabel (l : T) : Bool := within l.size 1 30 && (only l labelT && decide (trimT l ⟨#[45]⟩ = l))
theorem ends_of {l : T} {c : UInt8} (h : trimT l ⟨#[c]⟩ = l) (hl : 1 ≤ l.size) : byteAt l 0 ≠ c.toNat ∧ byteAt l ((l.size : Int) - 1).toNat ≠ c.toNat := by
  obtain ⟨x, r, y, q, e1, e2, e3, e4⟩ := list_ends (l := l.data.toList) (by rw [tlen]; omega)
  have h : Lib.trimS l.data.toList [c] = l.data.toList := congrArg (fun s : T => s.data.toList) h
  obtain ⟨k1, k2⟩ := trim_ends h e1 e2
  rw [tlen] at e4
  have e5 : ((l.size : Int) - 1).toNat = l.size - 1 := by omega
  rw [byteAt_get e3, e5, byteAt_get e4]
  have hne : ∀ b : UInt8, [c].contains b = false → (b.toNat : Int) ≠ c.toNat := fun b hb e => by
    have : b = c := UInt8.toNat_inj.1 (by omega)
    subst this
    simp at hb
  exact ⟨hne x k1, hne y k2⟩
theorem label_of {l : T} (h : rLabel l = true) : isLabel l = true := by
  simp only [rLabel, Bool.and_eq_true, decide_eq_true_eq] at h
  obtain ⟨h1, h2, h3⟩ := h
  have hs : 1 ≤ l.size := by have := of_decide_eq_true h1; omega
  obtain ⟨k1, k2⟩ := ends_of h3 hs
  simp only [isLabel, Bool.and_eq_true, Bool.not_eq_true', decide_eq_false_iff_not]
  exact ⟨⟨⟨h1, k1⟩, k2⟩, only_allB h2 _ (by decide)⟩
def rMail (s : T) : Bool :=
  let c := cutT s ⟨#[64]⟩
  (c.2.2 && (decide (s.size ≤ 80) && (within c.1.size 1 64 && (only c.1 mailT && (decide (trimT c.1 ⟨#[46]⟩ = c.1) && (!Lib.contains c.1.data.toList [46, 46] && decide (2 ≤ (splitT c.2.1 ⟨#[46]⟩).length))))))) && (splitT c.2.1 ⟨#[46]⟩).all rLabel
theorem mail_of {s : T} (h : rMail s = true) : isMail s = true := by
  simp only [rMail, Bool.and_eq_true, decide_eq_true_eq, Bool.not_eq_true', List.all_eq_true] at h
  obtain ⟨⟨h1, h2, h3, h4, h5, h6, h7⟩, h8⟩ := h
  have hs : 1 ≤ (cutT s ⟨#[64]⟩).1.size := by have := of_decide_eq_true h3; omega
  obtain ⟨k1, k2⟩ := ends_of h5 hs
  have k1 : ¬ byteAt (cutT s ⟨#[64]⟩).1 0 = 46 := k1
  have k2 : ¬ byteAt (cutT s ⟨#[64]⟩).1 (((cutT s ⟨#[64]⟩).1.size : Int) - 1).toNat = 46 := k2
  have hall := only_allB h4 mailC (by decide)
  have h2' : ¬ (80 : Int) < s.size := by omega
  have h7' : (2 : Int) ≤ ((splitT (cutT s ⟨#[64]⟩).2.1 ⟨#[46]⟩).length : Int) := by omega
  simp only [isMail, h1, h3, h6, hall, k1, k2, h2', h7', decide_false, decide_true, Bool.not_true, Bool.or_false, Bool.false_eq_true, if_false, Bool.and_true, List.all_eq_true]
  exact fun l hl => label_of (h8 l hl)
def rPhone (s : T) : Bool := hasPrefix s ⟨#[43]⟩ && (within (s.extract 1 s.size).size 7 15 && (only (s.extract 1 s.size) digitT && !decide (byteAt (s.extract 1 s.size) 0 = 48)))
theorem phone_of {s : T} (h : rPhone s = true) : isPhone s = true := by
  simp only [rPhone, Bool.and_eq_true, Bool.not_eq_true', decide_eq_false_iff_not] at h
  obtain ⟨h1, h2, h3, h4⟩ := h
  have hs := of_decide_eq_true h2
  rw [ByteArray.size_extract] at hs
  have hb : byteAt (s.extract 1 s.size) 0 = byteAt s 1 := by
    unfold byteAt
    rw [ByteArray.data_extract, Array.getElem?_extract]
    rw [if_pos (by show 0 < min s.size s.data.size - 1; have : s.data.size = s.size := rfl; omega)]
  simp only [isPhone, Bool.and_eq_true, Bool.not_eq_true', decide_eq_false_iff_not]
  refine ⟨⟨⟨h1, ?_⟩, only_allB h3 _ (by decide)⟩, by rw [← hb]; exact h4⟩
  unfold within
  exact decide_eq_true (by omega)
def rMember (s : T) : Bool := within s.size 4 20 && only s signs
theorem member_of {s : T} (h : rMember s = true) : isMember s = true := by
  simp only [rMember, Bool.and_eq_true] at h
  simp only [isMember, Bool.and_eq_true]
  exact ⟨h.1, only_allB h.2 _ (by decide)⟩
def rDevice (s : T) : Bool := decide ((s.size : Int) = 32) && only s deviceT
theorem device_of {s : T} (h : rDevice s = true) : isDevice s = true := by
  simp only [rDevice, Bool.and_eq_true] at h
  simp only [isDevice, Bool.and_eq_true]
  exact ⟨h.1, only_allB h.2 _ (by decide)⟩
/-- The reference's sum, from the first sign on. -/
def rSum : List Int → Int
  | [] => 0
  | c :: cs =>
    let n := (if (cs.length + 1) % 2 = 1 then 2 else 1) * Lib.indexByte signs.data.toList c.toNat.toUInt8
    (n.tdiv 36 + n.tmod 36) + rSum cs
def timesOf (k : Nat) : Int := if k % 2 = 0 then 2 else 1
theorem signSum_app : ∀ (l : List Int) (c : Int) (s : Int) (k : Nat), signSum (l ++ [c]) s (timesOf k) = signSum l s (timesOf k) + (((timesOf (k + l.length)) * Lib.indexByte signs.data.toList c.toNat.toUInt8).tdiv 36 + ((timesOf (k + l.length)) * Lib.indexByte signs.data.toList c.toNat.toUInt8).tmod 36)
  | [], c, s, k => by simp [signSum]
  | x :: l, c, s, k => by
    have ht : 3 - timesOf k = timesOf (k + 1) := by
      unfold timesOf
      split <;> split <;> omega
    simp only [List.cons_append, signSum, ht, List.length_cons]
    rw [signSum_app l c _ (k + 1), show k + 1 + l.length = k + (l.length + 1) from by omega]
theorem rSum_eq : ∀ l : List Int, signSum l.reverse 0 2 = rSum l
  | [] => rfl
  | c :: l => by
    have h := signSum_app l.reverse c 0 0
    rw [show timesOf 0 = 2 from rfl, Nat.zero_add, List.length_reverse] at h
    rw [List.reverse_cons, h, rSum_eq l, rSum, Int.add_comm]
    have : timesOf l.length = if (l.length + 1) % 2 = 1 then 2 else 1 := by
      unfold timesOf
      split <;> split <;> omega
    rw [this]
/-- The first sign from c on that makes the sum go up in 36. -/
def rFind (sum : Int) : Nat → Nat → Int
  | 0, _ => 0
  | k + 1, c => if (sum + c).tmod 36 = 0 then c else rFind sum k (c + 1)
def rCheckSign (s : T) : Int := rFind (rSum (bytesOf s)) 36 0
theorem rFind_eq (sum : Int) (h0 : 0 ≤ sum) : ∀ (k c : Nat), c + k = 36 → c ≤ ((36 - sum.tmod 36).tmod 36).toNat → rFind sum k c = (36 - sum.tmod 36).tmod 36 := by
  have e1 : sum.tmod 36 = sum % 36 := Int.tmod_eq_emod_of_nonneg h0
  have e2 : (36 - sum.tmod 36).tmod 36 = (36 - sum % 36) % 36 := by rw [e1]; exact Int.tmod_eq_emod_of_nonneg (by omega)
  rw [e2]
  intro k
  induction k with
  | zero => intro c hc hle; omega
  | succ k ih =>
    intro c hc hle
    have e3 : (sum + c).tmod 36 = (sum + c) % 36 := Int.tmod_eq_emod_of_nonneg (by omega)
    rw [rFind, e3]
    by_cases h : (sum + (c : Int)) % 36 = 0
    · rw [if_pos h]; omega
    · rw [if_neg h]
      exact ih (c + 1) (by omega) (by omega)
def rId (kind : Int) (s : T) : Int :=
  if kind = 1 then (if rMail s then 0 else 3)
  else if kind = 2 then (if rPhone s then 0 else 3)
  else if kind = 3 then (if rMember s then (if byteAt signs (rCheckSign (s.extract 0 ((s.size : Int) - 1).toNat)).toNat ≠ byteAt s ((s.size : Int) - 1).toNat then 15 else 0) else 3)
  else if kind = 4 then (if rDevice s then 0 else 3)
  else 4
theorem rSum_nonneg : ∀ (l : List Int), (∀ c ∈ l, 0 ≤ Lib.indexByte signs.data.toList c.toNat.toUInt8) → 0 ≤ rSum l
  | [], _ => Int.le_refl _
  | c :: l, h => by
    have h1 := rSum_nonneg l fun x hx => h x (by simp [hx])
    have h2 := h c (by simp)
    have h3 : 0 ≤ (if (l.length + 1) % 2 = 1 then (2 : Int) else 1) * Lib.indexByte signs.data.toList c.toNat.toUInt8 := by split <;> omega
    have h4 := Int.tdiv_nonneg h3 (show (0 : Int) ≤ 36 by decide)
    have h5 := Int.tmod_nonneg 36 h3
    simp only [rSum]
    omega
theorem id_of {kind : Int} {s : T} (h : rId kind s = 0) : checkId kind s = 0 := by
  unfold rId at h
  unfold checkId
  by_cases h1 : kind = 1
  · subst h1
    rw [if_pos rfl] at h
    split at h
    · rename_i hm
      simp [mail_of hm]
    · cases h
  rw [if_neg h1] at h
  by_cases h2 : kind = 2
  · subst h2
    rw [if_pos rfl] at h
    split at h
    · rename_i hm
      simp [phone_of hm]
    · cases h
  rw [if_neg h2] at h
  by_cases h3 : kind = 3
  · subst h3
    rw [if_pos rfl] at h
    split at h
    · rename_i hm
      split at h
      · cases h
      · rename_i hs
        have hs : byteAt signs (rCheckSign (s.extract 0 ((s.size : Int) - 1).toNat)).toNat = byteAt s ((s.size : Int) - 1).toNat := by simpa using hs
        have hpos : 0 ≤ rSum (bytesOf (s.extract 0 ((s.size : Int) - 1).toNat)) := rSum_nonneg _ fun c hc => by
          simp only [bytesOf, List.mem_map] at hc
          obtain ⟨b, hb, rfl⟩ := hc
          simp only [rMember, Bool.and_eq_true] at hm
          have hb2 : b ∈ s.data.toList := by
            rw [ByteArray.data_extract, Array.toList_extract] at hb
            exact List.mem_of_mem_drop (List.mem_of_mem_take hb)
          have hb3 := only_all hm.2 b hb2
          have hall : ∀ x ∈ signs.data.toList, 0 ≤ Lib.indexByte signs.data.toList ((x.toNat : Int).toNat.toUInt8) := by decide +kernel
          exact hall b hb3
        have hcs : checkSign (s.extract 0 ((s.size : Int) - 1).toNat) = byteAt s ((s.size : Int) - 1).toNat := by
          rw [← hs, checkSign, rCheckSign, rSum_eq, rFind_eq _ hpos 36 0 rfl (Nat.zero_le _)]
        simp only [member_of hm, hcs, ne_eq, not_true_eq_false, and_false, if_false]
        rfl
    · cases h
  rw [if_neg h3] at h
  by_cases h4 : kind = 4
  · subst h4
    rw [if_pos rfl] at h
    split at h
    · rename_i hm
      simp [device_of hm]
    · cases h
  · rw [if_neg h4] at h
    cases h
end Go.Rm

/-! Values, fields, events: what the program's checks and the reference's say. -/
namespace Go.El
open Go Go.Ab Go.Pm Go.Cm Go.Rm
structure Val where
  kind : Int
  text : T
  num : Int
  deriving DecidableEq
abbrev Val.c (v : Val) : List AV := [.int v.kind, .str v.text, .int v.num]
structure Fld where
  name : T
  val : Val
  deriving DecidableEq
abbrev Fld.c (f : Fld) : List AV := [.str f.name, .int f.val.kind, .str f.val.text, .int f.val.num]
structure Evt where
  id : T
  name : T
  at' : Int
  who : Idn
  nz : Bool
  fs : List Fld
abbrev Evt.c (e : Evt) : List AV := [.str e.id, .str e.name, .int e.at', .int e.who.kind, .str e.who.text, .ls e.nz (e.fs.map Fld.c)]

/-! The program. -/
def textC (c : Int) : Bool := decide (32 ≤ c) && !decide (c = 127)
def checkText (s : T) : Int := if 200 < (s.size : Int) then 2 else if Lib.validD s.data.toList = false then 3 else if allB s textC = false then 3 else 0
def checkValue (v : Val) : Int :=
  if v.kind = 1 then (if v.num ≠ 0 then 3 else checkText v.text)
  else if v.kind = 2 then (if v.text ≠ ⟨#[]⟩ then 3 else if within v.num (-1000000000000) 1000000000000 = false then 1 else 0)
  else if v.kind = 3 then (if v.text ≠ ⟨#[]⟩ then 3 else if within v.num 0 1 = false then 1 else 0)
  else if v.kind = 4 then (if v.text ≠ ⟨#[]⟩ then 3 else if within v.num 0 4321439 = false then 1 else 0)
  else 4
def fieldErr (prev : Option Fld) (f : Fld) : Int :=
  if isKey f.name = false then 5
  else if checkValue f.val ≠ 0 then checkValue f.val
  else match prev with
    | some p => if strLt f.name p.name || decide (f.name = p.name) then 7 else 0
    | none => 0
def checkFieldsGo : Option Fld → List Fld → Int
  | _, [] => 0
  | prev, f :: r => if fieldErr prev f ≠ 0 then fieldErr prev f else checkFieldsGo (some f) r
def checkFields (l : List Fld) : Int := if 30 < l.length then 2 else checkFieldsGo none l
def checkOne (e : Evt) : Int :=
  if isKey e.id = false then 5
  else if isKey e.name = false then 5
  else if within e.at' 0 4321439 = false then 1
  else if checkId e.who.kind e.who.text ≠ 0 then checkId e.who.kind e.who.text
  else checkFields e.fs

/-! The reference. -/
/-- The code points of a text. -/
def ptsF : Nat → T → List Int
  | 0, _ => []
  | n + 1, s => if s = ⟨#[]⟩ then [] else
    (if (Lib.decodeGo s).1 = 65533 ∧ (Lib.decodeGo s).2 = 1 then -1 - byteAt s 0 else (Lib.decodeGo s).1) :: ptsF n (s.extract (Lib.decodeGo s).2 s.size)
def pts (s : T) : List Int := ptsF s.size s
def rText (s : T) : Bool := (pts s).all fun p => !(decide (p < 32) || decide (p = 127))
def rLow (k : Int) : Int := if k = 2 then -1000000000000 else 0
def rHigh (k : Int) : Int := if k = 2 then 1000000000000 else if k = 3 then 1 else if k = 4 then 4321439 else 0
def rValue (v : Val) : Int :=
  if within v.kind 1 4 = false then 4
  else if v.kind = 1 then (if v.num ≠ 0 then 3 else if 200 < (v.text.size : Int) then 2 else if rText v.text = false then 3 else 0)
  else if v.text ≠ ⟨#[]⟩ then 3
  else if within v.num (rLow v.kind) (rHigh v.kind) = false then 1
  else 0
def rFieldErr (last : T) (f : Fld) : Int :=
  if rKey f.name = false then 5
  else if rValue f.val ≠ 0 then rValue f.val
  else if strLt f.name last || decide (f.name = last) then 7
  else 0
def rFieldsGo : T → List Fld → Int
  | _, [] => 0
  | last, f :: r => if rFieldErr last f ≠ 0 then rFieldErr last f else rFieldsGo f.name r
def rFields (l : List Fld) : Int := if 30 < l.length then 2 else rFieldsGo ⟨#[]⟩ l
def rEvent (e : Evt) : Int :=
  if rKey e.id = false then 5
  else if rKey e.name = false then 5
  else if within e.at' 0 4321439 = false then 1
  else if rId e.who.kind e.who.text ≠ 0 then rId e.who.kind e.who.text
  else rFields e.fs

/-! What the stream's values have for texts. -/
def aas (n : Nat) : T := ⟨(List.replicate n (97 : UInt8)).toArray⟩
def shorts : List T := [⟨#[]⟩, ⟨#[97, 110, 110]⟩, ⟨#[97, 110, 110, 97]⟩, ⟨#[65, 110, 110, 32, 66]⟩, ⟨#[98, 111, 98]⟩, ⟨#[195, 169, 116, 195, 169]⟩, ⟨#[34, 113, 34]⟩, ⟨#[97, 61, 98]⟩, ⟨#[92]⟩, ⟨#[120]⟩, ⟨#[10]⟩, ⟨#[127]⟩, ⟨#[255]⟩]
def texts : List T := shorts ++ [aas 200, aas 201]
theorem shorts_ok : (shorts.all fun t => decide (200 < (t.size : Int)) || !rText t || (Lib.validD t.data.toList && allB t textC)) = true := by decide +kernel
theorem aas_ok : (Lib.validD (aas 200).data.toList && allB (aas 200) textC) = true := by decide +kernel
theorem text_of {t : T} (ht : t ∈ texts) (h1 : ¬ 200 < (t.size : Int)) (h2 : rText t = true) : checkText t = 0 := by
  have h : (Lib.validD t.data.toList && allB t textC) = true := by
    rcases List.mem_append.1 ht with ht | ht
    · have h := List.all_eq_true.1 shorts_ok t ht
      simpa only [h1, h2, decide_false, Bool.not_true, Bool.or_self, Bool.false_or] using h
    · simp only [List.mem_cons, List.not_mem_nil, or_false] at ht
      rcases ht with rfl | rfl
      · exact aas_ok
      · exact absurd (show 200 < ((aas 201).size : Int) by show 200 < ((List.replicate 201 (97 : UInt8)).toArray.size : Int); rw [List.size_toArray, List.length_replicate]; decide) h1
  rw [Bool.and_eq_true] at h
  rw [checkText, if_neg h1, if_neg (by simp [h.1]), if_neg (by simp [h.2])]
theorem value_of {v : Val} (ht : v.text ∈ texts) (h : rValue v = 0) : checkValue v = 0 := by
  unfold rValue at h
  split at h
  · cases h
  rename_i hk
  unfold checkValue
  by_cases h1 : v.kind = 1
  · rw [if_pos h1] at h ⊢
    split at h
    · cases h
    rename_i hn
    rw [if_neg hn]
    split at h
    · cases h
    rename_i hs
    split at h
    · cases h
    rename_i hr
    exact text_of ht hs (by simpa using hr)
  rw [if_neg h1] at h ⊢
  split at h
  · cases h
  rename_i hx
  split at h
  · cases h
  rename_i hw
  simp only [within, decide_eq_false_iff_not, Classical.not_not] at hk
  by_cases h2 : v.kind = 2
  · rw [if_pos h2, if_neg hx, if_neg (by rw [h2] at hw; exact hw)]
  rw [if_neg h2]
  by_cases h3 : v.kind = 3
  · rw [if_pos h3, if_neg hx, if_neg (by rw [h3] at hw; exact hw)]
  rw [if_neg h3]
  have h4 : v.kind = 4 := by omega
  rw [if_pos h4, if_neg hx, if_neg (by rw [h4] at hw; exact hw)]
theorem fieldsGo_of : ∀ (l : List Fld) (prev : Option Fld) (last : T), (∀ p, prev = some p → last = p.name) → (∀ f ∈ l, f.val.text ∈ texts) → rFieldsGo last l = 0 → checkFieldsGo prev l = 0
  | [], _, _, _, _, _ => rfl
  | f :: r, prev, last, hp, ht, h => by
    rw [rFieldsGo] at h
    split at h
    · rename_i h0; exact absurd h h0
    rename_i h0
    have h0 : rFieldErr last f = 0 := by simpa using h0
    have ih := fieldsGo_of r (some f) f.name (fun p hp => by cases hp; rfl) (fun x hx => ht x (by simp [hx])) h
    unfold rFieldErr at h0
    split at h0
    · cases h0
    rename_i hk
    split at h0
    · rename_i hv; exact absurd h0 hv
    rename_i hv
    split at h0
    · cases h0
    rename_i hs
    have hv := value_of (ht f (by simp)) (by simpa using hv)
    have : fieldErr prev f = 0 := by
      unfold fieldErr
      rw [if_neg (by simp [key_of (by simpa using hk)]), if_neg (by simp [hv])]
      cases prev with
      | none => rfl
      | some p =>
        rw [hp p rfl] at hs
        exact if_neg hs
    rw [checkFieldsGo, if_neg (by simp [this])]
    exact ih
theorem fields_of {l : List Fld} (ht : ∀ f ∈ l, f.val.text ∈ texts) (h : rFields l = 0) : checkFields l = 0 := by
  unfold rFields at h
  unfold checkFields
  split at h
  · cases h
  rename_i hl
  rw [if_neg hl]
  exact fieldsGo_of l none _ (fun p hp => by cases hp) ht h
theorem event_of {e : Evt} (ht : ∀ f ∈ e.fs, f.val.text ∈ texts) (h : rEvent e = 0) : checkOne e = 0 := by
  unfold rEvent at h
  by_cases h1 : rKey e.id = false
  · rw [if_pos h1] at h; cases h
  rw [if_neg h1] at h
  by_cases h2 : rKey e.name = false
  · rw [if_pos h2] at h; cases h
  rw [if_neg h2] at h
  by_cases h3 : within e.at' 0 4321439 = false
  · rw [if_pos h3] at h; cases h
  rw [if_neg h3] at h
  by_cases h4 : rId e.who.kind e.who.text ≠ 0
  · rw [if_pos h4] at h; exact absurd h h4
  rw [if_neg h4] at h
  have h4 := id_of (show rId e.who.kind e.who.text = 0 by simpa using h4)
  rw [checkOne, if_neg (by simp [key_of (by simpa using h1)]), if_neg (by simp [key_of (by simpa using h2)]), if_neg h3, if_neg (by simp [h4])]
  exact fields_of ht h
end Go.El

/-! Lists of events: what is right, sessions, the busiest window. -/
namespace Go.Em
open Go Go.Ab Go.Pm Go.Cm Go.Rm Go.El
/-- a stands before b. -/
def Bf (a b : Evt) : Prop := a.at' < b.at' ∨ (a.at' = b.at' ∧ strLt a.id b.id = true)
def SmallE (e : Evt) : Prop := e.id.size ≤ 1000 ∧ e.name.size ≤ 1000 ∧ e.who.text.size ≤ 1000 ∧ e.fs.length ≤ 100 ∧ ∀ f ∈ e.fs, f.name.size ≤ 1000 ∧ f.val.text.size ≤ 1000
/-- Events that are right, in order, with ids of their own. -/
structure Good (l : List Evt) : Prop where
  few : l.length ≤ 5000
  ok : ∀ e ∈ l, checkOne e = 0
  small : ∀ e ∈ l, SmallE e
  order : l.Pairwise Bf
  ids : (l.map Evt.id).Nodup
theorem Good.at {l : List Evt} (h : Good l) {e : Evt} (he : e ∈ l) : 0 ≤ e.at' ∧ e.at' ≤ 4321439 := by
  have h1 := h.ok e he
  unfold checkOne at h1
  by_cases h3 : within e.at' 0 4321439 = false
  · rw [if_pos h3] at h1
    split at h1
    · cases h1
    · split at h1 <;> cases h1
  · simpa [within] using h3
theorem Bf.le {a b : Evt} (h : Bf a b) : a.at' ≤ b.at' := by rcases h with h | h <;> omega
structure Ses where
  from' : Int
  to' : Int
  many : Int
  first : T
abbrev Ses.c (s : Ses) : List AV := [.int s.from', .int s.to', .int s.many, .str s.first]
end Go.Em

/-! The order of texts; comparisons that are total, and sorting by them. -/
set_option linter.unusedVariables false
set_option linter.unusedSimpArgs false
namespace Go.Co
open Go Go.Ab Go.Pm Go.Cm Go.Sort
theorem bl_irrefl : ∀ x : List UInt8, Op.bytesLess x x = false
  | [] => rfl
  | a :: x => by simp [Op.bytesLess, bl_irrefl x]
theorem bl_trans : ∀ x y z : List UInt8, Op.bytesLess x y = true → Op.bytesLess y z = true → Op.bytesLess x z = true
  | _, [], _, h, _ => by simp [Op.bytesLess] at h
  | [], _ :: _, [], _, h => by simp [Op.bytesLess] at h
  | _ :: _, _ :: _, [], _, h => by simp [Op.bytesLess] at h
  | [], _ :: _, _ :: _, _, _ => rfl
  | a :: x, b :: y, c :: z, h, k => by
    simp only [Op.bytesLess, Bool.or_eq_true, decide_eq_true_eq, Bool.and_eq_true, beq_iff_eq] at h k ⊢
    rcases h with h | ⟨h1, h2⟩ <;> rcases k with k | ⟨k1, k2⟩
    · exact .inl (UInt8.lt_trans h k)
    · subst k1; exact .inl h
    · subst h1; exact .inl k
    · subst h1 k1; exact .inr ⟨rfl, bl_trans x y z h2 k2⟩
theorem bl_total : ∀ x y : List UInt8, Op.bytesLess x y = false → x ≠ y → Op.bytesLess y x = true
  | [], [], _, h => (h rfl).elim
  | [], _ :: _, h, _ => by simp [Op.bytesLess] at h
  | _ :: _, [], _, _ => rfl
  | a :: x, b :: y, h, k => by
    simp only [Op.bytesLess, Bool.or_eq_false_iff, decide_eq_false_iff_not, Bool.and_eq_false_iff, beq_eq_false_iff_ne] at h
    simp only [Op.bytesLess, Bool.or_eq_true, decide_eq_true_eq, Bool.and_eq_true, beq_iff_eq]
    by_cases hab : a = b
    · subst hab
      refine .inr ⟨rfl, bl_total x y ?_ (fun e => k (by rw [e]))⟩
      rcases h.2 with h2 | h2
      · exact absurd rfl h2
      · exact h2
    · left
      have h1 := h.1
      rcases UInt8.lt_or_lt_of_ne hab with h2 | h2
      · exact absurd h2 h1
      · exact h2
theorem toList_inj {a b : T} (h : a.toList = b.toList) : a = b := by
  have := toList_dec a b
  rw [beq_iff_eq.2 h] at this
  simpa using this.symm
theorem strLt_irrefl (a : T) : strLt a a = false := bl_irrefl _
theorem strLt_trans {a b c : T} (h : strLt a b = true) (k : strLt b c = true) : strLt a c = true := bl_trans _ _ _ h k
theorem strLt_total {a b : T} (h : strLt a b = false) (k : a ≠ b) : strLt b a = true := bl_total _ _ h fun e => k (toList_inj e)
theorem strLt_asymm {a b : T} (h : strLt a b = true) : strLt b a = false := by
  cases hb : strLt b a with
  | false => rfl
  | true => have := strLt_trans h hb; rw [strLt_irrefl] at this; cases this
theorem strLt_ne {a b : T} (h : strLt a b = true) : a ≠ b := fun e => by subst e; rw [strLt_irrefl] at h; cases h
theorem cmpS_self (a : T) : cmpS a a = 0 := by simp [cmpS, strLt_irrefl]
theorem cmpS_lt {a b : T} (h : strLt a b = true) : cmpS a b = -1 := by simp [cmpS, h]
theorem cmpS_gt {a b : T} (h : strLt b a = true) : cmpS a b = 1 := by simp [cmpS, strLt_asymm h, (strLt_ne h).symm]
variable {α β : Type}
/-- A comparison as of a total preorder. -/
structure TC (f : α → α → Int) : Prop where
  anti : ∀ a b, f a b < 0 ↔ 0 < f b a
  tr : ∀ a b c, f a b ≤ 0 → f b c ≤ 0 → f a c ≤ 0
theorem TC.flip {f : α → α → Int} (h : TC f) (a b : α) : f a b ≤ 0 ↔ 0 ≤ f b a := by
  have h1 := h.anti b a
  omega
theorem TC.lt_le {f : α → α → Int} (h : TC f) {a b c : α} (h1 : f a b < 0) (h2 : f b c ≤ 0) : f a c < 0 := by
  rcases Int.lt_or_le (f a c) 0 with h3 | h3
  · exact h3
  · have h4 := h.tr b c a h2 ((h.flip c a).2 h3)
    have := (h.anti a b).1 h1
    omega
theorem TC.le_lt {f : α → α → Int} (h : TC f) {a b c : α} (h1 : f a b ≤ 0) (h2 : f b c < 0) : f a c < 0 := by
  rcases Int.lt_or_le (f a c) 0 with h3 | h3
  · exact h3
  · have h4 := h.tr c a b ((h.flip c a).2 h3) h1
    have := (h.anti b c).1 h2
    omega
theorem TC.swo {f : α → α → Int} (h : TC f) : SWO (Go.Proofs.ltOf f) where
  irrefl x := by
    have := h.anti x x
    simp only [Go.Proofs.ltOf, decide_eq_false_iff_not]
    omega
  trans x y z h1 h2 := by
    simp only [Go.Proofs.ltOf, decide_eq_true_eq] at h1 h2 ⊢
    exact h.lt_le h1 (by omega)
  ntrans x y z h1 h2 := by
    simp only [Go.Proofs.ltOf, decide_eq_false_iff_not] at h1 h2 ⊢
    have := h.tr z y x ((h.flip z y).2 (by omega)) ((h.flip y x).2 (by omega))
    have := (h.flip z x).1 this
    omega
theorem TC.on {f : β → β → Int} (h : TC f) (p : α → β) : TC (fun a b => f (p a) (p b)) := ⟨fun a b => h.anti _ _, fun a b c => h.tr _ _ _⟩
theorem TC.nil : TC (fun _ _ : α => cmpOr []) := ⟨fun a b => by simp [cmpOr], fun a b c _ _ => by simp [cmpOr]⟩
theorem TC.cons {f : α → α → Int} {g : α → α → List Int} (h : TC f) (k : TC fun a b => cmpOr (g a b)) : TC (fun a b => cmpOr (f a b :: g a b)) := by
  have e : ∀ a b, cmpOr (f a b :: g a b) = if f a b ≠ 0 then f a b else cmpOr (g a b) := fun a b => rfl
  refine ⟨fun a b => ?_, fun a b c h1 h2 => ?_⟩
  · have h1 := h.anti a b
    have h2 := h.anti b a
    have h3 := k.anti a b
    rw [e, e]
    split <;> split <;> omega
  · simp only [e] at h1 h2 ⊢
    by_cases x1 : f a b = 0
    · rw [if_neg (by simp [x1])] at h1
      by_cases x2 : f b c = 0
      · rw [if_neg (by simp [x2])] at h2
        have l1 := h.tr a b c (by omega) (by omega)
        have l2 := h.tr c b a ((h.flip c b).2 (by omega)) ((h.flip b a).2 (by omega))
        have l2 := (h.flip c a).1 l2
        rw [if_neg (by omega)]
        exact k.tr a b c h1 h2
      · rw [if_pos x2] at h2
        have := h.le_lt (a := a) (b := b) (c := c) (by omega) (by omega)
        rw [if_pos (by omega)]
        omega
    · rw [if_pos x1] at h1
      have hbc : f b c ≤ 0 := by split at h2 <;> omega
      have := h.lt_le (a := a) (b := b) (c := c) (by omega) hbc
      rw [if_pos (by omega)]
      omega
theorem tc_cmpI : TC cmpI := ⟨fun a b => by unfold cmpI; split <;> split <;> (try split) <;> omega, fun a b c h1 h2 => by
  have : a ≤ b := by unfold cmpI at h1; split at h1 <;> (try split at h1) <;> omega
  have : b ≤ c := by unfold cmpI at h2; split at h2 <;> (try split at h2) <;> omega
  unfold cmpI; split <;> (try split) <;> omega⟩
theorem cmpS_cases (a b : T) : (strLt a b = true ∧ cmpS a b = -1) ∨ (a = b ∧ cmpS a b = 0) ∨ (strLt b a = true ∧ cmpS a b = 1) := by
  by_cases h1 : strLt a b = true
  · exact .inl ⟨h1, cmpS_lt h1⟩
  by_cases h2 : a = b
  · subst h2; exact .inr (.inl ⟨rfl, cmpS_self _⟩)
  · have h3 := strLt_total (by simpa using h1) h2
    exact .inr (.inr ⟨h3, cmpS_gt h3⟩)
theorem tc_cmpS : TC cmpS := by
  refine ⟨fun a b => ?_, fun a b c h1 h2 => ?_⟩
  · rcases cmpS_cases a b with ⟨h, k⟩ | ⟨rfl, k⟩ | ⟨h, k⟩
    · rw [k, cmpS_gt h]; decide
    · rw [k]
    · rw [k, cmpS_lt h]; decide
  · rcases cmpS_cases a b with ⟨h, k⟩ | ⟨rfl, k⟩ | ⟨h, k⟩
    · rcases cmpS_cases b c with ⟨h', k'⟩ | ⟨rfl, k'⟩ | ⟨h', k'⟩
      · rw [cmpS_lt (strLt_trans h h')]; decide
      · rw [k]; decide
      · omega
    · exact h2
    · rw [k] at h1; omega
end Go.Co

/-! The stream's right events. -/
set_option linter.unusedVariables false
namespace Go.Em
open Go Go.Ab Go.Pm Go.Cm Go.Rm Go.El
/-- What the maker of events makes. -/
structure Made (es : List Evt) : Prop where
  few : es.length ≤ 14
  ids : es.Pairwise fun a b => a.id.size = 3 → b.id.size = 3 → a.id ≠ b.id
  small : ∀ e ∈ es, SmallE e
  texts : ∀ e ∈ es, ∀ f ∈ e.fs, f.val.text ∈ texts
def keep (e : Evt) : Bool := decide (rEvent e = 0) && (decide (e.id.size = 3) && !decide (100000 < e.at'))
theorem bf_total {a b : Evt} (h : a.id ≠ b.id) (hn : ¬ Bf b a) : Bf a b := by
  have := Go.Co.tc_cmpS.anti a.id b.id
  unfold Bf at *
  rcases Int.lt_trichotomy a.at' b.at' with h1 | h1 | h1
  · exact .inl h1
  · refine .inr ⟨h1, ?_⟩
    have h2 : ¬ strLt b.id a.id = true := fun h3 => hn (.inr ⟨h1.symm, h3⟩)
    cases h4 : strLt a.id b.id with
    | true => rfl
    | false =>
      exfalso
      simp only [cmpS, h4, h2, h, Bool.false_eq_true, if_false, false_or] at this
      have hne : ¬ b.id = a.id := fun e => h e.symm
      simp [hne] at this
  · exact absurd (.inl h1) hn
theorem good_of {es l : List Evt} (hm : Made es) (hp : l.Perm (es.filter keep)) (hs : l.Pairwise fun a b => ¬ Bf b a) : Good l := by
  have hmem : ∀ e ∈ l, e ∈ es ∧ rEvent e = 0 ∧ e.id.size = 3 ∧ e.at' ≤ 100000 := fun e he => by
    have h := List.mem_filter.1 (hp.mem_iff.1 he)
    simp only [keep, Bool.and_eq_true, decide_eq_true_eq, Bool.not_eq_true', decide_eq_false_iff_not] at h
    exact ⟨h.1, h.2.1, h.2.2.1, by omega⟩
  have hids : l.Pairwise fun a b => a.id ≠ b.id := by
    have h1 : (es.filter keep).Pairwise fun a b => a.id.size = 3 → b.id.size = 3 → a.id ≠ b.id := hm.ids.filter _
    have h2 : l.Pairwise fun a b => a.id.size = 3 → b.id.size = 3 → a.id ≠ b.id := (hp.pairwise_iff (fun {a b} h x y e => h y x e.symm)).2 h1
    exact h2.imp_of_mem fun {a b} ha hb h => h (hmem a ha).2.2.1 (hmem b hb).2.2.1
  refine ⟨?_, fun e he => event_of (hm.texts e (hmem e he).1) (hmem e he).2.1, fun e he => hm.small e (hmem e he).1, ?_, ?_⟩
  · have h1 := hp.length_eq
    have h2 := List.length_filter_le keep es
    have h3 := hm.few
    omega
  · exact (hs.and hids).imp fun {a b} h => bf_total h.2 h.1
  · unfold List.Nodup
    rw [List.pairwise_map]
    exact hids
end Go.Em

/-! Windows that follow each other. -/
set_option linter.unusedVariables false
namespace Go.Em
open Go Go.Ab Go.Pm Go.Cm Go.Rm Go.El
theorem low_of {es l : List Evt} (hp : l.Perm (es.filter keep)) : ∀ e ∈ l, e.at' ≤ 100000 := fun e he => by
  have h := List.mem_filter.1 (hp.mem_iff.1 he)
  simp only [keep, Bool.and_eq_true, decide_eq_true_eq, Bool.not_eq_true', decide_eq_false_iff_not] at h
  omega
/-- An event with a name, in a window. -/
def inW (name : T) (a b : Int) (e : Evt) : Bool := decide (e.name = name) && (decide (a ≤ e.at') && decide (e.at' < b))
def namedE (l : List Evt) (name : T) (a b : Int) : List Evt := l.filter (inW name a b)
def findF (fs : List Fld) (name : T) : Option Val := if bsHas (fun f => cmpS f.name name) fs then (fs[bsAt (fun f => cmpS f.name name) fs]?).map Fld.val else none
def addOf (field : T) (e : Evt) : Int := match findF e.fs field with
  | some v => if v.kind = 1 then 0 else v.num
  | none => 0
def sumE (l : List Evt) (name field : T) (a b : Int) : Int := ((namedE l name a b).map (addOf field)).sum
theorem named_cut (name : T) {a b c : Int} (h1 : a ≤ b) (h2 : b ≤ c) : ∀ (l : List Evt), l.Pairwise Bf → namedE l name a b ++ namedE l name b c = namedE l name a c
  | [], _ => rfl
  | e :: l, h => by
    obtain ⟨h3, h4⟩ := List.pairwise_cons.1 h
    have ih := named_cut name h1 h2 l h4
    unfold namedE at ih ⊢
    rw [List.filter_cons, List.filter_cons, List.filter_cons]
    by_cases hn : e.name = name
    · by_cases ha : a ≤ e.at'
      · by_cases hb : e.at' < b
        · have e1 : inW name a b e = true := by simp [inW, hn, ha, hb]
          have e2 : inW name b c e = false := by simp [inW, show ¬ b ≤ e.at' by omega]
          have e3 : inW name a c e = true := by simp [inW, hn, ha, show e.at' < c by omega]
          rw [e1, e2, e3, if_pos rfl, if_neg (by simp), if_pos rfl, List.cons_append, ih]
        · have hnil : l.filter (inW name a b) = [] := by
            rw [List.filter_eq_nil_iff]
            intro x hx hi
            have := (h3 x hx).le
            simp only [inW, Bool.and_eq_true, decide_eq_true_eq] at hi
            omega
          have e1 : inW name a b e = false := by simp [inW, hb]
          have e2 : inW name b c e = inW name a c e := by simp [inW, ha, show b ≤ e.at' by omega]
          rw [hnil] at ih ⊢
          rw [List.nil_append] at ih
          rw [e1, e2, if_neg (by simp), List.nil_append, ih]
      · have e1 : inW name a b e = false := by simp [inW, ha]
        have e2 : inW name b c e = false := by simp [inW, show ¬ b ≤ e.at' by omega]
        have e3 : inW name a c e = false := by simp [inW, ha]
        rw [e1, e2, e3, if_neg (by simp), if_neg (by simp), if_neg (by simp), ih]
    · have e0 : ∀ x y, inW name x y e = false := fun x y => by simp [inW, hn]
      rw [e0, e0, e0, if_neg (by simp), if_neg (by simp), if_neg (by simp), ih]
theorem sum_cut (name field : T) {a b c : Int} (h1 : a ≤ b) (h2 : b ≤ c) (l : List Evt) (h : l.Pairwise Bf) : sumE l name field a b + sumE l name field b c = sumE l name field a c := by
  unfold sumE
  rw [← named_cut name h1 h2 l h, List.map_append, List.sum_append]
/-! How many a day has. -/
def bump (out : List Int) (d : Nat) : List Int := out.set d ((out[d]?).getD 0 + 1)
theorem bump_sum : ∀ (out : List Int) (d : Nat), d < out.length → (bump out d).sum = out.sum + 1
  | [], d, h => by simp at h
  | x :: out, 0, _ => by simp [bump]; omega
  | x :: out, d + 1, h => by
    have ih := bump_sum out d (by simpa using h)
    simp only [bump, List.set_cons_succ, List.getElem?_cons_succ, List.sum_cons] at ih ⊢
    rw [ih]; omega
end Go.Em

