/- What functions of the program compute, as plain functions; no condition. -/
import Derived.Test.YtblhbafoncfhdaaGreatDoorA4
import Derived.Test.YtblhbafoncfhdaaGreatDoorShelf
import Derived.Lib.SlTrimSet
import Derived.Lib.ValidU
import Derived.Shelf.Unicode.DecodeSlow
import Derived.Sort.Statements
import Derived.Shelf.SlSortCmp.Insertion
import Derived.Lib.SlicesCompact
set_option linter.unusedVariables false
set_option linter.unusedSimpArgs false
/-! What the functions on ids and keys compute. -/
namespace Go.Pm
open Go Go.Ab
def bytesOf (s : ByteArray) : List Int := s.data.toList.map fun b => (b.toNat : Int)
def allB (s : ByteArray) (p : Int → Bool) : Bool := (bytesOf s).all p
def within (n lo hi : Int) : Bool := decide (lo ≤ n ∧ n ≤ hi)
def small (c : Int) : Bool := decide (97 ≤ c) && decide (c ≤ 122)
def digit (c : Int) : Bool := decide (48 ≤ c) && decide (c ≤ 57)
def capital (c : Int) : Bool := decide (65 ≤ c) && decide (c ≤ 90)
def keyC (c : Int) : Bool := small c || digit c || decide (c = 45) || decide (c = 95)
def labelC (c : Int) : Bool := small c || digit c || decide (c = 45)
def mailC (c : Int) : Bool := small c || digit c || decide (c = 46) || decide (c = 45) || decide (c = 95)
def memberC (c : Int) : Bool := digit c || capital c
def deviceC (c : Int) : Bool := digit c || (decide (97 ≤ c) && decide (c ≤ 102))
def isKey (s : ByteArray) : Bool := within s.size 1 40 && small (byteAt s 0) && allB s keyC
def isLabel (s : ByteArray) : Bool := within s.size 1 30 && !decide (byteAt s 0 = 45) && !decide (byteAt s ((s.size : Int) - 1).toNat = 45) && allB s labelC
def cutT (s sep : ByteArray) : ByteArray × ByteArray × Bool :=
 (⟨(Lib.cut s.data.toList sep.data.toList).1.toArray⟩, ⟨(Lib.cut s.data.toList sep.data.toList).2.1.toArray⟩, (Lib.cut s.data.toList sep.data.toList).2.2)
def splitT (s sep : ByteArray) : List ByteArray := Lib.splitB sep 0 (Lib.countB s sep) s
def isMail (s : ByteArray) : Bool :=
 let c := cutT s ⟨#[64]⟩
 if !c.2.2 || decide (80 < (s.size : Int)) || !within c.1.size 1 64 || decide (byteAt c.1 0 = 46) || decide (byteAt c.1 ((c.1.size : Int) - 1).toNat = 46) || Lib.contains c.1.data.toList [46, 46] then false
 else if !allB c.1 mailC then false
 else (splitT c.2.1 ⟨#[46]⟩).all isLabel && decide (2 ≤ ((splitT c.2.1 ⟨#[46]⟩).length : Int))
def hasPrefix (s p : ByteArray) : Bool := decide (p.size ≤ s.size) && decide (s.extract 0 p.size = p)
def isPhone (s : ByteArray) : Bool := hasPrefix s ⟨#[43]⟩ && within s.size 8 16 && allB (s.extract 1 s.size) digit && !decide (byteAt s 1 = 48)
def isMember (s : ByteArray) : Bool := within s.size 4 20 && allB s memberC
def isDevice (s : ByteArray) : Bool := decide ((s.size : Int) = 32) && allB s deviceC
def signs : ByteArray := ⟨#[48, 49, 50, 51, 52, 53, 54, 55, 56, 57, 65, 66, 67, 68, 69, 70, 71, 72, 73, 74, 75, 76, 77, 78, 79, 80, 81, 82, 83, 84, 85, 86, 87, 88, 89, 90]⟩
def signSum : List Int → Int → Int → Int
 | [], sum, _ => sum
 | c :: cs, sum, times =>
  let product := times * Lib.indexByte signs.data.toList c.toNat.toUInt8
  signSum cs (sum + (product.tdiv 36 + product.tmod 36)) (3 - times)
def checkSign (s : ByteArray) : Int := byteAt signs ((36 - (signSum (bytesOf s).reverse 0 2).tmod 36).tmod 36).toNat
def checkId (kind : Int) (s : ByteArray) : Int :=
 if kind < 1 ∨ 4 < kind then 4
 else if !(if kind = 1 then isMail s else if kind = 2 then isPhone s else if kind = 3 then isMember s else isDevice s) then 3
 else if kind = 3 ∧ checkSign (s.extract 0 ((s.size : Int) - 1).toNat) ≠ byteAt s ((s.size : Int) - 1).toNat then 15
 else 0
end Go.Pm
/-! What the functions of package consent compute. -/
namespace Go.Cm
open Go Go.Ab Go.Pm
abbrev T := ByteArray
structure Idn where
 kind : Int
 text : T
 deriving DecidableEq
abbrev Idn.c (x : Idn) : List AV := [.int x.kind, .str x.text]
structure Stm where
 no : Int
 at' : Int
 id : Idn
 purpose : T
 region : T
 channel : Int
 what : Int
 deriving DecidableEq
abbrev Stm.c (s : Stm) : List AV := [.int s.no, .int s.at', .int s.id.kind, .str s.id.text, .str s.purpose, .str s.region, .int s.channel, .int s.what]
structure Term where
 region : T
 channel : Int
 free : Bool
 days : Int
 wait : Int
 deriving DecidableEq
abbrev Term.c (t : Term) : List AV := [.str t.region, .int t.channel, .bool t.free, .int t.days, .int t.wait]
structure Purpose where
 name : T
 nz : Bool
 terms : List Term
abbrev Purpose.c (p : Purpose) : List AV := [.str p.name, .ls p.nz (p.terms.map Term.c)]
structure Answer where
 may : Bool
 why : Int
 no : Int
 deriving DecidableEq
abbrev Answer.c (a : Answer) : List AV := [.bool a.may, .int a.why, .int a.no]
def cmpI (a b : Int) : Int := if a < b then -1 else if b < a then 1 else 0
def cmpS (a b : T) : Int := if strLt a b = true then -1 else if strLt a b = true ∨ a = b then 0 else 1
def cmpOr : List Int → Int
 | [] => 0
 | x :: xs => if x ≠ 0 then x else cmpOr xs
def termCmp (a b : Term) : Int := cmpOr [cmpS a.region b.region, cmpI a.channel b.channel]
def bsGo (c : Nat → Int) : Nat → Nat → Nat → Nat
 | 0, lo, _ => lo
 | k + 1, lo, hi => if lo < hi then (if c ((lo + hi) / 2) < 0 then bsGo c k ((lo + hi) / 2 + 1) hi else bsGo c k lo ((lo + hi) / 2)) else lo
def at0 {α : Type} (f : α → Int) (l : List α) (i : Nat) : Int := match l[i]? with
 | some x => f x
 | none => 0
def bsAt {α : Type} (f : α → Int) (l : List α) : Nat := bsGo (at0 f l) l.length 0 l.length
def bsHas {α : Type} (f : α → Int) (l : List α) : Bool := decide (bsAt f l < l.length) && decide (at0 f l (bsAt f l) = 0)
def purposeOf (l : List Purpose) (name : T) : Option Purpose := if bsHas (fun p => cmpS p.name name) l then l[bsAt (fun p => cmpS p.name name) l]? else none
def noPurpose : Purpose := ⟨⟨#[]⟩, false, []⟩
def termOf (l : List Purpose) (purpose region : T) (channel : Int) : Option Term :=
 let p := (purposeOf l purpose).getD noPurpose
 let q : Term := ⟨region, channel, false, 0, 0⟩
 if bsHas (fun t => termCmp t q) p.terms then p.terms[bsAt (fun t => termCmp t q) p.terms]? else none
def termErr (prev : Option Term) (t : Term) : Int :=
 if isKey t.region = false then 5
 else if within t.channel 1 4 = false then 4
 else if t.free = true ∧ (t.days ≠ 0 ∨ t.wait ≠ 0) then 3
 else if within t.days 0 2000 = false ∨ within t.wait 0 100000 = false then 1
 else match prev with
  | some p => if 0 ≤ termCmp p t then 7 else 0
  | none => 0
def checkTermsGo : Option Term → List Term → Int
 | _, [] => 0
 | prev, t :: r => if termErr prev t ≠ 0 then termErr prev t else checkTermsGo (some t) r
def checkTerms (l : List Term) : Int := if 160 < l.length then 2 else checkTermsGo none l
def purposeErr (prev : Option Purpose) (p : Purpose) : Int :=
 if isKey p.name = false then 5
 else if (match prev with | some q => strLt p.name q.name || decide (p.name = q.name) | none => false) then 7
 else checkTerms p.terms
def checkPolicyGo : Option Purpose → List Purpose → Int
 | _, [] => 0
 | prev, p :: r => if purposeErr prev p ≠ 0 then purposeErr prev p else checkPolicyGo (some p) r
def checkPolicy (l : List Purpose) : Int := if l.length = 0 then 3 else if 30 < l.length then 2 else checkPolicyGo none l
def ofCh (w : Int) : Bool := decide (w = 4) || decide (w = 5)
def stmErr (p : List Purpose) (prev : Option Stm) (s : Stm) : Int :=
 if within s.no 1 1000000 = false then 1
 else if (match prev with | some q => decide (s.no ≤ q.no) | none => false) then 7
 else if within s.at' 0 4321439 = false then 1
 else if checkId s.id.kind s.id.text ≠ 0 then checkId s.id.kind s.id.text
 else if within s.channel 1 4 = false ∨ within s.what 1 5 = false then 4
 else if ofCh s.what = true ∧ s.purpose ≠ ⟨#[]⟩ then 3
 else if ofCh s.what = false ∧ (purposeOf p s.purpose).isSome = false then 8
 else if isKey s.region = false then 5
 else 0
def checkGo (p : List Purpose) : Option Stm → List Stm → Int
 | _, [] => 0
 | prev, s :: r => if stmErr p prev s ≠ 0 then stmErr p prev s else checkGo p (some s) r
def check (p : List Purpose) (l : List Stm) : Int := if checkPolicy p ≠ 0 then checkPolicy p else if 3000 < l.length then 2 else checkGo p none l
structure Q where
 p : List Purpose
 nz : Bool
 purpose : T
 region : T
 channel : Int
 at' : Int
abbrev Q.c (q : Q) : List AV := [.ls q.nz (q.p.map Purpose.c), .str q.purpose, .str q.region, .int q.channel, .int q.at']
def Q.check (q : Q) : Int :=
 if (purposeOf q.p q.purpose).isSome = false then 8
 else if isKey q.region = false then 5
 else if within q.channel 1 4 = false then 4
 else if within q.at' 0 4321439 = false then 1
 else 0
def checkIdsGo : List Idn → Int
 | [] => 0
 | x :: r => if checkId x.kind x.text ≠ 0 then checkId x.kind x.text else checkIdsGo r
def checkIds (l : List Idn) (most : Int) : Int := if most < (l.length : Int) then 2 else checkIdsGo l
def checkAll (q : Q) (l : List Stm) (most : Int) (ids : List Idn) : Int :=
 if Cm.check q.p l ≠ 0 then Cm.check q.p l else if checkIds ids most ≠ 0 then checkIds ids most else q.check
/-! Sorting by insertion: the sorted part lies in reverse. -/
def insRev {α : Type} (f : α → α → Int) (x : α) : List α → List α
 | [] => [x]
 | p :: r => if f x p < 0 then p :: insRev f x r else x :: p :: r
def isort {α : Type} (f : α → α → Int) (l : List α) : List α := (l.foldl (fun r x => insRev f x r) []).reverse
def stmCmp (a b : Stm) : Int := cmpOr [cmpI a.at' b.at', cmpI a.no b.no]
def saidBy (l : List Stm) (x : Idn) (channel : Int) : List Stm := isort stmCmp (l.filter fun s => decide (s.id = x) && decide (s.channel = channel))
def upTo (l : List Stm) (at' : Int) : List Stm := l.take (bsAt (fun s => cmpI s.at' (at' + 1)) l)
def objStep (a : Int × Int × Bool) (s : Stm) : Int × Int × Bool :=
 if ofCh s.what = true then
  let b := if a.2.1 < s.at' then (0, s.at', false) else a
  if s.what = 4 ∧ b.2.2 = false then (s.no, b.2.1, true) else b
 else a
def objected (l : List Stm) : Int × Int × Bool := l.foldl objStep (0, -1, false)
def wdStep (purpose : T) (a : Option Stm) (s : Stm) : Option Stm :=
 if s.what = 3 ∧ s.purpose = purpose ∧ (match a with | some w => decide (w.at' < s.at') | none => true) = true then some s else a
def withdrawal (l : List Stm) (purpose : T) : Option Stm := l.foldl (wdStep purpose) none
def grants (l : List Stm) (purpose : T) : List Stm :=
 l.filter fun s => decide (s.what = 1) && decide (s.purpose = purpose) && (match withdrawal l purpose with | some w => decide (w.at' < s.at') | none => true)
def noStm : Stm := ⟨0, 0, ⟨0, ⟨#[]⟩⟩, ⟨#[]⟩, ⟨#[]⟩, 0, 0⟩
def confirmation (l : List Stm) (purpose : T) (lo hi : Int) : Option Stm := l.find? fun s => decide (s.what = 2) && decide (s.purpose = purpose) && within s.at' lo hi
def stateOf (l : List Stm) (t : Term) (g : Stm) (at' : Int) : Int :=
 if t.days ≠ 0 ∧ g.at' + t.days * 1440 ≤ at' then 7
 else if t.wait = 0 then 2
 else if (confirmation l g.purpose g.at' (g.at' + t.wait)).isSome = true then 2
 else if at' ≤ g.at' + t.wait then 8
 else 9
def rank (w : Int) : Int := if w = 2 then 0 else if w = 8 then 1 else if w = 9 then 2 else if w = 7 then 3 else -1
def bestStep (l : List Stm) (t : Term) (at' : Int) (a : Stm × Int) (g : Stm) : Stm × Int :=
 let s := stateOf l t g at'
 if a.2 = 0 ∨ rank s < rank a.2 ∨ (s = a.2 ∧ a.1.at' < g.at') then (g, s) else a
def allowed (l : List Stm) (t : Term) (purpose : T) (at' : Int) : Answer :=
 let g := grants l purpose
 match withdrawal l purpose with
 | some w => if g.length = 0 then ⟨false, 5, w.no⟩ else if t.free = true then ⟨true, 1, 0⟩ else
   let b := g.foldl (bestStep l t at') (noStm, 0)
   ⟨decide (b.2 = 2), b.2, b.1.no⟩
 | none => if t.free = true then ⟨true, 1, 0⟩ else if g.length = 0 then ⟨false, 4, 0⟩ else
   let b := g.foldl (bestStep l t at') (noStm, 0)
   ⟨decide (b.2 = 2), b.2, b.1.no⟩
def answerL (t : Option Term) (purpose : T) (l : List Stm) (at' : Int) : Answer :=
 match t with
 | none => ⟨false, 3, 0⟩
 | some t =>
  let u := upTo l at'
  if (objected u).2.2 = true then ⟨false, 6, (objected u).1⟩ else allowed u t purpose at'
def answer (q : Q) (l : List Stm) (x : Idn) (at' : Int) : Answer := answerL (termOf q.p q.purpose q.region q.channel) q.purpose (saidBy l x q.channel) at'
def may (q : Q) (l : List Stm) (x : Idn) : Answer × Int :=
 if checkAll q l 1 [x] ≠ 0 then (⟨false, 0, 0⟩, checkAll q l 1 [x]) else (answer q l x q.at', 0)
end Go.Cm
/-! What the references say of ids and keys is what the program says. -/
namespace Go.Rm
open Go Go.Ab Go.Pm Go.Cm
theorem dw_nil {α : Type} (p : α → Bool) : ∀ l : List α, l.dropWhile p = [] ↔ ∀ b ∈ l, p b = true
 | [] => by simp
 | x :: l => by
  rw [List.dropWhile_cons]
  by_cases h : p x = true
  ·rw [if_pos h, dw_nil p l]; simp [h]
  ·rw [if_neg h]; simp [h]
theorem dw_head {α : Type} (p : α → Bool) : ∀ (l : List α) (x : α) (r : List α), l.dropWhile p = x :: r → p x = false
 | [], x, r, h => by simp at h
 | y :: l, x, r, h => by
  rw [List.dropWhile_cons] at h
  by_cases hy : p y = true
  ·rw [if_pos hy] at h; exact dw_head p l x r h
  ·rw [if_neg hy] at h
   cases h
   simpa using hy
theorem dw_len {α : Type} (p : α → Bool) : ∀ l : List α, (l.dropWhile p).length ≤ l.length
 | [] => by simp
 | y :: l => by
  rw [List.dropWhile_cons]
  have := dw_len p l
  split
  ·simp; omega
  ·exact Nat.le_refl _
theorem dw_same {α : Type} (p : α → Bool) {l : List α} (h : l.length ≤ (l.dropWhile p).length) : l.dropWhile p = l := by
 cases l with
 | nil => rfl
 | cons y l =>
  rw [List.dropWhile_cons] at h ⊢
  by_cases hy : p y = true
  ·rw [if_pos hy] at h
   have := dw_len p l
   simp only [List.length_cons] at h
   omega
  ·rw [if_neg hy]
theorem trim_nil (l cs : List UInt8) : Lib.trimS l cs = [] ↔ ∀ b ∈ l, cs.contains b = true := by
 unfold Lib.trimS Lib.trimLeftS Lib.trimRightS
 rw [dw_nil]
 constructor
 ·intro h
  have h1 : ∀ b ∈ l.reverse.dropWhile (cs.contains ·), cs.contains b = true := fun b hb => h b (by simpa using hb)
  have h2 : l.reverse.dropWhile (cs.contains ·) = [] := by
   cases hx : l.reverse.dropWhile (cs.contains ·) with
   | nil => rfl
   | cons x r =>
    have h3 := dw_head _ _ _ _ hx
    have h4 := h1 x (by rw [hx]; simp)
    rw [h3] at h4; cases h4
  rw [dw_nil] at h2
  intro b hb
  exact h2 b (by simpa using hb)
 ·intro h b hb
  have : l.reverse.dropWhile (cs.contains ·) = [] := by
   rw [dw_nil]; intro b hb; exact h b (by simpa using hb)
  rw [this] at hb
  simp at hb
theorem trim_ends {l cs : List UInt8} (h : Lib.trimS l cs = l) {x y : UInt8} {r q : List UInt8} (h1 : l = x :: r) (h2 : l = q ++ [y]) : cs.contains x = false ∧ cs.contains y = false := by
 unfold Lib.trimS Lib.trimLeftS Lib.trimRightS at h
 have hl := congrArg List.length h
 have h3 := dw_len (cs.contains ·) (l.reverse.dropWhile (cs.contains ·)).reverse
 have h4 := dw_len (cs.contains ·) l.reverse
 simp only [List.length_reverse] at h3 h4
 have h5 : l.reverse.dropWhile (cs.contains ·) = l.reverse := dw_same _ (by simp only [List.length_reverse]; omega)
 rw [h5, List.reverse_reverse] at h
 constructor
 ·rw [h1] at h; exact dw_head _ _ _ _ h
 ·have : l.reverse = y :: q.reverse := by rw [h2]; simp
  rw [this] at h5
  exact dw_head _ _ _ _ h5
abbrev smallsT : T := ⟨#[97, 98, 99, 100, 101, 102, 103, 104, 105, 106, 107, 108, 109, 110, 111, 112, 113, 114, 115, 116, 117, 118, 119, 120, 121, 122]⟩
def trimT (s set : T) : T := ⟨(Lib.trimS s.data.toList set.data.toList).toArray⟩
def only (s set : T) : Bool := decide (trimT s set = ⟨#[]⟩)
theorem toList_ext {a b : T} (h : a.data.toList = b.data.toList) : a = b := by
 obtain ⟨⟨a⟩⟩ := a
 obtain ⟨⟨b⟩⟩ := b
 have : a = b := h
 rw [this]
theorem only_all {s set : T} (h : only s set = true) : ∀ b ∈ s.data.toList, b ∈ set.data.toList := by
 have h := of_decide_eq_true h
 have h : (trimT s set).data.toList = [] := by rw [h]
 intro b hb
 have := (trim_nil _ _).1 h b hb
 simpa using this
theorem only_allB {s set : T} (h : only s set = true) (p : Int → Bool) (hp : ∀ b ∈ set.data.toList, p b.toNat = true) : allB s p = true := by
 unfold allB bytesOf
 rw [List.all_map, List.all_eq_true]
 exact fun b hb => hp b (only_all h b hb)
def keyT : T := ⟨#[97, 98, 99, 100, 101, 102, 103, 104, 105, 106, 107, 108, 109, 110, 111, 112, 113, 114, 115, 116, 117, 118, 119, 120, 121, 122, 48, 49, 50, 51, 52, 53, 54, 55, 56, 57, 45, 95]⟩
def mailT : T := ⟨#[97, 98, 99, 100, 101, 102, 103, 104, 105, 106, 107, 108, 109, 110, 111, 112, 113, 114, 115, 116, 117, 118, 119, 120, 121, 122, 48, 49, 50, 51, 52, 53, 54, 55, 56, 57, 46, 45, 95]⟩
def labelT : T := ⟨#[97, 98, 99, 100, 101, 102, 103, 104, 105, 106, 107, 108, 109, 110, 111, 112, 113, 114, 115, 116, 117, 118, 119, 120, 121, 122, 48, 49, 50, 51, 52, 53, 54, 55, 56, 57, 45]⟩
def digitT : T := ⟨#[48, 49, 50, 51, 52, 53, 54, 55, 56, 57]⟩
def deviceT : T := ⟨#[48, 49, 50, 51, 52, 53, 54, 55, 56, 57, 97, 98, 99, 100, 101, 102]⟩
theorem byteAt_get {s : T} {i : Nat} {b : UInt8} (h : s.data.toList[i]? = some b) : byteAt s i = b.toNat := by
 unfold byteAt
 rw [Array.getElem?_toList] at h
 rw [h]; rfl
theorem list_ends {l : List UInt8} (h : 0 < l.length) : ∃ x r y q, l = x :: r ∧ l = q ++ [y] ∧ l[0]? = some x ∧ l[l.length - 1]? = some y := by
 cases l with
 | nil => simp at h
 | cons x r =>
  refine ⟨x, r, (x :: r).getLast (by simp), (x :: r).dropLast, rfl, (List.dropLast_concat_getLast (by simp)).symm, rfl, ?_⟩
  rw [← List.getLast?_eq_getElem?, List.getLast?_eq_some_getLast (by simp)]
theorem tlen (s : T) : s.data.toList.length = s.size := by rw [Array.length_toList]; rfl
def rKey (s : T) : Bool := within s.size 1 40 && (only (s.extract 0 1) smallsT && only s keyT)
theorem key_of {s : T} (h : rKey s = true) : isKey s = true := by
 simp only [rKey, Bool.and_eq_true] at h
 obtain ⟨h1, h2, h3⟩ := h
 have hs : 1 ≤ s.size := by have := of_decide_eq_true h1; omega
 obtain ⟨x, r, y, q, e1, e2, e3, e4⟩ := list_ends (l := s.data.toList) (by rw [tlen]; omega)
 have hb := byteAt_get e3
 simp only [isKey, Bool.and_eq_true]
 refine ⟨⟨h1, ?_⟩, only_allB h3 _ (by decide)⟩
 rw [hb]
 have hx : x ∈ (s.extract 0 1).data.toList := by
  rw [ByteArray.data_extract, Array.toList_extract]
  rw [e1]; simp
 have hx := only_all h2 x hx
 have : ∀ b ∈ smallsT.data.toList, small b.toNat = true := by decide
 exact this x hx
/-! Ids. -/
def rLabel (l : T) : Bool := within l.size 1 30 && (only l labelT && decide (trimT l ⟨#[45]⟩ = l))
theorem ends_of {l : T} {c : UInt8} (h : trimT l ⟨#[c]⟩ = l) (hl : 1 ≤ l.size) : byteAt l 0 ≠ c.toNat ∧ byteAt l ((l.size : Int) - 1).toNat ≠ c.toNat := by
 obtain ⟨x, r, y, q, e1, e2, e3, e4⟩ := list_ends (l := l.data.toList) (by rw [tlen]; omega)
 have h : Lib.trimS l.data.toList [c] = l.data.toList := congrArg (fun s : T => s.data.toList) h
 obtain ⟨k1, k2⟩ := trim_ends h e1 e2
 rw [tlen] at e4
 have e5 : ((l.size : Int) - 1).toNat = l.size - 1 := by omega
 rw [byteAt_get e3, e5, byteAt_get e4]
 have hne : ∀ b : UInt8, [c].contains b = false → (b.toNat : Int) ≠ c.toNat := fun b hb e => by
  have : b = c := UInt8.toNat_inj.1 (by omega)
  subst this
  simp at hb
 exact ⟨hne x k1, hne y k2⟩
theorem label_of {l : T} (h : rLabel l = true) : isLabel l = true := by
 simp only [rLabel, Bool.and_eq_true, decide_eq_true_eq] at h
 obtain ⟨h1, h2, h3⟩ := h
 have hs : 1 ≤ l.size := by have := of_decide_eq_true h1; omega
 obtain ⟨k1, k2⟩ := ends_of h3 hs
 simp only [isLabel, Bool.and_eq_true, Bool.not_eq_true', decide_eq_false_iff_not]
 exact ⟨⟨⟨h1, k1⟩, k2⟩, only_allB h2 _ (by decide)⟩
def rMail (s : T) : Bool :=
 let c := cutT s ⟨#[64]⟩
 (c.2.2 && (decide (s.size ≤ 80) && (within c.1.size 1 64 && (only c.1 mailT && (decide (trimT c.1 ⟨#[46]⟩ = c.1) && (!Lib.contains c.1.data.toList [46, 46] && decide (2 ≤ (splitT c.2.1 ⟨#[46]⟩).length))))))) && (splitT c.2.1 ⟨#[46]⟩).all rLabel
theorem mail_of {s : T} (h : rMail s = true) : isMail s = true := by
 simp only [rMail, Bool.and_eq_true, decide_eq_true_eq, Bool.not_eq_true', List.all_eq_true] at h
 obtain ⟨⟨h1, h2, h3, h4, h5, h6, h7⟩, h8⟩ := h
 have hs : 1 ≤ (cutT s ⟨#[64]⟩).1.size := by have := of_decide_eq_true h3; omega
 obtain ⟨k1, k2⟩ := ends_of h5 hs
 have k1 : ¬ byteAt (cutT s ⟨#[64]⟩).1 0 = 46 := k1
 have k2 : ¬ byteAt (cutT s ⟨#[64]⟩).1 (((cutT s ⟨#[64]⟩).1.size : Int) - 1).toNat = 46 := k2
 have hall := only_allB h4 mailC (by decide)
 have h2' : ¬ (80 : Int) < s.size := by omega
 have h7' : (2 : Int) ≤ ((splitT (cutT s ⟨#[64]⟩).2.1 ⟨#[46]⟩).length : Int) := by omega
 simp only [isMail, h1, h3, h6, hall, k1, k2, h2', h7', decide_false, decide_true, Bool.not_true, Bool.or_false, Bool.false_eq_true, if_false, Bool.and_true, List.all_eq_true]
 exact fun l hl => label_of (h8 l hl)
def rPhone (s : T) : Bool := hasPrefix s ⟨#[43]⟩ && (within (s.extract 1 s.size).size 7 15 && (only (s.extract 1 s.size) digitT && !decide (byteAt (s.extract 1 s.size) 0 = 48)))
theorem phone_of {s : T} (h : rPhone s = true) : isPhone s = true := by
 simp only [rPhone, Bool.and_eq_true, Bool.not_eq_true', decide_eq_false_iff_not] at h
 obtain ⟨h1, h2, h3, h4⟩ := h
 have hs := of_decide_eq_true h2
 rw [ByteArray.size_extract] at hs
 have hb : byteAt (s.extract 1 s.size) 0 = byteAt s 1 := by
  unfold byteAt
  rw [ByteArray.data_extract, Array.getElem?_extract]
  rw [if_pos (by show 0 < min s.size s.data.size - 1; have : s.data.size = s.size := rfl; omega)]
 simp only [isPhone, Bool.and_eq_true, Bool.not_eq_true', decide_eq_false_iff_not]
 refine ⟨⟨⟨h1, ?_⟩, only_allB h3 _ (by decide)⟩, by rw [← hb]; exact h4⟩
 unfold within
 exact decide_eq_true (by omega)
def rMember (s : T) : Bool := within s.size 4 20 && only s signs
theorem member_of {s : T} (h : rMember s = true) : isMember s = true := by
 simp only [rMember, Bool.and_eq_true] at h
 simp only [isMember, Bool.and_eq_true]
 exact ⟨h.1, only_allB h.2 _ (by decide)⟩
def rDevice (s : T) : Bool := decide ((s.size : Int) = 32) && only s deviceT
theorem device_of {s : T} (h : rDevice s = true) : isDevice s = true := by
 simp only [rDevice, Bool.and_eq_true] at h
 simp only [isDevice, Bool.and_eq_true]
 exact ⟨h.1, only_allB h.2 _ (by decide)⟩
def rSum : List Int → Int
 | [] => 0
 | c :: cs =>
  let n := (if (cs.length + 1) % 2 = 1 then 2 else 1) * Lib.indexByte signs.data.toList c.toNat.toUInt8
  (n.tdiv 36 + n.tmod 36) + rSum cs
def timesOf (k : Nat) : Int := if k % 2 = 0 then 2 else 1
theorem signSum_app : ∀ (l : List Int) (c : Int) (s : Int) (k : Nat), signSum (l ++ [c]) s (timesOf k) = signSum l s (timesOf k) + (((timesOf (k + l.length)) * Lib.indexByte signs.data.toList c.toNat.toUInt8).tdiv 36 + ((timesOf (k + l.length)) * Lib.indexByte signs.data.toList c.toNat.toUInt8).tmod 36)
 | [], c, s, k => by simp [signSum]
 | x :: l, c, s, k => by
  have ht : 3 - timesOf k = timesOf (k + 1) := by
   unfold timesOf
   split <;> split <;> omega
  simp only [List.cons_append, signSum, ht, List.length_cons]
  rw [signSum_app l c _ (k + 1), show k + 1 + l.length = k + (l.length + 1) from by omega]
theorem rSum_eq : ∀ l : List Int, signSum l.reverse 0 2 = rSum l
 | [] => rfl
 | c :: l => by
  have h := signSum_app l.reverse c 0 0
  rw [show timesOf 0 = 2 from rfl, Nat.zero_add, List.length_reverse] at h
  rw [List.reverse_cons, h, rSum_eq l, rSum, Int.add_comm]
  have : timesOf l.length = if (l.length + 1) % 2 = 1 then 2 else 1 := by
   unfold timesOf
   split <;> split <;> omega
  rw [this]
def rFind (sum : Int) : Nat → Nat → Int
 | 0, _ => 0
 | k + 1, c => if (sum + c).tmod 36 = 0 then c else rFind sum k (c + 1)
def rCheckSign (s : T) : Int := rFind (rSum (bytesOf s)) 36 0
theorem rFind_eq (sum : Int) (h0 : 0 ≤ sum) : ∀ (k c : Nat), c + k = 36 → c ≤ ((36 - sum.tmod 36).tmod 36).toNat → rFind sum k c = (36 - sum.tmod 36).tmod 36 := by
 have e1 : sum.tmod 36 = sum % 36 := Int.tmod_eq_emod_of_nonneg h0
 have e2 : (36 - sum.tmod 36).tmod 36 = (36 - sum % 36) % 36 := by rw [e1]; exact Int.tmod_eq_emod_of_nonneg (by omega)
 rw [e2]
 intro k
 induction k with
 | zero => intro c hc hle; omega
 | succ k ih =>
  intro c hc hle
  have e3 : (sum + c).tmod 36 = (sum + c) % 36 := Int.tmod_eq_emod_of_nonneg (by omega)
  rw [rFind, e3]
  by_cases h : (sum + (c : Int)) % 36 = 0
  ·rw [if_pos h]; omega
  ·rw [if_neg h]
   exact ih (c + 1) (by omega) (by omega)
def rId (kind : Int) (s : T) : Int :=
 if kind = 1 then (if rMail s then 0 else 3)
 else if kind = 2 then (if rPhone s then 0 else 3)
 else if kind = 3 then (if rMember s then (if byteAt signs (rCheckSign (s.extract 0 ((s.size : Int) - 1).toNat)).toNat ≠ byteAt s ((s.size : Int) - 1).toNat then 15 else 0) else 3)
 else if kind = 4 then (if rDevice s then 0 else 3)
 else 4
theorem rSum_nonneg : ∀ (l : List Int), (∀ c ∈ l, 0 ≤ Lib.indexByte signs.data.toList c.toNat.toUInt8) → 0 ≤ rSum l
 | [], _ => Int.le_refl _
 | c :: l, h => by
  have h1 := rSum_nonneg l fun x hx => h x (by simp [hx])
  have h2 := h c (by simp)
  have h3 : 0 ≤ (if (l.length + 1) % 2 = 1 then (2 : Int) else 1) * Lib.indexByte signs.data.toList c.toNat.toUInt8 := by split <;> omega
  have h4 := Int.tdiv_nonneg h3 (show (0 : Int) ≤ 36 by decide)
  have h5 := Int.tmod_nonneg 36 h3
  simp only [rSum]
  omega
theorem id_of {kind : Int} {s : T} (h : rId kind s = 0) : checkId kind s = 0 := by
 unfold rId at h
 unfold checkId
 by_cases h1 : kind = 1
 ·subst h1
  rw [if_pos rfl] at h
  split at h
  ·rename_i hm
   simp [mail_of hm]
  ·cases h
 rw [if_neg h1] at h
 by_cases h2 : kind = 2
 ·subst h2
  rw [if_pos rfl] at h
  split at h
  ·rename_i hm
   simp [phone_of hm]
  ·cases h
 rw [if_neg h2] at h
 by_cases h3 : kind = 3
 ·subst h3
  rw [if_pos rfl] at h
  split at h
  ·rename_i hm
   split at h
   ·cases h
   ·rename_i hs
    have hs : byteAt signs (rCheckSign (s.extract 0 ((s.size : Int) - 1).toNat)).toNat = byteAt s ((s.size : Int) - 1).toNat := by simpa using hs
    have hpos : 0 ≤ rSum (bytesOf (s.extract 0 ((s.size : Int) - 1).toNat)) := rSum_nonneg _ fun c hc => by
     simp only [bytesOf, List.mem_map] at hc
     obtain ⟨b, hb, rfl⟩ := hc
     simp only [rMember, Bool.and_eq_true] at hm
     have hb2 : b ∈ s.data.toList := by
      rw [ByteArray.data_extract, Array.toList_extract] at hb
      exact List.mem_of_mem_drop (List.mem_of_mem_take hb)
     have hb3 := only_all hm.2 b hb2
     have hall : ∀ x ∈ signs.data.toList, 0 ≤ Lib.indexByte signs.data.toList ((x.toNat : Int).toNat.toUInt8) := by decide +kernel
     exact hall b hb3
    have hcs : checkSign (s.extract 0 ((s.size : Int) - 1).toNat) = byteAt s ((s.size : Int) - 1).toNat := by
     rw [← hs, checkSign, rCheckSign, rSum_eq, rFind_eq _ hpos 36 0 rfl (Nat.zero_le _)]
    simp only [member_of hm, hcs, ne_eq, not_true_eq_false, and_false, if_false]
    rfl
  ·cases h
 rw [if_neg h3] at h
 by_cases h4 : kind = 4
 ·subst h4
  rw [if_pos rfl] at h
  split at h
  ·rename_i hm
   simp [device_of hm]
  ·cases h
 ·rw [if_neg h4] at h
  cases h
end Go.Rm
/-! Values, fields, events: what the program's checks and the reference's say. -/
namespace Go.El
open Go Go.Ab Go.Pm Go.Cm Go.Rm
structure Val where
 kind : Int
 text : T
 num : Int
 deriving DecidableEq
abbrev Val.c (v : Val) : List AV := [.int v.kind, .str v.text, .int v.num]
structure Fld where
 name : T
 val : Val
 deriving DecidableEq
abbrev Fld.c (f : Fld) : List AV := [.str f.name, .int f.val.kind, .str f.val.text, .int f.val.num]
structure Evt where
 id : T
 name : T
 at' : Int
 who : Idn
 nz : Bool
 fs : List Fld
abbrev Evt.c (e : Evt) : List AV := [.str e.id, .str e.name, .int e.at', .int e.who.kind, .str e.who.text, .ls e.nz (e.fs.map Fld.c)]
/-! The program. -/
def textC (c : Int) : Bool := decide (32 ≤ c) && !decide (c = 127)
def checkText (s : T) : Int := if 200 < (s.size : Int) then 2 else if Lib.validD s.data.toList = false then 3 else if allB s textC = false then 3 else 0
def checkValue (v : Val) : Int :=
 if v.kind = 1 then (if v.num ≠ 0 then 3 else checkText v.text)
 else if v.kind = 2 then (if v.text ≠ ⟨#[]⟩ then 3 else if within v.num (-1000000000000) 1000000000000 = false then 1 else 0)
 else if v.kind = 3 then (if v.text ≠ ⟨#[]⟩ then 3 else if within v.num 0 1 = false then 1 else 0)
 else if v.kind = 4 then (if v.text ≠ ⟨#[]⟩ then 3 else if within v.num 0 4321439 = false then 1 else 0)
 else 4
def fieldErr (prev : Option Fld) (f : Fld) : Int :=
 if isKey f.name = false then 5
 else if checkValue f.val ≠ 0 then checkValue f.val
 else match prev with
  | some p => if strLt f.name p.name || decide (f.name = p.name) then 7 else 0
  | none => 0
def checkFieldsGo : Option Fld → List Fld → Int
 | _, [] => 0
 | prev, f :: r => if fieldErr prev f ≠ 0 then fieldErr prev f else checkFieldsGo (some f) r
def checkFields (l : List Fld) : Int := if 30 < l.length then 2 else checkFieldsGo none l
/-! The reference. -/
def ptsF : Nat → T → List Int
 | 0, _ => []
 | n + 1, s => if s = ⟨#[]⟩ then [] else
  (if (Lib.decodeGo s).1 = 65533 ∧ (Lib.decodeGo s).2 = 1 then -1 - byteAt s 0 else (Lib.decodeGo s).1) :: ptsF n (s.extract (Lib.decodeGo s).2 s.size)
def pts (s : T) : List Int := ptsF s.size s
def rText (s : T) : Bool := (pts s).all fun p => !(decide (p < 32) || decide (p = 127))
def rLow (k : Int) : Int := if k = 2 then -1000000000000 else 0
def rHigh (k : Int) : Int := if k = 2 then 1000000000000 else if k = 3 then 1 else if k = 4 then 4321439 else 0
def rValue (v : Val) : Int :=
 if within v.kind 1 4 = false then 4
 else if v.kind = 1 then (if v.num ≠ 0 then 3 else if 200 < (v.text.size : Int) then 2 else if rText v.text = false then 3 else 0)
 else if v.text ≠ ⟨#[]⟩ then 3
 else if within v.num (rLow v.kind) (rHigh v.kind) = false then 1
 else 0
def rFieldErr (last : T) (f : Fld) : Int :=
 if rKey f.name = false then 5
 else if rValue f.val ≠ 0 then rValue f.val
 else if strLt f.name last || decide (f.name = last) then 7
 else 0
def rFieldsGo : T → List Fld → Int
 | _, [] => 0
 | last, f :: r => if rFieldErr last f ≠ 0 then rFieldErr last f else rFieldsGo f.name r
def rFields (l : List Fld) : Int := if 30 < l.length then 2 else rFieldsGo ⟨#[]⟩ l
/-! What the stream's values have for texts. -/
def aas (n : Nat) : T := ⟨(List.replicate n (97 : UInt8)).toArray⟩
def shorts : List T := [⟨#[]⟩, ⟨#[97, 110, 110]⟩, ⟨#[97, 110, 110, 97]⟩, ⟨#[65, 110, 110, 32, 66]⟩, ⟨#[98, 111, 98]⟩, ⟨#[195, 169, 116, 195, 169]⟩, ⟨#[34, 113, 34]⟩, ⟨#[97, 61, 98]⟩, ⟨#[92]⟩, ⟨#[120]⟩, ⟨#[10]⟩, ⟨#[127]⟩, ⟨#[255]⟩]
def texts : List T := shorts ++ [aas 200, aas 201]
theorem shorts_ok : (shorts.all fun t => decide (200 < (t.size : Int)) || !rText t || (Lib.validD t.data.toList && allB t textC)) = true := by decide +kernel
theorem aas_ok : (Lib.validD (aas 200).data.toList && allB (aas 200) textC) = true := by decide +kernel
theorem text_of {t : T} (ht : t ∈ texts) (h1 : ¬ 200 < (t.size : Int)) (h2 : rText t = true) : checkText t = 0 := by
 have h : (Lib.validD t.data.toList && allB t textC) = true := by
  rcases List.mem_append.1 ht with ht | ht
  ·have h := List.all_eq_true.1 shorts_ok t ht
   simpa only [h1, h2, decide_false, Bool.not_true, Bool.or_self, Bool.false_or] using h
  ·simp only [List.mem_cons, List.not_mem_nil, or_false] at ht
   rcases ht with rfl | rfl
   ·exact aas_ok
   ·exact absurd (show 200 < ((aas 201).size : Int) by show 200 < ((List.replicate 201 (97 : UInt8)).toArray.size : Int); rw [List.size_toArray, List.length_replicate]; decide) h1
 rw [Bool.and_eq_true] at h
 rw [checkText, if_neg h1, if_neg (by simp [h.1]), if_neg (by simp [h.2])]
theorem value_of {v : Val} (ht : v.text ∈ texts) (h : rValue v = 0) : checkValue v = 0 := by
 unfold rValue at h
 split at h
 ·cases h
 rename_i hk
 unfold checkValue
 by_cases h1 : v.kind = 1
 ·rw [if_pos h1] at h ⊢
  split at h
  ·cases h
  rename_i hn
  rw [if_neg hn]
  split at h
  ·cases h
  rename_i hs
  split at h
  ·cases h
  rename_i hr
  exact text_of ht hs (by simpa using hr)
 rw [if_neg h1] at h ⊢
 split at h
 ·cases h
 rename_i hx
 split at h
 ·cases h
 rename_i hw
 simp only [within, decide_eq_false_iff_not, Classical.not_not] at hk
 by_cases h2 : v.kind = 2
 ·rw [if_pos h2, if_neg hx, if_neg (by rw [h2] at hw; exact hw)]
 rw [if_neg h2]
 by_cases h3 : v.kind = 3
 ·rw [if_pos h3, if_neg hx, if_neg (by rw [h3] at hw; exact hw)]
 rw [if_neg h3]
 have h4 : v.kind = 4 := by omega
 rw [if_pos h4, if_neg hx, if_neg (by rw [h4] at hw; exact hw)]
theorem fieldsGo_of : ∀ (l : List Fld) (prev : Option Fld) (last : T), (∀ p, prev = some p → last = p.name) → (∀ f ∈ l, f.val.text ∈ texts) → rFieldsGo last l = 0 → checkFieldsGo prev l = 0
 | [], _, _, _, _, _ => rfl
 | f :: r, prev, last, hp, ht, h => by
  rw [rFieldsGo] at h
  split at h
  ·rename_i h0; exact absurd h h0
  rename_i h0
  have h0 : rFieldErr last f = 0 := by simpa using h0
  have ih := fieldsGo_of r (some f) f.name (fun p hp => by cases hp; rfl) (fun x hx => ht x (by simp [hx])) h
  unfold rFieldErr at h0
  split at h0
  ·cases h0
  rename_i hk
  split at h0
  ·rename_i hv; exact absurd h0 hv
  rename_i hv
  split at h0
  ·cases h0
  rename_i hs
  have hv := value_of (ht f (by simp)) (by simpa using hv)
  have : fieldErr prev f = 0 := by
   unfold fieldErr
   rw [if_neg (by simp [key_of (by simpa using hk)]), if_neg (by simp [hv])]
   cases prev with
   | none => rfl
   | some p =>
    rw [hp p rfl] at hs
    exact if_neg hs
  rw [checkFieldsGo, if_neg (by simp [this])]
  exact ih
theorem fields_of {l : List Fld} (ht : ∀ f ∈ l, f.val.text ∈ texts) (h : rFields l = 0) : checkFields l = 0 := by
 unfold rFields at h
 unfold checkFields
 split at h
 ·cases h
 rename_i hl
 rw [if_neg hl]
 exact fieldsGo_of l none _ (fun p hp => by cases hp) ht h
end Go.El
/-! The order of texts; comparisons that are total, and sorting by them. -/
namespace Go.Co
open Go Go.Ab Go.Pm Go.Cm Go.Sort
theorem bl_irrefl : ∀ x : List UInt8, Op.bytesLess x x = false
 | [] => rfl
 | a :: x => by simp [Op.bytesLess, bl_irrefl x]
theorem bl_trans : ∀ x y z : List UInt8, Op.bytesLess x y = true → Op.bytesLess y z = true → Op.bytesLess x z = true
 | _, [], _, h, _ => by simp [Op.bytesLess] at h
 | [], _ :: _, [], _, h => by simp [Op.bytesLess] at h
 | _ :: _, _ :: _, [], _, h => by simp [Op.bytesLess] at h
 | [], _ :: _, _ :: _, _, _ => rfl
 | a :: x, b :: y, c :: z, h, k => by
  simp only [Op.bytesLess, Bool.or_eq_true, decide_eq_true_eq, Bool.and_eq_true, beq_iff_eq] at h k ⊢
  rcases h with h | ⟨h1, h2⟩ <;> rcases k with k | ⟨k1, k2⟩
  ·exact .inl (UInt8.lt_trans h k)
  ·subst k1; exact .inl h
  ·subst h1; exact .inl k
  ·subst h1 k1; exact .inr ⟨rfl, bl_trans x y z h2 k2⟩
theorem bl_total : ∀ x y : List UInt8, Op.bytesLess x y = false → x ≠ y → Op.bytesLess y x = true
 | [], [], _, h => (h rfl).elim
 | [], _ :: _, h, _ => by simp [Op.bytesLess] at h
 | _ :: _, [], _, _ => rfl
 | a :: x, b :: y, h, k => by
  simp only [Op.bytesLess, Bool.or_eq_false_iff, decide_eq_false_iff_not, Bool.and_eq_false_iff, beq_eq_false_iff_ne] at h
  simp only [Op.bytesLess, Bool.or_eq_true, decide_eq_true_eq, Bool.and_eq_true, beq_iff_eq]
  by_cases hab : a = b
  ·subst hab
   refine .inr ⟨rfl, bl_total x y ?_ (fun e => k (by rw [e]))⟩
   rcases h.2 with h2 | h2
   ·exact absurd rfl h2
   ·exact h2
  ·left
   have h1 := h.1
   rcases UInt8.lt_or_lt_of_ne hab with h2 | h2
   ·exact absurd h2 h1
   ·exact h2
theorem toList_inj {a b : T} (h : a.toList = b.toList) : a = b := by
 have := toList_dec a b
 rw [beq_iff_eq.2 h] at this
 simpa using this.symm
theorem strLt_irrefl (a : T) : strLt a a = false := bl_irrefl _
theorem strLt_trans {a b c : T} (h : strLt a b = true) (k : strLt b c = true) : strLt a c = true := bl_trans _ _ _ h k
theorem strLt_total {a b : T} (h : strLt a b = false) (k : a ≠ b) : strLt b a = true := bl_total _ _ h fun e => k (toList_inj e)
theorem strLt_asymm {a b : T} (h : strLt a b = true) : strLt b a = false := by
 cases hb : strLt b a with
 | false => rfl
 | true => have := strLt_trans h hb; rw [strLt_irrefl] at this; cases this
theorem strLt_ne {a b : T} (h : strLt a b = true) : a ≠ b := fun e => by subst e; rw [strLt_irrefl] at h; cases h
theorem cmpS_self (a : T) : cmpS a a = 0 := by simp [cmpS, strLt_irrefl]
theorem cmpS_lt {a b : T} (h : strLt a b = true) : cmpS a b = -1 := by simp [cmpS, h]
theorem cmpS_gt {a b : T} (h : strLt b a = true) : cmpS a b = 1 := by simp [cmpS, strLt_asymm h, (strLt_ne h).symm]
variable {α β : Type}
structure TC (f : α → α → Int) : Prop where
 anti : ∀ a b, f a b < 0 ↔ 0 < f b a
 tr : ∀ a b c, f a b ≤ 0 → f b c ≤ 0 → f a c ≤ 0
theorem TC.flip {f : α → α → Int} (h : TC f) (a b : α) : f a b ≤ 0 ↔ 0 ≤ f b a := by
 have h1 := h.anti b a
 omega
theorem TC.lt_le {f : α → α → Int} (h : TC f) {a b c : α} (h1 : f a b < 0) (h2 : f b c ≤ 0) : f a c < 0 := by
 rcases Int.lt_or_le (f a c) 0 with h3 | h3
 ·exact h3
 ·have h4 := h.tr b c a h2 ((h.flip c a).2 h3)
  have := (h.anti a b).1 h1
  omega
theorem TC.le_lt {f : α → α → Int} (h : TC f) {a b c : α} (h1 : f a b ≤ 0) (h2 : f b c < 0) : f a c < 0 := by
 rcases Int.lt_or_le (f a c) 0 with h3 | h3
 ·exact h3
 ·have h4 := h.tr c a b ((h.flip c a).2 h3) h1
  have := (h.anti b c).1 h2
  omega
theorem TC.swo {f : α → α → Int} (h : TC f) : SWO (Go.Proofs.ltOf f) where
 irrefl x := by
  have := h.anti x x
  simp only [Go.Proofs.ltOf, decide_eq_false_iff_not]
  omega
 trans x y z h1 h2 := by
  simp only [Go.Proofs.ltOf, decide_eq_true_eq] at h1 h2 ⊢
  exact h.lt_le h1 (by omega)
 ntrans x y z h1 h2 := by
  simp only [Go.Proofs.ltOf, decide_eq_false_iff_not] at h1 h2 ⊢
  have := h.tr z y x ((h.flip z y).2 (by omega)) ((h.flip y x).2 (by omega))
  have := (h.flip z x).1 this
  omega
theorem TC.on {f : β → β → Int} (h : TC f) (p : α → β) : TC (fun a b => f (p a) (p b)) := ⟨fun a b => h.anti _ _, fun a b c => h.tr _ _ _⟩
theorem TC.nil : TC (fun _ _ : α => cmpOr []) := ⟨fun a b => by simp [cmpOr], fun a b c _ _ => by simp [cmpOr]⟩
theorem TC.cons {f : α → α → Int} {g : α → α → List Int} (h : TC f) (k : TC fun a b => cmpOr (g a b)) : TC (fun a b => cmpOr (f a b :: g a b)) := by
 have e : ∀ a b, cmpOr (f a b :: g a b) = if f a b ≠ 0 then f a b else cmpOr (g a b) := fun a b => rfl
 refine ⟨fun a b => ?_, fun a b c h1 h2 => ?_⟩
 ·have h1 := h.anti a b
  have h2 := h.anti b a
  have h3 := k.anti a b
  rw [e, e]
  split <;> split <;> omega
 ·simp only [e] at h1 h2 ⊢
  by_cases x1 : f a b = 0
  ·rw [if_neg (by simp [x1])] at h1
   by_cases x2 : f b c = 0
   ·rw [if_neg (by simp [x2])] at h2
    have l1 := h.tr a b c (by omega) (by omega)
    have l2 := h.tr c b a ((h.flip c b).2 (by omega)) ((h.flip b a).2 (by omega))
    have l2 := (h.flip c a).1 l2
    rw [if_neg (by omega)]
    exact k.tr a b c h1 h2
   ·rw [if_pos x2] at h2
    have := h.le_lt (a := a) (b := b) (c := c) (by omega) (by omega)
    rw [if_pos (by omega)]
    omega
  ·rw [if_pos x1] at h1
   have hbc : f b c ≤ 0 := by split at h2 <;> omega
   have := h.lt_le (a := a) (b := b) (c := c) (by omega) hbc
   rw [if_pos (by omega)]
   omega
theorem tc_cmpI : TC cmpI := ⟨fun a b => by unfold cmpI; split <;> split <;> (try split) <;> omega, fun a b c h1 h2 => by
 have : a ≤ b := by unfold cmpI at h1; split at h1 <;> (try split at h1) <;> omega
 have : b ≤ c := by unfold cmpI at h2; split at h2 <;> (try split at h2) <;> omega
 unfold cmpI; split <;> (try split) <;> omega⟩
theorem cmpS_cases (a b : T) : (strLt a b = true ∧ cmpS a b = -1) ∨ (a = b ∧ cmpS a b = 0) ∨ (strLt b a = true ∧ cmpS a b = 1) := by
 by_cases h1 : strLt a b = true
 ·exact .inl ⟨h1, cmpS_lt h1⟩
 by_cases h2 : a = b
 ·subst h2; exact .inr (.inl ⟨rfl, cmpS_self _⟩)
 ·have h3 := strLt_total (by simpa using h1) h2
  exact .inr (.inr ⟨h3, cmpS_gt h3⟩)
theorem tc_cmpS : TC cmpS := by
 refine ⟨fun a b => ?_, fun a b c h1 h2 => ?_⟩
 ·rcases cmpS_cases a b with ⟨h, k⟩ | ⟨rfl, k⟩ | ⟨h, k⟩
  ·rw [k, cmpS_gt h]; decide
  ·rw [k]
  ·rw [k, cmpS_lt h]; decide
 ·rcases cmpS_cases a b with ⟨h, k⟩ | ⟨rfl, k⟩ | ⟨h, k⟩
  ·rcases cmpS_cases b c with ⟨h', k'⟩ | ⟨rfl, k'⟩ | ⟨h', k'⟩
   ·rw [cmpS_lt (strLt_trans h h')]; decide
   ·rw [k]; decide
   ·omega
  ·exact h2
  ·rw [k] at h1; omega
end Go.Co
/-! Parents in a list of numbers: roots, their halving, and unions. -/
namespace Go.Uf
def par (p : List Nat) (i : Nat) : Nat := (p[i]?).getD i
def Down (p : List Nat) : Prop := ∀ i, par p i ≤ i
def rp (p : List Nat) (i : Nat) : Nat := if h : par p i < i then rp p (par p i) else i
termination_by i
decreasing_by exact h
theorem rp_step {p : List Nat} {i : Nat} (h : par p i < i) : rp p i = rp p (par p i) := by rw [rp, dif_pos h]
theorem rp_stop {p : List Nat} {i : Nat} (h : ¬ par p i < i) : rp p i = i := by rw [rp, dif_neg h]
theorem rp_le (p : List Nat) : ∀ i, rp p i ≤ i := by
 intro i
 induction i using Nat.strongRecOn with
 | ind i ih =>
  by_cases h : par p i < i
  ·rw [rp_step h]; have := ih _ h; omega
  ·rw [rp_stop h]; exact Nat.le_refl _
theorem rp_root {p : List Nat} (hd : Down p) : ∀ i, par p (rp p i) = rp p i := by
 intro i
 induction i using Nat.strongRecOn with
 | ind i ih =>
  by_cases h : par p i < i
  ·rw [rp_step h]; exact ih _ h
  ·rw [rp_stop h]; have := hd i; omega
theorem rp_of_root {p : List Nat} {i : Nat} (h : par p i = i) : rp p i = i := rp_stop (by omega)
theorem rp_idem {p : List Nat} (hd : Down p) (i : Nat) : rp p (rp p i) = rp p i := rp_of_root (rp_root hd i)
theorem rp_lt {p : List Nat} {i : Nat} (h : i < p.length) : rp p i < p.length := Nat.lt_of_le_of_lt (rp_le p i) h
theorem par_set (p : List Nat) (i v j : Nat) (hi : i < p.length) : par (p.set i v) j = if j = i then v else par p j := by
 unfold par
 rw [List.getElem?_set]
 by_cases h : i = j
 ·subst h; rw [if_pos rfl, if_pos hi, if_pos rfl]; rfl
 ·rw [if_neg h, if_neg (fun e => h e.symm)]
theorem Down.set {p : List Nat} (hd : Down p) {i v : Nat} (hi : i < p.length) (hv : v ≤ i) : Down (p.set i v) := fun j => by
 rw [par_set p i v j hi]
 split
 ·omega
 ·exact hd j
theorem rp_set {p : List Nat} (hd : Down p) {i v : Nat} (hi : i < p.length) (hv : v ≤ i) (hr : rp p v = rp p i) (hf : v = i → par p i = i) (j : Nat) : rp (p.set i v) j = rp p j := by
 induction j using Nat.strongRecOn with
 | ind j ih =>
  have e := par_set p i v j hi
  by_cases hj : j = i
  ·subst hj
   rw [if_pos rfl] at e
   by_cases hvj : v = j
   ·subst hvj
    rw [rp_stop (by omega), rp_of_root (hf rfl)]
   ·rw [rp_step (by omega), e, ih _ (by omega), hr]
  ·rw [if_neg hj] at e
   by_cases h : par p j < j
   ·rw [rp_step (by omega), e, ih _ h, rp_step h]
   ·rw [rp_stop (by omega), rp_stop h]
theorem rp_par {p : List Nat} (hd : Down p) (i : Nat) : rp p (par p i) = rp p i := by
 by_cases h : par p i < i
 ·rw [rp_step h]
 ·have := hd i
  rw [show par p i = i by omega]
theorem rp_half {p : List Nat} (hd : Down p) {i : Nat} (hi : i < p.length) (j : Nat) : rp (p.set i (par p (par p i))) j = rp p j := by
 have h1 := hd i
 have h2 := hd (par p i)
 refine rp_set hd hi (by omega) (by rw [rp_par hd, rp_par hd]) (fun e => by omega) j
theorem rp_flat {p : List Nat} (hd : Down p) {i : Nat} (hi : i < p.length) (j : Nat) : rp (p.set i (rp p i)) j = rp p j :=
 rp_set hd hi (rp_le p i) (rp_idem hd i) (fun e => by have := rp_root hd i; rwa [e] at this) j
theorem rp_union {p : List Nat} (hd : Down p) {m n : Nat} (hm : m < p.length) (hmr : par p m = m) (hnr : par p n = n) (hn : n ≤ m) (j : Nat) : rp (p.set m n) j = if rp p j = m then n else rp p j := by
 induction j using Nat.strongRecOn with
 | ind j ih =>
  have e := par_set p m n j hm
  by_cases hj : j = m
  ·subst hj
   rw [if_pos rfl] at e
   rw [rp_of_root hmr, if_pos rfl]
   by_cases hnj : n = j
   ·subst hnj; rw [rp_stop (by omega)]
   ·have e2 := par_set p j n n hm
    rw [if_neg hnj] at e2
    rw [rp_step (by omega), e, rp_stop (by omega)]
  ·rw [if_neg hj] at e
   by_cases h : par p j < j
   ·rw [rp_step (by omega), e, ih _ h, rp_step h]
   ·rw [rp_stop (by omega), rp_stop h, if_neg hj]
theorem down_range (n : Nat) : Down (List.range n) := fun i => by
 unfold par
 rcases Nat.lt_or_ge i n with h | h
 ·simp [h]
 ·rw [List.getElem?_eq_none (by simpa using h)]; exact Nat.le_refl _
theorem rp_range (n i : Nat) : rp (List.range n) i = i := by
 refine rp_of_root ?_
 unfold par
 rcases Nat.lt_or_ge i n with h | h
 ·simp [h]
 ·rw [List.getElem?_eq_none (by simpa using h)]; rfl
/-! What hangs together. -/
inductive Conn (T : Nat → Nat → Prop) : Nat → Nat → Prop
 | refl (i : Nat) : Conn T i i
 | tail {i j k : Nat} : Conn T i j → T j k → Conn T i k
variable {T T' : Nat → Nat → Prop}
theorem Conn.one {i j : Nat} (h : T i j) : Conn T i j := (Conn.refl i).tail h
theorem Conn.trans {i j k : Nat} (h : Conn T i j) (k' : Conn T j k) : Conn T i k := by
 induction k' with
 | refl => exact h
 | tail _ h2 ih => exact ih.tail h2
theorem Conn.symm (hs : ∀ i j, T i j → T j i) {i j : Nat} (h : Conn T i j) : Conn T j i := by
 induction h with
 | refl => exact .refl _
 | tail _ h2 ih => exact (Conn.one (hs _ _ h2)).trans ih
theorem Conn.mono (hm : ∀ i j, T i j → T' i j) {i j : Nat} (h : Conn T i j) : Conn T' i j := by
 induction h with
 | refl => exact .refl _
 | tail _ h2 ih => exact ih.tail (hm _ _ h2)
structure Parts (T : Nat → Nat → Prop) (n : Nat) (r : List Nat) : Prop where
 len : r.length = n
 conn : ∀ i, i < n → Conn T i (par r i)
 same : ∀ i j, i < n → j < n → Conn T i j → par r i = par r j
 low : ∀ i, par r i ≤ i
theorem Parts.root {n : Nat} {r : List Nat} (h : Parts T n r) {i : Nat} (hi : i < n) : par r (par r i) = par r i :=
 (h.same i (par r i) hi (Nat.lt_of_le_of_lt (h.low i) hi) (h.conn i hi)).symm
theorem Parts.iff (hs : ∀ i j, T i j → T j i) {n : Nat} {r : List Nat} (h : Parts T n r) {i j : Nat} (hi : i < n) (hj : j < n) : par r i = par r j ↔ Conn T i j :=
 ⟨fun e => ((h.conn i hi).trans (by rw [e]; exact .refl _)).trans ((h.conn j hj).symm hs), h.same i j hi hj⟩
theorem Parts.uniq {n : Nat} {r r' : List Nat} (h : Parts T n r) (h' : Parts T n r') : r = r' := by
 apply List.ext_getElem?
 intro i
 rcases Nat.lt_or_ge i n with hi | hi
 ·have e1 : r[i]? = some (par r i) := by rw [par, List.getElem?_eq_getElem (by rw [h.len]; exact hi)]; rfl
  have e2 : r'[i]? = some (par r' i) := by rw [par, List.getElem?_eq_getElem (by rw [h'.len]; exact hi)]; rfl
  rw [e1, e2]
  have k1 := h'.same i (par r i) hi (Nat.lt_of_le_of_lt (h.low i) hi) (h.conn i hi)
  have k2 := h.same i (par r' i) hi (Nat.lt_of_le_of_lt (h'.low i) hi) (h'.conn i hi)
  have k3 := h'.low (par r i)
  have k4 := h.low (par r' i)
  congr 1
  omega
 ·rw [List.getElem?_eq_none (by rw [h.len]; exact hi), List.getElem?_eq_none (by rw [h'.len]; exact hi)]
end Go.Uf
/-! Touches, rules, persons: what package person makes of them. -/
namespace Go.Pp
open Go Go.Ab Go.Pm Go.Cm Go.Rm Go.El Go.Uf
structure Tch where
 no : Int
 at' : Int
 src : T
 nzi : Bool
 ids : List Idn
 nzf : Bool
 fs : List Fld
abbrev Tch.c (t : Tch) : List AV := [.int t.no, .int t.at', .str t.src, .ls t.nzi (t.ids.map Idn.c), .ls t.nzf (t.fs.map Fld.c)]
structure Srv where
 name : T
 how : Int
 nz : Bool
 srcs : List T
abbrev Srv.c (s : Srv) : List AV := [.str s.name, .int s.how, .ls s.nz (s.srcs.map fun x => [AV.str x])]
structure Rls where
 nzk : Bool
 kinds : List Int
 most : Int
 nzw : Bool
 weak : List Idn
 nzs : Bool
 srv : List Srv
abbrev Rls.c (r : Rls) : List AV := [.ls r.nzk (r.kinds.map fun x => [AV.int x]), .int r.most, .ls r.nzw (r.weak.map Idn.c), .ls r.nzs (r.srv.map Srv.c)]
structure Per where
 key : Idn
 tch : List Int
 ids : List Idn
abbrev Per.c (p : Per) : List AV := [.int p.key.kind, .str p.key.text, .ls true (p.tch.map fun x => [AV.int x]), .ls true (p.ids.map Idn.c)]
/-! The order of ids. -/
def cmpId (a b : Idn) : Int := cmpOr [cmpI a.kind b.kind, cmpS a.text b.text]
theorem cmpId_tc : Co.TC cmpId := Co.TC.cons (f := fun (a b : Idn) => cmpI a.kind b.kind) (g := fun (a b : Idn) => [cmpS a.text b.text]) (Co.tc_cmpI.on Idn.kind) (Co.TC.cons (f := fun (a b : Idn) => cmpS a.text b.text) (g := fun (a b : Idn) => []) (Co.tc_cmpS.on Idn.text) Co.TC.nil)
theorem cmpId_eq {a b : Idn} (h : cmpId a b = 0) : a = b := by
 obtain ⟨ka, ta⟩ := a
 obtain ⟨kb, tb⟩ := b
 unfold cmpId cmpOr cmpOr cmpOr cmpI at h
 simp only at h
 rcases Co.cmpS_cases ta tb with ⟨h2, h3⟩ | ⟨h2, h3⟩ | ⟨h2, h3⟩ <;> rw [h3] at h <;> (repeat' split at h) <;> first | omega | (subst h2; congr 1; omega) | skip
theorem cmpId_self (a : Idn) : cmpId a a = 0 := by simp [cmpId, cmpOr, cmpI, Co.cmpS_self]
def Asc (l : List Idn) : Prop := l.Pairwise fun a b => cmpId a b < 0
theorem Asc.nodup {l : List Idn} (h : Asc l) : l.Nodup := h.imp fun {a b} h e => by subst e; rw [cmpId_self] at h; omega
theorem asc_uniq : ∀ {l m : List Idn}, Asc l → Asc m → (∀ x, x ∈ l ↔ x ∈ m) → l = m
 | [], [], _, _, _ => rfl
 | [], y :: m, _, _, h => by simpa using (h y).2 (by simp)
 | x :: l, [], _, _, h => by simpa using (h x).1 (by simp)
 | x :: l, y :: m, hl, hm, h => by
  obtain ⟨h1, h2⟩ := List.pairwise_cons.1 hl
  obtain ⟨h3, h4⟩ := List.pairwise_cons.1 hm
  have hxy : x = y := by
   have hx := (h x).1 (by simp)
   have hy := (h y).2 (by simp)
   rcases List.mem_cons.1 hx with e | hx
   ·exact e
   ·rcases List.mem_cons.1 hy with e | hy
    ·exact e.symm
    ·have k1 := h3 x hx
     have k2 := h1 y hy
     have := (cmpId_tc.anti x y).1 k2
     omega
  subst hxy
  congr 1
  refine asc_uniq h2 h4 fun z => ?_
  constructor
  ·intro hz
   rcases List.mem_cons.1 ((h z).1 (by simp [hz])) with e | hz'
   ·subst e; have := h1 z hz; rw [cmpId_self] at this; omega
   ·exact hz'
  ·intro hz
   rcases List.mem_cons.1 ((h z).2 (by simp [hz])) with e | hz'
   ·subst e; have := h3 z hz; rw [cmpId_self] at this; omega
   ·exact hz'
def insId (x : Idn) : List Idn → List Idn
 | [] => [x]
 | y :: ys => if cmpId x y < 0 then x :: y :: ys else if cmpId x y = 0 then y :: ys else y :: insId x ys
def setOf (l : List Idn) : List Idn := l.foldr insId []
theorem mem_insId (x z : Idn) : ∀ l, z ∈ insId x l ↔ z = x ∨ z ∈ l
 | [] => by simp [insId]
 | y :: ys => by
  unfold insId
  split
  ·simp
  ·split
   ·rename_i h; have := cmpId_eq h; subst this; simp
   ·simp only [List.mem_cons, mem_insId x z ys]
    constructor
    ·rintro (h | h | h)
     ·exact .inr (.inl h)
     ·exact .inl h
     ·exact .inr (.inr h)
    ·rintro (h | h | h)
     ·exact .inr (.inl h)
     ·exact .inl h
     ·exact .inr (.inr h)
theorem asc_insId (x : Idn) : ∀ l, Asc l → Asc (insId x l)
 | [], _ => List.pairwise_singleton _ _
 | y :: ys, h => by
  obtain ⟨h1, h2⟩ := List.pairwise_cons.1 h
  unfold insId
  split
  ·rename_i hx
   refine List.pairwise_cons.2 ⟨fun z hz => ?_, h⟩
   rcases List.mem_cons.1 hz with rfl | hz
   ·exact hx
   ·exact cmpId_tc.lt_le hx (by have := h1 z hz; omega)
  ·split
   ·exact h
   ·rename_i hx hx2
    refine List.pairwise_cons.2 ⟨fun z hz => ?_, asc_insId x ys h2⟩
    rcases (mem_insId x z ys).1 hz with rfl | hz
    ·exact (cmpId_tc.anti y z).2 (by omega)
    ·exact h1 z hz
theorem asc_setOf : ∀ l, Asc (setOf l)
 | [] => .nil
 | x :: l => asc_insId x _ (asc_setOf l)
theorem mem_setOf (z : Idn) : ∀ l, z ∈ setOf l ↔ z ∈ l
 | [] => by simp [setOf]
 | x :: l => by
  show z ∈ insId x (setOf l) ↔ _
  rw [mem_insId, mem_setOf z l, List.mem_cons]
theorem setOf_eq {l m : List Idn} (h : Asc m) (hm : ∀ x, x ∈ m ↔ x ∈ l) : m = setOf l := asc_uniq h (asc_setOf l) fun x => (hm x).trans (mem_setOf x l).symm
/-! Which touches have an id. -/
def Has (l : List Tch) (i : Nat) (x : Idn) : Prop := ∃ t, l[i]? = some t ∧ x ∈ t.ids
def occFrom : Nat → List Tch → Idn → List Nat
 | _, [], _ => []
 | i, t :: r, x => (if x ∈ t.ids then [i] else []) ++ occFrom (i + 1) r x
def occ (l : List Tch) (x : Idn) : List Nat := occFrom 0 l x
theorem occFrom_append (x : Idn) : ∀ (d r : List Tch) (i : Nat), occFrom i (d ++ r) x = occFrom i d x ++ occFrom (i + d.length) r x
 | [], r, i => rfl
 | t :: d, r, i => by
  show _ ++ occFrom (i + 1) (d ++ r) x = (_ ++ occFrom (i + 1) d x) ++ _
  rw [occFrom_append x d r (i + 1), List.append_assoc, List.length_cons, show i + 1 + d.length = i + (d.length + 1) from by omega]
theorem occ_snoc (d : List Tch) (t : Tch) (x : Idn) : occ (d ++ [t]) x = occ d x ++ (if x ∈ t.ids then [d.length] else []) := by
 unfold occ
 rw [occFrom_append]
 show _ ++ (_ ++ []) = _
 rw [List.append_nil, Nat.zero_add]
theorem mem_occFrom (x : Idn) : ∀ (l : List Tch) (i k : Nat), k ∈ occFrom i l x ↔ ∃ j, k = i + j ∧ Has l j x
 | [], i, k => by simp [occFrom, Has]
 | t :: r, i, k => by
  unfold occFrom
  rw [List.mem_append, mem_occFrom x r (i + 1) k]
  constructor
  ·rintro (h | ⟨j, rfl, h⟩)
   ·split at h
    ·rename_i hx
     simp only [List.mem_singleton] at h
     exact ⟨0, by omega, t, rfl, hx⟩
    ·cases h
   ·exact ⟨j + 1, by omega, by simpa [Has] using h⟩
  ·rintro ⟨j, rfl, h⟩
   cases j with
   | zero =>
    obtain ⟨t', h1, h2⟩ := h
    simp only [List.getElem?_cons_zero, Option.some.injEq] at h1
    subst h1
    left; simp [h2]
   | succ j => exact .inr ⟨j, by omega, by simpa [Has] using h⟩
theorem mem_occ {l : List Tch} {x : Idn} {k : Nat} : k ∈ occ l x ↔ Has l k x := by
 unfold occ
 rw [mem_occFrom]
 simp
theorem has_lt {l : List Tch} {i : Nat} {x : Idn} (h : Has l i x) : i < l.length := by
 obtain ⟨t, h1, _⟩ := h
 exact (List.getElem?_eq_some_iff.1 h1).1
/-! Who hangs together with whom. -/
def isWeak (weak : List Idn) (x : Idn) : Bool := bsHas (fun y => cmpId y x) weak
def joins (r : Rls) (l : List Tch) (x : Idn) : Bool := !isWeak r.weak x && (decide (x.kind ∈ r.kinds) && decide (((occ l x).length : Int) ≤ r.most))
def tie (J : Idn → Bool) (l : List Tch) (i j : Nat) : Prop := ∃ x, J x = true ∧ Has l i x ∧ Has l j x
theorem tie_symm {J : Idn → Bool} {l : List Tch} (i j : Nat) (h : tie J l i j) : tie J l j i := by
 obtain ⟨x, h1, h2, h3⟩ := h
 exact ⟨x, h1, h3, h2⟩
open Classical in
noncomputable def rootOf (J : Idn → Bool) (l : List Tch) : List Nat := if h : ∃ p, Parts (tie J l) l.length p then Classical.choose h else []
theorem rootOf_eq {J : Idn → Bool} {l : List Tch} {p : List Nat} (h : Parts (tie J l) l.length p) : rootOf J l = p := by
 have h0 : ∃ p, Parts (tie J l) l.length p := ⟨p, h⟩
 unfold rootOf
 rw [dif_pos h0]
 exact (Classical.choose_spec h0).uniq h
def noId : Idn := ⟨0, ⟨#[]⟩⟩
def keyOf (J : Idn → Bool) (t : Tch) : Idn := (t.ids.find? J).getD (t.ids.headD noId)
def noT : Tch := ⟨0, 0, ⟨#[]⟩, false, [], false, []⟩
def tAt (l : List Tch) (i : Nat) : Tch := (l[i]?).getD noT
def ofRoot (root : List Nat) (n k : Nat) : List Nat := (List.range n).filter fun i => decide (par root i = k)
def roots (root : List Nat) (n : Nat) : List Nat := (List.range n).filter fun i => decide (par root i = i)
def perOf (J : Idn → Bool) (l : List Tch) (root : List Nat) (k : Nat) : Per :=
 ⟨keyOf J (tAt l k), (ofRoot root l.length k).map fun i => (tAt l i).no, setOf ((ofRoot root l.length k).flatMap fun i => (tAt l i).ids)⟩
def persFrom (J : Idn → Bool) (l : List Tch) (root : List Nat) : List Per := (roots root l.length).map (perOf J l root)
noncomputable def personsOf (r : Rls) (l : List Tch) : List Per := persFrom (joins r l) l (rootOf (joins r l) l)
/-! What the checks ask. -/
structure IdsOk (l : List Idn) : Prop where
 each : ∀ x ∈ l, checkId x.kind x.text = 0
 asc : Asc l
 small : ∀ x ∈ l, x.text.size ≤ 1000
structure SrvOk (s : Srv) : Prop where
 key : isKey s.name = true
 how : 1 ≤ s.how ∧ s.how ≤ 7
 form : s.srcs ≠ [] → s.how = 5
 few : s.srcs.length ≤ 20
 keys : ∀ x ∈ s.srcs, isKey x = true
 once : s.srcs.Nodup
 small : s.name.size ≤ 1000 ∧ ∀ x ∈ s.srcs, x.size ≤ 1000
structure RulesOk (r : Rls) : Prop where
 some : r.kinds ≠ []
 kin : ∀ k ∈ r.kinds, 1 ≤ k ∧ k ≤ 4
 kasc : r.kinds.Pairwise (· < ·)
 most : 2 ≤ r.most ∧ r.most ≤ 2000
 wfew : r.weak.length ≤ 200
 weak : IdsOk r.weak
 sfew : r.srv.length ≤ 30
 srv : ∀ s ∈ r.srv, SrvOk s
 sasc : r.srv.Pairwise fun a b => strLt a.name b.name = true
structure TouchOk (t : Tch) : Prop where
 no : 1 ≤ t.no ∧ t.no ≤ 1000000
 at' : 0 ≤ t.at' ∧ t.at' ≤ 4321439
 src : isKey t.src = true
 some : t.ids ≠ []
 few : t.ids.length ≤ 10
 ids : IdsOk t.ids
 fs : checkFields t.fs = 0
 small : t.src.size ≤ 1000 ∧ t.fs.length ≤ 100 ∧ ∀ f ∈ t.fs, f.name.size ≤ 1000 ∧ f.val.text.size ≤ 1000
structure TouchesOk (l : List Tch) : Prop where
 few : l.length ≤ 2000
 each : ∀ t ∈ l, TouchOk t
 rise : l.Pairwise fun a b => a.no < b.no
end Go.Pp
/-! Laws of what hangs together. -/
namespace Go.Pp
open Go Go.Ab Go.Pm Go.Cm Go.Rm Go.El Go.Uf
def Rise (l : List Tch) : Prop := l.Pairwise fun a b => a.no < b.no
def tog (ps : List Per) (a b : Int) : Bool := ps.any fun x => decide (a ∈ x.tch) && decide (b ∈ x.tch)
theorem tAt_get {l : List Tch} {i : Nat} {t : Tch} (h : l[i]? = some t) : tAt l i = t := by rw [tAt, h]; rfl
theorem Rise.inj {l : List Tch} (h : Rise l) {i j : Nat} (hi : i < l.length) (hj : j < l.length) (e : (tAt l i).no = (tAt l j).no) : i = j := by
 rw [tAt_get (List.getElem?_eq_getElem hi), tAt_get (List.getElem?_eq_getElem hj)] at e
 rcases Nat.lt_trichotomy i j with h1 | h1 | h1
 ·have := List.pairwise_iff_getElem.1 h i j hi hj h1; omega
 ·exact h1
 ·have := List.pairwise_iff_getElem.1 h j i hj hi h1; omega
theorem mem_ofRoot {root : List Nat} {n k i : Nat} : i ∈ ofRoot root n k ↔ i < n ∧ par root i = k := by simp [ofRoot]
theorem mem_roots {root : List Nat} {n k : Nat} : k ∈ roots root n ↔ k < n ∧ par root k = k := by simp [roots]
theorem mem_perTch {J : Idn → Bool} {l : List Tch} (hr : Rise l) {root : List Nat} {k i : Nat} (hi : i < l.length) : (tAt l i).no ∈ (perOf J l root k).tch ↔ par root i = k := by
 unfold perOf
 simp only [List.mem_map, mem_ofRoot]
 constructor
 ·rintro ⟨j, ⟨h1, h2⟩, h3⟩
  rw [← hr.inj h1 hi h3]; exact h2
 ·intro h
  exact ⟨i, ⟨hi, h⟩, rfl⟩
theorem tog_iff {J : Idn → Bool} {l : List Tch} (hr : Rise l) {root : List Nat} (hp : Parts (tie J l) l.length root) {i j : Nat} (hi : i < l.length) (hj : j < l.length) : tog (persFrom J l root) (tAt l i).no (tAt l j).no = true ↔ par root i = par root j := by
 unfold tog persFrom
 simp only [List.any_eq_true, List.mem_map, Bool.and_eq_true, decide_eq_true_eq]
 constructor
 ·rintro ⟨_, ⟨k, hk, rfl⟩, h1, h2⟩
  rw [mem_perTch hr hi] at h1
  rw [mem_perTch hr hj] at h2
  rw [h1, h2]
 ·intro h
  refine ⟨_, ⟨par root i, mem_roots.2 ⟨Nat.lt_of_le_of_lt (hp.low i) hi, hp.root hi⟩, rfl⟩, (mem_perTch hr hi).2 rfl, (mem_perTch hr hj).2 h.symm⟩
theorem rootOf_parts {J : Idn → Bool} {l : List Tch} (h : ∃ p, Parts (tie J l) l.length p) : Parts (tie J l) l.length (rootOf J l) := by
 obtain ⟨p, hp⟩ := h
 rw [rootOf_eq hp]
 exact hp
end Go.Pp
/-! What rows of pairs say that come of a list. -/
namespace Go.Ab
variable {α : Type} {key val : α → AV}
theorem mgetK_absent {k : AV} : ∀ {K : List α}, (∀ a ∈ K, key a ≠ k) → mget (K.map fun a => [key a, val a]) k = none
 | [], _ => rfl
 | a :: K, h => by
  have h' : ¬ some (key a) = some k := by simpa using h a (by simp)
  have hm : mget ([key a, val a] :: K.map fun a => [key a, val a]) k = mget (K.map fun a => [key a, val a]) k := by simp only [mget, List.head?_cons]; exact if_neg h'
  rw [List.map_cons, hm]
  exact mgetK_absent fun b hb => h b (List.mem_cons_of_mem _ hb)
theorem mgetK_at {a : α} : ∀ {K : List α}, (K.map key).Nodup → a ∈ K → mget (K.map fun a => [key a, val a]) (key a) = some (val a)
 | [], _, h => by cases h
 | b :: K, hn, h => by
  rw [List.map_cons] at hn
  obtain ⟨h1, h2⟩ := List.nodup_cons.1 hn
  rcases List.mem_cons.1 h with rfl | h
  ·simp [mget]
  ·have h' : ¬ some (key b) = some (key a) := by
    intro e
    have e : key b = key a := by simpa using e
    exact h1 (by rw [e]; exact List.mem_map_of_mem h)
   have hm : mget ([key b, val b] :: K.map fun a => [key a, val a]) (key a) = mget (K.map fun a => [key a, val a]) (key a) := by simp only [mget, List.head?_cons]; exact if_neg h'
   rw [List.map_cons, hm]
   exact mgetK_at h2 h
theorem mputK_absent {k v : AV} : ∀ {K : List α}, (∀ a ∈ K, key a ≠ k) → mput (K.map fun a => [key a, val a]) k v = (K.map fun a => [key a, val a]) ++ [[k, v]]
 | [], _ => rfl
 | a :: K, h => by
  have h' : ¬ some (key a) = some k := by simpa using h a (by simp)
  have hm : mput ([key a, val a] :: K.map fun a => [key a, val a]) k v = [key a, val a] :: mput (K.map fun a => [key a, val a]) k v := by simp only [mput, List.head?_cons]; exact if_neg h'
  rw [List.map_cons, hm, mputK_absent fun b hb => h b (List.mem_cons_of_mem _ hb)]
  rfl
theorem mputK_at {β : Type} {key' val' : β → AV} {v : AV} {a : α} {f : α → β} : ∀ {K : List α}, (K.map key).Nodup → a ∈ K → key' (f a) = key a → val' (f a) = v → (∀ b ∈ K, key b ≠ key a → key' (f b) = key b ∧ val' (f b) = val b) →
  mput (K.map fun a => [key a, val a]) (key a) v = (K.map f).map fun b => [key' b, val' b]
 | [], _, h, _, _, _ => by cases h
 | b :: K, hn, h, e1, e2, e3 => by
  rw [List.map_cons] at hn
  obtain ⟨h1, h2⟩ := List.nodup_cons.1 hn
  by_cases hb : key b = key a
  ·have hK : ∀ c ∈ K, key c ≠ key a := fun c hc e => h1 (by rw [hb, ← e]; exact List.mem_map_of_mem hc)
   have hba : a = b := by
    rcases List.mem_cons.1 h with rfl | h
    ·rfl
    ·exact absurd rfl (hK a h)
   subst hba
   have hm : mput ([key a, val a] :: K.map fun a => [key a, val a]) (key a) v = [key a, v] :: K.map fun a => [key a, val a] := by simp [mput]
   rw [List.map_cons, hm, List.map_cons, List.map_cons, e1, e2]
   congr 1
   rw [List.map_map]
   refine List.map_congr_left fun c hc => ?_
   obtain ⟨q1, q2⟩ := e3 c (List.mem_cons_of_mem _ hc) (hK c hc)
   simp [q1, q2]
  ·have h' : ¬ some (key b) = some (key a) := by simpa using hb
   have hm : mput ([key b, val b] :: K.map fun a => [key a, val a]) (key a) v = [key b, val b] :: mput (K.map fun a => [key a, val a]) (key a) v := by simp only [mput, List.head?_cons]; exact if_neg h'
   have ha : a ∈ K := by
    rcases List.mem_cons.1 h with rfl | h
    ·exact absurd rfl hb
    ·exact h
   obtain ⟨q1, q2⟩ := e3 b (by simp) hb
   rw [List.map_cons, hm, mputK_at h2 ha e1 e2 fun c hc => e3 c (List.mem_cons_of_mem _ hc), List.map_cons, List.map_cons, q1, q2]
theorem pairs_map {K : List α} : Pairs (K.map fun a => [key a, val a]) := fun r hr => by
 obtain ⟨a, _, rfl⟩ := List.mem_map.1 hr
 exact ⟨_, _, rfl⟩
end Go.Ab
/-! Ways that are shortened, and parts that are put together. -/
namespace Go.Uf
structure Like (p q : List Nat) : Prop where
 len : q.length = p.length
 down : Down q
 same : ∀ j, rp q j = rp p j
 flat : ∀ j, par p j = rp p j → par q j = par p j
theorem Like.refl {p : List Nat} (h : Down p) : Like p p := ⟨rfl, h, fun _ => rfl, fun _ _ => rfl⟩
theorem Like.trans {p q s : List Nat} (h : Like p q) (k : Like q s) : Like p s :=
 ⟨k.len.trans h.len, k.down, fun j => (k.same j).trans (h.same j), fun j e => by
  have e1 := h.flat j e
  rw [← e1]
  exact k.flat j (by rw [e1, e, h.same])⟩
theorem Like.half {p : List Nat} (hd : Down p) {i : Nat} (hi : i < p.length) : Like p (p.set i (par p (par p i))) :=
 ⟨by simp, Down.set hd hi (Nat.le_trans (hd _) (hd _)), rp_half hd hi, fun j e => by
  rw [par_set p _ _ _ hi]
  split
  ·rename_i h; subst h
   rw [e, rp_root hd]
  ·rfl⟩
theorem Like.root {p : List Nat} (hd : Down p) {i : Nat} (hi : i < p.length) : Like p (p.set i (rp p i)) :=
 ⟨by simp, Down.set hd hi (rp_le p i), rp_flat hd hi, fun j e => by
  rw [par_set p _ _ _ hi]
  split
  ·rename_i h; subst h; exact e.symm
  ·rfl⟩
theorem rp_par_lt {p : List Nat} (hd : Down p) {i : Nat} (h : par p i ≠ i) : par p (par p i) < i := by
 have h1 := hd i
 have h2 := hd (par p i)
 omega
theorem row_par {p : List Nat} {i : Nat} (h : i < p.length) : p[i]? = some (par p i) := by
 rw [par, List.getElem?_eq_getElem h]; rfl
end Go.Uf
namespace Go.Pp
open Go Go.Ab Go.Pm Go.Cm Go.Rm Go.El Go.Uf
variable {J : Idn → Bool} {l : List Tch}
structure Mg (J : Idn → Bool) (l : List Tch) (p : List Nat) : Prop where
 len : p.length = l.length
 down : Down p
 conn : ∀ i, i < l.length → Conn (tie J l) i (rp p i)
theorem Mg.start (J : Idn → Bool) (l : List Tch) : Mg J l (List.range l.length) := ⟨by simp, down_range _, fun i _ => by rw [rp_range]; exact .refl _⟩
theorem Mg.like {p q : List Nat} (h : Mg J l p) (k : Like p q) : Mg J l q := ⟨k.len.trans h.len, k.down, fun i hi => by rw [k.same]; exact h.conn i hi⟩
def Gone (l : List Tch) (p : List Nat) (x : Idn) : Prop := ∀ i j, Has l i x → Has l j x → rp p i = rp p j
theorem Gone.like {p q : List Nat} {x : Idn} (h : Gone l p x) (k : Like p q) : Gone l q x := fun i j hi hj => by rw [k.same, k.same]; exact h i j hi hj
def un (p : List Nat) (a b : Nat) : List Nat := p.set (max a b) (min a b)
theorem rp_un {p : List Nat} (hd : Down p) {i j : Nat} (hi : i < p.length) (hj : j < p.length) (k : Nat) : rp (un p (rp p i) (rp p j)) k = if rp p k = max (rp p i) (rp p j) then min (rp p i) (rp p j) else rp p k := by
 have h1 := rp_lt (p := p) hi
 have h2 := rp_lt (p := p) hj
 have r1 := rp_root hd i
 have r2 := rp_root hd j
 unfold un
 rcases Nat.le_total (rp p i) (rp p j) with h | h
 ·rw [Nat.max_eq_right h, Nat.min_eq_left h]
  exact rp_union hd h2 r2 r1 h k
 ·rw [Nat.max_eq_left h, Nat.min_eq_right h]
  exact rp_union hd h1 r1 r2 h k
theorem Gone.un {p : List Nat} (hd : Down p) {i j : Nat} (hi : i < p.length) (hj : j < p.length) {x : Idn} (h : Gone l p x) : Gone l (un p (rp p i) (rp p j)) x := fun a b ha hb => by
 rw [rp_un hd hi hj, rp_un hd hi hj, h a b ha hb]
theorem un_same {p : List Nat} (hd : Down p) {i j : Nat} (hi : i < p.length) (hj : j < p.length) : rp (un p (rp p i) (rp p j)) i = rp (un p (rp p i) (rp p j)) j := by
 rw [rp_un hd hi hj, rp_un hd hi hj]
 rcases Nat.le_total (rp p i) (rp p j) with h | h
 ·rw [Nat.max_eq_right h, Nat.min_eq_left h]; split <;> simp_all
 ·rw [Nat.max_eq_left h, Nat.min_eq_right h]; split <;> simp_all
theorem Mg.un {p : List Nat} (h : Mg J l p) {x : Idn} (hx : J x = true) {i j : Nat} (hi : Has l i x) (hj : Has l j x) : Mg J l (un p (rp p i) (rp p j)) := by
 have li := has_lt hi
 have lj := has_lt hj
 have pi : i < p.length := by rw [h.len]; exact li
 have pj : j < p.length := by rw [h.len]; exact lj
 have c : Conn (tie J l) (rp p i) (rp p j) := (((h.conn i li).symm tie_symm).trans (Conn.one ⟨x, hx, hi, hj⟩)).trans (h.conn j lj)
 refine ⟨by unfold Pp.un; simp [h.len], ?_, fun k hk => ?_⟩
 ·have h1 := rp_lt (p := p) pi
  have h2 := rp_lt (p := p) pj
  exact Down.set h.down (by omega) (by omega)
 ·rw [rp_un h.down pi pj]
  have hc := h.conn k hk
  split
  ·rename_i e
   refine hc.trans ?_
   rw [e]
   rcases Nat.le_total (rp p i) (rp p j) with g | g
   ·rw [Nat.max_eq_right g, Nat.min_eq_left g]; exact c.symm tie_symm
   ·rw [Nat.max_eq_left g, Nat.min_eq_right g]; exact c
  ·exact hc
theorem Mg.parts {p : List Nat} (h : Mg J l p) (hg : ∀ x, J x = true → Gone l p x) {r : List Nat} (hl : r.length = l.length) (hr : ∀ i, i < l.length → par r i = rp p i) : Parts (tie J l) l.length r := by
 have hs : ∀ i k, Conn (tie J l) i k → rp p i = rp p k := fun i k hc => by
  induction hc with
  | refl => rfl
  | tail _ ht ih =>
   obtain ⟨x, h1, h2, h3⟩ := ht
   exact ih.trans (hg x h1 _ _ h2 h3)
 refine ⟨hl, fun i hi => by rw [hr i hi]; exact h.conn i hi, fun i j hi hj hc => by rw [hr i hi, hr j hj]; exact hs i j hc, fun i => ?_⟩
 rcases Nat.lt_or_ge i l.length with hi | hi
 ·rw [hr i hi]; exact rp_le p i
 ·unfold par; rw [List.getElem?_eq_none (by omega)]; exact Nat.le_refl _
theorem gone_none {p : List Nat} {x : Idn} (h : occ l x = []) : Gone l p x := fun i j hi hj => by
 have h1 := mem_occ.2 hi
 rw [h] at h1
 cases h1
theorem gone_all {p : List Nat} {x : Idn} {a : Nat} {r : List Nat} (h : occ l x = a :: r) (hr : ∀ b ∈ r, rp p b = rp p a) : Gone l p x := by
 have : ∀ i, Has l i x → rp p i = rp p a := fun i hi => by
  have h1 := mem_occ.2 hi
  rw [h] at h1
  rcases List.mem_cons.1 h1 with rfl | h1
  ·rfl
  ·exact hr i h1
 intro i j hi hj
 rw [this i hi, this j hj]
/-! Persons, touch by touch. -/
theorem roots_succ (p : List Nat) (i : Nat) : roots p (i + 1) = roots p i ++ if par p i = i then [i] else [] := by
 unfold roots
 rw [List.range_succ, List.filter_append]
 congr 1
 by_cases h : par p i = i <;> simp [h]
theorem ofRoot_succ (p : List Nat) (i k : Nat) : ofRoot p (i + 1) k = ofRoot p i k ++ if par p i = k then [i] else [] := by
 unfold ofRoot
 rw [List.range_succ, List.filter_append]
 congr 1
 by_cases h : par p i = k <;> simp [h]
theorem roots_lt {p : List Nat} {i k : Nat} (h : k ∈ roots p i) : k < i := by
 unfold roots at h; simp at h; exact h.1
theorem roots_nodup (p : List Nat) (i : Nat) : (roots p i).Nodup := List.Nodup.sublist List.filter_sublist List.nodup_range
theorem ofRoot_none {p : List Nat} {n i : Nat} (h : Parts (tie J l) n p) : ofRoot p i i = [] := by
 unfold ofRoot
 rw [List.filter_eq_nil_iff]
 intro a ha
 simp only [List.mem_range] at ha
 have := h.low a
 simp only [decide_eq_true_eq]; omega
theorem set_idx {α : Type} {R : List Nat} (f : Nat → α) (v : α) (k : Nat) : ∀ {R : List Nat}, R.Nodup → k ∈ R → (R.map f).set (R.idxOf k) v = R.map fun x => if x = k then v else f x
 | [], _, h => by cases h
 | x :: R, hn, h => by
  obtain ⟨h1, h2⟩ := List.nodup_cons.1 hn
  by_cases e : x = k
  ·subst e
   rw [List.idxOf_cons_self, List.map_cons, List.set_cons_zero, List.map_cons, if_pos rfl]
   congr 1
   exact List.map_congr_left fun y hy => by rw [if_neg]; rintro rfl; exact h1 hy
  ·have hk : k ∈ R := by
    rcases List.mem_cons.1 h with rfl | h
    ·exact absurd rfl e
    ·exact h
   rw [show (x :: R).idxOf k = R.idxOf k + 1 from by rw [List.idxOf_cons, beq_false_of_ne e]; rfl, List.map_cons, List.set_cons_succ, List.map_cons, if_neg e, set_idx (R := R) f v k h2 hk]
theorem get_idx {α : Type} (f : Nat → α) (k : Nat) {R : List Nat} (h : k ∈ R) : (R.map f)[R.idxOf k]? = some (f k) := by
 have h1 := List.idxOf_lt_length_of_mem h
 rw [List.getElem?_map, List.getElem?_eq_getElem h1]
 simp
theorem idx_snoc {R : List Nat} {i k : Nat} (h : k ∈ R) : (R ++ [i]).idxOf k = R.idxOf k := by
 rw [List.idxOf_append, if_pos h]
theorem idx_new {R : List Nat} {i : Nat} (h : i ∉ R) : (R ++ [i]).idxOf i = R.length := by
 rw [List.idxOf_append, if_neg h]; simp
end Go.Pp
/-! The map of a group: which touches have an id, as memory. -/
namespace Go.Pp
open Go Go.Ab Go.Pm Go.Cm Go.Rm Go.El Go.Uf
def nats (l : List Nat) : List (List AV) := l.map fun i : Nat => [AV.int (i : Int)]
theorem nats_len (l : List Nat) : (nats l).length = l.length := by simp [nats]
theorem idn_inj {x y : Idn} (h : AV.agg x.c = AV.agg y.c) : x = y := by
 obtain ⟨a, b⟩ := x
 obtain ⟨c, d⟩ := y
 simp only [Idn.c, AV.agg.injEq, List.cons.injEq, AV.lit.injEq, Value.int.injEq, Value.string.injEq, true_and, and_true] at h
 rw [h.1, h.2]
theorem keys_nodup {K : List Idn} (h : K.Nodup) : (K.map fun x => AV.agg x.c).Nodup := by
 rw [List.Nodup, List.pairwise_map]
 exact h.imp fun {a b} hab e => hab (idn_inj e)
structure Hv (H : Nat → Option AObj) (m : Nat) (f : Idn → List Nat) (K : List Idn) (ob : Idn → Nat) (N : Nat) : Prop where
 map : H m = some ⟨300, 100, K.map fun x => [.agg x.c, .os (ob x) 0 (f x).length]⟩
 obj : ∀ x ∈ K, H (ob x) = some ⟨3, 1, nats (f x)⟩
 keys : K.Nodup
 all : ∀ x, f x ≠ [] ↔ x ∈ K
 inj : ∀ x ∈ K, ∀ y ∈ K, ob x = ob y → x = y
 low : m < N ∧ ∀ x ∈ K, ob x < N
variable {H H2 : Nat → Option AObj} {m N n1 : Nat} {f : Idn → List Nat} {K : List Idn} {ob : Idn → Nat} {x : Idn} {i : Nat}
theorem Hv.ne (h : Hv H m f K ob N) (hx : x ∈ K) : ob x ≠ m := fun e => by
 have h1 := h.obj x hx
 rw [e, h.map] at h1
 simp at h1
theorem Hv.look (h : Hv H m f K ob N) (hx : x ∈ K) : mget (K.map fun x => [AV.agg x.c, .os (ob x) 0 (f x).length]) (.agg x.c) = some (.os (ob x) 0 (f x).length) := mgetK_at (key := fun x : Idn => AV.agg x.c) (val := fun x => .os (ob x) 0 (f x).length) (keys_nodup h.keys) hx
theorem Hv.lookN (h : Hv H m f K ob N) (hx : x ∉ K) : mget (K.map fun x => [AV.agg x.c, .os (ob x) 0 (f x).length]) (.agg x.c) = none := mgetK_absent (key := fun x : Idn => AV.agg x.c) (val := fun x => .os (ob x) 0 (f x).length) fun a ha e => hx (by rw [← idn_inj e]; exact ha)
theorem Hv.mono (h : Hv H m f K ob N) {N' : Nat} (hn : N ≤ N') : Hv H m f K ob N' := ⟨h.map, h.obj, h.keys, h.all, h.inj, ⟨by have := h.low.1; omega, fun x hx => by have := h.low.2 x hx; omega⟩⟩
theorem Hv.keep (h : Hv H m f K ob N) (hk : ∀ j, j < N → H2 j = H j) : Hv H2 m f K ob N := ⟨by rw [hk _ h.low.1]; exact h.map, fun x hx => by rw [hk _ (h.low.2 x hx)]; exact h.obj x hx, h.keys, h.all, h.inj, h.low⟩
theorem Hv.same (h : Hv H m f K ob N) {f' : Idn → List Nat} (hf : ∀ x, f' x = f x) : Hv H m f' K ob N := by
 have : f' = f := funext hf
 rw [this]; exact h
def add (f : Idn → List Nat) (x : Idn) (i : Nat) : Idn → List Nat := fun y => if y = x then f y ++ [i] else f y
def ob' (ob : Idn → Nat) (x : Idn) (n : Nat) : Idn → Nat := fun y => if y = x then n else ob y
theorem add_self : add f x i x = f x ++ [i] := if_pos rfl
theorem add_ne {y : Idn} (h : y ≠ x) : add f x i y = f y := if_neg h
theorem ob'_self : ob' ob x n1 x = n1 := if_pos rfl
theorem ob'_ne {y : Idn} (h : y ≠ x) : ob' ob x n1 y = ob y := if_neg h
theorem Hv.more (h : Hv H m f K ob N) (hn : N ≤ n1) (hx : x ∈ K)
  (h1 : H2 m = some ⟨300, 100, mput (K.map fun y => [AV.agg y.c, .os (ob y) 0 (f y).length]) (.agg x.c) (.os n1 0 ((f x).length + 1))⟩)
  (h2 : H2 n1 = some ⟨3, 1, nats (f x) ++ [[AV.int (i : Int)]]⟩) (h3 : ∀ j, j < N → j ≠ m → j ≠ ob x → H2 j = H j) : Hv H2 m (add f x i) K (ob' ob x n1) (n1 + 1) := by
 have hne : ∀ y ∈ K, y ≠ x → ob y ≠ ob x := fun y hy e1 e2 => e1 (h.inj y hy x hx e2)
 refine ⟨?_, fun y hy => ?_, h.keys, fun y => ?_, fun y hy z hz e => ?_, ?_, fun y hy => ?_⟩
 ·rw [h1, mputK_at (key := fun x : Idn => AV.agg x.c) (val := fun x => .os (ob x) 0 (f x).length) (key' := fun x : Idn => AV.agg x.c) (val' := fun y => .os (ob' ob x n1 y) 0 (add f x i y).length) (f := id) (a := x) (keys_nodup h.keys) hx rfl]
  ·rw [List.map_id]
  ·simp [ob'_self, add_self]
  ·intro b hb e
   have hbx : b ≠ x := fun e2 => e (by rw [e2])
   exact ⟨rfl, by simp [ob'_ne hbx, add_ne hbx]⟩
 ·by_cases e : y = x
  ·subst e
   rw [ob'_self, add_self, h2]
   simp [nats]
  ·rw [ob'_ne e, add_ne e, h3 _ (h.low.2 y hy) (h.ne hy) (hne y hy e)]
   exact h.obj y hy
 ·by_cases e : y = x
  ·subst e; rw [add_self]; simp [hx]
  ·rw [add_ne e]; exact h.all y
 ·by_cases e1 : y = x
  ·by_cases e2 : z = x
   ·rw [e1, e2]
   ·subst e1
    rw [ob'_self, ob'_ne e2] at e
    have := h.low.2 z hz; omega
  ·by_cases e2 : z = x
   ·subst e2
    rw [ob'_self, ob'_ne e1] at e
    have := h.low.2 y hy; omega
   ·rw [ob'_ne e1, ob'_ne e2] at e
    exact h.inj y hy z hz e
 ·have := h.low.1; omega
 ·by_cases e : y = x
  ·subst e; rw [ob'_self]; omega
  ·rw [ob'_ne e]; have := h.low.2 y hy; omega
theorem Hv.fresh (h : Hv H m f K ob N) (hn : N ≤ n1) (hx : x ∉ K)
  (h1 : H2 m = some ⟨300, 100, mput (K.map fun y => [AV.agg y.c, .os (ob y) 0 (f y).length]) (.agg x.c) (.os n1 0 1)⟩)
  (h2 : H2 n1 = some ⟨3, 1, [[AV.int (i : Int)]]⟩) (h3 : ∀ j, j < N → j ≠ m → H2 j = H j) : Hv H2 m (add f x i) (K ++ [x]) (ob' ob x n1) (n1 + 1) := by
 have hfx : f x = [] := Classical.byContradiction fun e => hx ((h.all x).1 e)
 have hne : ∀ y ∈ K, y ≠ x := fun y hy e => hx (by rw [← e]; exact hy)
 refine ⟨?_, fun y hy => ?_, ?_, fun y => ?_, fun y hy z hz e => ?_, ?_, fun y hy => ?_⟩
 ·rw [h1, mputK_absent (key := fun x : Idn => AV.agg x.c) (val := fun x => .os (ob x) 0 (f x).length) (fun a ha e => hne a ha (idn_inj e)), List.map_append]
  congr 2
  congr 1
  ·exact List.map_congr_left fun y hy => by rw [ob'_ne (hne y hy), add_ne (hne y hy)]
  ·simp [ob'_self, add_self, hfx]
 ·rcases List.mem_append.1 hy with hy | hy
  ·rw [ob'_ne (hne y hy), add_ne (hne y hy), h3 _ (h.low.2 y hy) (h.ne hy)]
   exact h.obj y hy
  ·simp only [List.mem_singleton] at hy
   subst hy
   rw [ob'_self, add_self, h2, hfx]
   simp [nats]
 ·rw [List.nodup_append]
  exact ⟨h.keys, by simp, fun a ha b hb e => by simp at hb; subst hb; exact hx (by rw [← e]; exact ha)⟩
 ·by_cases e : y = x
  ·subst e; rw [add_self]; simp
  ·rw [add_ne e, h.all y]; simp [e]
 ·rcases List.mem_append.1 hy with hy1 | hy1 <;> rcases List.mem_append.1 hz with hz1 | hz1
  ·rw [ob'_ne (hne y hy1), ob'_ne (hne z hz1)] at e
   exact h.inj y hy1 z hz1 e
  ·have ez : z = x := by simpa using hz1
   rw [ez, ob'_ne (hne y hy1), ob'_self] at e
   have := h.low.2 y hy1; omega
  ·have ey : y = x := by simpa using hy1
   rw [ey, ob'_ne (hne z hz1), ob'_self] at e
   have := h.low.2 z hz1; omega
  ·have ez : z = x := by simpa using hz1
   have ey : y = x := by simpa using hy1
   rw [ez, ey]
 ·have := h.low.1; omega
 ·rcases List.mem_append.1 hy with hy | hy
  ·rw [ob'_ne (hne y hy)]; have := h.low.2 y hy; omega
  ·simp only [List.mem_singleton] at hy
   subst hy
   rw [ob'_self]; omega
def occS (d : List Tch) (e : List Idn) : Idn → List Nat := fun x => occ d x ++ if x ∈ e then [d.length] else []
theorem occFrom_len (x : Idn) : ∀ (l : List Tch) (i : Nat), (occFrom i l x).length ≤ l.length
 | [], i => Nat.le_refl _
 | t :: r, i => by
  have := occFrom_len x r (i + 1)
  unfold occFrom
  rw [List.length_append, List.length_cons]
  split <;> simp <;> omega
theorem occ_len (l : List Tch) (x : Idn) : (occ l x).length ≤ l.length := occFrom_len x l 0
theorem occS_len (d : List Tch) (e : List Idn) (x : Idn) : (occS d e x).length ≤ d.length + 1 := by
 have := occ_len d x
 unfold occS
 rw [List.length_append]
 split <;> simp <;> omega
theorem ob'_ge {ob : Idn → Nat} {K : List Idn} {x : Idn} {n n0 : Nat} (h : ∀ y ∈ K, n0 ≤ ob y) (hn : n0 ≤ n) : ∀ y ∈ K, n0 ≤ ob' ob x n y := fun y hy => by
 by_cases e : y = x
 ·subst e; rw [ob'_self]; exact hn
 ·rw [ob'_ne e]; exact h y hy
theorem occS_nil (d : List Tch) (x : Idn) : occS d [] x = occ d x := by simp [occS]
theorem occS_add {d : List Tch} {e : List Idn} {x : Idn} (h : x ∉ e) (y : Idn) : occS d (e ++ [x]) y = add (occS d e) x d.length y := by
 by_cases hy : y = x
 ·subst hy; rw [add_self]; simp [occS, h]
 ·rw [add_ne hy]; simp [occS, hy]
theorem occS_all (d : List Tch) (t : Tch) (x : Idn) : occS d t.ids x = occ (d ++ [t]) x := by rw [occ_snoc, occS]
end Go.Pp
/-! Members: persons as they are built, as memory. -/
namespace Go.Pp
open Go Go.Ab Go.Pm Go.Cm Go.Rm Go.El Go.Uf
def ints (l : List Int) : List (List AV) := l.map fun i => [AV.int i]
def tl (l : List Tch) (p : List Nat) (i k : Nat) : List Int := (ofRoot p i k).map fun x => (tAt l x).no
def il (l : List Tch) (p : List Nat) (i k : Nat) : List Idn := (ofRoot p i k).flatMap fun x => (tAt l x).ids
theorem tl_len (l : List Tch) (p : List Nat) (i k : Nat) : (tl l p i k).length = (ofRoot p i k).length := List.length_map _
structure Mb (H : Nat → Option AObj) (l : List Tch) (p : List Nat) (i : Nat) (nm : Nat → Nat → Nat) (n1 N : Nat) : Prop where
 t : ∀ k ∈ roots p i, H (nm k 0) = some ⟨3, 1, ints (tl l p i k)⟩
 j : ∀ k ∈ roots p i, H (nm k 1) = some ⟨55, 2, (il l p i k).map Idn.c⟩
 a : ∀ k ∈ roots p i, H (nm k 2) = some ⟨3, 1, nats (ofRoot p i k)⟩
 inj : ∀ k ∈ roots p i, ∀ k' ∈ roots p i, ∀ c c', c < 3 → c' < 3 → nm k c = nm k' c' → k = k' ∧ c = c'
 low : ∀ k ∈ roots p i, ∀ c, c < 3 → n1 ≤ nm k c ∧ nm k c < N
def rowM (J : Idn → Bool) (l : List Tch) (p : List Nat) (i : Nat) (nm : Nat → Nat → Nat) (k : Nat) : List AV :=
 [.int (keyOf J (tAt l k)).kind, .str (keyOf J (tAt l k)).text, .os (nm k 0) 0 (ofRoot p i k).length, .os (nm k 1) 0 (il l p i k).length, .os (nm k 2) 0 (ofRoot p i k).length]
def nm' (nm : Nat → Nat → Nat) (r x0 x1 x2 : Nat) : Nat → Nat → Nat := fun k c => if k = r then (if c = 0 then x0 else if c = 1 then x1 else x2) else nm k c
variable {H H2 : Nat → Option AObj} {J : Idn → Bool} {l : List Tch} {p : List Nat} {i : Nat} {nm : Nat → Nat → Nat} {n1 N : Nat}
theorem nm'_ne {r x0 x1 x2 k : Nat} (h : k ≠ r) (c : Nat) : nm' nm r x0 x1 x2 k c = nm k c := if_neg h
theorem nm'_0 {r x0 x1 x2 : Nat} : nm' nm r x0 x1 x2 r 0 = x0 := by simp [nm']
theorem nm'_1 {r x0 x1 x2 : Nat} : nm' nm r x0 x1 x2 r 1 = x1 := by simp [nm']
theorem nm'_2 {r x0 x1 x2 : Nat} : nm' nm r x0 x1 x2 r 2 = x2 := by simp [nm']
theorem ofRoot_at (p : List Nat) (i : Nat) : ofRoot p (i + 1) (par p i) = ofRoot p i (par p i) ++ [i] := by rw [ofRoot_succ, if_pos rfl]
theorem ofRoot_ne {p : List Nat} {i k : Nat} (h : k ≠ par p i) : ofRoot p (i + 1) k = ofRoot p i k := by rw [ofRoot_succ, if_neg fun e => h e.symm, List.append_nil]
theorem tl_at (l : List Tch) (p : List Nat) (i : Nat) : tl l p (i + 1) (par p i) = tl l p i (par p i) ++ [(tAt l i).no] := by unfold tl; rw [ofRoot_at, List.map_append]; rfl
theorem il_at (l : List Tch) (p : List Nat) (i : Nat) : il l p (i + 1) (par p i) = il l p i (par p i) ++ (tAt l i).ids := by unfold il; rw [ofRoot_at, List.flatMap_append]; simp
theorem tl_ne {l : List Tch} {p : List Nat} {i k : Nat} (h : k ≠ par p i) : tl l p (i + 1) k = tl l p i k := by unfold tl; rw [ofRoot_ne h]
theorem il_ne {l : List Tch} {p : List Nat} {i k : Nat} (h : k ≠ par p i) : il l p (i + 1) k = il l p i k := by unfold il; rw [ofRoot_ne h]
theorem mem_roots_succ {p : List Nat} {i k : Nat} (h : k ∈ roots p (i + 1)) : k ∈ roots p i ∨ k = par p i := by
 rw [roots_succ] at h
 rcases List.mem_append.1 h with h | h
 ·exact .inl h
 ·split at h
  ·rename_i e; simp at h; exact .inr (by rw [e]; exact h)
  ·cases h
theorem Mb.step (h : Mb H l p i nm n1 N) {x0 x1 x2 N2 : Nat} (hx0 : N ≤ x0) (hx1 : N ≤ x1) (hx2 : N ≤ x2) (h01 : x0 ≠ x1) (h02 : x0 ≠ x2) (h12 : x1 ≠ x2) (hN0 : x0 < N2) (hN1 : x1 < N2) (hN2 : x2 < N2) (hN : N ≤ N2) (hn1 : n1 ≤ N)
  (g0 : H2 x0 = some ⟨3, 1, ints (tl l p i (par p i) ++ [(tAt l i).no])⟩) (g1 : H2 x1 = some ⟨55, 2, (il l p i (par p i) ++ (tAt l i).ids).map Idn.c⟩) (g2 : H2 x2 = some ⟨3, 1, nats (ofRoot p i (par p i) ++ [i])⟩)
  (hk : ∀ k ∈ roots p i, k ≠ par p i → ∀ c, c < 3 → H2 (nm k c) = H (nm k c)) : Mb H2 l p (i + 1) (nm' nm (par p i) x0 x1 x2) n1 N2 := by
 have low : ∀ k ∈ roots p (i + 1), k ≠ par p i → ∀ c, c < 3 → n1 ≤ nm k c ∧ nm k c < N := fun k hk' hne c hc => by
  rcases mem_roots_succ hk' with h1 | h1
  ·exact h.low k h1 c hc
  ·exact absurd h1 hne
 have val : ∀ c, c < 3 → N ≤ nm' nm (par p i) x0 x1 x2 (par p i) c ∧ nm' nm (par p i) x0 x1 x2 (par p i) c < N2 := fun c hc => by
  have : c = 0 ∨ c = 1 ∨ c = 2 := by omega
  rcases this with rfl | rfl | rfl
  ·rw [nm'_0]; omega
  ·rw [nm'_1]; omega
  ·rw [nm'_2]; omega
 refine ⟨fun k hk' => ?_, fun k hk' => ?_, fun k hk' => ?_, fun k hk1 k' hk2 c c' hc hc' e => ?_, fun k hk' c hc => ?_⟩
 ·by_cases e : k = par p i
  ·subst e; rw [nm'_0, g0, tl_at]
  ·have hm := (mem_roots_succ hk').resolve_right e
   rw [nm'_ne e, hk k hm e 0 (by omega), h.t k hm, tl_ne e]
 ·by_cases e : k = par p i
  ·subst e; rw [nm'_1, g1, il_at]
  ·have hm := (mem_roots_succ hk').resolve_right e
   rw [nm'_ne e, hk k hm e 1 (by omega), h.j k hm, il_ne e]
 ·by_cases e : k = par p i
  ·subst e; rw [nm'_2, g2, ofRoot_at]
  ·have hm := (mem_roots_succ hk').resolve_right e
   rw [nm'_ne e, hk k hm e 2 (by omega), h.a k hm, ofRoot_ne e]
 ·by_cases e1 : k = par p i
  ·by_cases e2 : k' = par p i
   ·refine ⟨by rw [e1, e2], ?_⟩
    rw [e1, e2] at e
    have h1 : c = 0 ∨ c = 1 ∨ c = 2 := by omega
    have h2 : c' = 0 ∨ c' = 1 ∨ c' = 2 := by omega
    rcases h1 with rfl | rfl | rfl <;> rcases h2 with rfl | rfl | rfl <;> simp only [nm'_0, nm'_1, nm'_2] at e <;> omega
   ·have v := val c hc
    rw [e1, nm'_ne e2] at e
    have := (low k' hk2 e2 c' hc').2
    omega
  ·by_cases e2 : k' = par p i
   ·have v := val c' hc'
    rw [e2, nm'_ne e1] at e
    have := (low k hk1 e1 c hc).2
    omega
   ·rw [nm'_ne e1, nm'_ne e2] at e
    exact h.inj k ((mem_roots_succ hk1).resolve_right e1) k' ((mem_roots_succ hk2).resolve_right e2) c c' hc hc' e
 ·by_cases e : k = par p i
  ·subst e; have := val c hc; omega
  ·rw [nm'_ne e]; have := low k hk' e c hc; omega
theorem rowM_ne {x0 x1 x2 k : Nat} (h : k ≠ par p i) : rowM J l p (i + 1) (nm' nm (par p i) x0 x1 x2) k = rowM J l p i nm k := by
 simp only [rowM, nm'_ne h, ofRoot_ne h, il_ne h]
theorem rowM_at {x0 x1 x2 : Nat} : rowM J l p (i + 1) (nm' nm (par p i) x0 x1 x2) (par p i) = [.int (keyOf J (tAt l (par p i))).kind, .str (keyOf J (tAt l (par p i))).text, .os x0 0 ((ofRoot p i (par p i)).length + 1), .os x1 0 ((il l p i (par p i)).length + (tAt l i).ids.length), .os x2 0 ((ofRoot p i (par p i)).length + 1)] := by
 simp only [rowM, nm'_0, nm'_1, nm'_2, ofRoot_at, il_at, List.length_append, List.length_cons, List.length_nil, Nat.zero_add]
theorem rows_known {x0 x1 x2 : Nat} (h : par p i ∈ roots p i) : ((roots p i).map (rowM J l p i nm)).set ((roots p i).idxOf (par p i)) (rowM J l p (i + 1) (nm' nm (par p i) x0 x1 x2) (par p i)) = (roots p (i + 1)).map (rowM J l p (i + 1) (nm' nm (par p i) x0 x1 x2)) := by
 have hlt := roots_lt h
 rw [set_idx (R := roots p i) _ _ _ (roots_nodup p i) h, roots_succ, if_neg (by omega), List.append_nil]
 refine List.map_congr_left fun k hk => ?_
 split
 ·rename_i e; rw [e]
 ·rename_i e; rw [rowM_ne e]
theorem rows_new {x0 x1 x2 : Nat} (h : par p i = i) : (roots p i).map (rowM J l p i nm) ++ [rowM J l p (i + 1) (nm' nm (par p i) x0 x1 x2) (par p i)] = (roots p (i + 1)).map (rowM J l p (i + 1) (nm' nm (par p i) x0 x1 x2)) := by
 rw [roots_succ, if_pos h, List.map_append]
 congr 1
 ·refine List.map_congr_left fun k hk => ?_
  have := roots_lt hk
  rw [rowM_ne (by omega)]
 ·rw [h]; rfl
def placeRows (R : List Nat) : List (List AV) := R.map fun k : Nat => [AV.int (k : Int), .int (R.idxOf k : Nat)]
theorem int_inj {a b : Nat} (h : AV.int (a : Int) = AV.int (b : Int)) : a = b := by
 simp only [AV.lit.injEq, Value.int.injEq, true_and] at h; omega
theorem place_keys {R : List Nat} (h : R.Nodup) : (R.map fun k : Nat => AV.int (k : Int)).Nodup := by
 rw [List.Nodup, List.pairwise_map]
 exact h.imp fun {a b} hab e => hab (int_inj e)
theorem place_at {R : List Nat} (hn : R.Nodup) {k : Nat} (h : k ∈ R) : mget (placeRows R) (.int (k : Int)) = some (.int (R.idxOf k : Nat)) := mgetK_at (key := fun k : Nat => AV.int (k : Int)) (val := fun k : Nat => .int (R.idxOf k : Nat)) (place_keys hn) h
theorem place_none {R : List Nat} {k : Nat} (h : k ∉ R) : mget (placeRows R) (.int (k : Int)) = none := mgetK_absent (key := fun k : Nat => AV.int (k : Int)) (val := fun k : Nat => .int (R.idxOf k : Nat)) fun a ha e => h (by rw [← int_inj e]; exact ha)
theorem place_put {R : List Nat} {k : Nat} (h : k ∉ R) : mput (placeRows R) (.int (k : Int)) (.int (R.length : Nat)) = placeRows (R ++ [k]) := by
 rw [placeRows, mputK_absent (key := fun k : Nat => AV.int (k : Int)) (val := fun k : Nat => .int (R.idxOf k : Nat)) fun a ha e => h (by rw [← int_inj e]; exact ha), placeRows, List.map_append]
 congr 1
 ·exact List.map_congr_left fun a ha => by rw [idx_snoc ha]
 ·simp [idx_new h]
theorem root_known {n : Nat} (h : Parts (tie J l) n p) {i : Nat} (hi : i < n) (hne : par p i ≠ i) : par p i ∈ roots p i := by
 have h1 := h.low i
 rw [roots, List.mem_filter, List.mem_range]
 exact ⟨by omega, by simpa using h.root hi⟩
theorem root_new {i : Nat} : i ∉ roots p i := fun h => absurd (roots_lt h) (by omega)
theorem ofRoot_len (p : List Nat) (i k : Nat) : (ofRoot p i k).length ≤ i := by
 have h := List.length_filter_le (fun j => decide (par p j = k)) (List.range i)
 simpa [ofRoot] using h
theorem flat_len {α : Type} {f : Nat → List α} {b : Nat} (hf : ∀ x, (f x).length ≤ b) : ∀ l : List Nat, (l.flatMap f).length ≤ b * l.length
 | [] => by simp
 | x :: l => by
  have h1 := flat_len hf l
  have h2 := hf x
  rw [List.flatMap_cons, List.length_append, List.length_cons, Nat.mul_succ]
  omega
theorem ids_len (h : ∀ t ∈ l, t.ids.length ≤ 10) (x : Nat) : (tAt l x).ids.length ≤ 10 := by
 unfold tAt
 cases hx : l[x]? with
 | none => simp [noT]
 | some t => exact h t (List.mem_of_getElem? hx)
theorem il_len (h : ∀ t ∈ l, t.ids.length ≤ 10) (p : List Nat) (i k : Nat) : (il l p i k).length ≤ 10 * i := by
 have h1 := flat_len (fun x => ids_len h x) (ofRoot p i k)
 have h2 := ofRoot_len p i k
 unfold il
 omega
/-! The ids are sorted, each once. -/
def rowF (J : Idn → Bool) (l : List Tch) (p : List Nat) (i : Nat) (nm : Nat → Nat → Nat) (k : Nat) : List AV :=
 [.int (keyOf J (tAt l k)).kind, .str (keyOf J (tAt l k)).text, .os (nm k 0) 0 (ofRoot p i k).length, .os (nm k 1) 0 (setOf (il l p i k)).length, .os (nm k 2) 0 (ofRoot p i k).length]
def Out2 (H : Nat → Option AObj) (oid : Option Nat) (rows : List (List AV)) : Prop := match oid with
 | none => rows = []
 | some o => H o = some ⟨147, 5, rows⟩
structure Mf (H : Nat → Option AObj) (l : List Tch) (p : List Nat) (nm : Nat → Nat → Nat) (D S : List Nat) (n : Nat) : Prop where
 all : roots p l.length = D ++ S
 t : ∀ k ∈ D ++ S, H (nm k 0) = some ⟨3, 1, ints (tl l p l.length k)⟩
 jD : ∀ k ∈ D, ∃ jr, H (nm k 1) = some ⟨55, 2, (setOf (il l p l.length k)).map Idn.c ++ jr⟩
 jS : ∀ k ∈ S, H (nm k 1) = some ⟨55, 2, (il l p l.length k).map Idn.c⟩
 a : ∀ k ∈ D ++ S, H (nm k 2) = some ⟨3, 1, nats (ofRoot p l.length k)⟩
 inj : ∀ k ∈ D ++ S, ∀ k' ∈ D ++ S, ∀ c c', c < 3 → c' < 3 → nm k c = nm k' c' → k = k' ∧ c = c'
 low : ∀ k ∈ D ++ S, ∀ c, c < 3 → n ≤ nm k c
theorem Mb.fin {n : Nat} (h : Mb H l p l.length nm n1 N) (hn : n ≤ n1) : Mf H l p nm [] (roots p l.length) n :=
 ⟨rfl, h.t, fun k hk => (by cases hk), h.j, h.a, h.inj, fun k hk c hc => by have := (h.low k hk c hc).1; omega⟩
theorem Mf.sub {n n' : Nat} {D S : List Nat} (h : Mf H l p nm D S n) (hs : Ab.Sub H H2) (hn : n' ≤ n) : Mf H2 l p nm D S n' :=
 ⟨h.all, fun k hk => hs _ _ (h.t k hk), fun k hk => by obtain ⟨jr, hj⟩ := h.jD k hk; exact ⟨jr, hs _ _ hj⟩, fun k hk => hs _ _ (h.jS k hk), fun k hk => hs _ _ (h.a k hk), h.inj, fun k hk c hc => Nat.le_trans hn (h.low k hk c hc)⟩
theorem Mf.next {n : Nat} {D S : List Nat} {x : Nat} {jr : List (List AV)} (h : Mf H l p nm D (x :: S) n) (hx : H2 (nm x 1) = some ⟨55, 2, (setOf (il l p l.length x)).map Idn.c ++ jr⟩) (hk : ∀ k ∈ D ++ x :: S, ∀ c, c < 3 → ¬ (k = x ∧ c = 1) → H2 (nm k c) = H (nm k c)) : Mf H2 l p nm (D ++ [x]) S n := by
 have e : D ++ [x] ++ S = D ++ x :: S := by simp
 have hnd : (D ++ x :: S).Nodup := by rw [← h.all]; exact roots_nodup _ _
 have hxD : x ∉ D := fun hm => (List.nodup_append.1 hnd).2.2 x hm x (by simp) rfl
 have hxS : x ∉ S := (List.nodup_cons.1 (List.nodup_append.1 hnd).2.1).1
 refine ⟨by rw [e]; exact h.all, fun k hk' => ?_, fun k hk' => ?_, fun k hk' => ?_, fun k hk' => ?_, ?_, ?_⟩
 ·rw [e] at hk'; rw [hk k hk' 0 (by omega) (by omega)]; exact h.t k hk'
 ·rcases List.mem_append.1 hk' with hk' | hk'
  ·obtain ⟨jr', h1⟩ := h.jD k hk'
   exact ⟨jr', by rw [hk k (by simp [hk']) 1 (by omega) (fun ⟨e1, _⟩ => hxD (by rw [← e1]; exact hk'))]; exact h1⟩
  ·simp only [List.mem_singleton] at hk'
   subst hk'
   exact ⟨jr, hx⟩
 ·rw [hk k (by simp [hk']) 1 (by omega) (fun ⟨e1, _⟩ => hxS (by rw [← e1]; exact hk'))]
  exact h.jS k (by simp [hk'])
 ·rw [e] at hk'; rw [hk k hk' 2 (by omega) (by omega)]; exact h.a k hk'
 ·rw [e]; exact h.inj
 ·rw [e]; exact h.low
end Go.Pp
/-! The two touches of one person. -/
namespace Go.Pp
open Go Go.Ab Go.Pm Go.Cm Go.Rm Go.El Go.Uf
def px : Idn := ⟨1, ⟨#[97, 64, 98, 46, 100, 101]⟩⟩
def pr : Rls := ⟨true, [1], 2, false, [], false, []⟩
def pt (n : Int) : Tch := ⟨n, 0, ⟨#[97]⟩, true, [px], false, []⟩
theorem px_ok : IdsOk [px] := ⟨by intro x hx; simp at hx; subst hx; decide +kernel, List.pairwise_singleton _ _, by intro x hx; simp at hx; subst hx; decide⟩
theorem pr_ok : RulesOk pr where
 some := by simp [pr]
 kin := by intro k hk; simp [pr] at hk; omega
 kasc := List.pairwise_singleton _ _
 most := by simp [pr]
 wfew := by simp [pr]
 weak := ⟨(by intro x hx; cases hx), List.Pairwise.nil, (by intro x hx; cases hx)⟩
 sfew := by simp [pr]
 srv := by intro x hx; cases hx
 sasc := List.Pairwise.nil
theorem pt_ok (n : Int) (h : 1 ≤ n ∧ n ≤ 1000000) : TouchOk (pt n) := ⟨h, by simp [pt], by show isKey ⟨#[97]⟩ = true; decide +kernel, by simp [pt], by simp [pt], px_ok, by show checkFields [] = 0; decide +kernel, by show (⟨#[97]⟩ : T).size ≤ 1000; decide, by simp [pt], by intro f hf; cases hf⟩
theorem pl_ok : TouchesOk [pt 1, pt 2] := ⟨by simp, by
  intro t ht
  simp at ht
  rcases ht with rfl | rfl
  ·exact pt_ok 1 (by omega)
  ·exact pt_ok 2 (by omega), by
  simp [pt]⟩
theorem pl_joins : joins pr [pt 1, pt 2] px = true := by decide +kernel
theorem pl_root : rootOf (joins pr [pt 1, pt 2]) [pt 1, pt 2] = [0, 0] := by
 refine rootOf_eq ⟨rfl, fun i hi => ?_, fun i j hi hj _ => ?_, fun i => ?_⟩
 ·have : i = 0 ∨ i = 1 := by simp at hi; omega
  rcases this with rfl | rfl
  ·exact .refl _
  ·exact Conn.one ⟨px, pl_joins, ⟨pt 2, rfl, by simp [pt]⟩, ⟨pt 1, rfl, by simp [pt]⟩⟩
 ·have h1 : i = 0 ∨ i = 1 := by simp at hi; omega
  have h2 : j = 0 ∨ j = 1 := by simp at hj; omega
  rcases h1 with rfl | rfl <;> rcases h2 with rfl | rfl <;> rfl
 ·match i with
  | 0 => exact Nat.le_refl _
  | 1 => exact Nat.zero_le _
  | i + 2 => exact Nat.le_refl _
theorem people_one : (personsOf pr [pt 1, pt 2]).map Per.key = [px] := by
 unfold personsOf
 rw [pl_root]
 decide +kernel
end Go.Pp
/-! There are always parts. -/
namespace Go.Uf
theorem least {P : Nat → Prop} : ∀ {i : Nat}, P i → ∃ m, P m ∧ ∀ k, P k → m ≤ k := by
 intro i
 induction i using Nat.strongRecOn with
 | ind i ih =>
  intro h
  by_cases h2 : ∃ k, k < i ∧ P k
  ·obtain ⟨k, hk, hp⟩ := h2
   exact ih k hk hp
  ·exact ⟨i, h, fun k hk => Nat.le_of_not_lt fun hlt => h2 ⟨k, hlt, hk⟩⟩
theorem parts_exist {T : Nat → Nat → Prop} (hs : ∀ i j, T i j → T j i) (n : Nat) : ∃ p, Parts T n p := by
 have h : ∀ i, ∃ m, Conn T i m ∧ ∀ k, Conn T i k → m ≤ k := fun i => least (.refl i)
 let f : Nat → Nat := fun i => Classical.choose (h i)
 have hf : ∀ i, Conn T i (f i) ∧ ∀ k, Conn T i k → f i ≤ k := fun i => Classical.choose_spec (h i)
 have hp : ∀ i, i < n → par ((List.range n).map f) i = f i := fun i hi => by simp [par, hi]
 refine ⟨(List.range n).map f, by simp, fun i hi => by rw [hp i hi]; exact (hf i).1, fun i j hi hj hc => ?_, fun i => ?_⟩
 ·rw [hp i hi, hp j hj]
  have h1 := (hf i).2 (f j) (hc.trans (hf j).1)
  have h2 := (hf j).2 (f i) ((hc.symm hs).trans (hf i).1)
  omega
 ·by_cases hi : i < n
  ·rw [hp i hi]; exact (hf i).2 i (.refl i)
  ·have : par ((List.range n).map f) i = i := by
    unfold par
    rw [List.getElem?_eq_none (by simpa using hi)]; rfl
   omega
end Go.Uf
namespace Go.Pp
open Go Go.Ab Go.Pm Go.Cm Go.Rm Go.El Go.Uf
theorem tch_len (r : Rls) (l : List Tch) : ∀ p ∈ personsOf r l, p.tch.length ≤ l.length := fun p hp => by
 unfold personsOf persFrom at hp
 obtain ⟨k, _, rfl⟩ := List.mem_map.1 hp
 have h := List.length_filter_le (fun i => decide (par (rootOf (joins r l) l) i = k)) (List.range l.length)
 simpa [perOf, ofRoot] using h
theorem pers_len (r : Rls) (l : List Tch) : (personsOf r l).length ≤ l.length := by
 have h := List.length_filter_le (fun i => decide (par (rootOf (joins r l) l) i = i)) (List.range l.length)
 simpa [personsOf, persFrom, roots] using h
end Go.Pp
/-! Persons are parts of the touches; which ids cut one. -/
namespace Go.Pp
open Go Go.Ab Go.Pm Go.Cm Go.Rm Go.El Go.Uf
/-! The search by halves in ids that stand in order, some perhaps twice. -/
theorem bsGo_at {c : Nat → Int} {k n : Nat} (hk : k ≤ n) (h1 : ∀ i, i < k → c i < 0) (h2 : ∀ i, k ≤ i → i < n → ¬ c i < 0) : ∀ (m lo hi : Nat), lo ≤ k → k ≤ hi → hi ≤ n → hi - lo ≤ m → bsGo c m lo hi = k
 | 0, lo, hi, h3, h4, h5, h6 => by simp only [bsGo]; omega
 | m + 1, lo, hi, h3, h4, h5, h6 => by
  simp only [bsGo]
  by_cases h : lo < hi
  ·rw [if_pos h]
   by_cases hc : c ((lo + hi) / 2) < 0
   ·rw [if_pos hc]
    refine bsGo_at hk h1 h2 m _ _ ?_ h4 h5 (by omega)
    rcases Nat.lt_or_ge ((lo + hi) / 2) k with h7 | h7
    ·omega
    ·exact absurd hc (h2 _ h7 (by omega))
   ·rw [if_neg hc]
    refine bsGo_at hk h1 h2 m _ _ h3 ?_ (by omega) (by omega)
    rcases Nat.lt_or_ge ((lo + hi) / 2) k with h7 | h7
    ·exact absurd (h1 _ h7) hc
    ·exact h7
  ·rw [if_neg h]; omega
def Rises (l : List Idn) : Prop := l.Pairwise fun a b => cmpId a b ≤ 0
theorem Asc.rises {l : List Idn} (h : Asc l) : Rises l := h.imp fun {a b} h => by omega
theorem weak_split (x : Idn) : ∀ l : List Idn, Rises l → ∃ k, k ≤ l.length ∧ ∀ i y, l[i]? = some y → (i < k ↔ cmpId y x < 0)
 | [], _ => ⟨0, Nat.le_refl _, fun i y h => by simp at h⟩
 | a :: l, h => by
  obtain ⟨h1, h2⟩ := List.pairwise_cons.1 h
  by_cases ha : cmpId a x < 0
  ·obtain ⟨k, k1, k2⟩ := weak_split x l h2
   refine ⟨k + 1, by rw [List.length_cons]; omega, fun i y hy => ?_⟩
   cases i with
   | zero =>
    simp only [List.getElem?_cons_zero, Option.some.injEq] at hy
    subst hy
    exact ⟨fun _ => ha, fun _ => by omega⟩
   | succ i =>
    rw [List.getElem?_cons_succ] at hy
    rw [← k2 i y hy]
    omega
  ·refine ⟨0, Nat.zero_le _, fun i y hy => ⟨fun h => by omega, fun hyx => ?_⟩⟩
   cases i with
   | zero =>
    simp only [List.getElem?_cons_zero, Option.some.injEq] at hy
    subst hy
    exact absurd hyx ha
   | succ i =>
    rw [List.getElem?_cons_succ] at hy
    exact absurd (cmpId_tc.le_lt (h1 y (List.mem_of_getElem? hy)) hyx) ha
theorem isWeak_iff {W : List Idn} (h : Rises W) (x : Idn) : isWeak W x = decide (x ∈ W) := by
 obtain ⟨k, k1, k2⟩ := weak_split x W h
 have hat : ∀ i y, W[i]? = some y → at0 (fun y => cmpId y x) W i = cmpId y x := fun i y hy => by simp only [at0, hy]
 have hb : bsAt (fun y => cmpId y x) W = k := by
  refine bsGo_at k1 (fun i hi => ?_) (fun i hi hi2 => ?_) _ _ _ (Nat.zero_le _) k1 (Nat.le_refl _) (by omega)
  ·have hy := List.getElem?_eq_getElem (l := W) (i := i) (by omega)
   rw [hat i _ hy]
   exact (k2 i _ hy).1 hi
  ·have hy := List.getElem?_eq_getElem hi2
   rw [hat i _ hy]
   exact fun h0 => by have := (k2 i _ hy).2 h0; omega
 unfold isWeak bsHas
 rw [hb]
 by_cases hx : x ∈ W
 ·obtain ⟨i, hi⟩ := List.mem_iff_getElem?.1 hx
  have hil := (List.getElem?_eq_some_iff.1 hi).1
  have hki : k ≤ i := by
   rcases Nat.lt_or_ge i k with h0 | h0
   ·have := (k2 i x hi).1 h0
    rw [cmpId_self] at this; omega
   ·exact h0
  have hkl : k < W.length := by omega
  have hy := List.getElem?_eq_getElem hkl
  have hn : ¬ cmpId W[k] x < 0 := fun h0 => by have := (k2 k _ hy).2 h0; omega
  have hle : cmpId W[k] x ≤ 0 := by
   rcases Nat.lt_or_ge k i with h0 | h0
   ·have h9 := List.pairwise_iff_getElem.1 h k i hkl hil h0
    rw [(List.getElem?_eq_some_iff.1 hi).2] at h9
    exact h9
   ·have : k = i := by omega
    subst this
    rw [(List.getElem?_eq_some_iff.1 hi).2, cmpId_self]
    exact Int.le_refl _
  rw [hat k _ hy]
  have e : cmpId W[k] x = 0 := by omega
  simp [hx, hkl, e]
 ·by_cases hkl : k < W.length
  ·have hy := List.getElem?_eq_getElem hkl
   rw [hat k _ hy]
   have hn : ¬ cmpId W[k] x = 0 := fun h0 => hx (by rw [← cmpId_eq h0]; exact List.getElem_mem _)
   simp [hx, hn]
  ·simp [hx, hkl]
def tot : List Per → Nat
 | [] => 0
 | p :: r => p.tch.length + tot r
section
variable {J A B : Idn → Bool} {l : List Tch} {p p2 p3 : List Nat} {k : Nat}
theorem one_eq {α : Type} {l : List α} (h : ¬ 2 ≤ l.length) {a b : α} (ha : a ∈ l) (hb : b ∈ l) : a = b := by
 match l, h, ha, hb with
 | [x], _, ha, hb => simp only [List.mem_singleton] at ha hb; rw [ha, hb]
 | x :: y :: r, h, _, _ => simp at h
end
end Go.Pp
/-! The reference's faults: what they let through is right. -/
namespace Go.Pp
open Go Go.Ab Go.Pm Go.Cm Go.Rm Go.El
def notBehind (prev : Option Idn) (x : Idn) : Bool := match prev with
 | some p => decide (0 ≤ cmpId p x)
 | none => false
def rIdsGo : Option Idn → List Idn → Int
 | _, [] => 0
 | prev, x :: r => if rId x.kind x.text ≠ 0 then rId x.kind x.text else if notBehind prev x then 7 else rIdsGo (some x) r
def rIds (l : List Idn) : Int := rIdsGo none l
theorem rIdsGo_of : ∀ (l : List Idn) (prev : Option Idn), rIdsGo prev l = 0 → (∀ x ∈ l, checkId x.kind x.text = 0) ∧ Asc l ∧ ∀ p, prev = some p → ∀ x ∈ l, cmpId p x < 0
 | [], _, _ => ⟨fun x hx => (by cases hx), .nil, fun p _ x hx => (by cases hx)⟩
 | x :: r, prev, h => by
  rw [rIdsGo] at h
  by_cases h1 : rId x.kind x.text = 0
  ·rw [if_neg (by simp [h1])] at h
   by_cases h2 : notBehind prev x = true
   ·rw [if_pos h2] at h; cases h
   ·rw [if_neg h2] at h
    obtain ⟨k1, k2, k3⟩ := rIdsGo_of r (some x) h
    have hx := k3 x rfl
    refine ⟨fun y hy => ?_, List.pairwise_cons.2 ⟨hx, k2⟩, fun p hp y hy => ?_⟩
    ·rcases List.mem_cons.1 hy with rfl | hy
     ·exact id_of h1
     ·exact k1 y hy
    ·subst hp
     have hpx : cmpId p x < 0 := by
      simp only [notBehind, decide_eq_true_eq] at h2; omega
     rcases List.mem_cons.1 hy with rfl | hy
     ·exact hpx
     ·exact cmpId_tc.lt_le hpx (by have := hx y hy; omega)
  ·rw [if_pos h1] at h; exact absurd h h1
theorem rIds_of {l : List Idn} (h : rIds l = 0) (hs : ∀ x ∈ l, x.text.size ≤ 1000) : IdsOk l := by
 obtain ⟨h1, h2, _⟩ := rIdsGo_of l none h
 exact ⟨h1, h2, hs⟩
def rTouch (t : Tch) (last : Int) : Int :=
 if within t.no 1 1000000 = false then 1
 else if within t.at' 0 4321439 = false then 1
 else if t.no ≤ last then 7
 else if rKey t.src = false then 5
 else if t.ids.length = 0 then 3
 else if 10 < t.ids.length then 2
 else if rIds t.ids ≠ 0 then rIds t.ids else rFields t.fs
structure TouchSm (t : Tch) : Prop where
 src : t.src.size ≤ 1000
 ids : ∀ x ∈ t.ids, x.text.size ≤ 1000
 few : t.ids.length ≤ 1000
 fs : t.fs.length ≤ 100 ∧ ∀ f ∈ t.fs, f.name.size ≤ 1000 ∧ f.val.text.size ≤ 1000
 texts : ∀ f ∈ t.fs, f.val.text ∈ texts
theorem touch_of {t : Tch} {last : Int} (h : rTouch t last = 0) (hs : TouchSm t) : TouchOk t ∧ last < t.no := by
 unfold rTouch at h
 by_cases h1 : within t.no 1 1000000 = false
 ·rw [if_pos h1] at h; cases h
 rw [if_neg h1] at h
 by_cases h2 : within t.at' 0 4321439 = false
 ·rw [if_pos h2] at h; cases h
 rw [if_neg h2] at h
 by_cases h3 : t.no ≤ last
 ·rw [if_pos h3] at h; cases h
 rw [if_neg h3] at h
 by_cases h4 : rKey t.src = false
 ·rw [if_pos h4] at h; cases h
 rw [if_neg h4] at h
 by_cases h5 : t.ids.length = 0
 ·rw [if_pos h5] at h; cases h
 rw [if_neg h5] at h
 by_cases h6 : 10 < t.ids.length
 ·rw [if_pos h6] at h; cases h
 rw [if_neg h6] at h
 by_cases h7 : rIds t.ids = 0
 ·rw [if_neg (by simp [h7])] at h
  have w1 : 1 ≤ t.no ∧ t.no ≤ 1000000 := by simp only [within] at h1; simpa using h1
  have w2 : 0 ≤ t.at' ∧ t.at' ≤ 4321439 := by simp only [within] at h2; simpa using h2
  refine ⟨⟨w1, w2, key_of (by simpa using h4), fun e => h5 (by rw [e]; rfl), by omega, rIds_of h7 hs.ids, fields_of hs.texts h, hs.src, hs.fs.1, hs.fs.2⟩, by omega⟩
 ·rw [if_pos h7] at h; exact absurd h h7
structure RlsSm (r : Rls) : Prop where
 weak : ∀ x ∈ r.weak, x.text.size ≤ 1000
 few : r.kinds.length ≤ 1000 ∧ r.weak.length ≤ 1000 ∧ r.srv.length ≤ 1000
 srv : ∀ s ∈ r.srv, s.srcs.length ≤ 1000 ∧ s.name.size ≤ 1000 ∧ ∀ x ∈ s.srcs, x.size ≤ 1000
/-! Measures, points and distances: which comes first does not matter. -/
structure Mea where
 name : T
 how : Int
 far : Int
 pts : Int
abbrev Mea.c (m : Mea) : List AV := [.str m.name, .int m.how, .int m.far, .int m.pts]
/-! Distance. -/
def at0i (l : List Int) (i : Nat) : Int := (l[i]?).getD 0
def dd (a b : List Int) : Nat → Nat → Int
 | 0, j => j
 | i + 1, 0 => (i : Int) + 1
 | i + 1, j + 1 => min (min (dd a b i j + if at0i a i = at0i b j then 0 else 1) (dd a b (i + 1) j + 1)) (dd a b i (j + 1) + 1)
end Go.Pp
/-! The ids without which a person would be several, as a list. -/
namespace Go.Pp
open Go Go.Ab Go.Pm Go.Cm Go.Rm Go.El Go.Uf
/-! Steps from one touch: which are reached, and how they hang together. -/
def fAt (out : List Int) (i : Nat) : Int := (out[i]?).getD (-1)
theorem fAt_get {out : List Int} {i : Nat} {v : Int} (h : out[i]? = some v) : fAt out i = v := by rw [fAt, h]; rfl
theorem fAt_row {out : List Int} {i : Nat} (h : i < out.length) : out[i]? = some (fAt out i) := by
 rw [fAt, List.getElem?_eq_getElem h]; rfl
theorem fAt_set {out : List Int} {i : Nat} (hi : i < out.length) (v : Int) (j : Nat) : fAt (out.set i v) j = if j = i then v else fAt out j := by
 unfold fAt
 rw [List.getElem?_set]
 by_cases h : i = j
 ·subst h; rw [if_pos rfl, if_pos hi, if_pos rfl]; rfl
 ·rw [if_neg h, if_neg (fun e => h e.symm)]
def lft (out : List Int) : Nat := out.countP fun v => decide (v < 0)
theorem lft_set {out : List Int} {i : Nat} {v : Int} (hi : i < out.length) (h : fAt out i < 0) (hv : 0 ≤ v) : lft (out.set i v) + 1 = lft out := by
 have hm : out[i] = fAt out i := by rw [fAt_get (List.getElem?_eq_getElem hi)]
 have hp : 0 < lft out := List.countP_pos_iff.2 ⟨out[i], List.getElem_mem hi, by rw [hm]; simpa using h⟩
 unfold lft at hp ⊢
 rw [List.countP_set hi, hm, if_pos (by simpa using h), if_neg (by simpa using hv)]
 omega
theorem lft_le (out : List Int) : lft out ≤ out.length := List.countP_le_length
structure Bfs (J : Idn → Bool) (l : List Tch) (src : Nat) (out : List Int) : Prop where
 len : out.length = l.length
 zero : fAt out src = 0
 low : ∀ i, -1 ≤ fAt out i
 high : ∀ i, fAt out i + (lft out : Nat) < l.length
 up : ∀ i, i ≠ src → 0 ≤ fAt out i → ∃ j, tie J l i j ∧ fAt out j = fAt out i - 1 ∧ 0 ≤ fAt out j
 conn : ∀ i, 0 ≤ fAt out i → Conn (tie J l) i src
variable {J : Idn → Bool} {l : List Tch} {src : Nat} {out : List Int}
theorem Bfs.start (h : src < l.length) : Bfs J l src ((List.replicate l.length (-1)).set src 0) := by
 have hr : ∀ j, fAt (List.replicate l.length (-1)) j = -1 := fun j => by
  unfold fAt
  rw [List.getElem?_replicate]
  split <;> rfl
 have hl : src < (List.replicate l.length (-1 : Int)).length := by simpa using h
 have hs : ∀ j, fAt ((List.replicate l.length (-1)).set src 0) j = if j = src then 0 else -1 := fun j => by rw [fAt_set hl, hr]
 have hle := lft_le (List.replicate l.length (-1))
 rw [List.length_replicate] at hle
 have h1 := lft_set (v := 0) hl (by rw [hr]; decide) (Int.le_refl _)
 refine ⟨by simp, by rw [hs, if_pos rfl], fun i => ?_, fun i => ?_, fun i hi h0 => ?_, fun i h0 => ?_⟩
 ·rw [hs]; split <;> omega
 ·rw [hs]; split <;> omega
 ·rw [hs, if_neg hi] at h0; omega
 ·rw [hs] at h0
  split at h0
  ·rename_i e; subst e; exact .refl _
  ·omega
theorem Bfs.step (h : Bfs J l src out) {q i : Nat} (hi : i < l.length) (hneg : fAt out i < 0) (ht : tie J l q i) (hq : 0 ≤ fAt out q) : Bfs J l src (out.set i (fAt out q + 1)) := by
 have hi' : i < out.length := by rw [h.len]; exact hi
 have hs := fAt_set hi' (fAt out q + 1)
 have hl := lft_set hi' hneg (v := fAt out q + 1) (by omega)
 have hqi : q ≠ i := fun e => by subst e; omega
 have hsi : src ≠ i := fun e => by have := h.zero; rw [e] at this; omega
 refine ⟨by rw [List.length_set]; exact h.len, by rw [hs, if_neg hsi]; exact h.zero, fun j => ?_, fun j => ?_, fun j hj h0 => ?_, fun j h0 => ?_⟩
 ·have := h.low j
  rw [hs]; split <;> omega
 ·have h1 := h.high j
  have h2 := h.high q
  rw [hs]; split <;> omega
 ·by_cases e : j = i
  ·subst e
   refine ⟨q, tie_symm _ _ ht, ?_, ?_⟩
   ·rw [hs, hs, if_neg hqi, if_pos rfl]; omega
   ·rw [hs, if_neg hqi]; exact hq
  ·rw [hs, if_neg e] at h0
   obtain ⟨k, h1, h2, h3⟩ := h.up j hj h0
   have hki : k ≠ i := fun e2 => by subst e2; omega
   exact ⟨k, h1, by rw [hs, hs, if_neg hki, if_neg e]; exact h2, by rw [hs, if_neg hki]; exact h3⟩
 ·by_cases e : j = i
  ·subst e
   exact (Conn.one (tie_symm _ _ ht)).trans (h.conn q hq)
  ·rw [hs, if_neg e] at h0
   exact h.conn j h0
theorem Bfs.fin (h : Bfs J l src out) (hc : ∀ i, 0 ≤ fAt out i → ∀ j, tie J l i j → 0 ≤ fAt out j) (i : Nat) : 0 ≤ fAt out i ↔ Conn (tie J l) i src := by
 refine ⟨h.conn i, fun hi => ?_⟩
 have hi2 := hi.symm tie_symm
 clear hi
 generalize hx : src = s at hi2
 have h0 : 0 ≤ fAt out s := by rw [← hx, h.zero]; exact Int.le_refl _
 clear hx
 induction hi2 with
 | refl => exact h0
 | tail _ ht ih => exact hc _ ih _ ht
/-! Chains. -/
structure Lnk where
 no : Int
 id : Idn
abbrev Lnk.c (x : Lnk) : List AV := [.int x.no, .int x.id.kind, .str x.id.text]
inductive Chn (J : Idn → Bool) (l : List Tch) (a : Nat) : Nat → List Lnk → Prop
 | one : Chn J l a a [⟨(tAt l a).no, noId⟩]
 | more {b i : Nat} {c : List Lnk} {x : Idn} : Chn J l a b c → J x = true → Has l b x → Has l i x → b ≠ i → Chn J l a i (c ++ [⟨(tAt l i).no, x⟩])
variable {a b : Nat} {c : List Lnk}
theorem Chn.pos (h : Chn J l a b c) : 0 < c.length := by cases h <;> simp
theorem Chn.head (h : Chn J l a b c) : ∃ x, c[0]? = some x ∧ x.no = (tAt l a).no := by
 induction h with
 | one => exact ⟨_, rfl, rfl⟩
 | more h _ _ _ _ ih =>
  obtain ⟨x, h1, h2⟩ := ih
  exact ⟨x, by rw [List.getElem?_append_left (Chn.pos h)]; exact h1, h2⟩
theorem last_snoc (c : List Lnk) (x : Lnk) : (c ++ [x])[(c ++ [x]).length - 1]? = some x := by simp
theorem Chn.last (h : Chn J l a b c) : ∃ x, c[c.length - 1]? = some x ∧ x.no = (tAt l b).no := by
 cases h with
 | one => exact ⟨_, rfl, rfl⟩
 | more h _ _ _ _ => exact ⟨_, last_snoc _ _, rfl⟩
theorem Chn.link (h : Chn J l a b c) : ∀ k, k + 1 < c.length → ∃ x y u v, c[k]? = some x ∧ c[k + 1]? = some y ∧ x.no = (tAt l u).no ∧ y.no = (tAt l v).no ∧ J y.id = true ∧ Has l u y.id ∧ Has l v y.id ∧ u ≠ v := by
 induction h with
 | one => intro k hk; simp at hk
 | more h h1 h2 h3 h4 ih =>
  rename_i b i c x
  intro k hk
  simp only [List.length_append, List.length_cons, List.length_nil, Nat.zero_add] at hk
  by_cases e : k + 1 < c.length
  ·obtain ⟨x', y, u, v, g1, g2, g3⟩ := ih k e
   exact ⟨x', y, u, v, by rw [List.getElem?_append_left (by omega)]; exact g1, by rw [List.getElem?_append_left e]; exact g2, g3⟩
  ·have ek : k + 1 = c.length := by omega
   obtain ⟨z, g1, g2⟩ := h.last
   refine ⟨z, ⟨(tAt l i).no, x⟩, b, i, ?_, ?_, g2, rfl, h1, h2, h3, h4⟩
   ·rw [List.getElem?_append_left (by omega), show k = c.length - 1 from by omega]; exact g1
   ·rw [ek]; simp
def joinIds (r : Rls) (l : List Tch) : List Idn := setOf ((l.flatMap Tch.ids).filter fun x => joins r l x && decide (2 ≤ (occ l x).length))
theorem mem_joinIds {r : Rls} {x : Idn} : x ∈ joinIds r l ↔ joins r l x = true ∧ 2 ≤ (occ l x).length := by
 rw [joinIds, mem_setOf, List.mem_filter]
 simp only [Bool.and_eq_true, decide_eq_true_eq, List.mem_flatMap]
 refine ⟨fun h => h.2, fun h => ⟨?_, h⟩⟩
 have h2 := h.2
 cases ho : occ l x with
 | nil => rw [ho] at h2; simp at h2
 | cons i r =>
  have hm : i ∈ occ l x := by rw [ho]; simp
  obtain ⟨t, h3, h4⟩ := mem_occ.1 hm
  exact ⟨t, List.mem_of_getElem? h3, h4⟩
theorem two_occ {x : Idn} {u v : Nat} (hu : Has l u x) (hv : Has l v x) (h : u ≠ v) : 2 ≤ (occ l x).length := by
 rcases Nat.lt_or_ge (occ l x).length 2 with h1 | h1
 ·exact absurd (one_eq (by omega) (mem_occ.2 hu) (mem_occ.2 hv)) h
 ·exact h1
def idsNo (l : List Tch) (no : Int) : List Idn := ((l.find? fun t => decide (t.no = no)).map Tch.ids).getD []
theorem idsNo_at (hr : Rise l) {u : Nat} (hu : u < l.length) : idsNo l (tAt l u).no = (tAt l u).ids := by
 unfold idsNo
 cases hf : l.find? fun t => decide (t.no = (tAt l u).no) with
 | none =>
  have := List.find?_eq_none.1 hf (tAt l u) (by rw [tAt_get (List.getElem?_eq_getElem hu)]; exact List.getElem_mem hu)
  simp at this
 | some t =>
  have h1 := List.find?_some hf
  obtain ⟨i, hi⟩ := List.mem_iff_getElem?.1 (List.mem_of_find?_eq_some hf)
  have h2 : tAt l i = t := tAt_get hi
  have h3 : i = u := hr.inj (List.getElem?_eq_some_iff.1 hi).1 hu (by rw [h2]; simpa using h1)
  subst h3
  rw [h2]; rfl
theorem has_tAt {u : Nat} {x : Idn} (h : Has l u x) : u < l.length ∧ x ∈ (tAt l u).ids := by
 obtain ⟨t, h1, h2⟩ := h
 exact ⟨(List.getElem?_eq_some_iff.1 h1).1, by rw [tAt_get h1]; exact h2⟩
theorem Chn.holds {r : Rls} (hr : Rise l) (h : Chn (joins r l) l a b c) (k : Nat) (hk : k + 1 < c.length) : ∃ x y, c[k]? = some x ∧ c[k + 1]? = some y ∧ y.id ∈ joinIds r l ∧ y.id ∈ idsNo l x.no ∧ y.id ∈ idsNo l y.no := by
 obtain ⟨x, y, u, v, h1, h2, h3, h4, h5, h6, h7, h8⟩ := h.link k hk
 refine ⟨x, y, h1, h2, mem_joinIds.2 ⟨h5, two_occ h6 h7 h8⟩, ?_, ?_⟩
 ·rw [h3, idsNo_at hr (has_tAt h6).1]; exact (has_tAt h6).2
 ·rw [h4, idsNo_at hr (has_tAt h7).1]; exact (has_tAt h7).2
end Go.Pp
/-! Sorted numbers, each once. -/
namespace Go.Pp
open Go Go.Ab Go.Pm Go.Cm
def msortI (l : List Int) : List Int := l.mergeSort fun x y => decide (x ≤ y)
theorem msortI_mem (l : List Int) (x : Int) : x ∈ msortI l ↔ x ∈ l := List.mem_mergeSort
theorem msortI_length (l : List Int) : (msortI l).length = l.length := List.length_mergeSort l
theorem cut_mem (d : Array Int) (x : Int) : ∀ m, x ∈ Lib.compactUpTo d m ↔ ∃ j, j < m ∧ d[j]! = x
 | 0 => by simp [Lib.compactUpTo]
 | m + 1 => by
  rw [Lib.compactUpTo_succ, List.mem_append, cut_mem d x m]
  constructor
  ·rintro (⟨j, h1, h2⟩ | h)
   ·exact ⟨j, by omega, h2⟩
   ·split at h
    ·simp at h; exact ⟨m, by omega, h.symm⟩
    ·simp at h
  ·rintro ⟨j, h1, h2⟩
   rcases Nat.lt_or_ge j m with h3 | h3
   ·exact .inl ⟨j, h3, h2⟩
   ·have hj : j = m := by omega
    subst hj
    by_cases hk : Lib.keeps d j = true
    ·right; rw [if_pos hk]; simp [h2]
    ·left
     simp only [Lib.keeps, decide_eq_true_eq, not_or, Decidable.not_not] at hk
     exact ⟨j - 1, by omega, by rw [← hk.2, h2]⟩
theorem compact_mem (zs : List Int) (x : Int) : x ∈ Lib.compact zs ↔ x ∈ zs := by
 rw [Lib.compact, cut_mem, List.mem_iff_getElem]
 constructor
 ·rintro ⟨j, h1, h2⟩
  refine ⟨j, h1, ?_⟩
  rw [getElem!_pos _ j (by simpa using h1)] at h2
  simpa using h2
 ·rintro ⟨j, h1, h2⟩
  refine ⟨j, h1, ?_⟩
  rw [getElem!_pos _ j (by simpa using h1)]
  simpa using h2
theorem cut_length (d : Array Int) (m : Nat) : (Lib.compactUpTo d m).length ≤ m := by
 rw [Lib.compactUpTo, List.length_map]
 exact Nat.le_trans (List.length_filter_le _ _) (by simp)
end Go.Pp
