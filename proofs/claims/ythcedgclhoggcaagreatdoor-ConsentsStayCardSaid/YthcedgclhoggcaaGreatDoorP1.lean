/- What functions of the program compute, as plain functions; no condition. -/
import Derived.Test.YthcedgclhoggcaaGreatDoorA4
import Derived.Test.YthcedgclhoggcaaGreatDoorShelf
/-! What the functions on ids and keys compute. -/
namespace Go.Pm
open Go Go.Ab
/-- A text's bytes as whole numbers. -/
def bytesOf (s : ByteArray) : List Int := s.data.toList.map fun b => (b.toNat : Int)
def allB (s : ByteArray) (p : Int → Bool) : Bool := (bytesOf s).all p
def within (n lo hi : Int) : Bool := decide (lo ≤ n ∧ n ≤ hi)
def small (c : Int) : Bool := decide (97 ≤ c) && decide (c ≤ 122)
def digit (c : Int) : Bool := decide (48 ≤ c) && decide (c ≤ 57)
def capital (c : Int) : Bool := decide (65 ≤ c) && decide (c ≤ 90)
def keyC (c : Int) : Bool := small c || digit c || decide (c = 45) || decide (c = 95)
def labelC (c : Int) : Bool := small c || digit c || decide (c = 45)
def mailC (c : Int) : Bool := small c || digit c || decide (c = 46) || decide (c = 45) || decide (c = 95)
def memberC (c : Int) : Bool := digit c || capital c
def deviceC (c : Int) : Bool := digit c || (decide (97 ≤ c) && decide (c ≤ 102))
def isKey (s : ByteArray) : Bool := within s.size 1 40 && small (byteAt s 0) && allB s keyC
def isLabel (s : ByteArray) : Bool := within s.size 1 30 && !decide (byteAt s 0 = 45) && !decide (byteAt s ((s.size : Int) - 1).toNat = 45) && allB s labelC
def cutT (s sep : ByteArray) : ByteArray × ByteArray × Bool :=
  (⟨(Lib.cut s.data.toList sep.data.toList).1.toArray⟩, ⟨(Lib.cut s.data.toList sep.data.toList).2.1.toArray⟩, (Lib.cut s.data.toList sep.data.toList).2.2)
def splitT (s sep : ByteArray) : List ByteArray := Lib.splitB sep 0 (Lib.countB s sep) s
def isMail (s : ByteArray) : Bool :=
  let c := cutT s ⟨#[64]⟩
  if !c.2.2 || decide (80 < (s.size : Int)) || !within c.1.size 1 64 || decide (byteAt c.1 0 = 46) || decide (byteAt c.1 ((c.1.size : Int) - 1).toNat = 46) || Lib.contains c.1.data.toList [46, 46] then false
  else if !allB c.1 mailC then false
  else (splitT c.2.1 ⟨#[46]⟩).all isLabel && decide (2 ≤ ((splitT c.2.1 ⟨#[46]⟩).length : Int))
def hasPrefix (s p : ByteArray) : Bool := decide (p.size ≤ s.size) && decide (s.extract 0 p.size = p)
def isPhone (s : ByteArray) : Bool := hasPrefix s ⟨#[43]⟩ && within s.size 8 16 && allB (s.extract 1 s.size) digit && !decide (byteAt s 1 = 48)
def isMember (s : ByteArray) : Bool := within s.size 4 20 && allB s memberC
def isDevice (s : ByteArray) : Bool := decide ((s.size : Int) = 32) && allB s deviceC
def signs : ByteArray := ⟨#[48, 49, 50, 51, 52, 53, 54, 55, 56, 57, 65, 66, 67, 68, 69, 70, 71, 72, 73, 74, 75, 76, 77, 78, 79, 80, 81, 82, 83, 84, 85, 86, 87, 88, 89, 90]⟩
/-- The sum over the signs, from the last on. -/
def signSum : List Int → Int → Int → Int
  | [], sum, _ => sum
  | c :: cs, sum, times =>
    let product := times * Lib.indexByte signs.data.toList c.toNat.toUInt8
    signSum cs (sum + (product.tdiv 36 + product.tmod 36)) (3 - times)
def checkSign (s : ByteArray) : Int := byteAt signs ((36 - (signSum (bytesOf s).reverse 0 2).tmod 36).tmod 36).toNat
def checkId (kind : Int) (s : ByteArray) : Int :=
  if kind < 1 ∨ 4 < kind then 4
  else if !(if kind = 1 then isMail s else if kind = 2 then isPhone s else if kind = 3 then isMember s else isDevice s) then 3
  else if kind = 3 ∧ checkSign (s.extract 0 ((s.size : Int) - 1).toNat) ≠ byteAt s ((s.size : Int) - 1).toNat then 15
  else 0
end Go.Pm

/-! What the functions of package consent compute. -/
namespace Go.Cm
open Go Go.Ab Go.Pm
abbrev T := ByteArray
structure Idn where
  kind : Int
  text : T
  deriving DecidableEq
abbrev Idn.c (x : Idn) : List AV := [.int x.kind, .str x.text]
structure Stm where
  no : Int
  at' : Int
  id : Idn
  purpose : T
  region : T
  channel : Int
  what : Int
  deriving DecidableEq
abbrev Stm.c (s : Stm) : List AV := [.int s.no, .int s.at', .int s.id.kind, .str s.id.text, .str s.purpose, .str s.region, .int s.channel, .int s.what]
structure Term where
  region : T
  channel : Int
  free : Bool
  days : Int
  wait : Int
  deriving DecidableEq
abbrev Term.c (t : Term) : List AV := [.str t.region, .int t.channel, .bool t.free, .int t.days, .int t.wait]
structure Purpose where
  name : T
  nz : Bool
  terms : List Term
abbrev Purpose.c (p : Purpose) : List AV := [.str p.name, .ls p.nz (p.terms.map Term.c)]
structure Answer where
  may : Bool
  why : Int
  no : Int
  deriving DecidableEq
abbrev Answer.c (a : Answer) : List AV := [.bool a.may, .int a.why, .int a.no]

def cmpI (a b : Int) : Int := if a < b then -1 else if b < a then 1 else 0
def cmpS (a b : T) : Int := if strLt a b = true then -1 else if strLt a b = true ∨ a = b then 0 else 1
def cmpOr : List Int → Int
  | [] => 0
  | x :: xs => if x ≠ 0 then x else cmpOr xs
def termCmp (a b : Term) : Int := cmpOr [cmpS a.region b.region, cmpI a.channel b.channel]
/-- The search by halves, where 'c i' compares element i. -/
def bsGo (c : Nat → Int) : Nat → Nat → Nat → Nat
  | 0, lo, _ => lo
  | k + 1, lo, hi => if lo < hi then (if c ((lo + hi) / 2) < 0 then bsGo c k ((lo + hi) / 2 + 1) hi else bsGo c k lo ((lo + hi) / 2)) else lo
def at0 {α : Type} (f : α → Int) (l : List α) (i : Nat) : Int := match l[i]? with
  | some x => f x
  | none => 0
def bsAt {α : Type} (f : α → Int) (l : List α) : Nat := bsGo (at0 f l) l.length 0 l.length
def bsHas {α : Type} (f : α → Int) (l : List α) : Bool := decide (bsAt f l < l.length) && decide (at0 f l (bsAt f l) = 0)
def purposeOf (l : List Purpose) (name : T) : Option Purpose := if bsHas (fun p => cmpS p.name name) l then l[bsAt (fun p => cmpS p.name name) l]? else none
def noTerm : Term := ⟨⟨#[]⟩, 0, false, 0, 0⟩
def noPurpose : Purpose := ⟨⟨#[]⟩, false, []⟩
def termOf (l : List Purpose) (purpose region : T) (channel : Int) : Option Term :=
  let p := (purposeOf l purpose).getD noPurpose
  let q : Term := ⟨region, channel, false, 0, 0⟩
  if bsHas (fun t => termCmp t q) p.terms then p.terms[bsAt (fun t => termCmp t q) p.terms]? else none
def termErr (prev : Option Term) (t : Term) : Int :=
  if isKey t.region = false then 5
  else if within t.channel 1 4 = false then 4
  else if t.free = true ∧ (t.days ≠ 0 ∨ t.wait ≠ 0) then 3
  else if within t.days 0 2000 = false ∨ within t.wait 0 100000 = false then 1
  else match prev with
    | some p => if 0 ≤ termCmp p t then 7 else 0
    | none => 0
def checkTermsGo : Option Term → List Term → Int
  | _, [] => 0
  | prev, t :: r => if termErr prev t ≠ 0 then termErr prev t else checkTermsGo (some t) r
def checkTerms (l : List Term) : Int := if 160 < l.length then 2 else checkTermsGo none l
def purposeErr (prev : Option Purpose) (p : Purpose) : Int :=
  if isKey p.name = false then 5
  else if (match prev with | some q => strLt p.name q.name || decide (p.name = q.name) | none => false) then 7
  else checkTerms p.terms
def checkPolicyGo : Option Purpose → List Purpose → Int
  | _, [] => 0
  | prev, p :: r => if purposeErr prev p ≠ 0 then purposeErr prev p else checkPolicyGo (some p) r
def checkPolicy (l : List Purpose) : Int := if l.length = 0 then 3 else if 30 < l.length then 2 else checkPolicyGo none l
def ofCh (w : Int) : Bool := decide (w = 4) || decide (w = 5)
def stmErr (p : List Purpose) (prev : Option Stm) (s : Stm) : Int :=
  if within s.no 1 1000000 = false then 1
  else if (match prev with | some q => decide (s.no ≤ q.no) | none => false) then 7
  else if within s.at' 0 4321439 = false then 1
  else if checkId s.id.kind s.id.text ≠ 0 then checkId s.id.kind s.id.text
  else if within s.channel 1 4 = false ∨ within s.what 1 5 = false then 4
  else if ofCh s.what = true ∧ s.purpose ≠ ⟨#[]⟩ then 3
  else if ofCh s.what = false ∧ (purposeOf p s.purpose).isSome = false then 8
  else if isKey s.region = false then 5
  else 0
def checkGo (p : List Purpose) : Option Stm → List Stm → Int
  | _, [] => 0
  | prev, s :: r => if stmErr p prev s ≠ 0 then stmErr p prev s else checkGo p (some s) r
def check (p : List Purpose) (l : List Stm) : Int := if checkPolicy p ≠ 0 then checkPolicy p else if 3000 < l.length then 2 else checkGo p none l
structure Q where
  p : List Purpose
  nz : Bool
  purpose : T
  region : T
  channel : Int
  at' : Int
abbrev Q.c (q : Q) : List AV := [.ls q.nz (q.p.map Purpose.c), .str q.purpose, .str q.region, .int q.channel, .int q.at']
def Q.check (q : Q) : Int :=
  if (purposeOf q.p q.purpose).isSome = false then 8
  else if isKey q.region = false then 5
  else if within q.channel 1 4 = false then 4
  else if within q.at' 0 4321439 = false then 1
  else 0
def checkIdsGo : List Idn → Int
  | [] => 0
  | x :: r => if checkId x.kind x.text ≠ 0 then checkId x.kind x.text else checkIdsGo r
def checkIds (l : List Idn) (most : Int) : Int := if most < (l.length : Int) then 2 else checkIdsGo l
def checkAll (q : Q) (l : List Stm) (most : Int) (ids : List Idn) : Int :=
  if Cm.check q.p l ≠ 0 then Cm.check q.p l else if checkIds ids most ≠ 0 then checkIds ids most else q.check
/-! Sorting by insertion: the sorted part lies in reverse. -/
def insRev {α : Type} (f : α → α → Int) (x : α) : List α → List α
  | [] => [x]
  | p :: r => if f x p < 0 then p :: insRev f x r else x :: p :: r
def isort {α : Type} (f : α → α → Int) (l : List α) : List α := (l.foldl (fun r x => insRev f x r) []).reverse
def stmCmp (a b : Stm) : Int := cmpOr [cmpI a.at' b.at', cmpI a.no b.no]
def saidBy (l : List Stm) (x : Idn) (channel : Int) : List Stm := isort stmCmp (l.filter fun s => decide (s.id = x) && decide (s.channel = channel))
def upTo (l : List Stm) (at' : Int) : List Stm := l.take (bsAt (fun s => cmpI s.at' (at' + 1)) l)
def objStep (a : Int × Int × Bool) (s : Stm) : Int × Int × Bool :=
  if ofCh s.what = true then
    let b := if a.2.1 < s.at' then (0, s.at', false) else a
    if s.what = 4 ∧ b.2.2 = false then (s.no, b.2.1, true) else b
  else a
def objected (l : List Stm) : Int × Int × Bool := l.foldl objStep (0, -1, false)
def wdStep (purpose : T) (a : Option Stm) (s : Stm) : Option Stm :=
  if s.what = 3 ∧ s.purpose = purpose ∧ (match a with | some w => decide (w.at' < s.at') | none => true) = true then some s else a
def withdrawal (l : List Stm) (purpose : T) : Option Stm := l.foldl (wdStep purpose) none
def grants (l : List Stm) (purpose : T) : List Stm :=
  l.filter fun s => decide (s.what = 1) && decide (s.purpose = purpose) && (match withdrawal l purpose with | some w => decide (w.at' < s.at') | none => true)
def noStm : Stm := ⟨0, 0, ⟨0, ⟨#[]⟩⟩, ⟨#[]⟩, ⟨#[]⟩, 0, 0⟩
def confirmation (l : List Stm) (purpose : T) (lo hi : Int) : Option Stm := l.find? fun s => decide (s.what = 2) && decide (s.purpose = purpose) && within s.at' lo hi
def stateOf (l : List Stm) (t : Term) (g : Stm) (at' : Int) : Int :=
  if t.days ≠ 0 ∧ g.at' + t.days * 1440 ≤ at' then 7
  else if t.wait = 0 then 2
  else if (confirmation l g.purpose g.at' (g.at' + t.wait)).isSome = true then 2
  else if at' ≤ g.at' + t.wait then 8
  else 9
def rank (w : Int) : Int := if w = 2 then 0 else if w = 8 then 1 else if w = 9 then 2 else if w = 7 then 3 else -1
def bestStep (l : List Stm) (t : Term) (at' : Int) (a : Stm × Int) (g : Stm) : Stm × Int :=
  let s := stateOf l t g at'
  if a.2 = 0 ∨ rank s < rank a.2 ∨ (s = a.2 ∧ a.1.at' < g.at') then (g, s) else a
def allowed (l : List Stm) (t : Term) (purpose : T) (at' : Int) : Answer :=
  let g := grants l purpose
  match withdrawal l purpose with
  | some w => if g.length = 0 then ⟨false, 5, w.no⟩ else if t.free = true then ⟨true, 1, 0⟩ else
      let b := g.foldl (bestStep l t at') (noStm, 0)
      ⟨decide (b.2 = 2), b.2, b.1.no⟩
  | none => if t.free = true then ⟨true, 1, 0⟩ else if g.length = 0 then ⟨false, 4, 0⟩ else
      let b := g.foldl (bestStep l t at') (noStm, 0)
      ⟨decide (b.2 = 2), b.2, b.1.no⟩
def answerL (t : Option Term) (purpose : T) (l : List Stm) (at' : Int) : Answer :=
  match t with
  | none => ⟨false, 3, 0⟩
  | some t =>
    let u := upTo l at'
    if (objected u).2.2 = true then ⟨false, 6, (objected u).1⟩ else allowed u t purpose at'
def answer (q : Q) (l : List Stm) (x : Idn) (at' : Int) : Answer := answerL (termOf q.p q.purpose q.region q.channel) q.purpose (saidBy l x q.channel) at'
def may (q : Q) (l : List Stm) (x : Idn) : Answer × Int :=
  if checkAll q l 1 [x] ≠ 0 then (⟨false, 0, 0⟩, checkAll q l 1 [x]) else (answer q l x q.at', 0)
end Go.Cm

