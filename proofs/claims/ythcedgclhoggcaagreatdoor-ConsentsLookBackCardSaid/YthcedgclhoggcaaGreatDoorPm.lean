/- What functions of the program compute, as plain functions; no condition. -/
import Derived.Test.YthcedgclhoggcaaGreatDoorAb22p
import Derived.Test.YthcedgclhoggcaaGreatDoorShelf
/-! What the functions on ids and keys compute. -/
namespace Go.Pm
open Go Go.Ab
/-- A text's bytes as whole numbers. -/
def bytesOf (s : ByteArray) : List Int := s.data.toList.map fun b => (b.toNat : Int)
def allB (s : ByteArray) (p : Int → Bool) : Bool := (bytesOf s).all p
def within (n lo hi : Int) : Bool := decide (lo ≤ n ∧ n ≤ hi)
def small (c : Int) : Bool := decide (97 ≤ c) && decide (c ≤ 122)
def digit (c : Int) : Bool := decide (48 ≤ c) && decide (c ≤ 57)
def capital (c : Int) : Bool := decide (65 ≤ c) && decide (c ≤ 90)
def keyC (c : Int) : Bool := small c || digit c || decide (c = 45) || decide (c = 95)
def labelC (c : Int) : Bool := small c || digit c || decide (c = 45)
def mailC (c : Int) : Bool := small c || digit c || decide (c = 46) || decide (c = 45) || decide (c = 95)
def memberC (c : Int) : Bool := digit c || capital c
def deviceC (c : Int) : Bool := digit c || (decide (97 ≤ c) && decide (c ≤ 102))
def isKey (s : ByteArray) : Bool := within s.size 1 40 && small (byteAt s 0) && allB s keyC
def isLabel (s : ByteArray) : Bool := within s.size 1 30 && !decide (byteAt s 0 = 45) && !decide (byteAt s ((s.size : Int) - 1).toNat = 45) && allB s labelC
def cutT (s sep : ByteArray) : ByteArray × ByteArray × Bool :=
  (⟨(Lib.cut s.data.toList sep.data.toList).1.toArray⟩, ⟨(Lib.cut s.data.toList sep.data.toList).2.1.toArray⟩, (Lib.cut s.data.toList sep.data.toList).2.2)
def splitT (s sep : ByteArray) : List ByteArray := Lib.splitB sep 0 (Lib.countB s sep) s
def isMail (s : ByteArray) : Bool :=
  let c := cutT s ⟨#[64]⟩
  if !c.2.2 || decide (80 < (s.size : Int)) || !within c.1.size 1 64 || decide (byteAt c.1 0 = 46) || decide (byteAt c.1 ((c.1.size : Int) - 1).toNat = 46) || Lib.contains c.1.data.toList [46, 46] then false
  else if !allB c.1 mailC then false
  else (splitT c.2.1 ⟨#[46]⟩).all isLabel && decide (2 ≤ ((splitT c.2.1 ⟨#[46]⟩).length : Int))
def hasPrefix (s p : ByteArray) : Bool := decide (p.size ≤ s.size) && decide (s.extract 0 p.size = p)
def isPhone (s : ByteArray) : Bool := hasPrefix s ⟨#[43]⟩ && within s.size 8 16 && allB (s.extract 1 s.size) digit && !decide (byteAt s 1 = 48)
def isMember (s : ByteArray) : Bool := within s.size 4 20 && allB s memberC
def isDevice (s : ByteArray) : Bool := decide ((s.size : Int) = 32) && allB s deviceC
def signs : ByteArray := ⟨#[48, 49, 50, 51, 52, 53, 54, 55, 56, 57, 65, 66, 67, 68, 69, 70, 71, 72, 73, 74, 75, 76, 77, 78, 79, 80, 81, 82, 83, 84, 85, 86, 87, 88, 89, 90]⟩
/-- The sum over the signs, from the last on. -/
def signSum : List Int → Int → Int → Int
  | [], sum, _ => sum
  | c :: cs, sum, times =>
    let product := times * Lib.indexByte signs.data.toList c.toNat.toUInt8
    signSum cs (sum + (product.tdiv 36 + product.tmod 36)) (3 - times)
def checkSign (s : ByteArray) : Int := byteAt signs ((36 - (signSum (bytesOf s).reverse 0 2).tmod 36).tmod 36).toNat
def checkId (kind : Int) (s : ByteArray) : Int :=
  if kind < 1 ∨ 4 < kind then 4
  else if !(if kind = 1 then isMail s else if kind = 2 then isPhone s else if kind = 3 then isMember s else isDevice s) then 3
  else if kind = 3 ∧ checkSign (s.extract 0 ((s.size : Int) - 1).toNat) ≠ byteAt s ((s.size : Int) - 1).toNat then 15
  else 0
end Go.Pm
