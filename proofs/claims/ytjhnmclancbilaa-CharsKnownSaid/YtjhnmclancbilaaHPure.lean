/- Plain functions on bytes and code points, of no program: what the walks of package chars come to. -/
import Derived.Lib.RuneCount
import Derived.Lib.RuneBytes
import Derived.Lib.DecodeN
import Derived.Lib.FieldsP
import Derived.Lib.Join
import Derived.Lib.Bytealg
import Derived.Lib.Repeat
import Derived.Shelf.GgClosure.StringsIndexFunc
namespace Go.Proofs.Ytjhnmclancbilaa.HPure
open Go

/-- Is a code point a character? -/
def isChar (c : Int) : Bool := c == 9 || c == 10 || c == 13 || (decide (32 ≤ c) && decide (c ≤ 55295)) || (decide (57344 ≤ c) && decide (c ≤ 65533)) || (decide (65536 ≤ c) && decide (c ≤ 1114111))
/-- Do the bytes of U+FFFD stand at a place? -/
def isBad (s : ByteArray) (i : Nat) : Bool := decide (i + 3 ≤ s.size) && (s.get! i == 239 && s.get! (i + 1) == 191 && s.get! (i + 2) == 189)
/-- From a place on, by so many code points: each is a character, and one that reads as U+FFFD is written so. -/
def isTextFrom (s : ByteArray) : Nat → Nat → Bool
  | 0, _ => true
  | f + 1, pos => if pos < s.size then
      (if !isChar (Utf8.decode s pos).1 || ((Utf8.decode s pos).1 == 65533 && !isBad s pos) then false else isTextFrom s f (pos + (Utf8.decode s pos).2))
    else true
def isText (s : ByteArray) : Bool := isTextFrom s s.size 0
theorem isTextFrom_end (s : ByteArray) (f pos : Nat) (h : ¬ pos < s.size) : isTextFrom s f pos = true := by cases f <;> simp [isTextFrom, h]

/-- The code points from a place on. -/
def pointsFrom (s : ByteArray) : Nat → Nat → List Int
  | 0, _ => []
  | f + 1, pos => if pos < s.size then ((Utf8.decode s pos).1 : Int) :: pointsFrom s f (pos + (Utf8.decode s pos).2) else []
def points (s : ByteArray) : List Int := pointsFrom s s.size 0
theorem pointsFrom_end (s : ByteArray) (f pos : Nat) (h : ¬ pos < s.size) : pointsFrom s f pos = [] := by cases f <;> simp [pointsFrom, h]

/-- Can a name begin with a character? -/
def isLetter (c : Int) : Bool := (decide (97 ≤ c) && decide (c ≤ 122)) || (decide (65 ≤ c) && decide (c ≤ 90)) || c == 95 || (decide (192 ≤ c) && c != 215 && c != 247)
/-- May a character stand at a place of a part of a name? -/
def inPart (first : Bool) (c : Int) : Bool := isLetter c || (!first && (c == 45 || c == 46 || c == 183 || (decide (48 ≤ c) && decide (c ≤ 57))))
def isNamePartFrom (s : ByteArray) : Nat → Nat → Bool
  | 0, _ => true
  | f + 1, pos => if pos < s.size then (if inPart (pos == 0) (Utf8.decode s pos).1 then isNamePartFrom s f (pos + (Utf8.decode s pos).2) else false) else true
def isNamePart (s : ByteArray) : Bool := isNamePartFrom s s.size 0 && decide (s.size ≠ 0)
theorem isNamePartFrom_end (s : ByteArray) (f pos : Nat) (h : ¬ pos < s.size) : isNamePartFrom s f pos = true := by cases f <;> simp [isNamePartFrom, h]

/-- The UTF-8 form of code points. -/
def encode (l : List Int) : ByteArray := ⟨(l.flatMap Lib.encodeRune).toArray⟩

/-- Where the parts begin and end: the loop of Cut. -/
def cutFrom (s : ByteArray) (a b : Int) : Nat → Nat → Int → Nat → Nat → Nat × Nat
  | 0, _, _, x, y => (x, y)
  | f + 1, pos, place, x, y => if pos < s.size then
      cutFrom s a b f (pos + (Utf8.decode s pos).2) (place + 1) (if place = max a 0 then pos else x) (if place = b then pos else y)
    else (x, y)
theorem cutFrom_end (s : ByteArray) (a b : Int) (f pos : Nat) (place : Int) (x y : Nat) (h : ¬ pos < s.size) : cutFrom s a b f pos place x y = (x, y) := by cases f <;> simp [cutFrom, h]
def cutAt (s : ByteArray) (a b : Int) : Nat × Nat := cutFrom s a b s.size 0 0 s.size s.size
def cut (s : ByteArray) (a b : Int) : ByteArray :=
  if b ≤ a ∨ isText s = false then ⟨#[]⟩
  else if (cutAt s a b).2 < (cutAt s a b).1 ∨ b ≤ 0 then ⟨#[]⟩
  else s.extract (cutAt s a b).1 (cutAt s a b).2

/-- White space. -/
def sp (c : Nat) : Bool := c == 32 || c == 9 || c == 10 || c == 13
def isSpace (s : ByteArray) : Bool := decide (Lib.idxFunc (fun c => !sp c) true s < 0)
def norm (s : ByteArray) : ByteArray := ⟨(Lib.join ((Lib.goFieldsP sp s).map (·.data.toList)) [32]).toArray⟩

end Go.Proofs.Ytjhnmclancbilaa.HPure
