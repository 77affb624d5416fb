/- Texts of the claim: HPure. -/
import Derived.Lib.RuneCount
import Derived.Lib.RuneBytes
import Derived.Lib.DecodeN
import Derived.Lib.FieldsP
import Derived.Lib.Join
import Derived.Lib.Bytealg
import Derived.Lib.Repeat
import Derived.Shelf.GgClosure.StringsIndexFunc
namespace Go.Proofs.YtmpenkinheneoaaDoor.HPure
open Go
def isChar (c : Int) : Bool := c == 9 || c == 10 || c == 13 || (decide (32 ≤ c) && decide (c ≤ 55295)) || (decide (57344 ≤ c) && decide (c ≤ 65533)) || (decide (65536 ≤ c) && decide (c ≤ 1114111))
def isBad (s : ByteArray) (i : Nat) : Bool := decide (i + 3 ≤ s.size) && (s.get! i == 239 && s.get! (i + 1) == 191 && s.get! (i + 2) == 189)
def isTextFrom (s : ByteArray) : Nat → Nat → Bool
  | 0, _ => true
  | f + 1, pos => if pos < s.size then
      (if !isChar (Utf8.decode s pos).1 || ((Utf8.decode s pos).1 == 65533 && !isBad s pos) then false else isTextFrom s f (pos + (Utf8.decode s pos).2))
    else true
def isText (s : ByteArray) : Bool := isTextFrom s s.size 0
theorem isTextFrom_end (s : ByteArray) (f pos : Nat) (h : ¬ pos < s.size) : isTextFrom s f pos = true := by cases f <;> simp [isTextFrom, h]
def pointsFrom (s : ByteArray) : Nat → Nat → List Int
  | 0, _ => []
  | f + 1, pos => if pos < s.size then ((Utf8.decode s pos).1 : Int) :: pointsFrom s f (pos + (Utf8.decode s pos).2) else []
def points (s : ByteArray) : List Int := pointsFrom s s.size 0
theorem pointsFrom_end (s : ByteArray) (f pos : Nat) (h : ¬ pos < s.size) : pointsFrom s f pos = [] := by cases f <;> simp [pointsFrom, h]
def isLetter (c : Int) : Bool := (decide (97 ≤ c) && decide (c ≤ 122)) || (decide (65 ≤ c) && decide (c ≤ 90)) || c == 95 || (decide (192 ≤ c) && c != 215 && c != 247)
def inPart (first : Bool) (c : Int) : Bool := isLetter c || (!first && (c == 45 || c == 46 || c == 183 || (decide (48 ≤ c) && decide (c ≤ 57))))
def isNamePartFrom (s : ByteArray) : Nat → Nat → Bool
  | 0, _ => true
  | f + 1, pos => if pos < s.size then (if inPart (pos == 0) (Utf8.decode s pos).1 then isNamePartFrom s f (pos + (Utf8.decode s pos).2) else false) else true
def isNamePart (s : ByteArray) : Bool := isNamePartFrom s s.size 0 && decide (s.size ≠ 0)
theorem isNamePartFrom_end (s : ByteArray) (f pos : Nat) (h : ¬ pos < s.size) : isNamePartFrom s f pos = true := by cases f <;> simp [isNamePartFrom, h]
def encode (l : List Int) : ByteArray := ⟨(l.flatMap Lib.encodeRune).toArray⟩
def sp (c : Nat) : Bool := c == 32 || c == 9 || c == 10 || c == 13
end Go.Proofs.YtmpenkinheneoaaDoor.HPure
