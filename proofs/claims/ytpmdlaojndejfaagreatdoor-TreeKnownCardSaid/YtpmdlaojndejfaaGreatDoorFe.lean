/- What the evaluator is told of the tree chapter's program. -/
import Derived.Shelf.Strings.Search3
import Derived.Shelf.Strings.OnBuilder
import Derived.Test.YtpmdlaojndejfaaGreatDoorProg
import Derived.Test.YtpmdlaojndejfaaGreatDoorFb
namespace Go.Proofs.YtpmdlaojndejfaaGreatDoor.E
open Go
/-- strings.Contains. -/
def containsE : List V → Heap → Option (V × Heap)
  | [.lit (.string s), .lit (.string x)], H => if s.size < 4294967281 then some (.lit (.bool (Lib.contains s.data.toList x.data.toList)), H) else none
  | _, _ => none
/-- strings.ToLower of ASCII. -/
def lowerE : List V → Heap → Option (V × Heap)
  | [.lit (.string s)], H => if s.size ≤ 140737488355328 ∧ s.data.toList.all (fun b => decide (b.toNat < 128)) = true then some (.lit (.string ⟨(Lib.toLowerA s.data.toList).toArray⟩), H) else none
  | _, _ => none
noncomputable def env (m : Int) : Env where
  P := Tryz.prog
  heapFn f := [52, 53, 54, 55, 85, 39, 41, 47, 49, 75, 77, 89, 56, 86, 87, 88, 66, 63, 64].contains f
  prim f := if f = 90 then some (ccE 82) else if f = 69 then some containsE else if f = 71 then some lowerE else none
  glob g := if g = 0 then some [.lit (.int .i64 m)] else none
def okB : Option (V × Heap) → Bool
  | some (.lit (.bool true), _) => true
  | _ => false
def sm : Option (V × Heap) → Bool
  | some _ => true
  | _ => false
end Go.Proofs.YtpmdlaojndejfaaGreatDoor.E
