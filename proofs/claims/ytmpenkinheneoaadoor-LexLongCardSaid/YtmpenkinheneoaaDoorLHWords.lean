/- Texts of the claim: HWords. -/
import Derived.WalkKit
import Derived.Lib.OthersKept
import Derived.Lib.Strings
import Derived.Test.YtmpenkinheneoaaDoorLWWords
namespace Go.Proofs.YtmpenkinheneoaaDoor.HW
open Go Go.RowKit Go.Proofs.YtmpenkinheneoaaDoorW.PrintWords
theorem iterPos_at {w : World} {k : Nat} {s : ByteArray} {p : Nat} (h : w.heap[k]? = some (.stringIter s p)) : w.iterPos k = p := by simp [World.iterPos, h]
theorem iterPos_drewN (w : World) (n k : Nat) : (w.drewN n).iterPos k = w.iterPos k := rfl
theorem iter_below {w w1 : World} {k : Nat} {s : ByteArray} {p : Nat} (h : w.heap[k]? = some (.stringIter s p)) (hb : Below w.heap.size w w1) : w1.heap[k]? = some (.stringIter s p) := by
  have hlt : k < w.heap.size := (Array.getElem?_eq_some_iff.1 h).1
  exact (hb.block k hlt).trans h
theorem notEmpty (s : ByteArray) : decide (s.size ≠ 0) = !s.toList.isEmpty := by
  rw [Lib.toList_data]
  obtain ⟨⟨l⟩⟩ := s
  cases l <;> simp [ByteArray.size]
end Go.Proofs.YtmpenkinheneoaaDoor.HW
