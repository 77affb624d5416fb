/- Texts of the claim: PlainC. -/
import Derived.Test.YtmpenkinheneoaaDoorKPlainB
import Derived.Test.YtmpenkinheneoaaDoorKQx21
namespace Go.Proofs.YtmpenkinheneoaaDoor.Plain
set_option linter.unusedVariables false
open Go Go.Lib Go.RowKit Go.Proofs.YtmpenkinheneoaaDoor.HPure Go.Proofs.YtmpenkinheneoaaDoor.Q Go.Proofs.YtmpenkinheneoaaDoorW.PrintWords Go.Proofs.YtmpenkinheneoaaDoorW.PrintLast Go.Proofs.YtmpenkinheneoaaDoorW.PrintMore
theorem bt_get (s : ByteArray) (i : Nat) : bt s (i : Int) = ((s.get! i).toNat : Int) := by
  unfold bt
  rw [Int.toNat_natCast]
  split
  · rename_i h
    congr 2
    obtain ⟨d⟩ := s
    simp only [ByteArray.get!]
    exact (getElem!_pos d i h).symm
  · rename_i h
    obtain ⟨d⟩ := s
    simp only [ByteArray.get!]
    have : d[i]! = default := getElem!_neg d i h
    rw [this]; rfl
theorem w64 {x : Int} (h0 : -9223372036854775808 ≤ x) (h1 : x ≤ 9223372036854775807) : wrap64 x = x := by unfold wrap64; omega
end Go.Proofs.YtmpenkinheneoaaDoor.Plain
