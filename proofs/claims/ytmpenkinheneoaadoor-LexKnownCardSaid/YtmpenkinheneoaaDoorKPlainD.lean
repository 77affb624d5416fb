/- Texts of the claim: PlainD. -/
import Derived.Test.YtmpenkinheneoaaDoorKPlainC
import Derived.Test.YtmpenkinheneoaaDoorKQx0
namespace Go.Proofs.YtmpenkinheneoaaDoor.Plain
set_option linter.unusedVariables false
open Go Go.RowKit Go.Proofs.YtmpenkinheneoaaDoor.HPure Go.Proofs.YtmpenkinheneoaaDoor.Q Go.Proofs.YtmpenkinheneoaaDoorW.PrintWords Go.Proofs.YtmpenkinheneoaaDoorW.PrintLast Go.Proofs.YtmpenkinheneoaaDoorW.PrintMore
theorem extract_mk' (L : List UInt8) (i j : Nat) : (mk L).extract i j = mk ((L.drop i).take (j - i)) := by
  rw [← mk_data ((mk L).extract i j), Lib.extract_data, data_mk]
theorem isText_f (s : ByteArray) (h : s.size ≤ 140737488355328) : chars_IsText.f s = some (isText s) := by unfold chars_IsText.f; rw [if_pos h]
end Go.Proofs.YtmpenkinheneoaaDoor.Plain
