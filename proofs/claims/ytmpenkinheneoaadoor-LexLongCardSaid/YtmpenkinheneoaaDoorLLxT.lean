/- Texts of the claim: LxT. -/
import Derived.Test.YtmpenkinheneoaaDoorLLxS
import Derived.Test.YtmpenkinheneoaaDoorLQx31
namespace Go.Proofs.YtmpenkinheneoaaDoor.Plain
set_option linter.unusedVariables false
open Go Go.RowKit Go.Proofs.YtmpenkinheneoaaDoor.HPure Go.Proofs.YtmpenkinheneoaaDoor.Q Go.Proofs.YtmpenkinheneoaaDoor.Lx Go.Proofs.YtmpenkinheneoaaDoorW.PrintWords Go.Proofs.YtmpenkinheneoaaDoorW.PrintLast Go.Proofs.YtmpenkinheneoaaDoorW.PrintMore
theorem app_mk (t : ByteArray) (l : List UInt8) : t ++ mk l = mk (t.data.toList ++ l) := by
  rw [← mk_data (t ++ mk l)]
  simp only [ByteArray.data_append, Array.toList_append, data_mk]
end Go.Proofs.YtmpenkinheneoaaDoor.Plain
