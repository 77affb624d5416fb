/- Texts of the claim: Ns. -/
import Derived.Test.YtldhiaiaildnlaaDoorRNr
import Derived.Test.YtldhiaiaildnlaaDoorRNk
import Derived.Test.YtldhiaiaildnlaaDoorRQx33
import Derived.Test.YtldhiaiaildnlaaDoorRQx0
import Derived.Test.YtldhiaiaildnlaaDoorRQx29
import Derived.Test.YtldhiaiaildnlaaDoorRQx30
import Derived.Test.YtldhiaiaildnlaaDoorRQx32
import Derived.Test.YtldhiaiaildnlaaDoorRQx26
import Derived.Test.YtldhiaiaildnlaaDoorRQx12
import Derived.Test.YtldhiaiaildnlaaDoorRQx21
import Derived.Test.YtldhiaiaildnlaaDoorRQx31
import Derived.Test.YtldhiaiaildnlaaDoorRQx14
import Derived.Test.YtldhiaiaildnlaaDoorRQx10
import Derived.Test.YtldhiaiaildnlaaDoorRQx11
namespace Go.Proofs.YtldhiaiaildnlaaDoor.Nm
set_option linter.unusedVariables false
open Go Go.RowKit Go.Proofs.YtldhiaiaildnlaaDoor.Q Go.Proofs.YtldhiaiaildnlaaDoorW.PrintWords Go.Proofs.YtldhiaiaildnlaaDoorW.PrintLast Go.Proofs.YtldhiaiaildnlaaDoorW.PrintMore
theorem dlen {n m : Nat} (h : n < 10 ^ m) (hm : m ≤ 250) : (dg n).length ≤ 250 := Nat.le_trans (dg_len.mp h) hm
end Go.Proofs.YtldhiaiaildnlaaDoor.Nm
