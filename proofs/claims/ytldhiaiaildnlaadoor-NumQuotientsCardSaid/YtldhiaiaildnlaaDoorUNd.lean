/- Texts of the claim: Nd. -/
import Derived.Test.YtldhiaiaildnlaaDoorUNc
namespace Go.Proofs.YtldhiaiaildnlaaDoor.Nm
set_option linter.unusedVariables false
def U (d : Int) : Nat := 10 ^ (20 - d).toNat
def R (k : Nat) (x : Bool × Nat) (d : Int) : Nat := rnd k x.1 x.2 (U d) * U d
end Go.Proofs.YtldhiaiaildnlaaDoor.Nm
