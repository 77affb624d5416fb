/- Texts of the claim: Nd. -/
import Derived.Test.YtldhiaiaildnlaaGreatDoorSNc
namespace Go.Proofs.YtldhiaiaildnlaaGreatDoor.Nm
set_option linter.unusedVariables false
def U (d : Int) : Nat := 10 ^ (20 - d).toNat
def R (k : Nat) (x : Bool × Nat) (d : Int) : Nat := rnd k x.1 x.2 (U d) * U d
end Go.Proofs.YtldhiaiaildnlaaGreatDoor.Nm
