/- TreeKnown, reckoned by the kernel. -/
import Derived.Test.YtpmdlaojndejfaaGreatDoorKb
namespace Go.Proofs.YtpmdlaojndejfaaGreatDoor.E
open Go
set_option maxRecDepth 1000000
theorem known_true (m : Int) : ansV ((runM tab2 (env m) 60).call 11 [] []) (.lit (.bool true)) = true := by kernel_rfl
end Go.Proofs.YtpmdlaojndejfaaGreatDoor.E
