/- The chapter's examples: reckoned by the kernel, and kept. -/
import Derived.Test.YtpmdlaojndejfaaGreatDoorKa
namespace Go.Proofs.YtpmdlaojndejfaaGreatDoor.E
open Go
set_option maxRecDepth 1000000
theorem works_true (m : Int) : ansV ((runM tab1 (env m) 60).call 15 [] []) (.lit (.bool true)) = true := by kernel_rfl
def tab2 : Tab := Tab.add tab1 15 [] (.lit (.bool true))
theorem tab2_sound (m : Int) : TabSound (env m) tab2 := TabSound.add (env_sound m) (env_fill m) (tab1_sound m) (works_true m)
end Go.Proofs.YtpmdlaojndejfaaGreatDoor.E
