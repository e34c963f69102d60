/- MachineNone run by the abstract machine, the counts up to 0. The kernel runs it: a minute and a half. -/
import Derived.Test.YtnekfilglnfgkaaGreatDoorAmRunN
import Derived.KernelRfl
set_option autoImplicit false
namespace Go.Proofs.YtnekfilglnfgkaaGreatDoor
open Go.AM
theorem run_neg : true = runN (.negSucc 9223372036854775807) (.ofNat 0) := by kernel_rfl
end Go.Proofs.YtnekfilglnfgkaaGreatDoor
