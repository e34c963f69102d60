/- MachineNone run by the abstract machine, the counts from 1 up. The kernel runs it: a minute and a half. -/
import Derived.Test.YtnekfilglnfgkaaGreatDoorAmRunN
import Derived.KernelRfl
set_option autoImplicit false
namespace Go.Proofs.YtnekfilglnfgkaaGreatDoor
open Go.AM
theorem run_pos : true = runN (.ofNat 1) (.ofNat 9223372036854775807) := by kernel_rfl
end Go.Proofs.YtnekfilglnfgkaaGreatDoor
