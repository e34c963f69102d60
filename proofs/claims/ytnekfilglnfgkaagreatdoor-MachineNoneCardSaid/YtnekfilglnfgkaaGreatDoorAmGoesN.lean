/- MachineNone: what the card asks of the program's calls. -/
import Derived.Test.YtnekfilglnfgkaaGreatDoorRows
import Derived.SevenTiedAt
set_option autoImplicit false
namespace Go.Proofs.YtnekfilglnfgkaaGreatDoor.machineNone
theorem goes : false = Rows.machineNoneRow.goesBy Tryz.pinned.checked.prog := by kernel_rfl
end Go.Proofs.YtnekfilglnfgkaaGreatDoor.machineNone
