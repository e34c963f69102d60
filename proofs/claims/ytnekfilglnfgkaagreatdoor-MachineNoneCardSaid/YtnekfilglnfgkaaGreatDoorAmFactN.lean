/- MachineNone: the closed facts of the row. -/
import Derived.Test.YtnekfilglnfgkaaGreatDoorRows
import Derived.ProofKit
import Derived.OpenShut
import Derived.Deep.DeepHandedRow
set_option autoImplicit false
namespace Go.Proofs.YtnekfilglnfgkaaGreatDoor.machineNone
theorem fact1 : true = (Rows.machineNoneRow.inPlace == Tryz.pinned.checked.prog.inPlace 4) := by kernel_rfl
theorem fact2 : true = (Rows.machineNoneRow.unfollowed == Tryz.pinned.checked.prog.unfollowed 4) := by kernel_rfl
theorem fact3 : true = (Rows.machineNoneRow.recurses == Tryz.pinned.checked.prog.recurses 4) := by kernel_rfl
theorem fact4 : true = (Rows.machineNoneRow.named == Tryz.pinned.checked.prog.varsNamed 4) := by kernel_rfl
theorem facts : joinedFacts Tryz.pinned.checked.prog 4 Tryz.f4 (OpenSpec.ofChange Rows.machineNoneSpec).bare Rows.machineNoneRow = true := by
  unfold joinedFacts
  rw [← fact1, ← fact2, ← fact3, ← fact4]
  exact Eq.symm (by kernel_rfl)
end Go.Proofs.YtnekfilglnfgkaaGreatDoor.machineNone
