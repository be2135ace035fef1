/- Closed facts of the row and the card of WireDecodes, each by itself. -/
import Derived.Test.YtlpgokcapdjgjaaGreatDoorRows
import Derived.Test.YtlpgokcapdjgjaaGreatDoorChecked
import Derived.JoinedOf
import Derived.SevenTiedAt
import Derived.KernelRfl
set_option maxHeartbeats 8000000
namespace Go.Proofs.YtlpgokcapdjgjaaGreatDoor
open Go
theorem jv : Tryz.pinned.checked.prog.funcNamed Rows.wireDecodesRow.func = some 4 := by kernel_rfl
theorem oK : joinedFacts Tryz.pinned.checked.prog 4 Tryz.f4 Rows.wireDecodesSpec Rows.wireDecodesRow = true := by
 unfold joinedFacts;simp only [Bool.and_eq_true]
 repeat' apply And.intro
 all_goals decide +kernel
theorem uh : Rows.wireDecodesRow.wfByText (OpenSpec.ofChange Rows.wireDecodesSpec) = true := by kernel_rfl
theorem pU : false = Rows.wireDecodesRow.goesBy Tryz.pinned.checked.prog := by kernel_rfl
theorem Dn : Tryz.pinned.checked.prog.mainIs = some (true, "b93610b3fa7d4fa11c66d052e10adb942f8d10353ecfea2a0b12dad2e2706bf5".toList) := by kernel_rfl
theorem Bh : true = Tryz.pinned.checked.prog.looks [] := by kernel_rfl
theorem oL : ([32].all fun u => !Tryz.pinned.checked.prog.wantsStandIn u) = true := by kernel_rfl
theorem xB : laidOutB Tryz.prog = true := by kernel_rfl
end Go.Proofs.YtlpgokcapdjgjaaGreatDoor
