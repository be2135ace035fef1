/- Closed facts of the row and the card of PhenomTexts, each by itself. -/
import Derived.Test.YtacbiajedbbnbaaGreatDoorRows
import Derived.Test.YtacbiajedbbnbaaGreatDoorChecked
import Derived.JoinedOf
import Derived.SevenTiedAt
import Derived.KernelRfl
namespace Go.Proofs.YtacbiajedbbnbaaGreatDoor
open Go
theorem phenomTexts_named : Tryz.pinned.checked.prog.funcNamed Rows.phenomTextsRow.func = some 3 := by kernel_rfl
set_option maxHeartbeats 8000000 in
theorem phenomTexts_facts : joinedFacts Tryz.pinned.checked.prog 3 Tryz.f3 Rows.phenomTextsSpec Rows.phenomTextsRow = true := by
  unfold joinedFacts
  simp only [Bool.and_eq_true]
  repeat' apply And.intro
  all_goals decide +kernel
theorem phenomTexts_wf : Rows.phenomTextsRow.wfByText (OpenSpec.ofChange Rows.phenomTextsSpec) = true := by kernel_rfl
theorem phenomTexts_goes : false = Rows.phenomTextsRow.goesBy Tryz.pinned.checked.prog := by kernel_rfl
theorem seat_main : Tryz.pinned.checked.prog.mainIs = some (true, "178eb33c9f76f89b1e6ec82091838988f4291eade92f6b3f968a02d2c7d84cd2".toList) := by kernel_rfl
theorem seat_looks : true = Tryz.pinned.checked.prog.looks [] := by kernel_rfl
theorem phenomTexts_stand : ([26, 9].all fun u => !Tryz.pinned.checked.prog.wantsStandIn u) = true := by kernel_rfl
end Go.Proofs.YtacbiajedbbnbaaGreatDoor
