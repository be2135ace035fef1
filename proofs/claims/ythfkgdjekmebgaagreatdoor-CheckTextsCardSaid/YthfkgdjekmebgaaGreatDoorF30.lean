/- Closed facts of the row and the card of CheckTexts, each by itself. -/
import Derived.Test.YthfkgdjekmebgaaGreatDoorRows
import Derived.Test.YthfkgdjekmebgaaGreatDoorChecked
import Derived.JoinedOf
import Derived.SevenTiedAt
import Derived.KernelRfl
namespace Go.Proofs.YthfkgdjekmebgaaGreatDoor
open Go
theorem checkTexts_named : Tryz.pinned.checked.prog.funcNamed Rows.checkTextsRow.func = some 3 := by kernel_rfl
set_option maxHeartbeats 8000000 in
theorem checkTexts_facts : joinedFacts Tryz.pinned.checked.prog 3 Tryz.f3 Rows.checkTextsSpec Rows.checkTextsRow = true := by
  unfold joinedFacts
  simp only [Bool.and_eq_true]
  repeat' apply And.intro
  all_goals decide +kernel
theorem checkTexts_wf : Rows.checkTextsRow.wfByText (OpenSpec.ofChange Rows.checkTextsSpec) = true := by kernel_rfl
theorem checkTexts_goes : false = Rows.checkTextsRow.goesBy Tryz.pinned.checked.prog := by kernel_rfl
theorem seat_main : Tryz.pinned.checked.prog.mainIs = some (true, "f339d54987597adcf13a1bb392bfd83b9e0de5f59dc9447764ae325af7a6a5c4".toList) := by kernel_rfl
theorem seat_looks : true = Tryz.pinned.checked.prog.looks [] := by kernel_rfl
theorem checkTexts_stand : ([22].all fun u => !Tryz.pinned.checked.prog.wantsStandIn u) = true := by kernel_rfl
end Go.Proofs.YthfkgdjekmebgaaGreatDoor
