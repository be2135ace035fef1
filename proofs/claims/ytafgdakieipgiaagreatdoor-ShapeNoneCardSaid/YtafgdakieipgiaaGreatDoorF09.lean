/- Closed facts of the row and the card of ShapeNone, each by itself. -/
import Derived.Test.YtafgdakieipgiaaGreatDoorRows
import Derived.Test.YtafgdakieipgiaaGreatDoorChecked
import Derived.JoinedOf
import Derived.SevenTiedAt
import Derived.KernelRfl
namespace Go.Proofs.YtafgdakieipgiaaGreatDoor
open Go
theorem shapeNone_named : Tryz.pinned.checked.prog.funcNamed Rows.shapeNoneRow.func = some 3 := by kernel_rfl
set_option maxHeartbeats 8000000 in
theorem shapeNone_facts : joinedFacts Tryz.pinned.checked.prog 3 Tryz.f3 Rows.shapeNoneSpec Rows.shapeNoneRow = true := by
  unfold joinedFacts
  simp only [Bool.and_eq_true]
  repeat' apply And.intro
  all_goals decide +kernel
theorem shapeNone_wf : Rows.shapeNoneRow.wfByText (OpenSpec.ofChange Rows.shapeNoneSpec) = true := by kernel_rfl
theorem shapeNone_goes : false = Rows.shapeNoneRow.goesBy Tryz.pinned.checked.prog := by kernel_rfl
theorem seat_main : Tryz.pinned.checked.prog.mainIs = some (true, "e8ace3d24928facc4f1106bcf6601bc39e3f29dbcc77806c192acc6f0332f0f6".toList) := by kernel_rfl
theorem seat_looks : true = Tryz.pinned.checked.prog.looks [] := by kernel_rfl
theorem shapeNone_stand : ([30, 32].all fun u => !Tryz.pinned.checked.prog.wantsStandIn u) = true := by kernel_rfl
end Go.Proofs.YtafgdakieipgiaaGreatDoor
