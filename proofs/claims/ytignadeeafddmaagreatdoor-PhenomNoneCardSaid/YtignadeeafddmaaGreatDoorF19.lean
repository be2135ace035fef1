/- Closed facts of the row and the card of PhenomNone, each by itself. -/
import Derived.Test.YtignadeeafddmaaGreatDoorRows
import Derived.Test.YtignadeeafddmaaGreatDoorChecked
import Derived.JoinedOf
import Derived.SevenTiedAt
import Derived.KernelRfl
namespace Go.Proofs.YtignadeeafddmaaGreatDoor
open Go
theorem phenomNone_named : Tryz.pinned.checked.prog.funcNamed Rows.phenomNoneRow.func = some 4 := by kernel_rfl
set_option maxHeartbeats 8000000 in
theorem phenomNone_facts : joinedFacts Tryz.pinned.checked.prog 4 Tryz.f4 Rows.phenomNoneSpec Rows.phenomNoneRow = true := by
  unfold joinedFacts
  simp only [Bool.and_eq_true]
  repeat' apply And.intro
  all_goals decide +kernel
theorem phenomNone_wf : Rows.phenomNoneRow.wfByText (OpenSpec.ofChange Rows.phenomNoneSpec) = true := by kernel_rfl
theorem phenomNone_goes : false = Rows.phenomNoneRow.goesBy Tryz.pinned.checked.prog := by kernel_rfl
theorem seat_main : Tryz.pinned.checked.prog.mainIs = some (true, "473864b382232a35800d5bf75206eae645fab30b608ceb992687eb1ba0c8ef74".toList) := by kernel_rfl
theorem seat_looks : true = Tryz.pinned.checked.prog.looks [] := by kernel_rfl
theorem phenomNone_stand : ([22, 54].all fun u => !Tryz.pinned.checked.prog.wantsStandIn u) = true := by kernel_rfl
end Go.Proofs.YtignadeeafddmaaGreatDoor
