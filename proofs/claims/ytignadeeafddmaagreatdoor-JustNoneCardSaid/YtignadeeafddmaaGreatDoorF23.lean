/- Closed facts of the row and the card of JustNone, each by itself. -/
import Derived.Test.YtignadeeafddmaaGreatDoorRows
import Derived.Test.YtignadeeafddmaaGreatDoorChecked
import Derived.JoinedOf
import Derived.SevenTiedAt
import Derived.KernelRfl
namespace Go.Proofs.YtignadeeafddmaaGreatDoor
open Go
theorem justNone_named : Tryz.pinned.checked.prog.funcNamed Rows.justNoneRow.func = some 5 := by kernel_rfl
set_option maxHeartbeats 8000000 in
theorem justNone_facts : joinedFacts Tryz.pinned.checked.prog 5 Tryz.f5 Rows.justNoneSpec Rows.justNoneRow = true := by
  unfold joinedFacts
  simp only [Bool.and_eq_true]
  repeat' apply And.intro
  all_goals decide +kernel
theorem justNone_wf : Rows.justNoneRow.wfByText (OpenSpec.ofChange Rows.justNoneSpec) = true := by kernel_rfl
theorem justNone_goes : false = Rows.justNoneRow.goesBy Tryz.pinned.checked.prog := by kernel_rfl
theorem just_main : Tryz.pinned.checked.prog.mainIs = some (true, "473864b382232a35800d5bf75206eae645fab30b608ceb992687eb1ba0c8ef74".toList) := by kernel_rfl
theorem just_looks : true = Tryz.pinned.checked.prog.looks [] := by kernel_rfl
theorem justNone_stand : ([65, 3].all fun u => !Tryz.pinned.checked.prog.wantsStandIn u) = true := by kernel_rfl
end Go.Proofs.YtignadeeafddmaaGreatDoor
