/- Closed facts of the row and the card of RecordBack, each by itself. Ahead of it: Closed facts of the card of RecordLines, each by itself. -/
import Derived.Test.YtjedgiiplebofaaGreatDoorRows
import Derived.Test.YtjedgiiplebofaaGreatDoorChecked
import Derived.SevenTiedAt
import Derived.KernelRfl
import Derived.JoinedOf
namespace Go.Proofs.YtjedgiiplebofaaGreatDoor
open Go
theorem seat_main : Tryz.pinned.checked.prog.mainIs = some (true, "93fa27bcf676e62cd15026dd10a79cc8a391fb52a363c12857f759608c4800de".toList) := by kernel_rfl
theorem seat_looks : true = Tryz.pinned.checked.prog.looks [] := by kernel_rfl
end Go.Proofs.YtjedgiiplebofaaGreatDoor
namespace Go.Proofs.YtjedgiiplebofaaGreatDoor
open Go
theorem recordBack_named : Tryz.pinned.checked.prog.funcNamed Rows.recordBackRow.func = some 5 := by kernel_rfl
set_option maxHeartbeats 8000000 in
theorem recordBack_facts : joinedFacts Tryz.pinned.checked.prog 5 Tryz.f5 Rows.recordBackSpec Rows.recordBackRow = true := by
  unfold joinedFacts
  simp only [Bool.and_eq_true]
  repeat' apply And.intro
  all_goals decide +kernel
theorem recordBack_wf : Rows.recordBackRow.wfByText (OpenSpec.ofChange Rows.recordBackSpec) = true := by kernel_rfl
theorem seat_back : ([31, 31, 49, 9].all fun u => !Tryz.pinned.checked.prog.wantsStandIn u) = true := by kernel_rfl
theorem recordBack_goes : false = Rows.recordBackRow.goesBy Tryz.pinned.checked.prog := by kernel_rfl
end Go.Proofs.YtjedgiiplebofaaGreatDoor
