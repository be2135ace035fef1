/- Closed facts of the card of RecordLines, each by itself. Ahead of it: Closed facts of the row of RecordLines, each by itself. -/
import Derived.Test.YtjedgiiplebofaaGreatDoorRows
import Derived.Test.YtjedgiiplebofaaGreatDoorChecked
import Derived.JoinedOf
import Derived.KernelRfl
import Derived.SevenTiedAt
namespace Go.Proofs.YtjedgiiplebofaaGreatDoor
open Go
theorem recordLines_named : Tryz.pinned.checked.prog.funcNamed Rows.recordLinesRow.func = some 3 := by kernel_rfl
set_option maxHeartbeats 8000000 in
theorem recordLines_facts : joinedFacts Tryz.pinned.checked.prog 3 Tryz.f3 Rows.recordLinesSpec Rows.recordLinesRow = true := by
  unfold joinedFacts
  simp only [Bool.and_eq_true]
  repeat' apply And.intro
  all_goals decide +kernel
end Go.Proofs.YtjedgiiplebofaaGreatDoor
namespace Go.Proofs.YtjedgiiplebofaaGreatDoor
open Go
theorem recordLines_wf : Rows.recordLinesRow.wfByText (OpenSpec.ofChange Rows.recordLinesSpec) = true := by kernel_rfl
theorem seat_main : Tryz.pinned.checked.prog.mainIs = some (true, "93fa27bcf676e62cd15026dd10a79cc8a391fb52a363c12857f759608c4800de".toList) := by kernel_rfl
theorem seat_looks : true = Tryz.pinned.checked.prog.looks [] := by kernel_rfl
theorem seat_string : (!Tryz.pinned.checked.prog.wantsStandIn 9) = true := by kernel_rfl
theorem recordLines_goes : false = Rows.recordLinesRow.goesBy Tryz.pinned.checked.prog := by kernel_rfl
end Go.Proofs.YtjedgiiplebofaaGreatDoor
