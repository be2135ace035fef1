/- The law JustNone, by the evaluator: of its arguments only the sign of the edge's first number is looked at. Here: negative. -/
import Derived.Test.YtignadeeafddmaaGreatDoorE05
namespace Go.Proofs.YtignadeeafddmaaGreatDoor
open Go.Ev Go
set_option maxRecDepth 1000000
theorem evJustNone' : isTrue (evF Tryz.prog (fOp Tryz.prog) orc 200 5 (anyEd (-9223372036854775808) (-1)) .e 8) = true := by decide +kernel
end Go.Proofs.YtignadeeafddmaaGreatDoor
