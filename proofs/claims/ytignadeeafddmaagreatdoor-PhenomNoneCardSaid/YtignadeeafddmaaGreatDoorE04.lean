/- The law PhenomNone, by the evaluator: its arguments are not looked at. -/
import Derived.Test.YtignadeeafddmaaGreatDoorE03
namespace Go.Proofs.YtignadeeafddmaaGreatDoor
open Go.Ev Go
set_option maxRecDepth 1000000
def anyPh : List AV := [.any, .a [.any, .any, .any, .any, .any, .any, .any]]
theorem evPhenomNone : isTrue (evF Tryz.prog (fOp Tryz.prog) orc 200 4 anyPh .e 8) = true := by decide +kernel
end Go.Proofs.YtignadeeafddmaaGreatDoor
