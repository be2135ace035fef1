/- The law JustNone, by the evaluator: of its arguments only the sign of the edge's first number is looked at. Here: not negative. -/
import Derived.Test.YtignadeeafddmaaGreatDoorE03
import Derived.Test.YtignadeeafddmaaGreatDoorEv9
namespace Go.Proofs.YtignadeeafddmaaGreatDoor
open Go.Ev Go
set_option maxRecDepth 1000000
def anyEd (lo hi : Int) : List AV := [.a (.r .i64 lo hi :: List.replicate 8 .any), .any]
theorem evJustNone : isTrue (evF Tryz.prog (fOp Tryz.prog) orc 200 5 (anyEd 0 9223372036854775807) .e 8) = true := by decide +kernel
end Go.Proofs.YtignadeeafddmaaGreatDoor
