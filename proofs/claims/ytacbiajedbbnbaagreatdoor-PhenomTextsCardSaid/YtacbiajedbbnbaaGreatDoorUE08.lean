/- The examples of chapter 19, by the evaluator. -/
import Derived.Test.YtacbiajedbbnbaaGreatDoorUE03
import Derived.Test.YtacbiajedbbnbaaGreatDoorUEv9
namespace Go.Proofs.YtacbiajedbbnbaaGreatDoor
open Go.Ev Go
set_option maxRecDepth 1000000
theorem evWorks19 : isTrue (evF Tryz.prog (fOp Tryz.prog) orc 200 4 [] .e 8) = true := by decide +kernel
end Go.Proofs.YtacbiajedbbnbaaGreatDoor
