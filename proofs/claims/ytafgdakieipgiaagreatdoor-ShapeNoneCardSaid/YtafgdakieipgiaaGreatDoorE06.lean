/- The examples of chapter 9, by the evaluator. -/
import Derived.Test.YtafgdakieipgiaaGreatDoorE03
import Derived.Test.YtafgdakieipgiaaGreatDoorEv9
namespace Go.Proofs.YtafgdakieipgiaaGreatDoor
open Go.Ev Go
set_option maxRecDepth 1000000
theorem evWorks9 : isTrue (evF Tryz.prog (fOp Tryz.prog) orc 200 6 [] .e 8) = true := by decide +kernel
end Go.Proofs.YtafgdakieipgiaaGreatDoor
