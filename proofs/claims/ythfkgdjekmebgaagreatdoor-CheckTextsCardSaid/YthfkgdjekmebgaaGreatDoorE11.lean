/- The law CheckTexts, by the evaluator: a reason by its number, or by its bounds; what its examples tell is told beforehand. -/
import Derived.Test.YthfkgdjekmebgaaGreatDoorE03
import Derived.Test.YthfkgdjekmebgaaGreatDoorEv9
namespace Go.Proofs.YthfkgdjekmebgaaGreatDoor
open Go.Ev Go
set_option maxRecDepth 1000000
def gTrue (args : List AV) : Option AV := match args with
  | [] => some (.b true)
  | _ :: _ => none
noncomputable def orcC : FuncId → Option Cl := fun f => Bool.rec (orc f) (some (gPure gTrue)) (Nat.beq f 5)
noncomputable def evCt (v : AV) : Bool := isTrue (evF Tryz.prog (fOp Tryz.prog) orcC 200 3 [v] .e 8)
theorem evCt_n : evCt (.r .i64 (-9223372036854775808) (-1)) = true := by decide +kernel
theorem evCt_b : evCt (.r .i64 9 9223372036854775807) = true := by decide +kernel
theorem evCt_0 : evCt (.i .i64 0) = true := by decide +kernel
theorem evCt_1 : evCt (.i .i64 1) = true := by decide +kernel
theorem evCt_2 : evCt (.i .i64 2) = true := by decide +kernel
theorem evCt_3 : evCt (.i .i64 3) = true := by decide +kernel
theorem evCt_4 : evCt (.i .i64 4) = true := by decide +kernel
theorem evCt_5 : evCt (.i .i64 5) = true := by decide +kernel
theorem evCt_6 : evCt (.i .i64 6) = true := by decide +kernel
theorem evCt_7 : evCt (.i .i64 7) = true := by decide +kernel
theorem evCt_8 : evCt (.i .i64 8) = true := by decide +kernel
end Go.Proofs.YthfkgdjekmebgaaGreatDoor
