/- The examples of chapter 30, by the evaluator: the last call, of check.Check, by an evaluation of its own. -/
import Derived.Test.YthfkgdjekmebgaaGreatDoorE14
namespace Go.Proofs.YthfkgdjekmebgaaGreatDoor
open Go.Ev Go
set_option maxRecDepth 1000000
def bs1 : List Nat := [1, 1, 1, 242, 178, 159, 144, 3, 3, 1, 5, 0, 81, 188, 130, 239, 1, 1, 2, 72, 227, 150, 9, 2, 4, 2, 5, 1, 1, 223, 173, 84, 203, 7, 1, 1, 64, 206, 18, 148, 6, 1, 2, 205, 245, 217, 12]
def bs2 : List Nat := [18, 2, 3, 0, 165, 199, 253, 243]
noncomputable def orcK : FuncId → Option Cl := fun f => Bool.rec (orc f) (some (gBB bs1 bs2 5 true)) (Nat.beq f 11)
theorem evCheck30 : isAns true (evF Tryz.prog (fOp Tryz.prog) orc 200 11 (bbArgs bs1 bs2) (bbH bs1 bs2 5) 8) = true := by decide +kernel
theorem evWorks30 : isTrue (evF Tryz.prog (fOp Tryz.prog) orcK 200 5 [] .e 8) = true := by decide +kernel
end Go.Proofs.YthfkgdjekmebgaaGreatDoor
