/- The law's answer at the empty history, by the evaluator. -/
import Derived.Test.YthfkgdjekmebgaaGreatDoorE02a
import Derived.Test.YthfkgdjekmebgaaGreatDoorEv9
import Derived.Test.YthfkgdjekmebgaaGreatDoorProg
namespace Go.Proofs.YthfkgdjekmebgaaGreatDoor
open Go.Ev Go
noncomputable def orc : FuncId → Option Cl := fun f => Bool.rec (Bool.rec (Bool.rec none (some gJoin) (Nat.beq f 62)) (some (gPure gIndex)) (Nat.beq f 346)) (some (gPure gCount)) (Nat.beq f 342)
def isTrue : Option Ou → Bool
  | some u => match u.v with
    | .b true => true
    | _ => false
  | none => false
end Go.Proofs.YthfkgdjekmebgaaGreatDoor
