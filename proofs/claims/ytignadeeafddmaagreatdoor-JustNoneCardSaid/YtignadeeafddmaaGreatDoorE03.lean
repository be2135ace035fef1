/- The law's answer at the empty history, by the evaluator. -/
import Derived.Test.YtignadeeafddmaaGreatDoorE02a
import Derived.Test.YtignadeeafddmaaGreatDoorEv9
import Derived.Test.YtignadeeafddmaaGreatDoorProg
namespace Go.Proofs.YtignadeeafddmaaGreatDoor
open Go.Ev Go
noncomputable def orc : FuncId → Option Cl := fun f => Bool.rec (Bool.rec (Bool.rec none (some gJoin) (Nat.beq f 97)) (some (gPure gIndex)) (Nat.beq f 374)) (some (gPure gCount)) (Nat.beq f 313)
def isTrue : Option Ou → Bool
  | some u => match u.v with
    | .b true => true
    | _ => false
  | none => false
end Go.Proofs.YtignadeeafddmaaGreatDoor
