/- The law's answer at the empty history, by the evaluator. -/
import Derived.Test.YtacbiajedbbnbaaGreatDoorUE02a
import Derived.Test.YtacbiajedbbnbaaGreatDoorUEv9
import Derived.Test.YtacbiajedbbnbaaGreatDoorProg
namespace Go.Proofs.YtacbiajedbbnbaaGreatDoor
open Go.Ev Go
noncomputable def orc : FuncId → Option Cl := fun f => Bool.rec (Bool.rec (Bool.rec none (some gJoin) (Nat.beq f 16)) (some (gPure gIndex)) (Nat.beq f 151)) (some (gPure gCount)) (Nat.beq f 102)
def isTrue : Option Ou → Bool
  | some u => match u.v with
    | .b true => true
    | _ => false
  | none => false
end Go.Proofs.YtacbiajedbbnbaaGreatDoor
