/- The law's answer at the empty history, by the evaluator. -/
import Derived.Test.YtafgdakieipgiaaGreatDoorE02a
import Derived.Test.YtafgdakieipgiaaGreatDoorEv9
import Derived.Test.YtafgdakieipgiaaGreatDoorProg
namespace Go.Proofs.YtafgdakieipgiaaGreatDoor
open Go.Ev Go
noncomputable def orc : FuncId → Option Cl := fun f => Bool.rec (Bool.rec (Bool.rec none (some gJoin) (Nat.beq f 120)) (some (gPure gIndex)) (Nat.beq f 207)) (some (gPure gCount)) (Nat.beq f 143)
def isTrue : Option Ou → Bool
  | some u => match u.v with
    | .b true => true
    | _ => false
  | none => false
end Go.Proofs.YtafgdakieipgiaaGreatDoor
