/- The law's answer at the empty history, by the evaluator. -/
import Derived.Test.YtmhiblmgadmgcaaDoorUE02a
import Derived.Test.YtmhiblmgadmgcaaDoorUEv9
import Derived.Test.YtmhiblmgadmgcaaDoorProg
namespace Go.Proofs.YtmhiblmgadmgcaaDoor
open Go.Ev Go
noncomputable def orc : FuncId → Option Cl := fun f => Bool.rec none (some gJoin) (Nat.beq f 37)
def isTrue : Option Ou → Bool
  | some u => match u.v with
    | .b true => true
    | _ => false
  | none => false
end Go.Proofs.YtmhiblmgadmgcaaDoor
