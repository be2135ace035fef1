/- Walks. -/
import Derived.Test.YtlpgokcapdjgjaaGreatDoorY24
import Derived.Test.YtlpgokcapdjgjaaGreatDoorYV21
namespace Go.Proofs.YtlpgokcapdjgjaaGreatDoor
open Go.RowKit Go
set_option linter.unusedVariables false
set_option linter.unusedSimpArgs false
section
variable {g gw base j : Nat} {TR TE : TypeId} {rowf : Value → Array Value} {sa : Option Addr} {sc : Nat} {es : List Ent} {e : Ent} {A B C : ByteArray} {wr : World} {st : Nat} {vs : Nat → Value} {w : World}
end
end Go.Proofs.YtlpgokcapdjgjaaGreatDoor
