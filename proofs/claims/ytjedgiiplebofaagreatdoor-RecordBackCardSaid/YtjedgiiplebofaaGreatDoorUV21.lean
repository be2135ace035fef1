/- Walks: a record as the reference has it. -/
import Derived.Test.YtjedgiiplebofaaGreatDoorU37
import Derived.Test.YtjedgiiplebofaaGreatDoorUW24c
import Derived.Test.YtjedgiiplebofaaGreatDoorU26
import Derived.Test.YtjedgiiplebofaaGreatDoorU29
import Derived.Deep.RegionLaw
namespace Go.Proofs.YtjedgiiplebofaaGreatDoor
open Go.RowKit Go
set_option linter.unusedVariables false
set_option linter.unusedSimpArgs false
section
variable {gb xb base j : Nat} {TR TE : TypeId} {hd10 : List Value} {sa : Option Addr} {sc : Nat} {es : List Ent} {e : Ent} {wr : World} {st : Nat} {vs : Nat → Value} {w : World}
end
end Go.Proofs.YtjedgiiplebofaaGreatDoor
