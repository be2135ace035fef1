/- Walks: the reference's take. -/
import Derived.Test.YtjedgiiplebofaaGreatDoorU43
import Derived.Test.YtjedgiiplebofaaGreatDoorU1
import Derived.Test.YtjedgiiplebofaaGreatDoorU11
namespace Go.Proofs.YtjedgiiplebofaaGreatDoor
open Go.RowKit Go
set_option linter.unusedVariables false
set_option linter.unusedSimpArgs false
end Go.Proofs.YtjedgiiplebofaaGreatDoor
