/- A part put behind the others. -/
import Derived.Test.YtmgbhhmipmgcpaaGreatDoorQ35
import Derived.Test.YtmgbhhmipmgcpaaGreatDoorQ18
import Derived.Laws.OwnMore
namespace Go.Proofs.YtmgbhhmipmgcpaaGreatDoor
open Go.RowKit Go
set_option linter.unusedVariables false
set_option linter.unusedSimpArgs false
end Go.Proofs.YtmgbhhmipmgcpaaGreatDoor
