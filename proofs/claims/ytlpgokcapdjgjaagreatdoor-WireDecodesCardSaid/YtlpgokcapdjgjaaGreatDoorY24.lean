/- Walks. -/
import Derived.Test.YtlpgokcapdjgjaaGreatDoorY23
namespace Go.Proofs.YtlpgokcapdjgjaaGreatDoor
open Go.RowKit Go
set_option linter.unusedVariables false
set_option linter.unusedSimpArgs false
end Go.Proofs.YtlpgokcapdjgjaaGreatDoor
