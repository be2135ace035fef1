/- Walks. -/
import Derived.Test.YtmgbhhmipmgcpaaGreatDoorY23
import Derived.Test.YtmgbhhmipmgcpaaGreatDoorYW29
namespace Go.Proofs.YtmgbhhmipmgcpaaGreatDoor
open Go.RowKit Go
set_option linter.unusedVariables false
set_option linter.unusedSimpArgs false
section
variable {W w w' : World} {a b : List UInt8} {tl : List (List UInt8)} {t : Nat} {vs : Nat → Value}
end
end Go.Proofs.YtmgbhhmipmgcpaaGreatDoor
