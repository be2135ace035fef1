/- Walks. -/
import Derived.Test.YtmgbhhmipmgcpaaGreatDoorY9
import Derived.Test.YtmgbhhmipmgcpaaGreatDoorY11
import Derived.Deep.DeepFit
namespace Go.Proofs.YtmgbhhmipmgcpaaGreatDoor
open Go.RowKit Go
set_option linter.unusedVariables false
set_option linter.unusedSimpArgs false
def Ex.text (e : Ex) : List UInt8 := if e.right then e.told else []
def strs (l : List (List UInt8)) : List Value := l.map fun x => .string ⟨x.toArray⟩
theorem fU (l : List (List UInt8)) : (strs l).length = l.length := by simp [strs]
end Go.Proofs.YtmgbhhmipmgcpaaGreatDoor
