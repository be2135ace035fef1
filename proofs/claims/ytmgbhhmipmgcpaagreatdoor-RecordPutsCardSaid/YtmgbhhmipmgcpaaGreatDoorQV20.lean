/- Walks. -/
import Derived.Test.YtmgbhhmipmgcpaaGreatDoorQ48
import Derived.IntWalk
namespace Go.Proofs.YtmgbhhmipmgcpaaGreatDoor
open Go.RowKit Go
set_option linter.unusedVariables false
set_option linter.unusedSimpArgs false
theorem lI (c : UInt8) (l : List UInt8) : (cuts c l).length ≤ l.length + 1 := by
 induction l with
 | nil => simp [cuts]
 | cons b l ih =>
  simp only [cuts]
  split
  ·simp; omega
  ·split <;> rename_i h <;> rw [h] at ih <;> simp at ih ⊢ <;> omega
theorem ig (c : UInt8) (l : List UInt8) : ∀ x ∈ cuts c l, x.length ≤ l.length := by
 induction l with
 | nil => simp [cuts]
 | cons b l ih =>
  simp only [cuts]
  split
  ·intro x hx
   rcases List.mem_cons.1 hx with rfl | hx
   ·simp
   ·have := ih x hx; simp; omega
  ·split
   ·rename_i h; exact absurd h (jB _ _)
   ·rename_i y r h
    rw [h] at ih
    intro x hx
    rcases List.mem_cons.1 hx with rfl | hx
    ·have := ih y (by simp); simp; omega
    ·have := ih x (by simp [hx]); simp; omega
end Go.Proofs.YtmgbhhmipmgcpaaGreatDoor
