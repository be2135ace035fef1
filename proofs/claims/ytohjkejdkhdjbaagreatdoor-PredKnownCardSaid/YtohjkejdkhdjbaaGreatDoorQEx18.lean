/- A right predicate's text and bytes: how long. Plain Lean. -/
import Derived.Test.YtohjkejdkhdjbaaGreatDoorQT01
import Derived.Test.YtohjkejdkhdjbaaGreatDoorQ9
import Derived.Test.YtohjkejdkhdjbaaGreatDoorQ15
namespace Go.Proofs.YtohjkejdkhdjbaaGreatDoor
open Go.RowKit Go
set_option linter.unusedVariables false
set_option linter.unusedSimpArgs false
theorem Ex.text_len {w : World} {S : Nat → Prop} {own : Bool} {e : Ex} {v : Value} (h : RepE w S own e v) : e.text.length ≤ 50 * e.size := by
  have := e.told_len h.nums
  unfold Ex.text
  split
  · omega
  · simp
theorem Ex.text_pos {e : Ex} (h : 0 < e.put.length) : 0 < e.text.length := by
  unfold Ex.put at h
  unfold Ex.text
  split at h
  · rename_i hr
    rw [if_pos hr]
    have hr2 := hr
    simp only [Ex.right, Bool.and_eq_true] at hr2
    obtain ⟨c, t, h1, _⟩ := told_head e hr2.1.1
    rw [h1]; simp
  · simp at h
end Go.Proofs.YtohjkejdkhdjbaaGreatDoor
