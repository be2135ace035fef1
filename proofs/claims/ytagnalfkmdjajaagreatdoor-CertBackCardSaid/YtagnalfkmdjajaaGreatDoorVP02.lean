/- Walks: digits, cuts, values and versions as the references have them; a version's text. (Parts of S01, V20, V21, V24, W20, W50.) -/
import Derived.Test.YtagnalfkmdjajaaGreatDoorVP01
import Derived.Test.YtagnalfkmdjajaaGreatDoorV3
namespace Go.Proofs.YtagnalfkmdjajaaGreatDoor
open Go.RowKit Go
set_option linter.unusedVariables false
set_option linter.unusedSimpArgs false
theorem ownsRow_lit (w : World) (base : Nat) (cs : Array Value) (T : TypeId) (hb : base ≤ w.heap.size) (hm : cs.size ≤ 1000) : (w.alloc (.cells cs T)).ownsRow base T 1 (.slice (some ⟨w.heap.size, 0, none⟩) cs.size cs.size) cs.size cs.toList :=
  ⟨by simp, Or.inr ⟨w.heap.size, cs.size, cs, rfl, hb, heap_alloc_new w _, Nat.le_refl _, by unfold maxLen; omega, by omega, by simp [List.take_of_length_le]⟩⟩
theorem cuts_length_le (c : UInt8) (l : List UInt8) : (cuts c l).length ≤ l.length + 1 := by
  induction l with
  | nil => simp [cuts]
  | cons b l ih =>
    simp only [cuts]
    split
    · simp; omega
    · split <;> rename_i h <;> rw [h] at ih <;> simp at ih ⊢ <;> omega
theorem cuts_mem_length (c : UInt8) (l : List UInt8) : ∀ x ∈ cuts c l, x.length ≤ l.length := by
  induction l with
  | nil => simp [cuts]
  | cons b l ih =>
    simp only [cuts]
    split
    · intro x hx
      rcases List.mem_cons.1 hx with rfl | hx
      · simp
      · have := ih x hx; simp; omega
    · split
      · rename_i h; exact absurd h (cuts_ne _ _)
      · rename_i y r h
        rw [h] at ih
        intro x hx
        rcases List.mem_cons.1 hx with rfl | hx
        · have := ih y (by simp); simp; omega
        · have := ih x (by simp [hx]); simp; omega
end Go.Proofs.YtagnalfkmdjajaaGreatDoor
