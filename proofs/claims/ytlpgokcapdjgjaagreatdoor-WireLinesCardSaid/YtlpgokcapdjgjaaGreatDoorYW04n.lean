/- Walks. -/
import Derived.Test.YtlpgokcapdjgjaaGreatDoorY47
import Derived.Test.YtlpgokcapdjgjaaGreatDoorY37
namespace Go.Proofs.YtlpgokcapdjgjaaGreatDoor
open Go.RowKit Go
set_option linter.unusedVariables false
set_option linter.unusedSimpArgs false
theorem Ed (w : World) (S : Nat → Prop) (cs : Array Value) (T : TypeId) (n cap : Nat) (hn : n ≤ cs.size) (hm : n ≤ cap) (hS : S w.heap.size) (h63 : n ≤ 1000) : Sl (w.alloc (.cells cs T)) S true 1 n (cs.toList.take n) (.slice (some ⟨w.heap.size, 0, none⟩) n cap) := by
 refine ⟨by simp; omega, by omega, _, _, rfl, hm, fun _ => ⟨_, _, rfl, hS, fun j hj => ?_⟩⟩
 have hj2 : j < cs.size := by simp at hj; omega
 rw [cell_of_row _ _ (0 + j) cs T (0, 0) (heap_alloc_new w _), frozen_of_row _ _ (0 + j) cs T (heap_alloc_new w _)]
 simp [hj2]
end Go.Proofs.YtlpgokcapdjgjaaGreatDoor
