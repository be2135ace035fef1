/- Walks: a certificate put, by the reference. Ahead of it: Walks: a certificate's numbers, the reference's; its bytes. -/
import Derived.Test.YtagnalfkmdjajaaGreatDoorVC89
namespace Go.Proofs.YtagnalfkmdjajaaGreatDoor
open Go.RowKit Go
set_option linter.unusedVariables false
set_option linter.unusedSimpArgs false
theorem sl_litF (w : World) (cs : Array Value) (T : TypeId) (n : Nat) (hn : cs.size = n) (h63 : n ≤ 1000) : Sl (w.alloc (.cells cs T)) (fun _ => True) true 1 n cs.toList (.slice (some ⟨w.heap.size, 0, none⟩) n n) := by
  have h := sl_litC w (fun _ => True) cs T n n (by omega) (by omega) trivial h63
  rwa [List.take_of_length_le (by simp; omega)] at h
theorem sl_litG (w : World) (cs : Array Value) (T : TypeId) (n g : Nat) (hn : cs.size = n) (h63 : n ≤ 1000) (hg : g = w.heap.size) : Sl (w.alloc (.cells cs T)) (fun _ => True) true 1 n cs.toList (.slice (some ⟨g, 0, none⟩) n n) := by
  subst hg; exact sl_litF w cs T n hn h63
end Go.Proofs.YtagnalfkmdjajaaGreatDoor
namespace Go.Proofs.YtagnalfkmdjajaaGreatDoor
open Go.RowKit Go
set_option linter.unusedVariables false
set_option linter.unusedSimpArgs false
end Go.Proofs.YtagnalfkmdjajaaGreatDoor
