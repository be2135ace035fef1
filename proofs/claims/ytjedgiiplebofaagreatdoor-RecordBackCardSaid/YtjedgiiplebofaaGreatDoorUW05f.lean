/- Walks: the reference's Take, Parse. -/
import Derived.Test.YtjedgiiplebofaaGreatDoorUW05e
import Derived.Test.YtjedgiiplebofaaGreatDoorU1
import Derived.Test.YtjedgiiplebofaaGreatDoorU32
import Derived.Test.YtjedgiiplebofaaGreatDoorU11
namespace Go.Proofs.YtjedgiiplebofaaGreatDoor
open Go.RowKit Go
set_option linter.unusedVariables false
set_option linter.unusedSimpArgs false
def TakeEnds (o : Option (Ex × Nat)) (w : World) (e : Ending) (w' : World) : Prop :=
  ∃ v, e = .returned (.tuple #[v, .int .i64 ((o.map (·.2)).getD 0 : Nat), .int .i64 (codeT o)]) ∧ RepE w' (fun b => w.heap.size ≤ b) true ((o.map (·.1)).getD .zero) v ∧ Below w.heap.size w w'
theorem takeEnds_none {w w' : World} {o : Option (Ex × Nat)} (h : o = none) (hb : Below w.heap.size w w') : TakeEnds o w (.returned (.tuple #[.agg #[.int .i64 0, .int .u64 0, .int .u64 0, .slice none 0 0], .int .i64 0, .int .i64 40])) w' := by
  subst h
  exact ⟨_, rfl, rep_leaf (by omega) (by omega) (by omega) (by omega), hb⟩
end Go.Proofs.YtjedgiiplebofaaGreatDoor
