/- The world that lays the rows' listed variables; arguments that are not looked at. -/
import Derived.Test.YthfkgdjekmebgaaGreatDoorE02
import Derived.Test.YthfkgdjekmebgaaGreatDoorRows
import Derived.WalkKit
import Derived.ProofKit
import Derived.MakeChecks
import Derived.Lay
import Derived.LaidOnce
import Derived.LaidLaws
import Derived.Carry
namespace Go.Proofs.YthfkgdjekmebgaaGreatDoor
open Go.ChangeShapes Go.WideShapes Go.ChangeAt Go.RowKit Go.Ev Go
set_option linter.unusedVariables false
set_option linter.unusedSectionVars false
section
variable [Env] {P : Program} {w : World} {r : Reach} {b : Nat} {t : TypeId} {v : Value}
theorem cell_one (h : Cell.okWide P w r b t v) : v.oneCell' = true := by
  cases v <;> try rfl
  all_goals
    exfalso
    unfold Cell.okWide Cell.ok at h
    generalize P.underlying t = o at h
    rcases o with _ | d
    · exact h.elim
    · cases d <;> exact h.elim
theorem any_agg (hE : ∀ k V, Env.E k V) {fs : Array Field} {n : Nat} (hu : P.underlying t = some (.struct fs)) (h : Value.okWide P w r b t v) (hn : P.cellsOf t = n) (m : Mp) : Rel m (.a (List.replicate n (.any 0))) v := by
  simp only [Value.okWide, hu] at h
  obtain ⟨cs, rfl, h2, ts, h3, h4, h5⟩ := h
  refine .a_of ⟨by simp [h2, hn], fun i y V hx hV => ?_⟩
  rw [List.getElem?_replicate] at hx
  split at hx
  · cases hx
    obtain ⟨u, _, hc⟩ := h5 i V (by rw [← Array.getElem?_toList]; exact hV)
    exact rel_any (hE _ _) (cell_one hc)
  · cases hx
theorem any_int (hE : ∀ k V, Env.E k V) {k : IntKind} (hu : P.underlying t = some (.int k)) (h : Value.okWide P w r b t v) (m : Mp) : Rel m (.any 0) v := by
  simp only [Value.okWide, hu] at h
  exact rel_any (hE _ _) (cell_one h)
end
theorem ev_laidOut : laidOutB Tryz.prog = true := by kernel_rfl
noncomputable def laidL : List (String × DataW Unit) := Rows.checkTextsRow.laid
noncomputable def laidW (os : Os) : World := World.laidAll Tryz.prog os laidL
theorem laidW_met (os : Os) (args : Array Value) : laidMetH Tryz.prog laidL ((laidW os).forCall (fun _ _ => 0) ⟨#[], args, []⟩).memory := by
  rw [MakeChecks.laidMetH_plain _ _ _ (by kernel_rfl)]
  exact laidMet_laidAll _ (by kernel_rfl) (by kernel_rfl)
theorem laidW_shaped (os : Os) (args : Array Value) : ((laidW os).forCall (fun _ _ => 0) ⟨#[], args, []⟩).Shaped Tryz.prog := World.shaped_of_ZipB (by kernel_rfl) (by kernel_rfl)
end Go.Proofs.YthfkgdjekmebgaaGreatDoor
