/- Arguments that are a record, or what is asked of a machine (Ask): by their cells, with their trees. -/
import Derived.Test.YtafgdakieipgiaaGreatDoorO06
import Derived.Test.YtafgdakieipgiaaGreatDoorRows
namespace Go.Proofs.YtafgdakieipgiaaGreatDoor
open Go.ChangeShapes Go.WideShapes Go.ChangeAt Go.RowKit Go
set_option linter.unusedVariables false
set_option linter.unusedSimpArgs false
theorem recFields : ∃ fs : Array Field, Tryz.prog.underlying 30 = some (.struct fs) ∧ fs.toList.map (fun f => (f.type, f.offset)) = [(3, 0), (22, 1), (22, 2), (24, 3), (22, 5), (27, 6), (28, 10)] := ⟨_, Tryz.underlying30, by kernel_rfl⟩
theorem askFields : ∃ fs : Array Field, Tryz.prog.underlying 32 = some (.struct fs) ∧ fs.toList.map (fun f => (f.type, f.offset)) = [(22, 0), (22, 1), (24, 2), (27, 4)] := ⟨_, Tryz.underlying32, by kernel_rfl⟩
theorem cAsk : Tryz.prog.cellsOf 32 = 8 := by kernel_rfl
theorem cRec : Tryz.prog.cellsOf 30 = 11 := by kernel_rfl
theorem pTP' : Tryz.prog.cellsOf 27 = 4 := by kernel_rfl
section
variable {H : Type} {enc : TypeId × Value → H} {w : World} {sp : Nat → Bool} {held : Bool}
/-- The fields of a struct that came in, one by one. -/
theorem trod_fields {fuel : Nat} {T : TypeId} {fs : Array Field} {l : List (TypeId × Nat)} {cs : List Value} {x : DataW H × List MemPlace} (hu : Tryz.prog.underlying T = some (.struct fs)) (hf : fs.toList.map (fun f => (f.type, f.offset)) = l)
    (h : DataW.trod enc Tryz.prog w 0 sp held fuel T cs = some x) : cs.length = Tryz.prog.cellsOf T ∧ ∃ n, n < fuel ∧ ∀ i (hi : i < l.length), ∃ y, DataW.trod enc Tryz.prog w 0 sp held n l[i].1 ((cs.drop l[i].2).take (Tryz.prog.cellsOf l[i].1)) = some y := by
  obtain ⟨xs, n, rfl, rfl, hl, hxl, hall⟩ := DataW.trod_struct hu h
  refine ⟨hl, n, by omega, fun i hi => ?_⟩
  have hfl : fs.size = l.length := by have := congrArg List.length hf; simpa using this
  have hi' : i < fs.size := by omega
  have hfi : (fs[i].type, fs[i].offset) = l[i] := by
    have := List.getElem_of_eq hf (i := i) (by simpa using hi')
    simpa using this
  have ha := hall i fs[i] (by simp [hi'])
  rw [List.getElem?_eq_getElem (show i < xs.length by omega)] at ha
  rw [← hfi]
  exact ⟨_, ha⟩
set_option maxRecDepth 100000 in
theorem rec_tree {n : Nat} {cs : List Value} {y : DataW H × List MemPlace} (h : DataW.trod enc Tryz.prog w 0 sp held n 30 cs = some y) : ∃ c0 c1 c2 c3 c4 c5 c6 c7 c8 c9 c10 e, cs = [c0, c1, c2, c3, c4, c5, c6, c7, c8, c9, c10] ∧ RepE w (fun _ => True) false e (.agg #[c6, c7, c8, c9]) := by
  obtain ⟨fs, hu, hf⟩ := recFields
  obtain ⟨hl, m, hm, hall⟩ := trod_fields hu hf h
  rw [cRec] at hl
  match cs, hl with
  | [c0, c1, c2, c3, c4, c5, c6, c7, c8, c9, c10], _ =>
    obtain ⟨y5, a5⟩ := hall 5 (by simp)
    simp only [List.getElem_cons_zero, List.getElem_cons_succ, pTP', List.drop_zero, List.drop_succ_cons, List.take_succ_cons, List.take_zero] at a5
    obtain ⟨e, he⟩ := rep_of_trod m _ _ a5
    exact ⟨_, _, _, _, _, _, _, _, _, _, _, e, rfl, by simpa using he⟩
set_option maxRecDepth 100000 in
theorem ask_tree {n : Nat} {cs : List Value} {y : DataW H × List MemPlace} (h : DataW.trod enc Tryz.prog w 0 sp held n 32 cs = some y) : ∃ c0 c1 c2 c3 c4 c5 c6 c7 e, cs = [c0, c1, c2, c3, c4, c5, c6, c7] ∧ RepE w (fun _ => True) false e (.agg #[c4, c5, c6, c7]) := by
  obtain ⟨fs, hu, hf⟩ := askFields
  obtain ⟨hl, m, hm, hall⟩ := trod_fields hu hf h
  rw [cAsk] at hl
  match cs, hl with
  | [c0, c1, c2, c3, c4, c5, c6, c7], _ =>
    obtain ⟨y3, a3⟩ := hall 3 (by simp)
    simp only [List.getElem_cons_zero, List.getElem_cons_succ, pTP', List.drop_zero, List.drop_succ_cons, List.take_succ_cons, List.take_zero] at a3
    obtain ⟨e, he⟩ := rep_of_trod m _ _ a3
    exact ⟨_, _, _, _, _, _, _, _, e, rfl, by simpa using he⟩
end
end Go.Proofs.YtafgdakieipgiaaGreatDoor
