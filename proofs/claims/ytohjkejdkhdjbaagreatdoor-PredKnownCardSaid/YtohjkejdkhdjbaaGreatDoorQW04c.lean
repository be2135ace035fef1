/- Walks: the table of kinds, and which trees are right (the program's). -/
import Derived.Test.YtohjkejdkhdjbaaGreatDoorQW04b
import Derived.Laws.EntriesVeiled
import Derived.WalkLawsBesides
namespace Go.Proofs.YtohjkejdkhdjbaaGreatDoor
open Go.RowKit Go
set_option linter.unusedVariables false
set_option linter.unusedSimpArgs false
/-- What kind n has in the table: how many numbers, least and most parts, and what it asks. -/
def kindNums (n : Int) : Int := if n = 2 then 1 else if n = 3 then 1 else if n = 4 then 2 else 0
def kindLeast (n : Int) : Int := if n = 5 then 1 else 0
def kindMost (n : Int) : Int := if n = 5 then 1 else if n = 6 then 32 else if n = 7 then 32 else 0
def kindFn (n : Int) (blk : Nat) : Value :=
  if n = 1 then .func (.func 103) #[] #[] else if n = 2 then .func (.func 104) #[] #[] else if n = 3 then .func (.func 105) #[] #[]
  else if n = 4 then .func (.func 106) #[] #[] else if n = 5 then .func (.func 107) #[] #[.pointer (some ⟨blk, 0, none⟩)]
  else if n = 6 then .func (.func 108) #[] #[.pointer (some ⟨blk, 0, none⟩)] else .func (.func 109) #[] #[.pointer (some ⟨blk, 0, none⟩)]
def OfEnds (n : Int) (w : World) (e : Ending) (w' : World) : Prop :=
  (1 ≤ n ∧ n ≤ 7 → ∃ blk, w.heap.size ≤ blk ∧ w'.heap[blk]? = some (.cells #[.func (.func 101) #[] #[]] 150 (0, 0)) ∧
    e = .returned (.tuple #[.agg #[.int .i64 (kindNums n), .int .i64 (kindLeast n), .int .i64 (kindMost n), kindFn n blk], .bool true])) ∧
  (¬ (1 ≤ n ∧ n ≤ 7) → e = .returned (.tuple #[.agg #[.int .i64 0, .int .i64 0, .int .i64 0, .nilFunc], .bool false])) ∧ Below w.heap.size w w'
def tableVal (blk : Nat) : Value := .agg #[.int .i64 0, .int .i64 0, .int .i64 0, .nilFunc,
  .int .i64 0, .int .i64 0, .int .i64 0, .func (.func 103) #[] #[],
  .int .i64 1, .int .i64 0, .int .i64 0, .func (.func 104) #[] #[],
  .int .i64 1, .int .i64 0, .int .i64 0, .func (.func 105) #[] #[],
  .int .i64 2, .int .i64 0, .int .i64 0, .func (.func 106) #[] #[],
  .int .i64 0, .int .i64 1, .int .i64 1, .func (.func 107) #[] #[.pointer (some ⟨blk, 0, none⟩)],
  .int .i64 0, .int .i64 0, .int .i64 32, .func (.func 108) #[] #[.pointer (some ⟨blk, 0, none⟩)],
  .int .i64 0, .int .i64 0, .int .i64 32, .func (.func 109) #[] #[.pointer (some ⟨blk, 0, none⟩)]]
set_option maxHeartbeats 1000000 in
theorem predTable_any (w : World) : Calls Tryz.prog 82 #[] w fun e w' => e = .returned (tableVal (w.heap.size + 1)) ∧ Below w.heap.size w w' ∧
    w'.heap[w.heap.size + 1]? = some (.cells #[.func (.func 101) #[] #[]] 150 (0, 0)) ∧ w.heap.size + 1 < w'.heap.size := by
  go_enter Tryz.func82, Tryz.ntmps82
  go_wp2_with (refine wpList_store_row rfl 129 (.tmp 0) (.tmp 12) rfl rfl w.heap.size rfl _ rfl 129 #[.int .i64 0, .int .i64 0, .int .i64 0, .nilFunc, .int .i64 0, .int .i64 0, .int .i64 0, .nilFunc, .int .i64 0, .int .i64 0, .int .i64 0, .nilFunc, .int .i64 0, .int .i64 0, .int .i64 0, .nilFunc, .int .i64 0, .int .i64 0, .int .i64 0, .nilFunc, .int .i64 0, .int .i64 0, .int .i64 0, .nilFunc, .int .i64 0, .int .i64 0, .int .i64 0, .nilFunc, .int .i64 0, .int .i64 0, .int .i64 0, .nilFunc] (heap_alloc2_old _ _ _) (by kernel_rfl) rfl (by simp [Value.oneCell']) ?_)
  refine bodyPost_ret (v := tableVal (w.heap.size + 1)) (results_cell_row rfl _ _ w.heap.size 129 _ _ _ rfl (setRow_heap _ _ _ _ _ _ (heap_alloc2_old _ _ _)) Tryz.underlying129 rfl (by kernel_rfl)) rfl
    ⟨rfl, below_setRow (((Below.refl _ _).alloc (Nat.le_refl _) _).alloc (by simp) _) _ _ (Nat.le_refl _), ?_, ?_⟩
  · rw [setRow_other _ _ _ _ (by omega)]; exact heap_alloc_at _ _ _ (by simp)
  · simp
theorem tableIdx (k : Nat) (h : 1 ≤ k ∧ k ≤ 7) (blk : Nat) (w : World) :
    (Instr.index 129 (tableVal blk) (.int .i64 k)).run Tryz.prog w = .ok (.agg #[.int .i64 (kindNums k), .int .i64 (kindLeast k), .int .i64 (kindMost k), kindFn k blk]) w := by
  have hc : k = 1 ∨ k = 2 ∨ k = 3 ∨ k = 4 ∨ k = 5 ∨ k = 6 ∨ k = 7 := by omega
  rcases hc with rfl | rfl | rfl | rfl | rfl | rfl | rfl
  all_goals (show _ = _; kernel_rfl)
theorem kindFn_func (k : Int) (blk : Nat) : ∃ fn caps, kindFn k blk = .func fn #[] caps := by
  unfold kindFn
  repeat' split
  all_goals exact ⟨_, _, rfl⟩
theorem predTable_has (w : World) : Calls Tryz.prog 82 #[] w fun e w' => ∃ T, e = .returned T ∧ (∀ (k : Nat), 1 ≤ k → k ≤ 7 → ∀ w'', ∃ fn caps, kindFn k (w.heap.size + 1) = .func fn #[] caps ∧
      (Instr.index 129 T (.int .i64 k)).run Tryz.prog w'' = .ok (.agg #[.int .i64 (kindNums k), .int .i64 (kindLeast k), .int .i64 (kindMost k), .func fn #[] caps]) w'') ∧ Below w.heap.size w w' ∧
    w'.heap[w.heap.size + 1]? = some (.cells #[.func (.func 101) #[] #[]] 150 (0, 0)) ∧ w.heap.size + 1 < w'.heap.size :=
  (predTable_any w).mono fun e w' ⟨he, h2, h3, h4⟩ => ⟨_, he, fun k h1 h7 w'' => by
    obtain ⟨fn, caps, hfn⟩ := kindFn_func k (w.heap.size + 1)
    exact ⟨fn, caps, hfn, by rw [← hfn]; exact tableIdx k ⟨h1, h7⟩ _ w''⟩, h2, h3, h4⟩
set_option maxHeartbeats 1000000 in
theorem predOf_in (k : Nat) (h1 : 1 ≤ k) (h7 : k ≤ 7) (w : World) : Calls Tryz.prog 64 #[.int .i64 k] w (OfEnds k w) := by
  have hd1 : decide ((k : Int) < 1) = false := by simp; omega
  have hd2 : decide ((8 : Int) ≤ (k : Int)) = false := by simp; omega
  go_enter Tryz.func64, Tryz.ntmps64
  go_wp2_with fail
  refine (predTable_has _).mono ?_
  rintro e w' ⟨T, rfl, hT, hb, hh, hz⟩
  have hi := hT k h1 h7
  clear hT
  simp only [World.size_alloc] at hi hh hz
  obtain ⟨hc, hf⟩ := bcell hb
  have hz0 : w.heap.size < w'.heap.size := by omega
  have HH := Lib.hid hh
  clear hh
  obtain ⟨fn, caps, hfn, _⟩ := hi w
  have HF := Lib.hid hfn
  have hi2 : ∀ w'', (Instr.index 129 T (.int .i64 k)).run Tryz.prog w'' = .ok (.agg #[.int .i64 (kindNums k), .int .i64 (kindLeast k), .int .i64 (kindMost k), .func fn #[] caps]) w'' := by
    intro w''
    obtain ⟨fn', caps', hfn', hr⟩ := hi w''
    rw [hfn] at hfn'
    simp only [Value.func.injEq, true_and] at hfn'
    obtain ⟨rfl, rfl⟩ := hfn'
    exact hr
  clear hfn hi
  go_wp2_with fail
  refine bodyPost_ret (v := .tuple #[.agg #[.int .i64 (kindNums k), .int .i64 (kindLeast k), .int .i64 (kindMost k), .func fn #[] caps], .bool true]) (by simp [results, Tryz.results64, go_sem, hc, hz0]) rfl ⟨fun _ => ⟨w.heap.size + 1 + 1, by omega, ?_, by rw [HF.out]⟩, fun h => absurd (by omega) h, ?_⟩
  · rw [Below.heap_setCell _ _ _ _ (by simp; omega), Below.heap_setCell _ _ _ _ (by simp; omega), Below.heap_setCell _ _ _ _ (by simp; omega), Below.heap_setCell _ _ _ _ (by simp; omega)]; exact HH.out
  · exact (((((Below.refl _ _).alloc (Nat.le_refl _) _).trans (hb.mono (by simp))).setCell (by simp) _).setCell (by simp) _).setCell (by simp) _ |>.setCell (by simp) _
set_option maxHeartbeats 1000000 in
theorem predOf_out (n : Int) (h : ¬ (1 ≤ n ∧ n ≤ 7)) (w : World) (h0 : -9223372036854775808 ≤ n) (h1 : n ≤ 9223372036854775807) : Calls Tryz.prog 64 #[.int .i64 n] w (OfEnds n w) := by
  have hp : OfEnds n w (.returned (.tuple #[.agg #[.int .i64 0, .int .i64 0, .int .i64 0, .nilFunc], .bool false])) (w.alloc (.cells #[.int .i64 0, .int .i64 0, .int .i64 0, .nilFunc] 102)) :=
    ⟨fun h' => absurd h' h, fun _ => rfl, (Below.refl _ _).alloc (Nat.le_refl _) _⟩
  have HP := Lib.hid hp
  clear hp
  by_cases hn : n < 1
  · clear h
    go_enter Tryz.func64, Tryz.ntmps64
    go_wp2_with fail
    exact bodyPost_ret (v := .tuple #[.agg #[.int .i64 0, .int .i64 0, .int .i64 0, .nilFunc], .bool false]) (by simp [results, Tryz.results64, go_sem]) rfl HP.out
  · have h8 : 8 ≤ n := by omega
    clear h
    go_enter Tryz.func64, Tryz.ntmps64
    go_wp2_with fail
    exact bodyPost_ret (v := .tuple #[.agg #[.int .i64 0, .int .i64 0, .int .i64 0, .nilFunc], .bool false]) (by simp [results, Tryz.results64, go_sem]) rfl HP.out
theorem predOf_any (n : Int) (w : World) (h0 : -9223372036854775808 ≤ n) (h1 : n ≤ 9223372036854775807) : Calls Tryz.prog 64 #[.int .i64 n] w (OfEnds n w) := by
  by_cases h : 1 ≤ n ∧ n ≤ 7
  · obtain ⟨k, rfl⟩ := Int.eq_ofNat_of_zero_le (show 0 ≤ n by omega)
    exact predOf_in k (by omega) (by omega) w
  · exact predOf_out n h w h0 h1
end Go.Proofs.YtohjkejdkhdjbaaGreatDoor
