/- Walks: the table of kinds of records. -/
import Derived.Test.YtjedgiiplebofaaGreatDoorQW21
import Derived.Laws.EntriesVeiled
import Derived.WalkLawsBesides
import Derived.Laws.Rows
namespace Go.Proofs.YtjedgiiplebofaaGreatDoor
open Go.RowKit Go
set_option linter.unusedVariables false
set_option linter.unusedSimpArgs false
theorem recReads_any (w : World) : Calls Tryz.prog 159 #[] w fun e w' => e = .returned (.agg #[.string ⟨#[114, 101, 97, 100]⟩, .func (.func 215) #[] #[], .func (.func 216) #[] #[], .func (.func 217) #[] #[], .func (.func 219) #[] #[], .func (.func 220) #[] #[]]) ∧ Below w.heap.size w w' := by
  go_enter Tryz.func159, Tryz.ntmps159
  go_wp2_with (refine wpList_store_row rfl 152 (.tmp 0) (.tmp 1) rfl rfl w.heap.size rfl _ rfl 152 #[.string ⟨#[]⟩, .nilFunc, .nilFunc, .nilFunc, .nilFunc, .nilFunc] (heap_alloc_at _ _ _ rfl) (by kernel_rfl) rfl (by simp [Value.oneCell']) ?_)
  exact bodyPost_ret (v := .agg #[.string ⟨#[114, 101, 97, 100]⟩, .func (.func 215) #[] #[], .func (.func 216) #[] #[], .func (.func 217) #[] #[], .func (.func 219) #[] #[], .func (.func 220) #[] #[]]) (results_cell_row rfl _ _ w.heap.size 152 _ _ _ rfl (setRow_heap _ _ _ _ _ _ (heap_alloc_at _ _ _ rfl)) Tryz.underlying152 rfl (by kernel_rfl)) rfl ⟨rfl, below_setRow ((Below.refl _ _).alloc (Nat.le_refl _) _) _ _ (Nat.le_refl _)⟩
theorem recWrites_any (w : World) : Calls Tryz.prog 160 #[] w fun e w' => e = .returned (.agg #[.string ⟨#[119, 114, 105, 116, 101]⟩, .func (.func 222) #[] #[], .func (.func 223) #[] #[], .func (.func 224) #[] #[], .func (.func 225) #[] #[], .func (.func 226) #[] #[]]) ∧ Below w.heap.size w w' := by
  go_enter Tryz.func160, Tryz.ntmps160
  go_wp2_with (refine wpList_store_row rfl 152 (.tmp 0) (.tmp 1) rfl rfl w.heap.size rfl _ rfl 152 #[.string ⟨#[]⟩, .nilFunc, .nilFunc, .nilFunc, .nilFunc, .nilFunc] (heap_alloc_at _ _ _ rfl) (by kernel_rfl) rfl (by simp [Value.oneCell']) ?_)
  exact bodyPost_ret (v := .agg #[.string ⟨#[119, 114, 105, 116, 101]⟩, .func (.func 222) #[] #[], .func (.func 223) #[] #[], .func (.func 224) #[] #[], .func (.func 225) #[] #[], .func (.func 226) #[] #[]]) (results_cell_row rfl _ _ w.heap.size 152 _ _ _ rfl (setRow_heap _ _ _ _ _ _ (heap_alloc_at _ _ _ rfl)) Tryz.underlying152 rfl (by kernel_rfl)) rfl ⟨rfl, below_setRow ((Below.refl _ _).alloc (Nat.le_refl _) _) _ _ (Nat.le_refl _)⟩
theorem recDeletes_any (w : World) : Calls Tryz.prog 161 #[] w fun e w' => e = .returned (.agg #[.string ⟨#[100, 101, 108, 101, 116, 101]⟩, .func (.func 227) #[] #[], .func (.func 228) #[] #[], .func (.func 229) #[] #[], .func (.func 230) #[] #[], .func (.func 231) #[] #[]]) ∧ Below w.heap.size w w' := by
  go_enter Tryz.func161, Tryz.ntmps161
  go_wp2_with (refine wpList_store_row rfl 152 (.tmp 0) (.tmp 1) rfl rfl w.heap.size rfl _ rfl 152 #[.string ⟨#[]⟩, .nilFunc, .nilFunc, .nilFunc, .nilFunc, .nilFunc] (heap_alloc_at _ _ _ rfl) (by kernel_rfl) rfl (by simp [Value.oneCell']) ?_)
  exact bodyPost_ret (v := .agg #[.string ⟨#[100, 101, 108, 101, 116, 101]⟩, .func (.func 227) #[] #[], .func (.func 228) #[] #[], .func (.func 229) #[] #[], .func (.func 230) #[] #[], .func (.func 231) #[] #[]]) (results_cell_row rfl _ _ w.heap.size 152 _ _ _ rfl (setRow_heap _ _ _ _ _ _ (heap_alloc_at _ _ _ rfl)) Tryz.underlying152 rfl (by kernel_rfl)) rfl ⟨rfl, below_setRow ((Below.refl _ _).alloc (Nat.le_refl _) _) _ _ (Nat.le_refl _)⟩
theorem recPreds_any (w : World) : Calls Tryz.prog 162 #[] w fun e w' => e = .returned (.agg #[.string ⟨#[112, 114, 101, 100]⟩, .func (.func 232) #[] #[], .func (.func 233) #[] #[], .func (.func 236) #[] #[], .func (.func 239) #[] #[], .func (.func 241) #[] #[]]) ∧ Below w.heap.size w w' := by
  go_enter Tryz.func162, Tryz.ntmps162
  go_wp2_with (refine wpList_store_row rfl 152 (.tmp 0) (.tmp 1) rfl rfl w.heap.size rfl _ rfl 152 #[.string ⟨#[]⟩, .nilFunc, .nilFunc, .nilFunc, .nilFunc, .nilFunc] (heap_alloc_at _ _ _ rfl) (by kernel_rfl) rfl (by simp [Value.oneCell']) ?_)
  exact bodyPost_ret (v := .agg #[.string ⟨#[112, 114, 101, 100]⟩, .func (.func 232) #[] #[], .func (.func 233) #[] #[], .func (.func 236) #[] #[], .func (.func 239) #[] #[], .func (.func 241) #[] #[]]) (results_cell_row rfl _ _ w.heap.size 152 _ _ _ rfl (setRow_heap _ _ _ _ _ _ (heap_alloc_at _ _ _ rfl)) Tryz.underlying152 rfl (by kernel_rfl)) rfl ⟨rfl, below_setRow ((Below.refl _ _).alloc (Nat.le_refl _) _) _ _ (Nat.le_refl _)⟩
def kindsVal : Value := .agg #[.string ⟨#[]⟩, .nilFunc, .nilFunc, .nilFunc, .nilFunc, .nilFunc,
  .string ⟨#[98, 101, 103, 105, 110]⟩, .func (.func 153) #[] #[], .func (.func 154) #[] #[], .func (.func 155) #[] #[], .func (.func 156) #[] #[], .func (.func 157) #[] #[],
  .string ⟨#[114, 101, 97, 100]⟩, .func (.func 215) #[] #[], .func (.func 216) #[] #[], .func (.func 217) #[] #[], .func (.func 219) #[] #[], .func (.func 220) #[] #[],
  .string ⟨#[119, 114, 105, 116, 101]⟩, .func (.func 222) #[] #[], .func (.func 223) #[] #[], .func (.func 224) #[] #[], .func (.func 225) #[] #[], .func (.func 226) #[] #[],
  .string ⟨#[100, 101, 108, 101, 116, 101]⟩, .func (.func 227) #[] #[], .func (.func 228) #[] #[], .func (.func 229) #[] #[], .func (.func 230) #[] #[], .func (.func 231) #[] #[],
  .string ⟨#[112, 114, 101, 100]⟩, .func (.func 232) #[] #[], .func (.func 233) #[] #[], .func (.func 236) #[] #[], .func (.func 239) #[] #[], .func (.func 241) #[] #[],
  .string ⟨#[99, 111, 109, 109, 105, 116]⟩, .func (.func 153) #[] #[], .func (.func 154) #[] #[], .func (.func 155) #[] #[], .func (.func 156) #[] #[], .func (.func 157) #[] #[],
  .string ⟨#[97, 98, 111, 114, 116]⟩, .func (.func 153) #[] #[], .func (.func 154) #[] #[], .func (.func 155) #[] #[], .func (.func 156) #[] #[], .func (.func 157) #[] #[]]
/-- The cells of kind n. -/
def kindCells (n : Nat) : Array Value :=
  if n = 1 then #[.string ⟨#[98, 101, 103, 105, 110]⟩, .func (.func 153) #[] #[], .func (.func 154) #[] #[], .func (.func 155) #[] #[], .func (.func 156) #[] #[], .func (.func 157) #[] #[]] else if n = 2 then #[.string ⟨#[114, 101, 97, 100]⟩, .func (.func 215) #[] #[], .func (.func 216) #[] #[], .func (.func 217) #[] #[], .func (.func 219) #[] #[], .func (.func 220) #[] #[]] else if n = 3 then #[.string ⟨#[119, 114, 105, 116, 101]⟩, .func (.func 222) #[] #[], .func (.func 223) #[] #[], .func (.func 224) #[] #[], .func (.func 225) #[] #[], .func (.func 226) #[] #[]] else if n = 4 then #[.string ⟨#[100, 101, 108, 101, 116, 101]⟩, .func (.func 227) #[] #[], .func (.func 228) #[] #[], .func (.func 229) #[] #[], .func (.func 230) #[] #[], .func (.func 231) #[] #[]] else if n = 5 then #[.string ⟨#[112, 114, 101, 100]⟩, .func (.func 232) #[] #[], .func (.func 233) #[] #[], .func (.func 236) #[] #[], .func (.func 239) #[] #[], .func (.func 241) #[] #[]]
  else if n = 6 then #[.string ⟨#[99, 111, 109, 109, 105, 116]⟩, .func (.func 153) #[] #[], .func (.func 154) #[] #[], .func (.func 155) #[] #[], .func (.func 156) #[] #[], .func (.func 157) #[] #[]] else if n = 7 then #[.string ⟨#[97, 98, 111, 114, 116]⟩, .func (.func 153) #[] #[], .func (.func 154) #[] #[], .func (.func 155) #[] #[], .func (.func 156) #[] #[], .func (.func 157) #[] #[]] else #[.string ⟨#[]⟩, .nilFunc, .nilFunc, .nilFunc, .nilFunc, .nilFunc]
theorem kindsIdx (k : Nat) (h : k ≤ 7) (w : World) : (Instr.index 153 kindsVal (.int .i64 k)).run Tryz.prog w = .ok (.agg (kindCells k)) w := by
  have hc : k = 0 ∨ k = 1 ∨ k = 2 ∨ k = 3 ∨ k = 4 ∨ k = 5 ∨ k = 6 ∨ k = 7 := by omega
  rcases hc with rfl | rfl | rfl | rfl | rfl | rfl | rfl | rfl
  all_goals (show _ = _; kernel_rfl)
set_option maxHeartbeats 1000000 in
theorem recNamed_any (wd : ByteArray) (nb : Nat) (T : TypeId) (w : World) (hh : w.heap[nb]? = some (.cells #[.string ⟨#[]⟩, .func (.func 153) #[] #[], .func (.func 154) #[] #[], .func (.func 155) #[] #[], .func (.func 156) #[] #[], .func (.func 157) #[] #[]] T (0, 0))) :
    Calls Tryz.prog 158 #[.string wd, .pointer (some ⟨nb, 0, none⟩)] w fun e w' => e = .returned (.agg #[.string wd, .func (.func 153) #[] #[], .func (.func 154) #[] #[], .func (.func 155) #[] #[], .func (.func 156) #[] #[], .func (.func 157) #[] #[]]) ∧ Below w.heap.size w w' := by
  have hlt : nb < w.heap.size := (Array.getElem?_eq_some_iff.1 hh).1
  have c0 : w.cell? ⟨nb, 0, none⟩ = some (.string ⟨#[]⟩) := by rw [cell_of_row w _ 0 _ _ _ hh]; rfl
  have c1 : w.cell? ⟨nb, 1, none⟩ = some (.func (.func 153) #[] #[]) := by rw [cell_of_row w _ 1 _ _ _ hh]; rfl
  have c2 : w.cell? ⟨nb, 2, none⟩ = some (.func (.func 154) #[] #[]) := by rw [cell_of_row w _ 2 _ _ _ hh]; rfl
  have c3 : w.cell? ⟨nb, 3, none⟩ = some (.func (.func 155) #[] #[]) := by rw [cell_of_row w _ 3 _ _ _ hh]; rfl
  have c4 : w.cell? ⟨nb, 4, none⟩ = some (.func (.func 156) #[] #[]) := by rw [cell_of_row w _ 4 _ _ _ hh]; rfl
  have c5 : w.cell? ⟨nb, 5, none⟩ = some (.func (.func 157) #[] #[]) := by rw [cell_of_row w _ 5 _ _ _ hh]; rfl
  clear hh
  go_enter Tryz.func158, Tryz.ntmps158
  go_wp2_with fail
  exact bodyPost_ret (v := .agg #[.string wd, .func (.func 153) #[] #[], .func (.func 154) #[] #[], .func (.func 155) #[] #[], .func (.func 156) #[] #[], .func (.func 157) #[] #[]]) (results_cell_row rfl _ _ w.heap.size 152 _ _ _ rfl (heap_alloc2_old _ _ _) Tryz.underlying152 rfl (by kernel_rfl)) rfl
    ⟨rfl, ((Below.refl _ _).alloc (Nat.le_refl _) _).alloc (by simp) _⟩
set_option maxHeartbeats 1000000 in
theorem recKinds_any (w : World) : Calls Tryz.prog 82 #[] w fun e w' => e = .returned kindsVal ∧ Below w.heap.size w w' := by
  go_enter Tryz.func82, Tryz.ntmps82
  go_wp2_with (refine wpList_store_row rfl 152 (.tmp 1) (.tmp 3) rfl rfl (w.heap.size + 1) rfl _ rfl 152 #[.string ⟨#[]⟩, .nilFunc, .nilFunc, .nilFunc, .nilFunc, .nilFunc] (heap_alloc_at _ _ _ (by simp)) (by kernel_rfl) rfl (by simp [Value.oneCell']) ?_)
  obtain ⟨W, hW⟩ : ∃ W, W = (((w.alloc (.cells #[.string ⟨#[]⟩, .nilFunc, .nilFunc, .nilFunc, .nilFunc, .nilFunc, .string ⟨#[]⟩, .nilFunc, .nilFunc, .nilFunc, .nilFunc, .nilFunc, .string ⟨#[]⟩, .nilFunc, .nilFunc, .nilFunc, .nilFunc, .nilFunc, .string ⟨#[]⟩, .nilFunc, .nilFunc, .nilFunc, .nilFunc, .nilFunc, .string ⟨#[]⟩, .nilFunc, .nilFunc, .nilFunc, .nilFunc, .nilFunc, .string ⟨#[]⟩, .nilFunc, .nilFunc, .nilFunc, .nilFunc, .nilFunc, .string ⟨#[]⟩, .nilFunc, .nilFunc, .nilFunc, .nilFunc, .nilFunc, .string ⟨#[]⟩, .nilFunc, .nilFunc, .nilFunc, .nilFunc, .nilFunc] 153)).alloc (.cells #[.string ⟨#[]⟩, .nilFunc, .nilFunc, .nilFunc, .nilFunc, .nilFunc] 152)).setRow (w.heap.size + 1) #[.string ⟨#[]⟩, .func (.func 153) #[] #[], .func (.func 154) #[] #[], .func (.func 155) #[] #[], .func (.func 156) #[] #[], .func (.func 157) #[] #[]]) := ⟨_, rfl⟩
  have hN : W.heap[w.heap.size + 1]? = some (.cells #[.string ⟨#[]⟩, .func (.func 153) #[] #[], .func (.func 154) #[] #[], .func (.func 155) #[] #[], .func (.func 156) #[] #[], .func (.func 157) #[] #[]] 152 (0, 0)) := by rw [hW]; exact setRow_heap _ _ _ _ _ _ (heap_alloc_at _ _ _ (by simp))
  have hZ : W.heap[w.heap.size]? = some (.cells #[.string ⟨#[]⟩, .nilFunc, .nilFunc, .nilFunc, .nilFunc, .nilFunc, .string ⟨#[]⟩, .nilFunc, .nilFunc, .nilFunc, .nilFunc, .nilFunc, .string ⟨#[]⟩, .nilFunc, .nilFunc, .nilFunc, .nilFunc, .nilFunc, .string ⟨#[]⟩, .nilFunc, .nilFunc, .nilFunc, .nilFunc, .nilFunc, .string ⟨#[]⟩, .nilFunc, .nilFunc, .nilFunc, .nilFunc, .nilFunc, .string ⟨#[]⟩, .nilFunc, .nilFunc, .nilFunc, .nilFunc, .nilFunc, .string ⟨#[]⟩, .nilFunc, .nilFunc, .nilFunc, .nilFunc, .nilFunc, .string ⟨#[]⟩, .nilFunc, .nilFunc, .nilFunc, .nilFunc, .nilFunc] 153 (0, 0)) := by rw [hW]; exact (setRow_other _ _ _ _ (by simp)).trans (heap_alloc2_old _ _ _)
  have hB : Below w.heap.size w W := by rw [hW]; exact below_setRow (((Below.refl _ _).alloc (Nat.le_refl _) _).alloc (by simp) _) _ _ (by omega)
  rw [← hW]
  have lN : w.heap.size + 1 < W.heap.size := (Array.getElem?_eq_some_iff.1 hN).1
  have HW := Lib.hid (And.intro hN (And.intro hZ hB))
  clear hW hN hZ hB
  refine (recNamed_any ⟨#[98, 101, 103, 105, 110]⟩ (w.heap.size + 1) _ _ HW.out.1).mono ?_
  rintro e w1 ⟨rfl, hb1⟩
  go_wp2_with fail
  refine (recReads_any _).mono ?_
  rintro e w2 ⟨rfl, hb2⟩
  go_wp2_with fail
  refine (recWrites_any _).mono ?_
  rintro e w3 ⟨rfl, hb3⟩
  go_wp2_with fail
  refine (recDeletes_any _).mono ?_
  rintro e w4 ⟨rfl, hb4⟩
  go_wp2_with fail
  refine (recPreds_any _).mono ?_
  rintro e w5 ⟨rfl, hb5⟩
  have s1 := hb1.size
  have s2 := hb2.size
  have s3 := hb3.size
  have s4 := hb4.size
  have s5 := hb5.size
  have hb : Below W.heap.size W w5 := hb1.trans ((hb2.mono s1).trans ((hb3.mono (by omega)).trans ((hb4.mono (by omega)).trans (hb5.mono (by omega)))))
  have HB := Lib.hid hb
  clear hb hb1 hb2 hb3 hb4 hb5
  go_wp2_with fail
  refine (recNamed_any ⟨#[99, 111, 109, 109, 105, 116]⟩ (w.heap.size + 1) _ _ ((HB.out.block _ lN).trans HW.out.1)).mono ?_
  rintro e w6 ⟨rfl, hb6⟩
  have s6 := hb6.size
  have HB6 := Lib.hid (HB.out.trans (hb6.mono HB.out.size))
  clear hb6
  go_wp2_with fail
  refine (recNamed_any ⟨#[97, 98, 111, 114, 116]⟩ (w.heap.size + 1) _ _ ((HB6.out.block _ lN).trans HW.out.1)).mono ?_
  rintro e w7 ⟨rfl, hb7⟩
  have HB7 := Lib.hid (HB6.out.trans (hb7.mono HB6.out.size))
  clear hb7
  have HZ := Lib.hid ((HB7.out.block _ (by omega)).trans HW.out.2.1)
  go_wp2_with (refine wpList_store_row rfl 153 (.tmp 0) (.tmp 15) rfl rfl w.heap.size rfl _ rfl 153 _ HZ.out (by kernel_rfl) rfl (by simp [Value.oneCell']) ?_)
  exact bodyPost_ret (v := kindsVal) (results_cell_row rfl _ _ w.heap.size 153 _ _ _ rfl (setRow_heap _ _ _ _ _ _ HZ.out) Tryz.underlying153 rfl (by kernel_rfl)) rfl ⟨rfl, below_setRow (HW.out.2.2.trans (HB7.out.mono (by omega))) _ _ (Nat.le_refl _)⟩
theorem kindCells_size (n : Nat) : (kindCells n).size = 6 := by
  unfold kindCells
  repeat' split
  all_goals rfl
theorem kindCells_one (n : Nat) : ∀ v ∈ (kindCells n).toList, v.oneCell' = true := by
  unfold kindCells
  repeat' split
  all_goals simp [Value.oneCell']
/-- What 'of' tells. -/
def KindOf (n : Int) (w : World) (e : Ending) (w' : World) : Prop :=
  ((∃ k : Nat, n = (k : Int) ∧ 1 ≤ k ∧ k ≤ 7 ∧ e = .returned (.tuple #[.agg (kindCells k), .bool true])) ∨ (¬ (1 ≤ n ∧ n ≤ 7) ∧ e = .returned (.tuple #[.agg #[.string ⟨#[]⟩, .nilFunc, .nilFunc, .nilFunc, .nilFunc, .nilFunc], .bool false]))) ∧ Below w.heap.size w w'
set_option maxHeartbeats 1000000 in
theorem recOf_any (n : Int) (w : World) (h0 : -9223372036854775808 ≤ n) (h1 : n ≤ 9223372036854775807) : Calls Tryz.prog 92 #[.int .i64 n] w (KindOf n w) := by
  have hp : Below w.heap.size w (w.alloc (.cells #[.string ⟨#[]⟩, .nilFunc, .nilFunc, .nilFunc, .nilFunc, .nilFunc] 152)) := (Below.refl _ _).alloc (Nat.le_refl _) _
  have HP := Lib.hid hp
  clear hp
  by_cases hn : n < 1
  · have t1 : decide (n < 1) = true := by simp; omega
    go_enter Tryz.func92, Tryz.ntmps92
    go_wp2_with (refine wpList_store_row rfl 152 (.tmp 2) (.tmp 10) rfl rfl w.heap.size rfl _ rfl 152 #[.string ⟨#[]⟩, .nilFunc, .nilFunc, .nilFunc, .nilFunc, .nilFunc] (heap_alloc_at _ _ _ rfl) (by kernel_rfl) rfl (by simp [Value.oneCell']) ?_)
    exact bodyPost_ret (v := .tuple #[.agg #[.string ⟨#[]⟩, .nilFunc, .nilFunc, .nilFunc, .nilFunc, .nilFunc], .bool false]) (results_row2 rfl _ _ w.heap.size 152 _ _ _ _ rfl (setRow_heap _ _ _ _ _ _ (heap_alloc_at _ _ _ rfl)) Tryz.underlying152 rfl (by kernel_rfl) rfl) rfl ⟨.inr ⟨by omega, rfl⟩, below_setRow HP.out _ _ (Nat.le_refl _)⟩
  · obtain ⟨k, rfl⟩ := Int.eq_ofNat_of_zero_le (show 0 ≤ n by omega)
    have t1 : decide ((k : Int) < 1) = false := by simp; omega
    by_cases h7 : 7 < k
    · have t2 : decide ((7 : Int) < (k : Int)) = true := by simp; omega
      go_enter Tryz.func92, Tryz.ntmps92
      go_wp2_with (refine wpList_store_row rfl 152 (.tmp 2) (.tmp 10) rfl rfl w.heap.size rfl _ rfl 152 #[.string ⟨#[]⟩, .nilFunc, .nilFunc, .nilFunc, .nilFunc, .nilFunc] (heap_alloc_at _ _ _ rfl) (by kernel_rfl) rfl (by simp [Value.oneCell']) ?_)
      exact bodyPost_ret (v := .tuple #[.agg #[.string ⟨#[]⟩, .nilFunc, .nilFunc, .nilFunc, .nilFunc, .nilFunc], .bool false]) (results_row2 rfl _ _ w.heap.size 152 _ _ _ _ rfl (setRow_heap _ _ _ _ _ _ (heap_alloc_at _ _ _ rfl)) Tryz.underlying152 rfl (by kernel_rfl) rfl) rfl ⟨.inr ⟨by omega, rfl⟩, below_setRow HP.out _ _ (Nat.le_refl _)⟩
    · have t2 : decide ((7 : Int) < (k : Int)) = false := by simp; omega
      go_enter Tryz.func92, Tryz.ntmps92
      go_wp2_with fail
      refine (recKinds_any _).mono ?_
      rintro e w1 ⟨rfl, hb1⟩
      have hi := kindsIdx k (by omega)
      obtain ⟨T, hT⟩ : ∃ T, T = kindsVal := ⟨_, rfl⟩
      rw [← hT] at hi ⊢
      clear hT
      have hz : w1.heap[w.heap.size]? = some (.cells #[.string ⟨#[]⟩, .nilFunc, .nilFunc, .nilFunc, .nilFunc, .nilFunc] 152 (0, 0)) := (hb1.block _ (by simp)).trans (heap_alloc_at _ _ _ rfl)
      have HZ := Lib.hid (And.intro hz (HP.out.trans (hb1.mono (by simp))))
      clear hz hb1
      go_wp2_with (refine wpList_store_row rfl 152 (.tmp 2) (.tmp 13) rfl rfl w.heap.size rfl (kindCells k) rfl 152 #[.string ⟨#[]⟩, .nilFunc, .nilFunc, .nilFunc, .nilFunc, .nilFunc] HZ.out.1 (by rw [kindCells_size]; kernel_rfl) (by rw [kindCells_size]; rfl) (kindCells_one k) ?_)
      exact bodyPost_ret (v := .tuple #[.agg (kindCells k), .bool true]) (results_row2 rfl _ _ w.heap.size 152 _ _ _ _ rfl (setRow_heap _ _ _ _ _ _ HZ.out.1) Tryz.underlying152 rfl (by rw [kindCells_size]; kernel_rfl) rfl) rfl ⟨.inl ⟨k, rfl, by omega, by omega, rfl⟩, below_setRow HZ.out.2 _ _ (Nat.le_refl _)⟩
end Go.Proofs.YtjedgiiplebofaaGreatDoor
