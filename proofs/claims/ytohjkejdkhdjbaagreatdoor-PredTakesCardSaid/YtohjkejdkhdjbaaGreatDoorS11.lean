/- Walks: the program's reader of texts: read. -/
import Derived.Test.YtohjkejdkhdjbaaGreatDoorS10
import Derived.Test.YtohjkejdkhdjbaaGreatDoorS05
namespace Go.Proofs.YtohjkejdkhdjbaaGreatDoor
open Go.RowKit Go
set_option linter.unusedVariables false
set_option linter.unusedSimpArgs false




set_option maxHeartbeats 1000000 in
set_option maxRecDepth 100000 in
theorem rd_none (d : Nat) (hd : d ≤ 100) (rb : Nat) (s : ByteArray) (n : Nat) (w : World) (hs : s.size ≤ 1000) (hn : n ≤ 32) (hr : Rd w rb s n false) (hL : Lv rb w) (hn0 : 1 ≤ n) (p1 : List.isPrefixOf [97, 108, 108] s.data.toList = false) (p2 : List.isPrefixOf [120, 60, 61] s.data.toList = false) (p3 : List.isPrefixOf [118, 60, 61] s.data.toList = false) (p4 : List.isPrefixOf [118, 37] s.data.toList = false) (p5 : List.isPrefixOf [33] s.data.toList = false) (p6 : List.isPrefixOf [38, 40] s.data.toList = false) (p7 : List.isPrefixOf [124, 40] s.data.toList = false) :
    Calls Tryz.prog 40 #[.pointer (some ⟨rb, 0, none⟩), .int .i64 ((d : Int) + 1)] w (RdEnds rb none n s.size w) := by
  have hst := rd_start hr
  have hL0 := hL
  obtain ⟨c0, c1, c2, f⟩ := hr.cells
  have f1 := f 1
  have hlt := hr.lt
  have t0 : (((d : Int) + 1) == 0) = false := by simp; omega
  have t1 : decide ((n : Int) - 1 < 0) = false := by simp; omega
  have HL := Lib.hid hL
  have HW := Lib.hid hst
  clear hr hL f hst
  go_enter Tryz.func40, Tryz.ntmps40
  go_wp2_with fail
  clear c0 c1 c2 f1 t0 t1
  generalize (w.setCell ⟨rb, 1, none⟩ (.int .i64 ((n : Int) - 1))).alloc (.cells #[.int .i64 0, .int .u64 0, .int .u64 0, .slice none 0 0] 26) = W at HW ⊢
  refine (skip_no rb s ⟨#[97, 108, 108]⟩ _ _ _ HW.out.1 p1).mono ?_
  rintro e w1 ⟨rfl, hw1⟩
  rw [hw1]
  clear hw1 w1
  go_wp2_with fail
  refine (skip_no rb s ⟨#[120, 60, 61]⟩ _ _ _ HW.out.1 p2).mono ?_
  rintro e w1 ⟨rfl, hw1⟩
  rw [hw1]
  clear hw1 w1
  go_wp2_with fail
  refine (skip_no rb s ⟨#[118, 60, 61]⟩ _ _ _ HW.out.1 p3).mono ?_
  rintro e w1 ⟨rfl, hw1⟩
  rw [hw1]
  clear hw1 w1
  go_wp2_with fail
  refine (skip_no rb s ⟨#[118, 37]⟩ _ _ _ HW.out.1 p4).mono ?_
  rintro e w1 ⟨rfl, hw1⟩
  rw [hw1]
  clear hw1 w1
  go_wp2_with fail
  refine (skip_no rb s ⟨#[33]⟩ _ _ _ HW.out.1 p5).mono ?_
  rintro e w1 ⟨rfl, hw1⟩
  rw [hw1]
  clear hw1 w1
  go_wp2_with fail
  refine (skip_no rb s ⟨#[38, 40]⟩ _ _ _ HW.out.1 p6).mono ?_
  rintro e w1 ⟨rfl, hw1⟩
  rw [hw1]
  clear hw1 w1
  go_wp2_with fail
  refine (skip_no rb s ⟨#[124, 40]⟩ _ _ _ HW.out.1 p7).mono ?_
  rintro e w1 ⟨rfl, hw1⟩
  rw [hw1]
  clear hw1 w1
  obtain ⟨e0, e1, e2, ef⟩ := HW.out.1.cells
  have ef2 := ef 2
  have hh := HW.out.2.1
  have hltW := HW.out.2.2.2
  have hrW := HW.out.1.lt
  have HS := Lib.hid ((Below.heap_setCell W ⟨rb, 2, none⟩ (.bool true) w.heap.size (by simp; omega)).trans hh)
  have c : ∀ o, W.cell? ⟨w.heap.size, o, none⟩ = (#[.int .i64 0, .int .u64 0, .int .u64 0, .slice none 0 0] : Array Value)[o]? := fun o => cell_of_row W _ o _ _ _ hh
  have hne : rb ≠ w.heap.size := by omega
  have hne2 : w.heap.size ≠ rb := by omega
  clear hh ef e0 e1
  go_wp2_with (refine wpList_store_row rfl 26 (.tmp 4) (.tmp 96) rfl rfl w.heap.size rfl _ rfl 26 _ HS.out (by kernel_rfl) rfl (by simp [Value.oneCell']) ?_)
  refine bodyPost_ret (v := .agg #[.int .i64 0, .int .u64 0, .int .u64 0, .slice none 0 0]) (results_cell_row rfl _ _ w.heap.size 26 _ _ _ rfl (setRow_heap _ _ _ _ _ _ HS.out) Tryz.underlying26 rfl (by kernel_rfl)) rfl ?_
  exact ⟨.mk 0 0 0 [], _, s, (n : Int) - 1, true, rfl, rep_leaf (by omega) (by omega) (by omega) (by omega), Rd.row (heap_set_at (o := 2) HW.out.1 (by simp)) hlt _, (HW.out.2.2.1.setCell _ _).row (Nat.le_refl _) _, Nat.le_refl _, (fun h => by cases h), fun _ e r h => by cases h⟩

set_option maxHeartbeats 1000000 in
set_option maxRecDepth 100000 in
theorem rd_deep (rb : Nat) (s : ByteArray) (n : Nat) (w : World) (hs : s.size ≤ 1000) (hn : n ≤ 32) (hr : Rd w rb s n false) (hL : Lv rb w) (o : Option (Ex × List UInt8)) (ho : ∀ e r, o = some (e, r) → n < e.size) :
    Calls Tryz.prog 40 #[.pointer (some ⟨rb, 0, none⟩), .int .i64 0] w (RdEnds rb o n s.size w) := by
  obtain ⟨c0, c1, c2, f⟩ := hr.cells
  have f1 := f 1
  have f2 := f 2
  have hlt := hr.lt
  have HR := Lib.hid hr
  have HO := Lib.hid ho
  clear hr hL f ho
  go_enter Tryz.func40, Tryz.ntmps40
  go_wp2_with fail
  refine bodyPost_ret (v := .agg #[.int .i64 0, .int .u64 0, .int .u64 0, .slice none 0 0]) (results_cell_row rfl _ _ w.heap.size 26 #[.int .i64 0, .int .u64 0, .int .u64 0, .slice none 0 0] (0, 0) _ rfl (heap_alloc_at _ _ _ (by simp)) Tryz.underlying26 rfl (by kernel_rfl)) rfl ?_
  exact ⟨.mk 0 0 0 [], _, s, (n : Int) - 1, true, rfl, rep_leaf (by omega) (by omega) (by omega) (by omega), (heap_alloc_lt _ _ _ (by simp; omega)).trans (heap_set_at (o := 2) (heap_set_at (o := 1) (v := .int .i64 ((n : Int) - 1)) (cs' := #[.string s, .int .i64 ((n : Int) - 1), .bool false]) HR.out (by simp)) (by simp)), (((Rg.refl rb w).setCell 1 _).setCell 2 _).trans (Rg.of_below ((Below.refl _ _).alloc (Nat.le_refl _) _)), Nat.le_refl _, (fun h => by cases h), fun _ => HO.out⟩

set_option maxHeartbeats 1000000 in
set_option maxRecDepth 100000 in
theorem rd_nil (d : Nat) (hd : d ≤ 100) (rb : Nat) (s : ByteArray) (n : Nat) (w : World) (hs : s.size ≤ 1000) (hn : n ≤ 32) (hr : Rd w rb s n false) (hL : Lv rb w) (hn0 : n = 0) (o : Option (Ex × List UInt8)) (ho : ∀ e r, o = some (e, r) → n < e.size) :
    Calls Tryz.prog 40 #[.pointer (some ⟨rb, 0, none⟩), .int .i64 ((d : Int) + 1)] w (RdEnds rb o n s.size w) := by
  obtain ⟨c0, c1, c2, f⟩ := hr.cells
  have f1 := f 1
  have f2 := f 2
  have hlt := hr.lt
  have t0 : (((d : Int) + 1) == 0) = false := by simp; omega
  have t1 : decide ((n : Int) - 1 < 0) = true := by simp; omega
  have HR := Lib.hid hr
  have HO := Lib.hid ho
  clear hr hL f ho
  have HN := Lib.hid hn0
  clear hn0
  go_enter Tryz.func40, Tryz.ntmps40
  go_wp2_with fail
  refine bodyPost_ret (v := .agg #[.int .i64 0, .int .u64 0, .int .u64 0, .slice none 0 0]) (results_cell_row rfl _ _ w.heap.size 26 #[.int .i64 0, .int .u64 0, .int .u64 0, .slice none 0 0] (0, 0) _ rfl (heap_alloc_at _ _ _ (by simp)) Tryz.underlying26 rfl (by kernel_rfl)) rfl ?_
  exact ⟨.mk 0 0 0 [], _, s, (n : Int) - 1, true, rfl, rep_leaf (by omega) (by omega) (by omega) (by omega), (heap_alloc_lt _ _ _ (by simp; omega)).trans (heap_set_at (o := 2) (heap_set_at (o := 1) (v := .int .i64 ((n : Int) - 1)) (cs' := #[.string s, .int .i64 ((n : Int) - 1), .bool false]) HR.out (by simp)) (by simp)), (((Rg.refl rb w).setCell 1 _).setCell 2 _).trans (Rg.of_below ((Below.refl _ _).alloc (Nat.le_refl _) _)), Nat.le_refl _, (fun h => by cases h), fun _ => HO.out⟩

set_option maxHeartbeats 1000000 in
set_option maxRecDepth 100000 in
theorem rd_not (d : Nat) (hd : d ≤ 100) (IH : Hid (∀ (rb : Nat) (s : ByteArray) (n : Nat) (w : World), s.size ≤ 1000 → n ≤ 32 → Rd w rb s n false → Lv rb w → Calls Tryz.prog 40 #[.pointer (some ⟨rb, 0, none⟩), .int .i64 d] w (RdEnds rb (rfE d s.data.toList) n s.size w))) (rb : Nat) (s : ByteArray) (n : Nat) (w : World) (hs : s.size ≤ 1000) (hn : n ≤ 32) (hr : Rd w rb s n false) (hL : Lv rb w) (hn0 : 1 ≤ n) (p1 : List.isPrefixOf [97, 108, 108] s.data.toList = false) (p2 : List.isPrefixOf [120, 60, 61] s.data.toList = false) (p3 : List.isPrefixOf [118, 60, 61] s.data.toList = false) (p4 : List.isPrefixOf [118, 37] s.data.toList = false) (p5 : List.isPrefixOf [33] s.data.toList = true) :
    Calls Tryz.prog 40 #[.pointer (some ⟨rb, 0, none⟩), .int .i64 ((d : Int) + 1)] w (RdEnds rb ((rfE d (s.data.toList.drop 1)).map fun x => (.mk 5 0 0 [x.1], x.2)) n s.size w) := by
  have hst := rd_start hr
  have hL0 := hL
  obtain ⟨c0, c1, c2, f⟩ := hr.cells
  have f1 := f 1
  have hlt := hr.lt
  have t0 : (((d : Int) + 1) == 0) = false := by simp; omega
  have t1 : decide ((n : Int) - 1 < 0) = false := by simp; omega
  have HL := Lib.hid hL
  have HW := Lib.hid hst
  clear hr hL f hst
  go_enter Tryz.func40, Tryz.ntmps40
  go_wp2_with fail
  clear c0 c1 c2 f1 t0 t1
  generalize (w.setCell ⟨rb, 1, none⟩ (.int .i64 ((n : Int) - 1))).alloc (.cells #[.int .i64 0, .int .u64 0, .int .u64 0, .slice none 0 0] 26) = W at HW ⊢
  refine (skip_no rb s ⟨#[97, 108, 108]⟩ _ _ _ HW.out.1 p1).mono ?_
  rintro e w1 ⟨rfl, hw1⟩
  rw [hw1]
  clear hw1 w1
  go_wp2_with fail
  refine (skip_no rb s ⟨#[120, 60, 61]⟩ _ _ _ HW.out.1 p2).mono ?_
  rintro e w1 ⟨rfl, hw1⟩
  rw [hw1]
  clear hw1 w1
  go_wp2_with fail
  refine (skip_no rb s ⟨#[118, 60, 61]⟩ _ _ _ HW.out.1 p3).mono ?_
  rintro e w1 ⟨rfl, hw1⟩
  rw [hw1]
  clear hw1 w1
  go_wp2_with fail
  refine (skip_no rb s ⟨#[118, 37]⟩ _ _ _ HW.out.1 p4).mono ?_
  rintro e w1 ⟨rfl, hw1⟩
  rw [hw1]
  clear hw1 w1
  go_wp2_with fail
  refine (skip_yes rb s ⟨#[33]⟩ _ _ _ HW.out.1 p5).mono ?_
  rintro e w1 ⟨s', rfl, hs', hr1, hg1, hz⟩
  have hs3 : s'.size ≤ s.size := by rw [← ba_size, hs']; simp
  have HG1 := Lib.hid (HW.out.2.2.1.trans hg1)
  have HL1 := Lib.hid (HL.out.below (HG1.out.below (by omega)))
  have HR1 := Lib.hid (show Rd w1 rb s' ((n - 1 : Nat) : Int) false by rw [show ((n - 1 : Nat) : Int) = (n : Int) - 1 from by omega]; exact hr1)
  have H0 := Lib.hid (And.intro ((hg1.keep w.heap.size HW.out.2.2.2 (by omega)).trans HW.out.2.1) (And.intro hs' hz))
  have hlt1 : w.heap.size < w1.heap.size := by have := HW.out.2.2.2; omega
  clear hr1 hg1 hs' hz
  go_wp2_with fail
  refine (IH.out rb s' (n - 1) w1 (by omega) (by omega) HR1.out HL1.out).mono ?_
  rintro e w2 ⟨t, v, s2, n2, bad, rfl, hv, hr2, hg2, hle2, hb1, hb2⟩
  obtain ⟨q0, q1, q2, q3, q4, q5, rfl⟩ := hv.conc
  have hh := (hg2.keep w.heap.size hlt1 (by omega)).trans H0.out.1
  have hlt2 : w.heap.size < w2.heap.size := by have := hg2.size; omega
  have hz2 := hg2.size
  have hrl := hr2.lt
  have hhn := (heap_alloc_lt w2 (.cells #[.int .i64 q0, .int .u64 q1, .int .u64 q2, .slice q3 q4 q5] 26) _ hlt2).trans hh
  have c : ∀ o, w2.cell? ⟨w.heap.size, o, none⟩ = (#[.int .i64 0, .int .u64 0, .int .u64 0, .slice none 0 0] : Array Value)[o]? := fun o => cell_of_row w2 _ o _ _ _ hh
  have fz : w2.frozen? ⟨w.heap.size, 0, none⟩ = false := by rw [frozen_of_row w2 _ 0 _ _ hh]
  have fz1 : w2.frozen? ⟨w.heap.size, 3, none⟩ = false := by rw [frozen_of_row w2 _ 3 _ _ hh]
  have H2 := Lib.hid (And.intro hv (And.intro hr2 (And.intro (HG1.out.trans hg2) (And.intro hb1 hb2))))
  clear hv hr2 hg2 hb1 hb2
  have hq1 := heap_set_at (o := 0) (v := .int .i64 5) (cs' := #[.int .i64 5, .int .u64 0, .int .u64 0, .slice none 0 0]) hh (by simp)
  have hq2 := heap_set_at (o := 3) (v := .slice (some ⟨w2.heap.size, 0, none⟩) 1 1) (cs' := #[.int .i64 5, .int .u64 0, .int .u64 0, .slice (some ⟨w2.heap.size, 0, none⟩) 1 1]) hq1 (by simp)
  have HS := Lib.hid ((heap_alloc_lt ((w2.setCell ⟨w.heap.size, 0, none⟩ (.int .i64 5)).setCell ⟨w.heap.size, 3, none⟩ (.slice (some ⟨w2.heap.size, 0, none⟩) 1 1)) (.cells #[.int .i64 q0, .int .u64 q1, .int .u64 q2, .slice q3 q4 q5] 26) w.heap.size (by simp; omega)).trans hq2)
  clear hq1 hq2
  clear hh hhn
  go_wp2_with (refine wpList_store_row rfl 26 (.tmp 4) (.tmp 96) rfl rfl w.heap.size rfl _ rfl 26 _ HS.out (by kernel_rfl) rfl (by simp [Value.oneCell']) ?_)
  refine bodyPost_ret (v := .agg #[.int .i64 5, .int .u64 0, .int .u64 0, .slice (some ⟨w2.heap.size, 0, none⟩) 1 1]) (results_cell_row rfl _ _ w.heap.size 26 _ _ _ rfl (setRow_heap _ _ _ _ _ _ HS.out) Tryz.underlying26 rfl (by kernel_rfl)) rfl ?_
  obtain ⟨hv, hr2, hg2, hb1, hb2⟩ := H2.out
  have hrow := Rd.row (((Rd.cellAt (hr2.cellAt hlt 0 (.int .i64 5)) hlt 3 (.slice (some ⟨w2.heap.size, 0, none⟩) 1 1))).below ((Below.refl _ _).alloc (Nat.le_refl _) (.cells #[.int .i64 q0, .int .u64 q1, .int .u64 q2, .slice q3 q4 q5] 26))) hlt #[.int .i64 5, .int .u64 0, .int .u64 0, .slice (some ⟨w2.heap.size, 0, none⟩) 1 1]
  have hgg := Rg.row ((((hg2.cellAt (Nat.le_refl _) 0 (.int .i64 5)).cellAt (Nat.le_refl _) 3 (.slice (some ⟨w2.heap.size, 0, none⟩) 1 1))).trans (Rg.of_below ((Below.refl _ _).alloc (Nat.le_refl _) (.cells #[.int .i64 q0, .int .u64 q1, .int .u64 q2, .slice q3 q4 q5] 26)))) (Nat.le_refl _) #[.int .i64 5, .int .u64 0, .int .u64 0, .slice (some ⟨w2.heap.size, 0, none⟩) 1 1]
  have hsl := sl4_lit ((w2.setCell ⟨w.heap.size, 0, none⟩ (.int .i64 5)).setCell ⟨w.heap.size, 3, none⟩ (.slice (some ⟨w2.heap.size, 0, none⟩) 1 1)) (fun b => w.heap.size + 1 ≤ b) (.int .i64 q0) (.int .u64 q1) (.int .u64 q2) (.slice q3 q4 q5) 26 (by simp; omega)
  have hsz : ((w2.setCell ⟨w.heap.size, 0, none⟩ (.int .i64 5)).setCell ⟨w.heap.size, 3, none⟩ (.slice (some ⟨w2.heap.size, 0, none⟩) 1 1)).heap.size = w2.heap.size := by simp
  rw [hsz] at hsl
  have hvv : RepE ((w2.setCell ⟨w.heap.size, 0, none⟩ (.int .i64 5)).setCell ⟨w.heap.size, 3, none⟩ (.slice (some ⟨w2.heap.size, 0, none⟩) 1 1)) (fun b => w.heap.size + 1 ≤ b) true t (.agg #[.int .i64 q0, .int .u64 q1, .int .u64 q2, .slice q3 q4 q5]) :=
    RepE.keep (w := w2) (fun b hb _ => (Below.heap_setCell (w2.setCell ⟨w.heap.size, 0, none⟩ (.int .i64 5)) ⟨w.heap.size, 3, none⟩ (.slice (some ⟨w2.heap.size, 0, none⟩) 1 1) b (by simp; omega)).trans (Below.heap_setCell w2 ⟨w.heap.size, 0, none⟩ (.int .i64 5) b (by simp; omega))) (fun b _ h => by omega) hv
  refine ⟨.mk 5 0 0 [t], _, s2, n2, bad, rfl, ?_, hrow, hgg, by omega, fun hb => ?_, fun hb e r he => ?_⟩
  · simp only [RepE]
    refine ⟨_, _, rfl, by omega, by omega, by omega, by omega, hsl.keep (by omega) (fun b hb _ => setRow_other _ _ _ _ (by omega)) (fun b _ h => by omega), RepEs.one (RepE.keep (w := (w2.setCell ⟨w.heap.size, 0, none⟩ (.int .i64 5)).setCell ⟨w.heap.size, 3, none⟩ (.slice (some ⟨w2.heap.size, 0, none⟩) 1 1)) (fun b hb hl => ?_) (fun b _ h => by omega) hvv)⟩
    rw [setRow_other _ _ _ _ (by omega), heap_alloc_lt _ _ _ hl]
  · obtain ⟨h1, h2, h3⟩ := hb1 hb
    rw [H0.out.2.1] at h1
    refine ⟨?_, by simp [Ex.size, Ex.sizes]; omega, by simp [Ex.size, Ex.sizes]; omega⟩
    rw [show List.drop 1 s.data.toList = List.drop (ByteArray.mk #[33]).size s.data.toList from rfl, h1]
    rfl
  · have hb3 := hb2 hb
    rw [H0.out.2.1] at hb3
    rw [show List.drop 1 s.data.toList = List.drop (ByteArray.mk #[33]).size s.data.toList from rfl] at he
    simp only [Option.map_eq_some_iff] at he
    obtain ⟨⟨a, b⟩, h4, h5⟩ := he
    injection h5 with h5 _
    subst h5
    have := hb3 a b h4
    simp [Ex.size, Ex.sizes]; omega
end Go.Proofs.YtohjkejdkhdjbaaGreatDoor
