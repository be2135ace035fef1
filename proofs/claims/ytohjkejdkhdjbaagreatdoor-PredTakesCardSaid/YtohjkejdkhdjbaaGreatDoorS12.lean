/- Walks: the program's reader of texts: read. -/
import Derived.Test.YtohjkejdkhdjbaaGreatDoorS11
namespace Go.Proofs.YtohjkejdkhdjbaaGreatDoor
open Go.RowKit Go
set_option linter.unusedVariables false
set_option linter.unusedSimpArgs false





set_option maxHeartbeats 1000000 in
set_option maxRecDepth 100000 in
theorem rd_row6 (d : Nat) (hd : d ≤ 100) (IH : Hid (∀ (rb : Nat) (s : ByteArray) (n : Nat) (w : World), s.size ≤ 1000 → n ≤ 32 → Rd w rb s n false → Lv rb w → Calls Tryz.prog 40 #[.pointer (some ⟨rb, 0, none⟩), .int .i64 d] w (RdEnds rb (rfE d s.data.toList) n s.size w))) (rb : Nat) (s : ByteArray) (n : Nat) (w : World) (hs : s.size ≤ 1000) (hn : n ≤ 32) (hr : Rd w rb s n false) (hL : Lv rb w) (hn0 : 1 ≤ n) (p1 : List.isPrefixOf [97, 108, 108] s.data.toList = false) (p2 : List.isPrefixOf [120, 60, 61] s.data.toList = false) (p3 : List.isPrefixOf [118, 60, 61] s.data.toList = false) (p4 : List.isPrefixOf [118, 37] s.data.toList = false) (p5 : List.isPrefixOf [33] s.data.toList = false) (p6 : List.isPrefixOf [38, 40] s.data.toList = true) :
    Calls Tryz.prog 40 #[.pointer (some ⟨rb, 0, none⟩), .int .i64 ((d : Int) + 1)] w (RdEnds rb ((rfParts (rfE d) (s.data.toList.drop 2)).map fun x => (.mk 6 0 0 x.1, x.2)) n s.size w) := by
  have hst := rd_start hr
  have hL0 := hL
  obtain ⟨c0, c1, c2, f⟩ := hr.cells
  have f1 := f 1
  have hlt := hr.lt
  have t0 : (((d : Int) + 1) == 0) = false := by simp; omega
  have t1 : decide ((n : Int) - 1 < 0) = false := by simp; omega
  have HL := Lib.hid hL
  have HW := Lib.hid hst
  clear hr hL f hst
  go_enter Tryz.func40, Tryz.ntmps40
  go_wp2_with fail
  clear c0 c1 c2 f1 t0 t1
  generalize (w.setCell ⟨rb, 1, none⟩ (.int .i64 ((n : Int) - 1))).alloc (.cells #[.int .i64 0, .int .u64 0, .int .u64 0, .slice none 0 0] 26) = W at HW ⊢
  refine (skip_no rb s ⟨#[97, 108, 108]⟩ _ _ _ HW.out.1 p1).mono ?_
  rintro e w1 ⟨rfl, hw1⟩
  rw [hw1]
  clear hw1 w1
  go_wp2_with fail
  refine (skip_no rb s ⟨#[120, 60, 61]⟩ _ _ _ HW.out.1 p2).mono ?_
  rintro e w1 ⟨rfl, hw1⟩
  rw [hw1]
  clear hw1 w1
  go_wp2_with fail
  refine (skip_no rb s ⟨#[118, 60, 61]⟩ _ _ _ HW.out.1 p3).mono ?_
  rintro e w1 ⟨rfl, hw1⟩
  rw [hw1]
  clear hw1 w1
  go_wp2_with fail
  refine (skip_no rb s ⟨#[118, 37]⟩ _ _ _ HW.out.1 p4).mono ?_
  rintro e w1 ⟨rfl, hw1⟩
  rw [hw1]
  clear hw1 w1
  go_wp2_with fail
  refine (skip_no rb s ⟨#[33]⟩ _ _ _ HW.out.1 p5).mono ?_
  rintro e w1 ⟨rfl, hw1⟩
  rw [hw1]
  clear hw1 w1
  go_wp2_with fail
  refine (skip_yes rb s ⟨#[38, 40]⟩ _ _ _ HW.out.1 p6).mono ?_
  rintro e w1 ⟨s', rfl, hs', hr1, hg1, hz⟩
  have hs3 : s'.size ≤ s.size := by rw [← ba_size, hs']; simp
  have HG1 := Lib.hid (HW.out.2.2.1.trans hg1)
  have HL1 := Lib.hid (HL.out.below (HG1.out.below (by omega)))
  have HR1 := Lib.hid (show Rd w1 rb s' ((n - 1 : Nat) : Int) false by rw [show ((n - 1 : Nat) : Int) = (n : Int) - 1 from by omega]; exact hr1)
  have H0 := Lib.hid (And.intro ((hg1.keep w.heap.size HW.out.2.2.2 (by omega)).trans HW.out.2.1) (And.intro hs' hz))
  have hlt1 : w.heap.size < w1.heap.size := by have := HW.out.2.2.2; omega
  clear hr1 hg1 hs' hz
  go_wp2_with fail
  refine (parts_of d hd IH rb s' (n - 1) w1 (by omega) (by omega) HR1.out HL1.out).mono ?_
  rintro e w2 ⟨es, v, s2, n2, bad, rfl, hv, hr2, hg2, hle2, hb1, hb2⟩
  obtain ⟨va, vc, rfl⟩ := owns_slice hv.choose_spec.1
  have hh := (hg2.keep w.heap.size hlt1 (by omega)).trans H0.out.1
  have hlt2 : w.heap.size < w2.heap.size := by have := hg2.size; omega
  have c : ∀ o, w2.cell? ⟨w.heap.size, o, none⟩ = (#[.int .i64 0, .int .u64 0, .int .u64 0, .slice none 0 0] : Array Value)[o]? := fun o => cell_of_row w2 _ o _ _ _ hh
  have fz : w2.frozen? ⟨w.heap.size, 0, none⟩ = false := by rw [frozen_of_row w2 _ 0 _ _ hh]
  have fz1 : w2.frozen? ⟨w.heap.size, 3, none⟩ = false := by rw [frozen_of_row w2 _ 3 _ _ hh]
  have H2 := Lib.hid (And.intro hv (And.intro hr2 (And.intro (HG1.out.trans hg2) (And.intro hb1 hb2))))
  clear hv hr2 hg2 hb1 hb2
  have hq1 := heap_set_at (o := 0) (v := .int .i64 6) (cs' := #[.int .i64 6, .int .u64 0, .int .u64 0, .slice none 0 0]) hh (by simp)
  have hq2 := heap_set_at (o := 3) (v := .slice va es.length vc) (cs' := #[.int .i64 6, .int .u64 0, .int .u64 0, .slice va es.length vc]) hq1 (by simp)
  have HS := Lib.hid hq2
  clear hq1 hq2 hh
  go_wp2_with (refine wpList_store_row rfl 26 (.tmp 4) (.tmp 96) rfl rfl w.heap.size rfl _ rfl 26 _ HS.out (by kernel_rfl) rfl (by simp [Value.oneCell']) ?_)
  refine bodyPost_ret (v := .agg #[.int .i64 6, .int .u64 0, .int .u64 0, .slice va es.length vc]) (results_cell_row rfl _ _ w.heap.size 26 _ _ _ rfl (setRow_heap _ _ _ _ _ _ HS.out) Tryz.underlying26 rfl (by kernel_rfl)) rfl ?_
  obtain ⟨hv, hr2, hg2, hb1, hb2⟩ := H2.out
  have hrow := Rd.row (Rd.cellAt (hr2.cellAt hlt 0 (.int .i64 6)) hlt 3 (.slice va es.length vc)) hlt #[.int .i64 6, .int .u64 0, .int .u64 0, .slice va es.length vc]
  have hgg := Rg.row ((hg2.cellAt (Nat.le_refl _) 0 (.int .i64 6)).cellAt (Nat.le_refl _) 3 (.slice va es.length vc)) (Nat.le_refl _) #[.int .i64 6, .int .u64 0, .int .u64 0, .slice va es.length vc]
  refine ⟨.mk 6 0 0 es, _, s2, n2, bad, rfl, rep_of_making hv (fun b hb _ => ?_) (fun b hb => by omega) (by omega) (by omega), hrow, hgg, by omega, fun hb => ?_, fun hb e r he => ?_⟩
  · rw [setRow_other _ _ _ _ (by omega)]
    exact (Below.heap_setCell (w2.setCell ⟨w.heap.size, 0, none⟩ (.int .i64 6)) ⟨w.heap.size, 3, none⟩ (.slice va es.length vc) b (by simp; omega)).trans (Below.heap_setCell w2 ⟨w.heap.size, 0, none⟩ (.int .i64 6) b (by simp; omega))
  · obtain ⟨h1, h2, h3⟩ := hb1 hb
    rw [H0.out.2.1] at h1
    refine ⟨?_, by simp [Ex.size]; omega, by simp [Ex.size]; omega⟩
    rw [show List.drop 2 s.data.toList = List.drop (ByteArray.mk #[38, 40]).size s.data.toList from rfl, h1]
    rfl
  · have hb3 := hb2 hb
    rw [H0.out.2.1] at hb3
    rw [show List.drop 2 s.data.toList = List.drop (ByteArray.mk #[38, 40]).size s.data.toList from rfl] at he
    simp only [Option.map_eq_some_iff] at he
    obtain ⟨⟨a, b⟩, h4, h5⟩ := he
    injection h5 with h5 _
    subst h5
    have := hb3 a b h4
    simp [Ex.size]; omega

set_option maxHeartbeats 1000000 in
set_option maxRecDepth 100000 in
theorem rd_row7 (d : Nat) (hd : d ≤ 100) (IH : Hid (∀ (rb : Nat) (s : ByteArray) (n : Nat) (w : World), s.size ≤ 1000 → n ≤ 32 → Rd w rb s n false → Lv rb w → Calls Tryz.prog 40 #[.pointer (some ⟨rb, 0, none⟩), .int .i64 d] w (RdEnds rb (rfE d s.data.toList) n s.size w))) (rb : Nat) (s : ByteArray) (n : Nat) (w : World) (hs : s.size ≤ 1000) (hn : n ≤ 32) (hr : Rd w rb s n false) (hL : Lv rb w) (hn0 : 1 ≤ n) (p1 : List.isPrefixOf [97, 108, 108] s.data.toList = false) (p2 : List.isPrefixOf [120, 60, 61] s.data.toList = false) (p3 : List.isPrefixOf [118, 60, 61] s.data.toList = false) (p4 : List.isPrefixOf [118, 37] s.data.toList = false) (p5 : List.isPrefixOf [33] s.data.toList = false) (p6 : List.isPrefixOf [38, 40] s.data.toList = false) (p7 : List.isPrefixOf [124, 40] s.data.toList = true) :
    Calls Tryz.prog 40 #[.pointer (some ⟨rb, 0, none⟩), .int .i64 ((d : Int) + 1)] w (RdEnds rb ((rfParts (rfE d) (s.data.toList.drop 2)).map fun x => (.mk 7 0 0 x.1, x.2)) n s.size w) := by
  have hst := rd_start hr
  have hL0 := hL
  obtain ⟨c0, c1, c2, f⟩ := hr.cells
  have f1 := f 1
  have hlt := hr.lt
  have t0 : (((d : Int) + 1) == 0) = false := by simp; omega
  have t1 : decide ((n : Int) - 1 < 0) = false := by simp; omega
  have HL := Lib.hid hL
  have HW := Lib.hid hst
  clear hr hL f hst
  go_enter Tryz.func40, Tryz.ntmps40
  go_wp2_with fail
  clear c0 c1 c2 f1 t0 t1
  generalize (w.setCell ⟨rb, 1, none⟩ (.int .i64 ((n : Int) - 1))).alloc (.cells #[.int .i64 0, .int .u64 0, .int .u64 0, .slice none 0 0] 26) = W at HW ⊢
  refine (skip_no rb s ⟨#[97, 108, 108]⟩ _ _ _ HW.out.1 p1).mono ?_
  rintro e w1 ⟨rfl, hw1⟩
  rw [hw1]
  clear hw1 w1
  go_wp2_with fail
  refine (skip_no rb s ⟨#[120, 60, 61]⟩ _ _ _ HW.out.1 p2).mono ?_
  rintro e w1 ⟨rfl, hw1⟩
  rw [hw1]
  clear hw1 w1
  go_wp2_with fail
  refine (skip_no rb s ⟨#[118, 60, 61]⟩ _ _ _ HW.out.1 p3).mono ?_
  rintro e w1 ⟨rfl, hw1⟩
  rw [hw1]
  clear hw1 w1
  go_wp2_with fail
  refine (skip_no rb s ⟨#[118, 37]⟩ _ _ _ HW.out.1 p4).mono ?_
  rintro e w1 ⟨rfl, hw1⟩
  rw [hw1]
  clear hw1 w1
  go_wp2_with fail
  refine (skip_no rb s ⟨#[33]⟩ _ _ _ HW.out.1 p5).mono ?_
  rintro e w1 ⟨rfl, hw1⟩
  rw [hw1]
  clear hw1 w1
  go_wp2_with fail
  refine (skip_no rb s ⟨#[38, 40]⟩ _ _ _ HW.out.1 p6).mono ?_
  rintro e w1 ⟨rfl, hw1⟩
  rw [hw1]
  clear hw1 w1
  go_wp2_with fail
  refine (skip_yes rb s ⟨#[124, 40]⟩ _ _ _ HW.out.1 p7).mono ?_
  rintro e w1 ⟨s', rfl, hs', hr1, hg1, hz⟩
  have hs3 : s'.size ≤ s.size := by rw [← ba_size, hs']; simp
  have HG1 := Lib.hid (HW.out.2.2.1.trans hg1)
  have HL1 := Lib.hid (HL.out.below (HG1.out.below (by omega)))
  have HR1 := Lib.hid (show Rd w1 rb s' ((n - 1 : Nat) : Int) false by rw [show ((n - 1 : Nat) : Int) = (n : Int) - 1 from by omega]; exact hr1)
  have H0 := Lib.hid (And.intro ((hg1.keep w.heap.size HW.out.2.2.2 (by omega)).trans HW.out.2.1) (And.intro hs' hz))
  have hlt1 : w.heap.size < w1.heap.size := by have := HW.out.2.2.2; omega
  clear hr1 hg1 hs' hz
  go_wp2_with fail
  refine (parts_of d hd IH rb s' (n - 1) w1 (by omega) (by omega) HR1.out HL1.out).mono ?_
  rintro e w2 ⟨es, v, s2, n2, bad, rfl, hv, hr2, hg2, hle2, hb1, hb2⟩
  obtain ⟨va, vc, rfl⟩ := owns_slice hv.choose_spec.1
  have hh := (hg2.keep w.heap.size hlt1 (by omega)).trans H0.out.1
  have hlt2 : w.heap.size < w2.heap.size := by have := hg2.size; omega
  have c : ∀ o, w2.cell? ⟨w.heap.size, o, none⟩ = (#[.int .i64 0, .int .u64 0, .int .u64 0, .slice none 0 0] : Array Value)[o]? := fun o => cell_of_row w2 _ o _ _ _ hh
  have fz : w2.frozen? ⟨w.heap.size, 0, none⟩ = false := by rw [frozen_of_row w2 _ 0 _ _ hh]
  have fz1 : w2.frozen? ⟨w.heap.size, 3, none⟩ = false := by rw [frozen_of_row w2 _ 3 _ _ hh]
  have H2 := Lib.hid (And.intro hv (And.intro hr2 (And.intro (HG1.out.trans hg2) (And.intro hb1 hb2))))
  clear hv hr2 hg2 hb1 hb2
  have hq1 := heap_set_at (o := 0) (v := .int .i64 7) (cs' := #[.int .i64 7, .int .u64 0, .int .u64 0, .slice none 0 0]) hh (by simp)
  have hq2 := heap_set_at (o := 3) (v := .slice va es.length vc) (cs' := #[.int .i64 7, .int .u64 0, .int .u64 0, .slice va es.length vc]) hq1 (by simp)
  have HS := Lib.hid hq2
  clear hq1 hq2 hh
  go_wp2_with (refine wpList_store_row rfl 26 (.tmp 4) (.tmp 96) rfl rfl w.heap.size rfl _ rfl 26 _ HS.out (by kernel_rfl) rfl (by simp [Value.oneCell']) ?_)
  refine bodyPost_ret (v := .agg #[.int .i64 7, .int .u64 0, .int .u64 0, .slice va es.length vc]) (results_cell_row rfl _ _ w.heap.size 26 _ _ _ rfl (setRow_heap _ _ _ _ _ _ HS.out) Tryz.underlying26 rfl (by kernel_rfl)) rfl ?_
  obtain ⟨hv, hr2, hg2, hb1, hb2⟩ := H2.out
  have hrow := Rd.row (Rd.cellAt (hr2.cellAt hlt 0 (.int .i64 7)) hlt 3 (.slice va es.length vc)) hlt #[.int .i64 7, .int .u64 0, .int .u64 0, .slice va es.length vc]
  have hgg := Rg.row ((hg2.cellAt (Nat.le_refl _) 0 (.int .i64 7)).cellAt (Nat.le_refl _) 3 (.slice va es.length vc)) (Nat.le_refl _) #[.int .i64 7, .int .u64 0, .int .u64 0, .slice va es.length vc]
  refine ⟨.mk 7 0 0 es, _, s2, n2, bad, rfl, rep_of_making hv (fun b hb _ => ?_) (fun b hb => by omega) (by omega) (by omega), hrow, hgg, by omega, fun hb => ?_, fun hb e r he => ?_⟩
  · rw [setRow_other _ _ _ _ (by omega)]
    exact (Below.heap_setCell (w2.setCell ⟨w.heap.size, 0, none⟩ (.int .i64 7)) ⟨w.heap.size, 3, none⟩ (.slice va es.length vc) b (by simp; omega)).trans (Below.heap_setCell w2 ⟨w.heap.size, 0, none⟩ (.int .i64 7) b (by simp; omega))
  · obtain ⟨h1, h2, h3⟩ := hb1 hb
    rw [H0.out.2.1] at h1
    refine ⟨?_, by simp [Ex.size]; omega, by simp [Ex.size]; omega⟩
    rw [show List.drop 2 s.data.toList = List.drop (ByteArray.mk #[124, 40]).size s.data.toList from rfl, h1]
    rfl
  · have hb3 := hb2 hb
    rw [H0.out.2.1] at hb3
    rw [show List.drop 2 s.data.toList = List.drop (ByteArray.mk #[124, 40]).size s.data.toList from rfl] at he
    simp only [Option.map_eq_some_iff] at he
    obtain ⟨⟨a, b⟩, h4, h5⟩ := he
    injection h5 with h5 _
    subst h5
    have := hb3 a b h4
    simp [Ex.size]; omega
end Go.Proofs.YtohjkejdkhdjbaaGreatDoor
