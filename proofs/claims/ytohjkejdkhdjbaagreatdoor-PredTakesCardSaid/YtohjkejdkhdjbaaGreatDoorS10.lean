/- Walks: the program's reader of texts: read. -/
import Derived.Test.YtohjkejdkhdjbaaGreatDoorS09
namespace Go.Proofs.YtohjkejdkhdjbaaGreatDoor
open Go.RowKit Go
set_option linter.unusedVariables false
set_option linter.unusedSimpArgs false


theorem Rg.row {rb b : Nat} {w W : World} (h : Rg rb w W) (hb : w.heap.size ≤ b) (cs : Array Value) : Rg rb w (W.setRow b cs) :=
  ⟨h.os, h.tape, h.output, by simpa [World.setRow] using h.size, fun k hk hn => (setRow_other _ _ _ _ (by omega)).trans (h.keep k hk hn)⟩
theorem Rg.cellAt {rb b : Nat} {w W : World} (h : Rg rb w W) (hb : w.heap.size ≤ b) (o : Nat) (v : Value) : Rg rb w (W.setCell ⟨b, o, none⟩ v) :=
  ⟨h.os, h.tape, h.output, by simpa using h.size, fun k hk hn => (Below.heap_setCell _ _ _ _ (by simp; omega)).trans (h.keep k hk hn)⟩
theorem Rd.row {rb b : Nat} {W : World} {s : ByteArray} {n : Int} {bad : Bool} (h : Rd W rb s n bad) (hb : rb < b) (cs : Array Value) : Rd (W.setRow b cs) rb s n bad := (setRow_other _ _ _ _ (by omega)).trans h
theorem Rd.cellAt {rb b : Nat} {W : World} {s : ByteArray} {n : Int} {bad : Bool} (h : Rd W rb s n bad) (hb : rb < b) (o : Nat) (v : Value) : Rd (W.setCell ⟨b, o, none⟩ v) rb s n bad := (Below.heap_setCell _ _ _ _ (by simp; omega)).trans h
/-- Behind 'nodes--', with p made. -/
theorem rd_start {rb : Nat} {s : ByteArray} {n : Nat} {w : World} (hr : Rd w rb s n false) :
    Rd ((w.setCell ⟨rb, 1, none⟩ (.int .i64 ((n : Int) - 1))).alloc (.cells #[.int .i64 0, .int .u64 0, .int .u64 0, .slice none 0 0] 26)) rb s ((n : Int) - 1) false ∧
    ((w.setCell ⟨rb, 1, none⟩ (.int .i64 ((n : Int) - 1))).alloc (.cells #[.int .i64 0, .int .u64 0, .int .u64 0, .slice none 0 0] 26)).heap[w.heap.size]? = some (.cells #[.int .i64 0, .int .u64 0, .int .u64 0, .slice none 0 0] 26) ∧
    Rg rb w ((w.setCell ⟨rb, 1, none⟩ (.int .i64 ((n : Int) - 1))).alloc (.cells #[.int .i64 0, .int .u64 0, .int .u64 0, .slice none 0 0] 26)) ∧ w.heap.size < ((w.setCell ⟨rb, 1, none⟩ (.int .i64 ((n : Int) - 1))).alloc (.cells #[.int .i64 0, .int .u64 0, .int .u64 0, .slice none 0 0] 26)).heap.size := by
  have hlt := hr.lt
  refine ⟨(heap_alloc_lt _ _ _ (by simp; omega)).trans (heap_set_at (o := 1) hr (by simp)), heap_alloc_at _ _ _ (by simp), ((Rg.refl rb w).setCell 1 _).trans (Rg.of_below ((Below.refl _ _).alloc (Nat.le_refl _) _)), by simp⟩

set_option maxHeartbeats 1000000 in
set_option maxRecDepth 100000 in
theorem rd_all (d : Nat) (hd : d ≤ 100) (rb : Nat) (s : ByteArray) (n : Nat) (w : World) (hs : s.size ≤ 1000) (hn : n ≤ 32) (hr : Rd w rb s n false) (hL : Lv rb w) (hn0 : 1 ≤ n) (p1 : List.isPrefixOf [97, 108, 108] s.data.toList = true) :
    Calls Tryz.prog 40 #[.pointer (some ⟨rb, 0, none⟩), .int .i64 ((d : Int) + 1)] w (RdEnds rb (some (.mk 1 0 0 [], s.data.toList.drop 3)) n s.size w) := by
  have hst := rd_start hr
  have hL0 := hL
  obtain ⟨c0, c1, c2, f⟩ := hr.cells
  have f1 := f 1
  have hlt := hr.lt
  have t0 : (((d : Int) + 1) == 0) = false := by simp; omega
  have t1 : decide ((n : Int) - 1 < 0) = false := by simp; omega
  have HL := Lib.hid hL
  have HW := Lib.hid hst
  clear hr hL f hst
  go_enter Tryz.func40, Tryz.ntmps40
  go_wp2_with fail
  clear c0 c1 c2 f1 t0 t1
  generalize (w.setCell ⟨rb, 1, none⟩ (.int .i64 ((n : Int) - 1))).alloc (.cells #[.int .i64 0, .int .u64 0, .int .u64 0, .slice none 0 0] 26) = W at HW ⊢
  refine (skip_yes rb s ⟨#[97, 108, 108]⟩ _ _ _ HW.out.1 p1).mono ?_
  rintro e w1 ⟨s', rfl, hs', hr1, hg1, hz⟩
  have hh := (hg1.keep w.heap.size HW.out.2.2.2 (by omega)).trans HW.out.2.1
  have c : ∀ o, w1.cell? ⟨w.heap.size, o, none⟩ = (#[.int .i64 0, .int .u64 0, .int .u64 0, .slice none 0 0] : Array Value)[o]? := fun o => cell_of_row w1 _ o _ _ _ hh
  have fz : w1.frozen? ⟨w.heap.size, 0, none⟩ = false := by rw [frozen_of_row w1 _ 0 _ _ hh]
  have hlt1 : w.heap.size < w1.heap.size := by have := HW.out.2.2.2; omega
  have H1 := Lib.hid (And.intro hh (And.intro hr1 (And.intro (HW.out.2.2.1.trans hg1) hs')))
  clear hh hr1 hg1 hs' hz
  have HS := Lib.hid (heap_set_at (o := 0) (v := .int .i64 1) (cs' := #[.int .i64 1, .int .u64 0, .int .u64 0, .slice none 0 0]) H1.out.1 (by simp))
  go_wp2_with (refine wpList_store_row rfl 26 (.tmp 4) (.tmp 96) rfl rfl w.heap.size rfl _ rfl 26 _ HS.out (by kernel_rfl) rfl (by simp [Value.oneCell']) ?_)
  refine bodyPost_ret (v := .agg #[.int .i64 1, .int .u64 0, .int .u64 0, .slice none 0 0]) (results_cell_row rfl _ _ w.heap.size 26 _ _ _ rfl (setRow_heap _ _ _ _ _ _ HS.out) Tryz.underlying26 rfl (by kernel_rfl)) rfl ?_
  refine ⟨.mk 1 0 0 [], _, s', _, false, rfl, rep_leaf (by omega) (by omega) (by omega) (by omega), (H1.out.2.1.cellAt hlt _ _).row hlt _, (H1.out.2.2.1.cellAt (Nat.le_refl _) _ _).row (Nat.le_refl _) _, ?_, fun _ => ⟨?_, ?_, ?_⟩, fun h => by cases h⟩
  · rw [← ba_size, H1.out.2.2.2]; simp
  · rw [H1.out.2.2.2]; rfl
  · simp [Ex.size, Ex.sizes]; omega
  · simp [Ex.size, Ex.sizes]

set_option maxHeartbeats 1000000 in
set_option maxRecDepth 100000 in
theorem rd_x (d : Nat) (hd : d ≤ 100) (rb : Nat) (s : ByteArray) (n : Nat) (w : World) (hs : s.size ≤ 1000) (hn : n ≤ 32) (hr : Rd w rb s n false) (hL : Lv rb w) (hn0 : 1 ≤ n) (p1 : List.isPrefixOf [97, 108, 108] s.data.toList = false) (p2 : List.isPrefixOf [120, 60, 61] s.data.toList = true) :
    Calls Tryz.prog 40 #[.pointer (some ⟨rb, 0, none⟩), .int .i64 ((d : Int) + 1)] w (RdEnds rb ((rdNum (s.data.toList.drop 3)).map fun x => (.mk 2 x.1 0 [], x.2)) n s.size w) := by
  have hst := rd_start hr
  have hL0 := hL
  obtain ⟨c0, c1, c2, f⟩ := hr.cells
  have f1 := f 1
  have hlt := hr.lt
  have t0 : (((d : Int) + 1) == 0) = false := by simp; omega
  have t1 : decide ((n : Int) - 1 < 0) = false := by simp; omega
  have HL := Lib.hid hL
  have HW := Lib.hid hst
  clear hr hL f hst
  go_enter Tryz.func40, Tryz.ntmps40
  go_wp2_with fail
  clear c0 c1 c2 f1 t0 t1
  generalize (w.setCell ⟨rb, 1, none⟩ (.int .i64 ((n : Int) - 1))).alloc (.cells #[.int .i64 0, .int .u64 0, .int .u64 0, .slice none 0 0] 26) = W at HW ⊢
  refine (skip_no rb s ⟨#[97, 108, 108]⟩ _ _ _ HW.out.1 p1).mono ?_
  rintro e w1 ⟨rfl, hw1⟩
  subst hw1
  go_wp2_with fail
  refine (skip_yes rb s ⟨#[120, 60, 61]⟩ _ _ _ HW.out.1 p2).mono ?_
  rintro e w1 ⟨s', rfl, hs', hr1, hg1, hz⟩
  have hs3 : s'.size ≤ s.size := by rw [← ba_size, hs']; simp
  have HG1 := Lib.hid (HW.out.2.2.1.trans hg1)
  have HN := Lib.hid (number_any rb s' _ false w1 (by omega) hr1 (HL.out.below (HG1.out.below (by omega))))
  have H0 := Lib.hid (And.intro ((hg1.keep w.heap.size HW.out.2.2.2 (by omega)).trans HW.out.2.1) (And.intro hs' hz))
  have hlt1 : w.heap.size < w1.heap.size := by have := HW.out.2.2.2; omega
  clear hr1 hg1 hs' hz
  go_wp2_with fail
  refine HN.out.mono ?_
  rintro e w2 ⟨v, s2, rfl, hv, hr2, hv2, hg2, hle2⟩
  have hh := (hg2.keep w.heap.size hlt1 (by omega)).trans H0.out.1
  have c : ∀ o, w2.cell? ⟨w.heap.size, o, none⟩ = (#[.int .i64 0, .int .u64 0, .int .u64 0, .slice none 0 0] : Array Value)[o]? := fun o => cell_of_row w2 _ o _ _ _ hh
  have fz : w2.frozen? ⟨w.heap.size, 0, none⟩ = false := by rw [frozen_of_row w2 _ 0 _ _ hh]
  have fz1 : w2.frozen? ⟨w.heap.size, 1, none⟩ = false := by rw [frozen_of_row w2 _ 1 _ _ hh]
  have hlt2 : w.heap.size < w2.heap.size := by have := hg2.size; omega
  have H2 := Lib.hid (And.intro hr2 (And.intro (HG1.out.trans hg2) (And.intro hv2 hle2)))
  have HS := Lib.hid (heap_set_at (o := 1) (v := .int .u64 v) (cs' := #[.int .i64 2, .int .u64 v, .int .u64 0, .slice none 0 0]) (heap_set_at (o := 0) (v := .int .i64 2) (cs' := #[.int .i64 2, .int .u64 0, .int .u64 0, .slice none 0 0]) hh (by simp)) (by simp))
  clear hh hr2 hv2 hg2 hle2
  go_wp2_with (refine wpList_store_row rfl 26 (.tmp 4) (.tmp 96) rfl rfl w.heap.size rfl _ rfl 26 _ HS.out (by kernel_rfl) rfl (by simp [Value.oneCell']) ?_)
  refine bodyPost_ret (v := .agg #[.int .i64 2, .int .u64 v, .int .u64 0, .slice none 0 0]) (results_cell_row rfl _ _ w.heap.size 26 _ _ _ rfl (setRow_heap _ _ _ _ _ _ HS.out) Tryz.underlying26 rfl (by kernel_rfl)) rfl ?_
  refine ⟨.mk 2 v 0 [], _, s2, _, _, rfl, rep_leaf (by omega) (by omega) hv (by omega), ((H2.out.1.cellAt hlt _ _).cellAt hlt _ _).row hlt _, (((H2.out.2.1.cellAt (Nat.le_refl _) _ _).cellAt (Nat.le_refl _) _ _).row (Nat.le_refl _) _), ?_, fun hb => ?_, fun hb e r he => ?_⟩
  · have := H2.out.2.2.2; rw [ba_size] at this; omega
  · cases hq : rdNum s'.data.toList with
    | none => rw [hq] at hb; cases hb
    | some x =>
      obtain ⟨v', r⟩ := x
      obtain ⟨rfl, hr⟩ := H2.out.2.2.1 v' r hq
      rw [H0.out.2.1] at hq
      refine ⟨?_, by simp [Ex.size, Ex.sizes]; omega, by simp [Ex.size, Ex.sizes]⟩
      rw [show List.drop 3 s.data.toList = List.drop (ByteArray.mk #[120, 60, 61]).size s.data.toList from rfl, hq]
      simp [hr]
  · rw [H0.out.2.1] at hb
    rw [show List.drop (ByteArray.mk #[120, 60, 61]).size s.data.toList = List.drop 3 s.data.toList from rfl] at hb
    rw [Option.isNone_iff_eq_none.1 hb] at he
    cases he
set_option maxHeartbeats 1000000 in
set_option maxRecDepth 100000 in
theorem rd_v (d : Nat) (hd : d ≤ 100) (rb : Nat) (s : ByteArray) (n : Nat) (w : World) (hs : s.size ≤ 1000) (hn : n ≤ 32) (hr : Rd w rb s n false) (hL : Lv rb w) (hn0 : 1 ≤ n) (p1 : List.isPrefixOf [97, 108, 108] s.data.toList = false) (p2 : List.isPrefixOf [120, 60, 61] s.data.toList = false) (p3 : List.isPrefixOf [118, 60, 61] s.data.toList = true) :
    Calls Tryz.prog 40 #[.pointer (some ⟨rb, 0, none⟩), .int .i64 ((d : Int) + 1)] w (RdEnds rb ((rdNum (s.data.toList.drop 3)).map fun x => (.mk 3 x.1 0 [], x.2)) n s.size w) := by
  have hst := rd_start hr
  have hL0 := hL
  obtain ⟨c0, c1, c2, f⟩ := hr.cells
  have f1 := f 1
  have hlt := hr.lt
  have t0 : (((d : Int) + 1) == 0) = false := by simp; omega
  have t1 : decide ((n : Int) - 1 < 0) = false := by simp; omega
  have HL := Lib.hid hL
  have HW := Lib.hid hst
  clear hr hL f hst
  go_enter Tryz.func40, Tryz.ntmps40
  go_wp2_with fail
  clear c0 c1 c2 f1 t0 t1
  generalize (w.setCell ⟨rb, 1, none⟩ (.int .i64 ((n : Int) - 1))).alloc (.cells #[.int .i64 0, .int .u64 0, .int .u64 0, .slice none 0 0] 26) = W at HW ⊢
  refine (skip_no rb s ⟨#[97, 108, 108]⟩ _ _ _ HW.out.1 p1).mono ?_
  rintro e w1 ⟨rfl, hw1⟩
  subst hw1
  go_wp2_with fail
  refine (skip_no rb s ⟨#[120, 60, 61]⟩ _ _ _ HW.out.1 p2).mono ?_
  rintro e w1 ⟨rfl, hw1⟩
  subst hw1
  go_wp2_with fail
  refine (skip_yes rb s ⟨#[118, 60, 61]⟩ _ _ _ HW.out.1 p3).mono ?_
  rintro e w1 ⟨s', rfl, hs', hr1, hg1, hz⟩
  have hs3 : s'.size ≤ s.size := by rw [← ba_size, hs']; simp
  have HG1 := Lib.hid (HW.out.2.2.1.trans hg1)
  have HN := Lib.hid (number_any rb s' _ false w1 (by omega) hr1 (HL.out.below (HG1.out.below (by omega))))
  have H0 := Lib.hid (And.intro ((hg1.keep w.heap.size HW.out.2.2.2 (by omega)).trans HW.out.2.1) (And.intro hs' hz))
  have hlt1 : w.heap.size < w1.heap.size := by have := HW.out.2.2.2; omega
  clear hr1 hg1 hs' hz
  go_wp2_with fail
  refine HN.out.mono ?_
  rintro e w2 ⟨v, s2, rfl, hv, hr2, hv2, hg2, hle2⟩
  have hh := (hg2.keep w.heap.size hlt1 (by omega)).trans H0.out.1
  have c : ∀ o, w2.cell? ⟨w.heap.size, o, none⟩ = (#[.int .i64 0, .int .u64 0, .int .u64 0, .slice none 0 0] : Array Value)[o]? := fun o => cell_of_row w2 _ o _ _ _ hh
  have fz : w2.frozen? ⟨w.heap.size, 0, none⟩ = false := by rw [frozen_of_row w2 _ 0 _ _ hh]
  have fz1 : w2.frozen? ⟨w.heap.size, 1, none⟩ = false := by rw [frozen_of_row w2 _ 1 _ _ hh]
  have hlt2 : w.heap.size < w2.heap.size := by have := hg2.size; omega
  have H2 := Lib.hid (And.intro hr2 (And.intro (HG1.out.trans hg2) (And.intro hv2 hle2)))
  have HS := Lib.hid (heap_set_at (o := 1) (v := .int .u64 v) (cs' := #[.int .i64 3, .int .u64 v, .int .u64 0, .slice none 0 0]) (heap_set_at (o := 0) (v := .int .i64 3) (cs' := #[.int .i64 3, .int .u64 0, .int .u64 0, .slice none 0 0]) hh (by simp)) (by simp))
  clear hh hr2 hv2 hg2 hle2
  go_wp2_with (refine wpList_store_row rfl 26 (.tmp 4) (.tmp 96) rfl rfl w.heap.size rfl _ rfl 26 _ HS.out (by kernel_rfl) rfl (by simp [Value.oneCell']) ?_)
  refine bodyPost_ret (v := .agg #[.int .i64 3, .int .u64 v, .int .u64 0, .slice none 0 0]) (results_cell_row rfl _ _ w.heap.size 26 _ _ _ rfl (setRow_heap _ _ _ _ _ _ HS.out) Tryz.underlying26 rfl (by kernel_rfl)) rfl ?_
  refine ⟨.mk 3 v 0 [], _, s2, _, _, rfl, rep_leaf (by omega) (by omega) hv (by omega), ((H2.out.1.cellAt hlt _ _).cellAt hlt _ _).row hlt _, (((H2.out.2.1.cellAt (Nat.le_refl _) _ _).cellAt (Nat.le_refl _) _ _).row (Nat.le_refl _) _), ?_, fun hb => ?_, fun hb e r he => ?_⟩
  · have := H2.out.2.2.2; rw [ba_size] at this; omega
  · cases hq : rdNum s'.data.toList with
    | none => rw [hq] at hb; cases hb
    | some x =>
      obtain ⟨v', r⟩ := x
      obtain ⟨rfl, hr⟩ := H2.out.2.2.1 v' r hq
      rw [H0.out.2.1] at hq
      refine ⟨?_, by simp [Ex.size, Ex.sizes]; omega, by simp [Ex.size, Ex.sizes]⟩
      rw [show List.drop 3 s.data.toList = List.drop (ByteArray.mk #[118, 60, 61]).size s.data.toList from rfl, hq]
      simp [hr]
  · rw [H0.out.2.1] at hb
    rw [show List.drop (ByteArray.mk #[118, 60, 61]).size s.data.toList = List.drop 3 s.data.toList from rfl] at hb
    rw [Option.isNone_iff_eq_none.1 hb] at he
    cases he
end Go.Proofs.YtohjkejdkhdjbaaGreatDoor
