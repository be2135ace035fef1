/- Walks. -/
import Derived.Test.YtlpgokcapdjgjaaGreatDoorY33
set_option maxHeartbeats 2000000
set_option maxRecDepth 100000
namespace Go.Proofs.YtlpgokcapdjgjaaGreatDoor
open Go.RowKit Go
set_option linter.unusedVariables false
set_option linter.unusedSimpArgs false
theorem Rg.row {rb b : Nat} {w W : World} (h : Rg rb w W) (hb : w.heap.size ≤ b) (cs : Array Value) : Rg rb w (W.setRow b cs) :=
 ⟨h.os, h.tape, h.output, by simpa [World.setRow] using h.size, fun k hk hn => (setRow_other _ _ _ _ (by omega)).trans (h.keep k hk hn)⟩
theorem Rg.cellAt {rb b : Nat} {w W : World} (h : Rg rb w W) (hb : w.heap.size ≤ b) (o : Nat) (v : Value) : Rg rb w (W.setCell ⟨b, o, none⟩ v) :=
 ⟨h.os, h.tape, h.output, by simpa using h.size, fun k hk hn => (Below.heap_setCell _ _ _ _ (by simp; omega)).trans (h.keep k hk hn)⟩
theorem Rd.row {rb b : Nat} {W : World} {s : ByteArray} {n : Int} {bad : Bool} (h : Rd W rb s n bad) (hb : rb < b) (cs : Array Value) : Rd (W.setRow b cs) rb s n bad := (setRow_other _ _ _ _ (by omega)).trans h
theorem Rd.cellAt {rb b : Nat} {W : World} {s : ByteArray} {n : Int} {bad : Bool} (h : Rd W rb s n bad) (hb : rb < b) (o : Nat) (v : Value) : Rd (W.setCell ⟨b, o, none⟩ v) rb s n bad := (Below.heap_setCell _ _ _ _ (by simp; omega)).trans h
theorem gL {rb : Nat} {s : ByteArray} {n : Nat} {w : World} (hr : Rd w rb s n false) :
  Rd ((w.setCell ⟨rb, 1, none⟩ (.int .i64 ((n : Int) - 1))).alloc (.cells #[.int .i64 0, .int .u64 0, .int .u64 0, .slice none 0 0] 70)) rb s ((n : Int) - 1) false ∧
  ((w.setCell ⟨rb, 1, none⟩ (.int .i64 ((n : Int) - 1))).alloc (.cells #[.int .i64 0, .int .u64 0, .int .u64 0, .slice none 0 0] 70)).heap[w.heap.size]? = some (.cells #[.int .i64 0, .int .u64 0, .int .u64 0, .slice none 0 0] 70) ∧
  Rg rb w ((w.setCell ⟨rb, 1, none⟩ (.int .i64 ((n : Int) - 1))).alloc (.cells #[.int .i64 0, .int .u64 0, .int .u64 0, .slice none 0 0] 70)) ∧ w.heap.size < ((w.setCell ⟨rb, 1, none⟩ (.int .i64 ((n : Int) - 1))).alloc (.cells #[.int .i64 0, .int .u64 0, .int .u64 0, .slice none 0 0] 70)).heap.size := by
 have hlt := hr.lt
 refine ⟨(ai _ _ _ (by simp; omega)).trans (ae (o := 1) hr (by simp)), aa _ _ _ (by simp), ((Rg.refl rb w).setCell 1 _).trans (Rg.of_below (br.alloc nl _)), by simp⟩
theorem EF (d : Nat) (hd : d ≤ 100) (rb : Nat) (s : ByteArray) (n : Nat) (w : World) (hs : s.size ≤ 50000) (hn : n ≤ 32) (hr : Rd w rb s n false) (hL : Lv rb w) (hn0 : 1 ≤ n) (p1 : List.isPrefixOf [97, 108, 108] s.data.toList = true) :
  Calls Tryz.prog 202 #[.pointer (some ⟨rb, 0, none⟩), .int .i64 ((d : Int) + 1)] w (eu rb (some (.mk 1 0 0 [], s.data.toList.drop 3)) n s.size w) := by
 have hst := gL hr
 have hL0 := hL
 obtain ⟨c0, c1, c2, f⟩ := hr.cells
 have f1 := f 1
 have hlt := hr.lt
 have t0 : (((d : Int) + 1) == 0) = false := by simp; omega
 have t1 : decide ((n : Int) - 1 < 0) = false := by simp; omega
 have HL := hid hL
 have HW := hid hst
 clear hr hL f hst
 go_enter Tryz.func202, Tryz.ntmps202
 go_wp2_with fail
 clear c0 c1 c2 f1 t0 t1
 generalize (w.setCell ⟨rb, 1, none⟩ (.int .i64 ((n : Int) - 1))).alloc (.cells #[.int .i64 0, .int .u64 0, .int .u64 0, .slice none 0 0] 70) = W at HW ⊢
 refine (ed rb s ⟨#[97, 108, 108]⟩ _ _ _ HW.out.1 p1).mono ?_
 rintro e w1 ⟨s', rfl, hs', hr1, hg1, hz⟩
 have hh := (hg1.keep w.heap.size HW.out.2.2.2 (by omega)).trans HW.out.2.1
 have c : ∀ o, w1.cell? ⟨w.heap.size, o, none⟩ = (#[.int .i64 0, .int .u64 0, .int .u64 0, .slice none 0 0] : Array Value)[o]? := fun o => cell_of_row w1 _ o _ _ _ hh
 have fz : w1.frozen? ⟨w.heap.size, 0, none⟩ = false := by rw [frozen_of_row w1 _ 0 _ _ hh]
 have hlt1 : w.heap.size < w1.heap.size := by have := HW.out.2.2.2; omega
 have H1 := hid (And.intro hh (And.intro hr1 (And.intro (HW.out.2.2.1.trans hg1) hs')))
 clear hh hr1 hg1 hs' hz
 have HS := hid (ae (o := 0) (v := .int .i64 1) (cs' := #[.int .i64 1, .int .u64 0, .int .u64 0, .slice none 0 0]) H1.out.1 (by simp))
 go_wp2_with (refine wpList_store_row rfl 70 (.tmp 4) (.tmp 96) rfl rfl w.heap.size rfl _ rfl 70 _ HS.out (by kernel_rfl) rfl (by simp [Value.oneCell']) ?_)
 refine bodyPost_ret (v := .agg #[.int .i64 1, .int .u64 0, .int .u64 0, .slice none 0 0]) (results_cell_row rfl _ _ w.heap.size 70 _ _ _ rfl (setRow_heap _ _ _ _ _ _ HS.out) Tryz.underlying70 rfl (by kernel_rfl)) rfl ?_
 refine ⟨.mk 1 0 0 [], _, s', _, false, rfl, bO (by omega) (by omega) (by omega) (by omega), (H1.out.2.1.cellAt hlt _ _).row hlt _, (H1.out.2.2.1.cellAt nl _ _).row nl _, ?_, fun _ => ⟨?_, ?_, ?_⟩, fun h => by cases h⟩
 ·rw [← af, H1.out.2.2.2]; simp
 ·rw [H1.out.2.2.2]; rfl
 ·simp [Ex.size, Ex.sizes]; omega
 ·simp [Ex.size, Ex.sizes]
theorem Fq (d : Nat) (hd : d ≤ 100) (rb : Nat) (s : ByteArray) (n : Nat) (w : World) (hs : s.size ≤ 50000) (hn : n ≤ 32) (hr : Rd w rb s n false) (hL : Lv rb w) (hn0 : 1 ≤ n) (p1 : List.isPrefixOf [97, 108, 108] s.data.toList = false) (p2 : List.isPrefixOf [120, 60, 61] s.data.toList = true) :
  Calls Tryz.prog 202 #[.pointer (some ⟨rb, 0, none⟩), .int .i64 ((d : Int) + 1)] w (eu rb ((rdNum (s.data.toList.drop 3)).map fun x => (.mk 2 x.1 0 [], x.2)) n s.size w) := by
 have hst := gL hr
 have hL0 := hL
 obtain ⟨c0, c1, c2, f⟩ := hr.cells
 have f1 := f 1
 have hlt := hr.lt
 have t0 : (((d : Int) + 1) == 0) = false := by simp; omega
 have t1 : decide ((n : Int) - 1 < 0) = false := by simp; omega
 have HL := hid hL
 have HW := hid hst
 clear hr hL f hst
 go_enter Tryz.func202, Tryz.ntmps202
 go_wp2_with fail
 clear c0 c1 c2 f1 t0 t1
 generalize (w.setCell ⟨rb, 1, none⟩ (.int .i64 ((n : Int) - 1))).alloc (.cells #[.int .i64 0, .int .u64 0, .int .u64 0, .slice none 0 0] 70) = W at HW ⊢
 refine (aX rb s ⟨#[97, 108, 108]⟩ _ _ _ HW.out.1 p1).mono ?_
 rintro e w1 ⟨rfl, hw1⟩
 subst hw1
 go_wp2_with fail
 refine (ed rb s ⟨#[120, 60, 61]⟩ _ _ _ HW.out.1 p2).mono ?_
 rintro e w1 ⟨s', rfl, hs', hr1, hg1, hz⟩
 have hs3 : s'.size ≤ s.size := by rw [← af, hs']; simp
 have HG1 := hid (HW.out.2.2.1.trans hg1)
 have HN := hid (gu rb s' _ false w1 (by omega) hr1 (HL.out.below (HG1.out.below (by omega))))
 have H0 := hid (And.intro ((hg1.keep w.heap.size HW.out.2.2.2 (by omega)).trans HW.out.2.1) (And.intro hs' hz))
 have hlt1 : w.heap.size < w1.heap.size := by have := HW.out.2.2.2; omega
 clear hr1 hg1 hs' hz
 go_wp2_with fail
 refine HN.out.mono ?_
 rintro e w2 ⟨v, s2, rfl, hv, hr2, hv2, hg2, hle2⟩
 have hh := (hg2.keep w.heap.size hlt1 (by omega)).trans H0.out.1
 have c : ∀ o, w2.cell? ⟨w.heap.size, o, none⟩ = (#[.int .i64 0, .int .u64 0, .int .u64 0, .slice none 0 0] : Array Value)[o]? := fun o => cell_of_row w2 _ o _ _ _ hh
 have fz : w2.frozen? ⟨w.heap.size, 0, none⟩ = false := by rw [frozen_of_row w2 _ 0 _ _ hh]
 have fz1 : w2.frozen? ⟨w.heap.size, 1, none⟩ = false := by rw [frozen_of_row w2 _ 1 _ _ hh]
 have hlt2 : w.heap.size < w2.heap.size := by have := hg2.size; omega
 have H2 := hid (And.intro hr2 (And.intro (HG1.out.trans hg2) (And.intro hv2 hle2)))
 have HS := hid (ae (o := 1) (v := .int .u64 v) (cs' := #[.int .i64 2, .int .u64 v, .int .u64 0, .slice none 0 0]) (ae (o := 0) (v := .int .i64 2) (cs' := #[.int .i64 2, .int .u64 0, .int .u64 0, .slice none 0 0]) hh (by simp)) (by simp))
 clear hh hr2 hv2 hg2 hle2
 go_wp2_with (refine wpList_store_row rfl 70 (.tmp 4) (.tmp 96) rfl rfl w.heap.size rfl _ rfl 70 _ HS.out (by kernel_rfl) rfl (by simp [Value.oneCell']) ?_)
 refine bodyPost_ret (v := .agg #[.int .i64 2, .int .u64 v, .int .u64 0, .slice none 0 0]) (results_cell_row rfl _ _ w.heap.size 70 _ _ _ rfl (setRow_heap _ _ _ _ _ _ HS.out) Tryz.underlying70 rfl (by kernel_rfl)) rfl ?_
 refine ⟨.mk 2 v 0 [], _, s2, _, _, rfl, bO (by omega) (by omega) hv (by omega), ((H2.out.1.cellAt hlt _ _).cellAt hlt _ _).row hlt _, (((H2.out.2.1.cellAt nl _ _).cellAt nl _ _).row nl _), ?_, fun hb => ?_, fun hb e r he => ?_⟩
 ·have := H2.out.2.2.2; rw [af] at this; omega
 ·cases hq : rdNum s'.data.toList with
  | none => rw [hq] at hb; cases hb
  | some x =>
   obtain ⟨v', r⟩ := x
   obtain ⟨rfl, hr⟩ := H2.out.2.2.1 v' r hq
   rw [H0.out.2.1] at hq
   refine ⟨?_, by simp [Ex.size, Ex.sizes]; omega, by simp [Ex.size, Ex.sizes]⟩
   rw [show List.drop 3 s.data.toList = List.drop (ByteArray.mk #[120, 60, 61]).size s.data.toList from rfl, hq]
   simp [hr]
 ·rw [H0.out.2.1] at hb
  rw [show List.drop (ByteArray.mk #[120, 60, 61]).size s.data.toList = List.drop 3 s.data.toList from rfl] at hb
  rw [Option.isNone_iff_eq_none.1 hb] at he
  cases he
theorem Fs (d : Nat) (hd : d ≤ 100) (rb : Nat) (s : ByteArray) (n : Nat) (w : World) (hs : s.size ≤ 50000) (hn : n ≤ 32) (hr : Rd w rb s n false) (hL : Lv rb w) (hn0 : 1 ≤ n) (p1 : List.isPrefixOf [97, 108, 108] s.data.toList = false) (p2 : List.isPrefixOf [120, 60, 61] s.data.toList = false) (p3 : List.isPrefixOf [118, 60, 61] s.data.toList = true) :
  Calls Tryz.prog 202 #[.pointer (some ⟨rb, 0, none⟩), .int .i64 ((d : Int) + 1)] w (eu rb ((rdNum (s.data.toList.drop 3)).map fun x => (.mk 3 x.1 0 [], x.2)) n s.size w) := by
 have hst := gL hr
 have hL0 := hL
 obtain ⟨c0, c1, c2, f⟩ := hr.cells
 have f1 := f 1
 have hlt := hr.lt
 have t0 : (((d : Int) + 1) == 0) = false := by simp; omega
 have t1 : decide ((n : Int) - 1 < 0) = false := by simp; omega
 have HL := hid hL
 have HW := hid hst
 clear hr hL f hst
 go_enter Tryz.func202, Tryz.ntmps202
 go_wp2_with fail
 clear c0 c1 c2 f1 t0 t1
 generalize (w.setCell ⟨rb, 1, none⟩ (.int .i64 ((n : Int) - 1))).alloc (.cells #[.int .i64 0, .int .u64 0, .int .u64 0, .slice none 0 0] 70) = W at HW ⊢
 refine (aX rb s ⟨#[97, 108, 108]⟩ _ _ _ HW.out.1 p1).mono ?_
 rintro e w1 ⟨rfl, hw1⟩
 subst hw1
 go_wp2_with fail
 refine (aX rb s ⟨#[120, 60, 61]⟩ _ _ _ HW.out.1 p2).mono ?_
 rintro e w1 ⟨rfl, hw1⟩
 subst hw1
 go_wp2_with fail
 refine (ed rb s ⟨#[118, 60, 61]⟩ _ _ _ HW.out.1 p3).mono ?_
 rintro e w1 ⟨s', rfl, hs', hr1, hg1, hz⟩
 have hs3 : s'.size ≤ s.size := by rw [← af, hs']; simp
 have HG1 := hid (HW.out.2.2.1.trans hg1)
 have HN := hid (gu rb s' _ false w1 (by omega) hr1 (HL.out.below (HG1.out.below (by omega))))
 have H0 := hid (And.intro ((hg1.keep w.heap.size HW.out.2.2.2 (by omega)).trans HW.out.2.1) (And.intro hs' hz))
 have hlt1 : w.heap.size < w1.heap.size := by have := HW.out.2.2.2; omega
 clear hr1 hg1 hs' hz
 go_wp2_with fail
 refine HN.out.mono ?_
 rintro e w2 ⟨v, s2, rfl, hv, hr2, hv2, hg2, hle2⟩
 have hh := (hg2.keep w.heap.size hlt1 (by omega)).trans H0.out.1
 have c : ∀ o, w2.cell? ⟨w.heap.size, o, none⟩ = (#[.int .i64 0, .int .u64 0, .int .u64 0, .slice none 0 0] : Array Value)[o]? := fun o => cell_of_row w2 _ o _ _ _ hh
 have fz : w2.frozen? ⟨w.heap.size, 0, none⟩ = false := by rw [frozen_of_row w2 _ 0 _ _ hh]
 have fz1 : w2.frozen? ⟨w.heap.size, 1, none⟩ = false := by rw [frozen_of_row w2 _ 1 _ _ hh]
 have hlt2 : w.heap.size < w2.heap.size := by have := hg2.size; omega
 have H2 := hid (And.intro hr2 (And.intro (HG1.out.trans hg2) (And.intro hv2 hle2)))
 have HS := hid (ae (o := 1) (v := .int .u64 v) (cs' := #[.int .i64 3, .int .u64 v, .int .u64 0, .slice none 0 0]) (ae (o := 0) (v := .int .i64 3) (cs' := #[.int .i64 3, .int .u64 0, .int .u64 0, .slice none 0 0]) hh (by simp)) (by simp))
 clear hh hr2 hv2 hg2 hle2
 go_wp2_with (refine wpList_store_row rfl 70 (.tmp 4) (.tmp 96) rfl rfl w.heap.size rfl _ rfl 70 _ HS.out (by kernel_rfl) rfl (by simp [Value.oneCell']) ?_)
 refine bodyPost_ret (v := .agg #[.int .i64 3, .int .u64 v, .int .u64 0, .slice none 0 0]) (results_cell_row rfl _ _ w.heap.size 70 _ _ _ rfl (setRow_heap _ _ _ _ _ _ HS.out) Tryz.underlying70 rfl (by kernel_rfl)) rfl ?_
 refine ⟨.mk 3 v 0 [], _, s2, _, _, rfl, bO (by omega) (by omega) hv (by omega), ((H2.out.1.cellAt hlt _ _).cellAt hlt _ _).row hlt _, (((H2.out.2.1.cellAt nl _ _).cellAt nl _ _).row nl _), ?_, fun hb => ?_, fun hb e r he => ?_⟩
 ·have := H2.out.2.2.2; rw [af] at this; omega
 ·cases hq : rdNum s'.data.toList with
  | none => rw [hq] at hb; cases hb
  | some x =>
   obtain ⟨v', r⟩ := x
   obtain ⟨rfl, hr⟩ := H2.out.2.2.1 v' r hq
   rw [H0.out.2.1] at hq
   refine ⟨?_, by simp [Ex.size, Ex.sizes]; omega, by simp [Ex.size, Ex.sizes]⟩
   rw [show List.drop 3 s.data.toList = List.drop (ByteArray.mk #[118, 60, 61]).size s.data.toList from rfl, hq]
   simp [hr]
 ·rw [H0.out.2.1] at hb
  rw [show List.drop (ByteArray.mk #[118, 60, 61]).size s.data.toList = List.drop 3 s.data.toList from rfl] at hb
  rw [Option.isNone_iff_eq_none.1 hb] at he
  cases he
theorem Dn (d : Nat) (hd : d ≤ 100) (rb : Nat) (s : ByteArray) (n : Nat) (w : World) (hs : s.size ≤ 50000) (hn : n ≤ 32) (hr : Rd w rb s n false) (hL : Lv rb w) (hn0 : 1 ≤ n) (p1 : List.isPrefixOf [97, 108, 108] s.data.toList = false) (p2 : List.isPrefixOf [120, 60, 61] s.data.toList = false) (p3 : List.isPrefixOf [118, 60, 61] s.data.toList = false) (p4 : List.isPrefixOf [118, 37] s.data.toList = false) (p5 : List.isPrefixOf [33] s.data.toList = false) (p6 : List.isPrefixOf [38, 40] s.data.toList = false) (p7 : List.isPrefixOf [124, 40] s.data.toList = false) :
  Calls Tryz.prog 202 #[.pointer (some ⟨rb, 0, none⟩), .int .i64 ((d : Int) + 1)] w (eu rb none n s.size w) := by
 have hst := gL hr
 have hL0 := hL
 obtain ⟨c0, c1, c2, f⟩ := hr.cells
 have f1 := f 1
 have hlt := hr.lt
 have t0 : (((d : Int) + 1) == 0) = false := by simp; omega
 have t1 : decide ((n : Int) - 1 < 0) = false := by simp; omega
 have HL := hid hL
 have HW := hid hst
 clear hr hL f hst
 go_enter Tryz.func202, Tryz.ntmps202
 go_wp2_with fail
 clear c0 c1 c2 f1 t0 t1
 generalize (w.setCell ⟨rb, 1, none⟩ (.int .i64 ((n : Int) - 1))).alloc (.cells #[.int .i64 0, .int .u64 0, .int .u64 0, .slice none 0 0] 70) = W at HW ⊢
 refine (aX rb s ⟨#[97, 108, 108]⟩ _ _ _ HW.out.1 p1).mono ?_
 rintro e w1 ⟨rfl, hw1⟩
 rw [hw1]
 clear hw1 w1
 go_wp2_with fail
 refine (aX rb s ⟨#[120, 60, 61]⟩ _ _ _ HW.out.1 p2).mono ?_
 rintro e w1 ⟨rfl, hw1⟩
 rw [hw1]
 clear hw1 w1
 go_wp2_with fail
 refine (aX rb s ⟨#[118, 60, 61]⟩ _ _ _ HW.out.1 p3).mono ?_
 rintro e w1 ⟨rfl, hw1⟩
 rw [hw1]
 clear hw1 w1
 go_wp2_with fail
 refine (aX rb s ⟨#[118, 37]⟩ _ _ _ HW.out.1 p4).mono ?_
 rintro e w1 ⟨rfl, hw1⟩
 rw [hw1]
 clear hw1 w1
 go_wp2_with fail
 refine (aX rb s ⟨#[33]⟩ _ _ _ HW.out.1 p5).mono ?_
 rintro e w1 ⟨rfl, hw1⟩
 rw [hw1]
 clear hw1 w1
 go_wp2_with fail
 refine (aX rb s ⟨#[38, 40]⟩ _ _ _ HW.out.1 p6).mono ?_
 rintro e w1 ⟨rfl, hw1⟩
 rw [hw1]
 clear hw1 w1
 go_wp2_with fail
 refine (aX rb s ⟨#[124, 40]⟩ _ _ _ HW.out.1 p7).mono ?_
 rintro e w1 ⟨rfl, hw1⟩
 rw [hw1]
 clear hw1 w1
 obtain ⟨e0, e1, e2, ef⟩ := HW.out.1.cells
 have ef2 := ef 2
 have hh := HW.out.2.1
 have hltW := HW.out.2.2.2
 have hrW := HW.out.1.lt
 have HS := hid ((Below.heap_setCell W ⟨rb, 2, none⟩ (.bool true) w.heap.size (by simp; omega)).trans hh)
 have c : ∀ o, W.cell? ⟨w.heap.size, o, none⟩ = (#[.int .i64 0, .int .u64 0, .int .u64 0, .slice none 0 0] : Array Value)[o]? := fun o => cell_of_row W _ o _ _ _ hh
 have hne : rb ≠ w.heap.size := by omega
 have hne2 : w.heap.size ≠ rb := by omega
 clear hh ef e0 e1
 go_wp2_with (refine wpList_store_row rfl 70 (.tmp 4) (.tmp 96) rfl rfl w.heap.size rfl _ rfl 70 _ HS.out (by kernel_rfl) rfl (by simp [Value.oneCell']) ?_)
 refine bodyPost_ret (v := .agg #[.int .i64 0, .int .u64 0, .int .u64 0, .slice none 0 0]) (results_cell_row rfl _ _ w.heap.size 70 _ _ _ rfl (setRow_heap _ _ _ _ _ _ HS.out) Tryz.underlying70 rfl (by kernel_rfl)) rfl ?_
 exact ⟨.mk 0 0 0 [], _, s, (n : Int) - 1, true, rfl, bO (by omega) (by omega) (by omega) (by omega), Rd.row (ae (o := 2) HW.out.1 (by simp)) hlt _, (HW.out.2.2.1.setCell _ _).row nl _, Nat.le_refl _, (fun h => by cases h), fun _ e r h => by cases h⟩
theorem Dp (rb : Nat) (s : ByteArray) (n : Nat) (w : World) (hs : s.size ≤ 50000) (hn : n ≤ 32) (hr : Rd w rb s n false) (hL : Lv rb w) (o : Option (Ex × List UInt8)) (ho : ∀ e r, o = some (e, r) → n < e.size) :
  Calls Tryz.prog 202 #[.pointer (some ⟨rb, 0, none⟩), .int .i64 0] w (eu rb o n s.size w) := by
 obtain ⟨c0, c1, c2, f⟩ := hr.cells
 have f1 := f 1
 have f2 := f 2
 have hlt := hr.lt
 have HR := hid hr
 have HO := hid ho
 clear hr hL f ho
 go_enter Tryz.func202, Tryz.ntmps202
 go_wp2_with fail
 refine bodyPost_ret (v := .agg #[.int .i64 0, .int .u64 0, .int .u64 0, .slice none 0 0]) (results_cell_row rfl _ _ w.heap.size 70 #[.int .i64 0, .int .u64 0, .int .u64 0, .slice none 0 0] (0, 0) _ rfl (aa _ _ _ (by simp)) Tryz.underlying70 rfl (by kernel_rfl)) rfl ?_
 exact ⟨.mk 0 0 0 [], _, s, (n : Int) - 1, true, rfl, bO (by omega) (by omega) (by omega) (by omega), (ai _ _ _ (by simp; omega)).trans (ae (o := 2) (ae (o := 1) (v := .int .i64 ((n : Int) - 1)) (cs' := #[.string s, .int .i64 ((n : Int) - 1), .bool false]) HR.out (by simp)) (by simp)), (((Rg.refl rb w).setCell 1 _).setCell 2 _).trans (Rg.of_below (br.alloc nl _)), Nat.le_refl _, (fun h => by cases h), fun _ => HO.out⟩
theorem EG (d : Nat) (hd : d ≤ 100) (rb : Nat) (s : ByteArray) (n : Nat) (w : World) (hs : s.size ≤ 50000) (hn : n ≤ 32) (hr : Rd w rb s n false) (hL : Lv rb w) (hn0 : n = 0) (o : Option (Ex × List UInt8)) (ho : ∀ e r, o = some (e, r) → n < e.size) :
  Calls Tryz.prog 202 #[.pointer (some ⟨rb, 0, none⟩), .int .i64 ((d : Int) + 1)] w (eu rb o n s.size w) := by
 obtain ⟨c0, c1, c2, f⟩ := hr.cells
 have f1 := f 1
 have f2 := f 2
 have hlt := hr.lt
 have t0 : (((d : Int) + 1) == 0) = false := by simp; omega
 have t1 : decide ((n : Int) - 1 < 0) = true := by simp; omega
 have HR := hid hr
 have HO := hid ho
 clear hr hL f ho
 have HN := hid hn0
 clear hn0
 go_enter Tryz.func202, Tryz.ntmps202
 go_wp2_with fail
 refine bodyPost_ret (v := .agg #[.int .i64 0, .int .u64 0, .int .u64 0, .slice none 0 0]) (results_cell_row rfl _ _ w.heap.size 70 #[.int .i64 0, .int .u64 0, .int .u64 0, .slice none 0 0] (0, 0) _ rfl (aa _ _ _ (by simp)) Tryz.underlying70 rfl (by kernel_rfl)) rfl ?_
 exact ⟨.mk 0 0 0 [], _, s, (n : Int) - 1, true, rfl, bO (by omega) (by omega) (by omega) (by omega), (ai _ _ _ (by simp; omega)).trans (ae (o := 2) (ae (o := 1) (v := .int .i64 ((n : Int) - 1)) (cs' := #[.string s, .int .i64 ((n : Int) - 1), .bool false]) HR.out (by simp)) (by simp)), (((Rg.refl rb w).setCell 1 _).setCell 2 _).trans (Rg.of_below (br.alloc nl _)), Nat.le_refl _, (fun h => by cases h), fun _ => HO.out⟩
theorem rd_not (d : Nat) (hd : d ≤ 100) (IH : Hid (∀ (rb : Nat) (s : ByteArray) (n : Nat) (w : World), s.size ≤ 50000 → n ≤ 32 → Rd w rb s n false → Lv rb w → Calls Tryz.prog 202 #[.pointer (some ⟨rb, 0, none⟩), .int .i64 d] w (eu rb (rfE d s.data.toList) n s.size w))) (rb : Nat) (s : ByteArray) (n : Nat) (w : World) (hs : s.size ≤ 50000) (hn : n ≤ 32) (hr : Rd w rb s n false) (hL : Lv rb w) (hn0 : 1 ≤ n) (p1 : List.isPrefixOf [97, 108, 108] s.data.toList = false) (p2 : List.isPrefixOf [120, 60, 61] s.data.toList = false) (p3 : List.isPrefixOf [118, 60, 61] s.data.toList = false) (p4 : List.isPrefixOf [118, 37] s.data.toList = false) (p5 : List.isPrefixOf [33] s.data.toList = true) :
  Calls Tryz.prog 202 #[.pointer (some ⟨rb, 0, none⟩), .int .i64 ((d : Int) + 1)] w (eu rb ((rfE d (s.data.toList.drop 1)).map fun x => (.mk 5 0 0 [x.1], x.2)) n s.size w) := by
 have hst := gL hr
 have hL0 := hL
 obtain ⟨c0, c1, c2, f⟩ := hr.cells
 have f1 := f 1
 have hlt := hr.lt
 have t0 : (((d : Int) + 1) == 0) = false := by simp; omega
 have t1 : decide ((n : Int) - 1 < 0) = false := by simp; omega
 have HL := hid hL
 have HW := hid hst
 clear hr hL f hst
 go_enter Tryz.func202, Tryz.ntmps202
 go_wp2_with fail
 clear c0 c1 c2 f1 t0 t1
 generalize (w.setCell ⟨rb, 1, none⟩ (.int .i64 ((n : Int) - 1))).alloc (.cells #[.int .i64 0, .int .u64 0, .int .u64 0, .slice none 0 0] 70) = W at HW ⊢
 refine (aX rb s ⟨#[97, 108, 108]⟩ _ _ _ HW.out.1 p1).mono ?_
 rintro e w1 ⟨rfl, hw1⟩
 rw [hw1]
 clear hw1 w1
 go_wp2_with fail
 refine (aX rb s ⟨#[120, 60, 61]⟩ _ _ _ HW.out.1 p2).mono ?_
 rintro e w1 ⟨rfl, hw1⟩
 rw [hw1]
 clear hw1 w1
 go_wp2_with fail
 refine (aX rb s ⟨#[118, 60, 61]⟩ _ _ _ HW.out.1 p3).mono ?_
 rintro e w1 ⟨rfl, hw1⟩
 rw [hw1]
 clear hw1 w1
 go_wp2_with fail
 refine (aX rb s ⟨#[118, 37]⟩ _ _ _ HW.out.1 p4).mono ?_
 rintro e w1 ⟨rfl, hw1⟩
 rw [hw1]
 clear hw1 w1
 go_wp2_with fail
 refine (ed rb s ⟨#[33]⟩ _ _ _ HW.out.1 p5).mono ?_
 rintro e w1 ⟨s', rfl, hs', hr1, hg1, hz⟩
 have hs3 : s'.size ≤ s.size := by rw [← af, hs']; simp
 have HG1 := hid (HW.out.2.2.1.trans hg1)
 have HL1 := hid (HL.out.below (HG1.out.below (by omega)))
 have HR1 := hid (show Rd w1 rb s' ((n - 1 : Nat) : Int) false by rw [show ((n - 1 : Nat) : Int) = (n : Int) - 1 from by omega]; exact hr1)
 have H0 := hid (And.intro ((hg1.keep w.heap.size HW.out.2.2.2 (by omega)).trans HW.out.2.1) (And.intro hs' hz))
 have hlt1 : w.heap.size < w1.heap.size := by have := HW.out.2.2.2; omega
 clear hr1 hg1 hs' hz
 go_wp2_with fail
 refine (IH.out rb s' (n - 1) w1 (by omega) (by omega) HR1.out HL1.out).mono ?_
 rintro e w2 ⟨t, v, s2, n2, bad, rfl, hv, hr2, hg2, hle2, hb1, hb2⟩
 obtain ⟨q0, q1, q2, q3, q4, q5, rfl⟩ := hv.conc
 have hh := (hg2.keep w.heap.size hlt1 (by omega)).trans H0.out.1
 have hlt2 : w.heap.size < w2.heap.size := by have := hg2.size; omega
 have hz2 := hg2.size
 have hrl := hr2.lt
 have hhn := (ai w2 (.cells #[.int .i64 q0, .int .u64 q1, .int .u64 q2, .slice q3 q4 q5] 70) _ hlt2).trans hh
 have c : ∀ o, w2.cell? ⟨w.heap.size, o, none⟩ = (#[.int .i64 0, .int .u64 0, .int .u64 0, .slice none 0 0] : Array Value)[o]? := fun o => cell_of_row w2 _ o _ _ _ hh
 have fz : w2.frozen? ⟨w.heap.size, 0, none⟩ = false := by rw [frozen_of_row w2 _ 0 _ _ hh]
 have fz1 : w2.frozen? ⟨w.heap.size, 3, none⟩ = false := by rw [frozen_of_row w2 _ 3 _ _ hh]
 have H2 := hid (And.intro hv (And.intro hr2 (And.intro (HG1.out.trans hg2) (And.intro hb1 hb2))))
 clear hv hr2 hg2 hb1 hb2
 have hq1 := ae (o := 0) (v := .int .i64 5) (cs' := #[.int .i64 5, .int .u64 0, .int .u64 0, .slice none 0 0]) hh (by simp)
 have hq2 := ae (o := 3) (v := .slice (some ⟨w2.heap.size, 0, none⟩) 1 1) (cs' := #[.int .i64 5, .int .u64 0, .int .u64 0, .slice (some ⟨w2.heap.size, 0, none⟩) 1 1]) hq1 (by simp)
 have HS := hid ((ai ((w2.setCell ⟨w.heap.size, 0, none⟩ (.int .i64 5)).setCell ⟨w.heap.size, 3, none⟩ (.slice (some ⟨w2.heap.size, 0, none⟩) 1 1)) (.cells #[.int .i64 q0, .int .u64 q1, .int .u64 q2, .slice q3 q4 q5] 70) w.heap.size (by simp; omega)).trans hq2)
 clear hq1 hq2
 clear hh hhn
 go_wp2_with (refine wpList_store_row rfl 70 (.tmp 4) (.tmp 96) rfl rfl w.heap.size rfl _ rfl 70 _ HS.out (by kernel_rfl) rfl (by simp [Value.oneCell']) ?_)
 refine bodyPost_ret (v := .agg #[.int .i64 5, .int .u64 0, .int .u64 0, .slice (some ⟨w2.heap.size, 0, none⟩) 1 1]) (results_cell_row rfl _ _ w.heap.size 70 _ _ _ rfl (setRow_heap _ _ _ _ _ _ HS.out) Tryz.underlying70 rfl (by kernel_rfl)) rfl ?_
 obtain ⟨hv, hr2, hg2, hb1, hb2⟩ := H2.out
 have hrow := Rd.row (((Rd.cellAt (hr2.cellAt hlt 0 (.int .i64 5)) hlt 3 (.slice (some ⟨w2.heap.size, 0, none⟩) 1 1))).below (br.alloc nl (.cells #[.int .i64 q0, .int .u64 q1, .int .u64 q2, .slice q3 q4 q5] 70))) hlt #[.int .i64 5, .int .u64 0, .int .u64 0, .slice (some ⟨w2.heap.size, 0, none⟩) 1 1]
 have hgg := Rg.row ((((hg2.cellAt nl 0 (.int .i64 5)).cellAt nl 3 (.slice (some ⟨w2.heap.size, 0, none⟩) 1 1))).trans (Rg.of_below (br.alloc nl (.cells #[.int .i64 q0, .int .u64 q1, .int .u64 q2, .slice q3 q4 q5] 70)))) nl #[.int .i64 5, .int .u64 0, .int .u64 0, .slice (some ⟨w2.heap.size, 0, none⟩) 1 1]
 have hsl := zl ((w2.setCell ⟨w.heap.size, 0, none⟩ (.int .i64 5)).setCell ⟨w.heap.size, 3, none⟩ (.slice (some ⟨w2.heap.size, 0, none⟩) 1 1)) (fun b => w.heap.size + 1 ≤ b) (.int .i64 q0) (.int .u64 q1) (.int .u64 q2) (.slice q3 q4 q5) 70 (by simp; omega)
 have hsz : ((w2.setCell ⟨w.heap.size, 0, none⟩ (.int .i64 5)).setCell ⟨w.heap.size, 3, none⟩ (.slice (some ⟨w2.heap.size, 0, none⟩) 1 1)).heap.size = w2.heap.size := by simp
 rw [hsz] at hsl
 have hvv : ax ((w2.setCell ⟨w.heap.size, 0, none⟩ (.int .i64 5)).setCell ⟨w.heap.size, 3, none⟩ (.slice (some ⟨w2.heap.size, 0, none⟩) 1 1)) (fun b => w.heap.size + 1 ≤ b) true t (.agg #[.int .i64 q0, .int .u64 q1, .int .u64 q2, .slice q3 q4 q5]) :=
  ax.keep (w := w2) (fun b hb _ => (Below.heap_setCell (w2.setCell ⟨w.heap.size, 0, none⟩ (.int .i64 5)) ⟨w.heap.size, 3, none⟩ (.slice (some ⟨w2.heap.size, 0, none⟩) 1 1) b (by simp; omega)).trans (Below.heap_setCell w2 ⟨w.heap.size, 0, none⟩ (.int .i64 5) b (by simp; omega))) (fun b _ h => by omega) hv
 refine ⟨.mk 5 0 0 [t], _, s2, n2, bad, rfl, ?_, hrow, hgg, by omega, fun hb => ?_, fun hb e r he => ?_⟩
 ·simp only [ax]
  refine ⟨_, _, rfl, by omega, by omega, by omega, by omega, hsl.keep (by omega) (fun b hb _ => setRow_other _ _ _ _ (by omega)) (fun b _ h => by omega), az.one (ax.keep (w := (w2.setCell ⟨w.heap.size, 0, none⟩ (.int .i64 5)).setCell ⟨w.heap.size, 3, none⟩ (.slice (some ⟨w2.heap.size, 0, none⟩) 1 1)) (fun b hb hl => ?_) (fun b _ h => by omega) hvv)⟩
  rw [setRow_other _ _ _ _ (by omega), ai _ _ _ hl]
 ·obtain ⟨h1, h2, h3⟩ := hb1 hb
  rw [H0.out.2.1] at h1
  refine ⟨?_, by simp [Ex.size, Ex.sizes]; omega, by simp [Ex.size, Ex.sizes]; omega⟩
  rw [show List.drop 1 s.data.toList = List.drop (ByteArray.mk #[33]).size s.data.toList from rfl, h1]
  rfl
 ·have hb3 := hb2 hb
  rw [H0.out.2.1] at hb3
  rw [show List.drop 1 s.data.toList = List.drop (ByteArray.mk #[33]).size s.data.toList from rfl] at he
  simp only [Option.map_eq_some_iff] at he
  obtain ⟨⟨a, b⟩, h4, h5⟩ := he
  injection h5 with h5 _
  subst h5
  have := hb3 a b h4
  simp [Ex.size, Ex.sizes]; omega
theorem Dq (d : Nat) (hd : d ≤ 100) (IH : Hid (∀ (rb : Nat) (s : ByteArray) (n : Nat) (w : World), s.size ≤ 50000 → n ≤ 32 → Rd w rb s n false → Lv rb w → Calls Tryz.prog 202 #[.pointer (some ⟨rb, 0, none⟩), .int .i64 d] w (eu rb (rfE d s.data.toList) n s.size w))) (rb : Nat) (s : ByteArray) (n : Nat) (w : World) (hs : s.size ≤ 50000) (hn : n ≤ 32) (hr : Rd w rb s n false) (hL : Lv rb w) (hn0 : 1 ≤ n) (p1 : List.isPrefixOf [97, 108, 108] s.data.toList = false) (p2 : List.isPrefixOf [120, 60, 61] s.data.toList = false) (p3 : List.isPrefixOf [118, 60, 61] s.data.toList = false) (p4 : List.isPrefixOf [118, 37] s.data.toList = false) (p5 : List.isPrefixOf [33] s.data.toList = false) (p6 : List.isPrefixOf [38, 40] s.data.toList = true) :
  Calls Tryz.prog 202 #[.pointer (some ⟨rb, 0, none⟩), .int .i64 ((d : Int) + 1)] w (eu rb ((bq (rfE d) (s.data.toList.drop 2)).map fun x => (.mk 6 0 0 x.1, x.2)) n s.size w) := by
 have hst := gL hr
 have hL0 := hL
 obtain ⟨c0, c1, c2, f⟩ := hr.cells
 have f1 := f 1
 have hlt := hr.lt
 have t0 : (((d : Int) + 1) == 0) = false := by simp; omega
 have t1 : decide ((n : Int) - 1 < 0) = false := by simp; omega
 have HL := hid hL
 have HW := hid hst
 clear hr hL f hst
 go_enter Tryz.func202, Tryz.ntmps202
 go_wp2_with fail
 clear c0 c1 c2 f1 t0 t1
 generalize (w.setCell ⟨rb, 1, none⟩ (.int .i64 ((n : Int) - 1))).alloc (.cells #[.int .i64 0, .int .u64 0, .int .u64 0, .slice none 0 0] 70) = W at HW ⊢
 refine (aX rb s ⟨#[97, 108, 108]⟩ _ _ _ HW.out.1 p1).mono ?_
 rintro e w1 ⟨rfl, hw1⟩
 rw [hw1]
 clear hw1 w1
 go_wp2_with fail
 refine (aX rb s ⟨#[120, 60, 61]⟩ _ _ _ HW.out.1 p2).mono ?_
 rintro e w1 ⟨rfl, hw1⟩
 rw [hw1]
 clear hw1 w1
 go_wp2_with fail
 refine (aX rb s ⟨#[118, 60, 61]⟩ _ _ _ HW.out.1 p3).mono ?_
 rintro e w1 ⟨rfl, hw1⟩
 rw [hw1]
 clear hw1 w1
 go_wp2_with fail
 refine (aX rb s ⟨#[118, 37]⟩ _ _ _ HW.out.1 p4).mono ?_
 rintro e w1 ⟨rfl, hw1⟩
 rw [hw1]
 clear hw1 w1
 go_wp2_with fail
 refine (aX rb s ⟨#[33]⟩ _ _ _ HW.out.1 p5).mono ?_
 rintro e w1 ⟨rfl, hw1⟩
 rw [hw1]
 clear hw1 w1
 go_wp2_with fail
 refine (ed rb s ⟨#[38, 40]⟩ _ _ _ HW.out.1 p6).mono ?_
 rintro e w1 ⟨s', rfl, hs', hr1, hg1, hz⟩
 have hs3 : s'.size ≤ s.size := by rw [← af, hs']; simp
 have HG1 := hid (HW.out.2.2.1.trans hg1)
 have HL1 := hid (HL.out.below (HG1.out.below (by omega)))
 have HR1 := hid (show Rd w1 rb s' ((n - 1 : Nat) : Int) false by rw [show ((n - 1 : Nat) : Int) = (n : Int) - 1 from by omega]; exact hr1)
 have H0 := hid (And.intro ((hg1.keep w.heap.size HW.out.2.2.2 (by omega)).trans HW.out.2.1) (And.intro hs' hz))
 have hlt1 : w.heap.size < w1.heap.size := by have := HW.out.2.2.2; omega
 clear hr1 hg1 hs' hz
 go_wp2_with fail
 refine (wG d hd IH rb s' (n - 1) w1 (by omega) (by omega) HR1.out HL1.out).mono ?_
 rintro e w2 ⟨es, v, s2, n2, bad, rfl, hv, hr2, hg2, hle2, hb1, hb2⟩
 obtain ⟨va, vc, rfl⟩ := au hv.choose_spec.1
 have hh := (hg2.keep w.heap.size hlt1 (by omega)).trans H0.out.1
 have hlt2 : w.heap.size < w2.heap.size := by have := hg2.size; omega
 have c : ∀ o, w2.cell? ⟨w.heap.size, o, none⟩ = (#[.int .i64 0, .int .u64 0, .int .u64 0, .slice none 0 0] : Array Value)[o]? := fun o => cell_of_row w2 _ o _ _ _ hh
 have fz : w2.frozen? ⟨w.heap.size, 0, none⟩ = false := by rw [frozen_of_row w2 _ 0 _ _ hh]
 have fz1 : w2.frozen? ⟨w.heap.size, 3, none⟩ = false := by rw [frozen_of_row w2 _ 3 _ _ hh]
 have H2 := hid (And.intro hv (And.intro hr2 (And.intro (HG1.out.trans hg2) (And.intro hb1 hb2))))
 clear hv hr2 hg2 hb1 hb2
 have hq1 := ae (o := 0) (v := .int .i64 6) (cs' := #[.int .i64 6, .int .u64 0, .int .u64 0, .slice none 0 0]) hh (by simp)
 have hq2 := ae (o := 3) (v := .slice va es.length vc) (cs' := #[.int .i64 6, .int .u64 0, .int .u64 0, .slice va es.length vc]) hq1 (by simp)
 have HS := hid hq2
 clear hq1 hq2 hh
 go_wp2_with (refine wpList_store_row rfl 70 (.tmp 4) (.tmp 96) rfl rfl w.heap.size rfl _ rfl 70 _ HS.out (by kernel_rfl) rfl (by simp [Value.oneCell']) ?_)
 refine bodyPost_ret (v := .agg #[.int .i64 6, .int .u64 0, .int .u64 0, .slice va es.length vc]) (results_cell_row rfl _ _ w.heap.size 70 _ _ _ rfl (setRow_heap _ _ _ _ _ _ HS.out) Tryz.underlying70 rfl (by kernel_rfl)) rfl ?_
 obtain ⟨hv, hr2, hg2, hb1, hb2⟩ := H2.out
 have hrow := Rd.row (Rd.cellAt (hr2.cellAt hlt 0 (.int .i64 6)) hlt 3 (.slice va es.length vc)) hlt #[.int .i64 6, .int .u64 0, .int .u64 0, .slice va es.length vc]
 have hgg := Rg.row ((hg2.cellAt nl 0 (.int .i64 6)).cellAt nl 3 (.slice va es.length vc)) nl #[.int .i64 6, .int .u64 0, .int .u64 0, .slice va es.length vc]
 refine ⟨.mk 6 0 0 es, _, s2, n2, bad, rfl, dN hv (fun b hb _ => ?_) (fun b hb => by omega) (by omega) (by omega), hrow, hgg, by omega, fun hb => ?_, fun hb e r he => ?_⟩
 ·rw [setRow_other _ _ _ _ (by omega)]
  exact (Below.heap_setCell (w2.setCell ⟨w.heap.size, 0, none⟩ (.int .i64 6)) ⟨w.heap.size, 3, none⟩ (.slice va es.length vc) b (by simp; omega)).trans (Below.heap_setCell w2 ⟨w.heap.size, 0, none⟩ (.int .i64 6) b (by simp; omega))
 ·obtain ⟨h1, h2, h3⟩ := hb1 hb
  rw [H0.out.2.1] at h1
  refine ⟨?_, by simp [Ex.size]; omega, by simp [Ex.size]; omega⟩
  rw [show List.drop 2 s.data.toList = List.drop (ByteArray.mk #[38, 40]).size s.data.toList from rfl, h1]
  rfl
 ·have hb3 := hb2 hb
  rw [H0.out.2.1] at hb3
  rw [show List.drop 2 s.data.toList = List.drop (ByteArray.mk #[38, 40]).size s.data.toList from rfl] at he
  simp only [Option.map_eq_some_iff] at he
  obtain ⟨⟨a, b⟩, h4, h5⟩ := he
  injection h5 with h5 _
  subst h5
  have := hb3 a b h4
  simp [Ex.size]; omega
theorem Dr (d : Nat) (hd : d ≤ 100) (IH : Hid (∀ (rb : Nat) (s : ByteArray) (n : Nat) (w : World), s.size ≤ 50000 → n ≤ 32 → Rd w rb s n false → Lv rb w → Calls Tryz.prog 202 #[.pointer (some ⟨rb, 0, none⟩), .int .i64 d] w (eu rb (rfE d s.data.toList) n s.size w))) (rb : Nat) (s : ByteArray) (n : Nat) (w : World) (hs : s.size ≤ 50000) (hn : n ≤ 32) (hr : Rd w rb s n false) (hL : Lv rb w) (hn0 : 1 ≤ n) (p1 : List.isPrefixOf [97, 108, 108] s.data.toList = false) (p2 : List.isPrefixOf [120, 60, 61] s.data.toList = false) (p3 : List.isPrefixOf [118, 60, 61] s.data.toList = false) (p4 : List.isPrefixOf [118, 37] s.data.toList = false) (p5 : List.isPrefixOf [33] s.data.toList = false) (p6 : List.isPrefixOf [38, 40] s.data.toList = false) (p7 : List.isPrefixOf [124, 40] s.data.toList = true) :
  Calls Tryz.prog 202 #[.pointer (some ⟨rb, 0, none⟩), .int .i64 ((d : Int) + 1)] w (eu rb ((bq (rfE d) (s.data.toList.drop 2)).map fun x => (.mk 7 0 0 x.1, x.2)) n s.size w) := by
 have hst := gL hr
 have hL0 := hL
 obtain ⟨c0, c1, c2, f⟩ := hr.cells
 have f1 := f 1
 have hlt := hr.lt
 have t0 : (((d : Int) + 1) == 0) = false := by simp; omega
 have t1 : decide ((n : Int) - 1 < 0) = false := by simp; omega
 have HL := hid hL
 have HW := hid hst
 clear hr hL f hst
 go_enter Tryz.func202, Tryz.ntmps202
 go_wp2_with fail
 clear c0 c1 c2 f1 t0 t1
 generalize (w.setCell ⟨rb, 1, none⟩ (.int .i64 ((n : Int) - 1))).alloc (.cells #[.int .i64 0, .int .u64 0, .int .u64 0, .slice none 0 0] 70) = W at HW ⊢
 refine (aX rb s ⟨#[97, 108, 108]⟩ _ _ _ HW.out.1 p1).mono ?_
 rintro e w1 ⟨rfl, hw1⟩
 rw [hw1]
 clear hw1 w1
 go_wp2_with fail
 refine (aX rb s ⟨#[120, 60, 61]⟩ _ _ _ HW.out.1 p2).mono ?_
 rintro e w1 ⟨rfl, hw1⟩
 rw [hw1]
 clear hw1 w1
 go_wp2_with fail
 refine (aX rb s ⟨#[118, 60, 61]⟩ _ _ _ HW.out.1 p3).mono ?_
 rintro e w1 ⟨rfl, hw1⟩
 rw [hw1]
 clear hw1 w1
 go_wp2_with fail
 refine (aX rb s ⟨#[118, 37]⟩ _ _ _ HW.out.1 p4).mono ?_
 rintro e w1 ⟨rfl, hw1⟩
 rw [hw1]
 clear hw1 w1
 go_wp2_with fail
 refine (aX rb s ⟨#[33]⟩ _ _ _ HW.out.1 p5).mono ?_
 rintro e w1 ⟨rfl, hw1⟩
 rw [hw1]
 clear hw1 w1
 go_wp2_with fail
 refine (aX rb s ⟨#[38, 40]⟩ _ _ _ HW.out.1 p6).mono ?_
 rintro e w1 ⟨rfl, hw1⟩
 rw [hw1]
 clear hw1 w1
 go_wp2_with fail
 refine (ed rb s ⟨#[124, 40]⟩ _ _ _ HW.out.1 p7).mono ?_
 rintro e w1 ⟨s', rfl, hs', hr1, hg1, hz⟩
 have hs3 : s'.size ≤ s.size := by rw [← af, hs']; simp
 have HG1 := hid (HW.out.2.2.1.trans hg1)
 have HL1 := hid (HL.out.below (HG1.out.below (by omega)))
 have HR1 := hid (show Rd w1 rb s' ((n - 1 : Nat) : Int) false by rw [show ((n - 1 : Nat) : Int) = (n : Int) - 1 from by omega]; exact hr1)
 have H0 := hid (And.intro ((hg1.keep w.heap.size HW.out.2.2.2 (by omega)).trans HW.out.2.1) (And.intro hs' hz))
 have hlt1 : w.heap.size < w1.heap.size := by have := HW.out.2.2.2; omega
 clear hr1 hg1 hs' hz
 go_wp2_with fail
 refine (wG d hd IH rb s' (n - 1) w1 (by omega) (by omega) HR1.out HL1.out).mono ?_
 rintro e w2 ⟨es, v, s2, n2, bad, rfl, hv, hr2, hg2, hle2, hb1, hb2⟩
 obtain ⟨va, vc, rfl⟩ := au hv.choose_spec.1
 have hh := (hg2.keep w.heap.size hlt1 (by omega)).trans H0.out.1
 have hlt2 : w.heap.size < w2.heap.size := by have := hg2.size; omega
 have c : ∀ o, w2.cell? ⟨w.heap.size, o, none⟩ = (#[.int .i64 0, .int .u64 0, .int .u64 0, .slice none 0 0] : Array Value)[o]? := fun o => cell_of_row w2 _ o _ _ _ hh
 have fz : w2.frozen? ⟨w.heap.size, 0, none⟩ = false := by rw [frozen_of_row w2 _ 0 _ _ hh]
 have fz1 : w2.frozen? ⟨w.heap.size, 3, none⟩ = false := by rw [frozen_of_row w2 _ 3 _ _ hh]
 have H2 := hid (And.intro hv (And.intro hr2 (And.intro (HG1.out.trans hg2) (And.intro hb1 hb2))))
 clear hv hr2 hg2 hb1 hb2
 have hq1 := ae (o := 0) (v := .int .i64 7) (cs' := #[.int .i64 7, .int .u64 0, .int .u64 0, .slice none 0 0]) hh (by simp)
 have hq2 := ae (o := 3) (v := .slice va es.length vc) (cs' := #[.int .i64 7, .int .u64 0, .int .u64 0, .slice va es.length vc]) hq1 (by simp)
 have HS := hid hq2
 clear hq1 hq2 hh
 go_wp2_with (refine wpList_store_row rfl 70 (.tmp 4) (.tmp 96) rfl rfl w.heap.size rfl _ rfl 70 _ HS.out (by kernel_rfl) rfl (by simp [Value.oneCell']) ?_)
 refine bodyPost_ret (v := .agg #[.int .i64 7, .int .u64 0, .int .u64 0, .slice va es.length vc]) (results_cell_row rfl _ _ w.heap.size 70 _ _ _ rfl (setRow_heap _ _ _ _ _ _ HS.out) Tryz.underlying70 rfl (by kernel_rfl)) rfl ?_
 obtain ⟨hv, hr2, hg2, hb1, hb2⟩ := H2.out
 have hrow := Rd.row (Rd.cellAt (hr2.cellAt hlt 0 (.int .i64 7)) hlt 3 (.slice va es.length vc)) hlt #[.int .i64 7, .int .u64 0, .int .u64 0, .slice va es.length vc]
 have hgg := Rg.row ((hg2.cellAt nl 0 (.int .i64 7)).cellAt nl 3 (.slice va es.length vc)) nl #[.int .i64 7, .int .u64 0, .int .u64 0, .slice va es.length vc]
 refine ⟨.mk 7 0 0 es, _, s2, n2, bad, rfl, dN hv (fun b hb _ => ?_) (fun b hb => by omega) (by omega) (by omega), hrow, hgg, by omega, fun hb => ?_, fun hb e r he => ?_⟩
 ·rw [setRow_other _ _ _ _ (by omega)]
  exact (Below.heap_setCell (w2.setCell ⟨w.heap.size, 0, none⟩ (.int .i64 7)) ⟨w.heap.size, 3, none⟩ (.slice va es.length vc) b (by simp; omega)).trans (Below.heap_setCell w2 ⟨w.heap.size, 0, none⟩ (.int .i64 7) b (by simp; omega))
 ·obtain ⟨h1, h2, h3⟩ := hb1 hb
  rw [H0.out.2.1] at h1
  refine ⟨?_, by simp [Ex.size]; omega, by simp [Ex.size]; omega⟩
  rw [show List.drop 2 s.data.toList = List.drop (ByteArray.mk #[124, 40]).size s.data.toList from rfl, h1]
  rfl
 ·have hb3 := hb2 hb
  rw [H0.out.2.1] at hb3
  rw [show List.drop 2 s.data.toList = List.drop (ByteArray.mk #[124, 40]).size s.data.toList from rfl] at he
  simp only [Option.map_eq_some_iff] at he
  obtain ⟨⟨a, b⟩, h4, h5⟩ := he
  injection h5 with h5 _
  subst h5
  have := hb3 a b h4
  simp [Ex.size]; omega
theorem qy {rb : Nat} {s : ByteArray} {n a b : Nat} {w w5 : World} {s5 : ByteArray} {bad : Bool} {o : Option (Ex × List UInt8)} (hlt : rb < w.heap.size) (hn : 1 ≤ n) (ha : a < 18446744073709551616) (hb : b < 18446744073709551616)
  (hr : Rd w5 rb s5 ((n - 1 : Nat) : Int) bad) (hg : Rg rb w w5) (hs : s5.size ≤ s.size) (h1 : bad = false → o = some (.mk 4 a b [], s5.data.toList)) (h2 : bad = true → o = none) (cs : Array Value) :
  eu rb o n s.size w (.returned (.agg #[.int .i64 4, .int .u64 a, .int .u64 b, .slice none 0 0])) ((w5.setCell ⟨w.heap.size, 2, none⟩ (.int .u64 b)).setRow w.heap.size cs) := by
 refine ⟨.mk 4 a b [], _, s5, _, bad, rfl, bO (by omega) (by omega) ha hb, (hr.cellAt hlt _ _).row hlt _, (hg.cellAt nl _ _).row nl _, hs, fun h => ⟨h1 h, by simp [Ex.size, Ex.sizes]; omega, by simp [Ex.size, Ex.sizes]; omega⟩, fun h e r he => by rw [h2 h] at he; cases he⟩
theorem Fu (d : Nat) (hd : d ≤ 100) (rb : Nat) (s : ByteArray) (n : Nat) (w : World) (hs : s.size ≤ 50000) (hn : n ≤ 32) (hr : Rd w rb s n false) (hL : Lv rb w) (hn0 : 1 ≤ n) (p1 : List.isPrefixOf [97, 108, 108] s.data.toList = false) (p2 : List.isPrefixOf [120, 60, 61] s.data.toList = false) (p3 : List.isPrefixOf [118, 60, 61] s.data.toList = false) (p4 : List.isPrefixOf [118, 37] s.data.toList = true) :
  Calls Tryz.prog 202 #[.pointer (some ⟨rb, 0, none⟩), .int .i64 ((d : Int) + 1)] w (eu rb (pu s.data.toList) n s.size w) := by
 have hst := gL hr
 have hL0 := hL
 obtain ⟨c0, c1, c2, f⟩ := hr.cells
 have f1 := f 1
 have hlt := hr.lt
 have t0 : (((d : Int) + 1) == 0) = false := by simp; omega
 have t1 : decide ((n : Int) - 1 < 0) = false := by simp; omega
 have HL := hid hL
 have HW := hid hst
 clear hr hL f hst
 go_enter Tryz.func202, Tryz.ntmps202
 go_wp2_with fail
 clear c0 c1 c2 f1 t0 t1
 generalize (w.setCell ⟨rb, 1, none⟩ (.int .i64 ((n : Int) - 1))).alloc (.cells #[.int .i64 0, .int .u64 0, .int .u64 0, .slice none 0 0] 70) = W at HW ⊢
 refine (aX rb s ⟨#[97, 108, 108]⟩ _ _ _ HW.out.1 p1).mono ?_
 rintro e w1 ⟨rfl, hw1⟩
 rw [hw1]
 clear hw1 w1
 go_wp2_with fail
 refine (aX rb s ⟨#[120, 60, 61]⟩ _ _ _ HW.out.1 p2).mono ?_
 rintro e w1 ⟨rfl, hw1⟩
 rw [hw1]
 clear hw1 w1
 go_wp2_with fail
 refine (aX rb s ⟨#[118, 60, 61]⟩ _ _ _ HW.out.1 p3).mono ?_
 rintro e w1 ⟨rfl, hw1⟩
 rw [hw1]
 clear hw1 w1
 go_wp2_with fail
 refine (ed rb s ⟨#[118, 37]⟩ _ _ _ HW.out.1 p4).mono ?_
 rintro e w1 ⟨s', rfl, hs', hr1, hg1, hz⟩
 have hs3 : s'.size ≤ s.size := by rw [← af, hs']; simp
 have HG1 := hid (HW.out.2.2.1.trans hg1)
 have HL1 := hid (HL.out.below (HG1.out.below (by omega)))
 have HR1 := hid (show Rd w1 rb s' ((n - 1 : Nat) : Int) false by rw [show ((n - 1 : Nat) : Int) = (n : Int) - 1 from by omega]; exact hr1)
 have H0 := hid (And.intro ((hg1.keep w.heap.size HW.out.2.2.2 (by omega)).trans HW.out.2.1) (And.intro hs' hz))
 have hlt1 : w.heap.size < w1.heap.size := by have := HW.out.2.2.2; omega
 clear hr1 hg1 hs' hz
 go_wp2_with fail
 refine (gu rb s' _ false w1 (by omega) HR1.out HL1.out).mono ?_
 rintro e w2 ⟨v, s2, rfl, hv, hr2, hv2, hg2, hle2⟩
 rw [af] at hle2
 have hh := (hg2.keep w.heap.size hlt1 (by omega)).trans H0.out.1
 have hlt2 : w.heap.size < w2.heap.size := by have := hg2.size; omega
 have hq1 := ae (o := 0) (v := .int .i64 4) (cs' := #[.int .i64 4, .int .u64 0, .int .u64 0, .slice none 0 0]) hh (by simp)
 have hq2 := ae (o := 1) (v := .int .u64 v) (cs' := #[.int .i64 4, .int .u64 v, .int .u64 0, .slice none 0 0]) hq1 (by simp)
 have c : ∀ o, w2.cell? ⟨w.heap.size, o, none⟩ = (#[.int .i64 0, .int .u64 0, .int .u64 0, .slice none 0 0] : Array Value)[o]? := fun o => cell_of_row w2 _ o _ _ _ hh
 have fz : w2.frozen? ⟨w.heap.size, 0, none⟩ = false := by rw [frozen_of_row w2 _ 0 _ _ hh]
 have fz1 : w2.frozen? ⟨w.heap.size, 1, none⟩ = false := by rw [frozen_of_row w2 _ 1 _ _ hh]
 obtain ⟨e0, e1, e2, ef⟩ := hr2.cells
 have ef2 := ef 2
 have hne : w.heap.size ≠ rb := by omega
 have hne2 : rb ≠ w.heap.size := by omega
 have hrl2 := hr2.lt
 have hW2 := hid (And.intro ((hr2.cellAt hlt 0 (.int .i64 4)).cellAt hlt 1 (.int .u64 v)) (And.intro ((((HG1.out.trans hg2).cellAt nl 0 (.int .i64 4))).cellAt nl 1 (.int .u64 v)) (And.intro hq2 hv2)))
 have hmod := hid (show pu s.data.toList = match rdNum s'.data.toList with
   | none => none
   | some (a, r) => if pre [61] r then (rdNum (r.drop 1)).map (fun x => (.mk 4 a x.1 [], x.2)) else none by rw [H0.out.2.1]; rfl)
 clear hh hq1 hq2 hr2 hv2 hg2 ef
 cases hq : rdNum s'.data.toList with
 | none =>
  rw [hq] at e2
  have HQ := hid hq
  clear hq
  go_wp2_with fail
  have HX := hid (And.intro (show Rd (((w2.setCell ⟨w.heap.size, 0, none⟩ (.int .i64 4)).setCell ⟨w.heap.size, 1, none⟩ (.int .u64 v)).setCell ⟨rb, 2, none⟩ (.bool true)) rb s2 ((n - 1 : Nat) : Int) true from ae (o := 2) hW2.out.1 (by simp)) (And.intro (hW2.out.2.1.setCell 2 (.bool true)) (And.intro ((Below.heap_setCell ((w2.setCell ⟨w.heap.size, 0, none⟩ (.int .i64 4)).setCell ⟨w.heap.size, 1, none⟩ (.int .u64 v)) ⟨rb, 2, none⟩ (.bool true) w.heap.size hne).trans hW2.out.2.2.1) (show w.heap.size < (((w2.setCell ⟨w.heap.size, 0, none⟩ (.int .i64 4)).setCell ⟨w.heap.size, 1, none⟩ (.int .u64 v)).setCell ⟨rb, 2, none⟩ (.bool true)).heap.size by simp; omega))))
  obtain ⟨WX, hWX⟩ : ∃ WX, WX = ((w2.setCell ⟨w.heap.size, 0, none⟩ (.int .i64 4)).setCell ⟨w.heap.size, 1, none⟩ (.int .u64 v)).setCell ⟨rb, 2, none⟩ (.bool true) := ⟨_, rfl⟩
  rw [← hWX] at HX ⊢
  clear hWX
  refine (gu rb s2 _ true WX (by omega) HX.out.1 (HL.out.below (HX.out.2.1.below (by omega)))).mono ?_
  rintro e w5 ⟨u, s5, rfl, hu, hr5, hv5, hg5, hle5⟩
  rw [af] at hle5
  have hh5 := (hg5.keep w.heap.size HX.out.2.2.2 hne).trans HX.out.2.2.1
  have c5 : ∀ o, w5.cell? ⟨w.heap.size, o, none⟩ = (#[.int .i64 4, .int .u64 v, .int .u64 0, .slice none 0 0] : Array Value)[o]? := fun o => cell_of_row w5 _ o _ _ _ hh5
  have fz5 : w5.frozen? ⟨w.heap.size, 2, none⟩ = false := by rw [frozen_of_row w5 _ 2 _ _ hh5]
  have hlt5 : w.heap.size < w5.heap.size := by have := hg5.size; have := HX.out.2.2.2; omega
  have HS := hid (ae (o := 2) (v := .int .u64 u) (cs' := #[.int .i64 4, .int .u64 v, .int .u64 u, .slice none 0 0]) hh5 (by simp))
  have H5 := hid (And.intro hr5 (And.intro (HX.out.2.1.trans hg5) hv5))
  clear hh5 hr5 hg5 hv5
  go_wp2_with (refine wpList_store_row rfl 70 (.tmp 4) (.tmp 96) rfl rfl w.heap.size rfl _ rfl 70 _ HS.out (by kernel_rfl) rfl (by simp [Value.oneCell']) ?_)
  refine bodyPost_ret (v := .agg #[.int .i64 4, .int .u64 v, .int .u64 u, .slice none 0 0]) (results_cell_row rfl _ _ w.heap.size 70 _ _ _ rfl (setRow_heap _ _ _ _ _ _ HS.out) Tryz.underlying70 rfl (by kernel_rfl)) rfl ?_
  refine qy hlt hn0 hv hu H5.out.1 H5.out.2.1 (by omega) (fun hb => ?_) (fun hb => ?_) _
  ·cases hb
  ·rw [hmod.out, HQ.out]
 | some x =>
  obtain ⟨a, r⟩ := x
  obtain ⟨hva, hra⟩ := hW2.out.2.2.2 a r hq
  rw [hq] at e2
  have HQ := hid hq
  have HVA := hid (And.intro hva hra)
  clear hq hva hra
  cases hp : pre [61] s2.data.toList with
  | true =>
   have HP := hid hp
   clear hp
   go_wp2_with fail
   refine (ed rb s2 ⟨#[61]⟩ _ _ _ hW2.out.1 HP.out).mono ?_
   rintro e w3 ⟨s3, rfl, hs3', hr3, hg3, hz3⟩
   obtain ⟨g0, g1, g2, gf⟩ := hr3.cells
   have gf2 := gf 2
   have hrl3 := hr3.lt
   have hl3 : w.heap.size < w3.heap.size := by simp at hz3; omega
   have hs3s : s3.size ≤ s2.size := by rw [← af, hs3']; simp
   have hh3 := (hg3.keep w.heap.size (by simp; omega) hne).trans hW2.out.2.2.1
   have HX := hid (And.intro (show Rd (w3.setCell ⟨rb, 2, none⟩ (.bool false)) rb s3 ((n - 1 : Nat) : Int) false from ae (o := 2) hr3 (by simp)) (And.intro ((hW2.out.2.1.trans hg3).setCell 2 (.bool false)) (And.intro ((Below.heap_setCell w3 ⟨rb, 2, none⟩ (.bool false) w.heap.size hne).trans hh3) (show w.heap.size < (w3.setCell ⟨rb, 2, none⟩ (.bool false)).heap.size by simp; omega))))
   have HS3 := hid hs3'
   clear hr3 hg3 hh3 hs3' gf hz3
   go_wp2_with fail
   obtain ⟨WX, hWX⟩ : ∃ WX, WX = w3.setCell ⟨rb, 2, none⟩ (.bool false) := ⟨_, rfl⟩
   rw [← hWX] at HX ⊢
   clear hWX
   refine (gu rb s3 _ false WX (by omega) HX.out.1 (HL.out.below (HX.out.2.1.below (by omega)))).mono ?_
   rintro e w5 ⟨u, s5, rfl, hu, hr5, hv5, hg5, hle5⟩
   rw [af] at hle5
   have hh5 := (hg5.keep w.heap.size HX.out.2.2.2 hne).trans HX.out.2.2.1
   have c5 : ∀ o, w5.cell? ⟨w.heap.size, o, none⟩ = (#[.int .i64 4, .int .u64 v, .int .u64 0, .slice none 0 0] : Array Value)[o]? := fun o => cell_of_row w5 _ o _ _ _ hh5
   have fz5 : w5.frozen? ⟨w.heap.size, 2, none⟩ = false := by rw [frozen_of_row w5 _ 2 _ _ hh5]
   have hlt5 : w.heap.size < w5.heap.size := by have := hg5.size; have := HX.out.2.2.2; omega
   have HS := hid (ae (o := 2) (v := .int .u64 u) (cs' := #[.int .i64 4, .int .u64 v, .int .u64 u, .slice none 0 0]) hh5 (by simp))
   have H5 := hid (And.intro hr5 (And.intro (HX.out.2.1.trans hg5) hv5))
   clear hh5 hr5 hg5 hv5
   go_wp2_with (refine wpList_store_row rfl 70 (.tmp 4) (.tmp 96) rfl rfl w.heap.size rfl _ rfl 70 _ HS.out (by kernel_rfl) rfl (by simp [Value.oneCell']) ?_)
   refine bodyPost_ret (v := .agg #[.int .i64 4, .int .u64 v, .int .u64 u, .slice none 0 0]) (results_cell_row rfl _ _ w.heap.size 70 _ _ _ rfl (setRow_heap _ _ _ _ _ _ HS.out) Tryz.underlying70 rfl (by kernel_rfl)) rfl ?_
   refine qy hlt hn0 hv hu H5.out.1 H5.out.2.1 (by omega) (fun hb => ?_) (fun hb => ?_) _
   ·cases hq5 : rdNum s3.data.toList with
    | none => rw [hq5] at hb; cases hb
    | some y =>
     obtain ⟨b, t⟩ := y
     obtain ⟨h6, h7⟩ := H5.out.2.2 b t hq5
     have h3 := HS3.out
     rw [hmod.out, HQ.out, HVA.out.1]
     simp only
     rw [← HVA.out.2, if_pos HP.out, show List.drop 1 s2.data.toList = s3.data.toList from h3.symm, hq5, h6, h7]
     rfl
   ·have h3 := HS3.out
    have h8 : rdNum s3.data.toList = none := Option.isNone_iff_eq_none.1 (by simpa using hb)
    rw [hmod.out, HQ.out]
    simp only
    rw [← HVA.out.2, if_pos HP.out, show List.drop 1 s2.data.toList = s3.data.toList from h3.symm, h8]
    rfl
  | false =>
   have HP := hid hp
   clear hp
   go_wp2_with fail
   refine (aX rb s2 ⟨#[61]⟩ _ _ _ hW2.out.1 HP.out).mono ?_
   rintro e w3 ⟨rfl, hw3⟩
   rw [hw3]
   clear hw3 w3
   go_wp2_with fail
   have HX := hid (And.intro (show Rd (((w2.setCell ⟨w.heap.size, 0, none⟩ (.int .i64 4)).setCell ⟨w.heap.size, 1, none⟩ (.int .u64 v)).setCell ⟨rb, 2, none⟩ (.bool true)) rb s2 ((n - 1 : Nat) : Int) true from ae (o := 2) hW2.out.1 (by simp)) (And.intro (hW2.out.2.1.setCell 2 (.bool true)) (And.intro ((Below.heap_setCell ((w2.setCell ⟨w.heap.size, 0, none⟩ (.int .i64 4)).setCell ⟨w.heap.size, 1, none⟩ (.int .u64 v)) ⟨rb, 2, none⟩ (.bool true) w.heap.size hne).trans hW2.out.2.2.1) (show w.heap.size < (((w2.setCell ⟨w.heap.size, 0, none⟩ (.int .i64 4)).setCell ⟨w.heap.size, 1, none⟩ (.int .u64 v)).setCell ⟨rb, 2, none⟩ (.bool true)).heap.size by simp; omega))))
   obtain ⟨WX, hWX⟩ : ∃ WX, WX = ((w2.setCell ⟨w.heap.size, 0, none⟩ (.int .i64 4)).setCell ⟨w.heap.size, 1, none⟩ (.int .u64 v)).setCell ⟨rb, 2, none⟩ (.bool true) := ⟨_, rfl⟩
   rw [← hWX] at HX ⊢
   clear hWX
   refine (gu rb s2 _ true WX (by omega) HX.out.1 (HL.out.below (HX.out.2.1.below (by omega)))).mono ?_
   rintro e w5 ⟨u, s5, rfl, hu, hr5, hv5, hg5, hle5⟩
   rw [af] at hle5
   have hh5 := (hg5.keep w.heap.size HX.out.2.2.2 hne).trans HX.out.2.2.1
   have c5 : ∀ o, w5.cell? ⟨w.heap.size, o, none⟩ = (#[.int .i64 4, .int .u64 v, .int .u64 0, .slice none 0 0] : Array Value)[o]? := fun o => cell_of_row w5 _ o _ _ _ hh5
   have fz5 : w5.frozen? ⟨w.heap.size, 2, none⟩ = false := by rw [frozen_of_row w5 _ 2 _ _ hh5]
   have hlt5 : w.heap.size < w5.heap.size := by have := hg5.size; have := HX.out.2.2.2; omega
   have HS := hid (ae (o := 2) (v := .int .u64 u) (cs' := #[.int .i64 4, .int .u64 v, .int .u64 u, .slice none 0 0]) hh5 (by simp))
   have H5 := hid (And.intro hr5 (And.intro (HX.out.2.1.trans hg5) hv5))
   clear hh5 hr5 hg5 hv5
   go_wp2_with (refine wpList_store_row rfl 70 (.tmp 4) (.tmp 96) rfl rfl w.heap.size rfl _ rfl 70 _ HS.out (by kernel_rfl) rfl (by simp [Value.oneCell']) ?_)
   refine bodyPost_ret (v := .agg #[.int .i64 4, .int .u64 v, .int .u64 u, .slice none 0 0]) (results_cell_row rfl _ _ w.heap.size 70 _ _ _ rfl (setRow_heap _ _ _ _ _ _ HS.out) Tryz.underlying70 rfl (by kernel_rfl)) rfl ?_
   refine qy hlt hn0 hv hu H5.out.1 H5.out.2.1 (by omega) (fun hb => ?_) (fun hb => ?_) _
   ·cases hb
   ·rw [hmod.out, HQ.out]
    simp only
    rw [← HVA.out.2, HP.out]
    rfl
theorem Aw (d : Nat) : ∀ (rb : Nat) (s : ByteArray) (n : Nat) (w : World), d ≤ 100 → s.size ≤ 50000 → n ≤ 32 → Rd w rb s n false → Lv rb w →
  Calls Tryz.prog 202 #[.pointer (some ⟨rb, 0, none⟩), .int .i64 d] w (eu rb (rfE d s.data.toList) n s.size w) := by
 induction d with
 | zero => intro rb s n w _ hs hn hr hL; exact Dp rb s n w hs hn hr hL _ (fun e r h => by cases h)
 | succ d ih =>
  intro rb s n w hd hs hn hr hL
  have IH : Hid (∀ (rb : Nat) (s : ByteArray) (n : Nat) (w : World), s.size ≤ 50000 → n ≤ 32 → Rd w rb s n false → Lv rb w → Calls Tryz.prog 202 #[.pointer (some ⟨rb, 0, none⟩), .int .i64 d] w (eu rb (rfE d s.data.toList) n s.size w)) := hid fun rb s n w h1 h2 h3 h4 => ih rb s n w (by omega) h1 h2 h3 h4
  have e : (((d + 1 : Nat) : Int)) = (d : Int) + 1 := by omega
  rw [e]
  rcases Nat.eq_zero_or_pos n with h0 | h0
  ·exact EG d (by omega) rb s n w hs hn hr hL h0 _ (fun e r _ => by have := e.size_pos; omega)
  rw [rfE]
  by_cases p1 : pre [97, 108, 108] s.data.toList = true
  ·rw [if_pos p1]; exact EF d (by omega) rb s n w hs hn hr hL h0 p1
  rw [if_neg p1]
  have p1' := Bool.eq_false_iff.2 p1
  by_cases p2 : pre [120, 60, 61] s.data.toList = true
  ·rw [if_pos p2]; exact Fq d (by omega) rb s n w hs hn hr hL h0 p1' p2
  rw [if_neg p2]
  have p2' := Bool.eq_false_iff.2 p2
  by_cases p3 : pre [118, 60, 61] s.data.toList = true
  ·rw [if_pos p3]; exact Fs d (by omega) rb s n w hs hn hr hL h0 p1' p2' p3
  rw [if_neg p3]
  have p3' := Bool.eq_false_iff.2 p3
  by_cases p4 : pre [118, 37] s.data.toList = true
  ·rw [if_pos p4]; exact Fu d (by omega) rb s n w hs hn hr hL h0 p1' p2' p3' p4
  rw [if_neg p4]
  have p4' := Bool.eq_false_iff.2 p4
  by_cases p5 : pre [33] s.data.toList = true
  ·rw [if_pos p5]; exact rd_not d (by omega) IH rb s n w hs hn hr hL h0 p1' p2' p3' p4' p5
  rw [if_neg p5]
  have p5' := Bool.eq_false_iff.2 p5
  by_cases p6 : pre [38, 40] s.data.toList = true
  ·rw [if_pos p6]; exact Dq d (by omega) IH rb s n w hs hn hr hL h0 p1' p2' p3' p4' p5' p6
  rw [if_neg p6]
  have p6' := Bool.eq_false_iff.2 p6
  by_cases p7 : pre [124, 40] s.data.toList = true
  ·rw [if_pos p7]; exact Dr d (by omega) IH rb s n w hs hn hr hL h0 p1' p2' p3' p4' p5' p6' p7
  rw [if_neg p7]
  exact Dn d (by omega) rb s n w hs hn hr hL h0 p1' p2' p3' p4' p5' p6' (Bool.eq_false_iff.2 p7)
theorem iH {w w' : World} {o : Option Ex} (h : o = none) (hb : Below w.heap.size w w') : lX o w (.returned (.tuple #[.agg #[.int .i64 0, .int .u64 0, .int .u64 0, .slice none 0 0], .int .i64 40])) w' := gB h hb
theorem uS (s : ByteArray) (w : World) (hs : s.size ≤ 50000) (hL : Lv w.heap.size w) : Calls Tryz.prog 172 #[.string s] w (lX (bU s.data.toList) w) := by
 have hr0 : Rd ((w.alloc (.cells #[.int .i64 0, .int .u64 0, .int .u64 0, .slice none 0 0] 70)).alloc (.cells #[.string s, .int .i64 ((32 : Nat) : Int), .bool false] 294)) (w.heap.size + 1) s ((32 : Nat) : Int) false := aa _ _ _ (by simp)
 have hb0 : Below w.heap.size w ((w.alloc (.cells #[.int .i64 0, .int .u64 0, .int .u64 0, .slice none 0 0] 70)).alloc (.cells #[.string s, .int .i64 ((32 : Nat) : Int), .bool false] 294)) := (br.alloc nl _).alloc (by simp) _
 have HC := hid (Aw 8 (w.heap.size + 1) s 32 _ (by omega) (by omega) (by omega) hr0 ((hL.below hb0).mono (by omega)))
 have HB0 := hid hb0
 clear hr0 hb0 hL
 go_enter Tryz.func172, Tryz.ntmps172
 go_wp2_with fail
 refine HC.out.mono ?_
 rintro e w1 ⟨t, v, r, n', bad, rfl, hv, hrd, hg, hrs, hb1, hb2⟩
 obtain ⟨q0, q1, q2, q3, q4, q5, rfl⟩ := hv.conc
 have hsz0 : ((w.alloc (.cells #[.int .i64 0, .int .u64 0, .int .u64 0, .slice none 0 0] 70)).alloc (.cells #[.string s, .int .i64 ((32 : Nat) : Int), .bool false] 294)).heap.size = w.heap.size + 2 := by simp
 have hsg := hg.size
 rw [hsz0] at hsg
 have hbw : Below w.heap.size w w1 := ⟨hg.os.trans HB0.out.os, hg.tape.trans HB0.out.tape, hg.output.trans HB0.out.output, by omega, fun k hk => (hg.keep k (by rw [hsz0]; omega) (by omega)).trans (HB0.out.block k hk)⟩
 have hh : w1.heap[w.heap.size]? = some (.cells #[.int .i64 0, .int .u64 0, .int .u64 0, .slice none 0 0] 70) := (hg.keep w.heap.size (by rw [hsz0]; omega) (by omega)).trans ((ai _ _ _ (by simp)).trans (aa _ _ _ rfl))
 obtain ⟨e0, e1, e2, ef⟩ := hrd.cells
 have l1 : w.heap.size < w1.heap.size := by omega
 have l2 : w.heap.size + 1 < w1.heap.size := by omega
 have HH := hid ((ai w1 (.cells #[.int .i64 q0, .int .u64 q1, .int .u64 q2, .slice q3 q4 q5] 70) _ l1).trans hh)
 have HV := hid (And.intro hb1 (And.intro hb2 (And.intro (hv.wider (S' := fun b => w.heap.size + 1 ≤ b) (fun b _ h => by simp at h; omega)) hbw)))
 clear hb1 hb2 hv hbw hh hrd hg ef hsz0 hsg
 cases bad with
 | true =>
  have hn : bU s.data.toList = none := by
   cases hq : rfE 8 s.data.toList with
   | none => exact nP hq
   | some x =>
    obtain ⟨e, r⟩ := x
    have := HV.out.2.1 rfl e r hq
    rw [kJ hq, if_neg (fun h => by have := h.2; simp [Ex.right] at this; omega)]
  have HN := hid hn
  clear hn
  go_wp2_with (first
   | (refine wpList_store_row rfl 70 (.tmp 2) (.tmp 27) rfl rfl w.heap.size rfl _ rfl 70 _ HH.out (by kernel_rfl) rfl (by simp [Value.oneCell']) ?_))
  refine bodyPost_ret (v := .tuple #[.agg #[.int .i64 0, .int .u64 0, .int .u64 0, .slice none 0 0], .int .i64 40])
   (ag rfl _ _ w.heap.size 70 _ _ _ _ rfl (setRow_heap _ _ _ _ _ _ HH.out) Tryz.underlying70 rfl (by kernel_rfl) rfl) rfl ?_
  exact iH HN.out (below_setRow (HV.out.2.2.2.alloc (by omega) _) _ _ nl)
 | false =>
  obtain ⟨hrf, hsz, _⟩ := HV.out.1 rfl
  have HN := hid (kJ hrf)
  clear hrf
  by_cases hr0 : r.data.toList = []
  ·have hrt : r.toList = [] := by rw [ByteArray.toList_eq]; exact hr0
   have HR0 := hid hr0
   clear hr0
   go_wp2_with fail
   have hbq : Below w1.heap.size w1 (w1.alloc (.cells #[.int .i64 q0, .int .u64 q1, .int .u64 q2, .slice q3 q4 q5] 70)) := br.alloc nl _
   refine (kP _ _ t _ _ (by omega) (HV.out.2.2.1.below hbq nl)).mono ?_
   rintro e2 w2 ⟨rfl, hb2⟩
   have hbw2 : Below w.heap.size w w2 := (HV.out.2.2.2.alloc (by omega) _).trans (hb2.mono (by simp; omega))
   have hbox : ∀ o, w2.cell? ⟨w1.heap.size, o, none⟩ = (w1.alloc (.cells #[.int .i64 q0, .int .u64 q1, .int .u64 q2, .slice q3 q4 q5] 70)).cell? ⟨w1.heap.size, o, none⟩ := fun o => hb2.cell (by simp)
   have hsz2 : w1.heap.size < w2.heap.size := by have := hb2.size; simp at this; omega
   have HH2 := hid ((hb2.block w.heap.size (by simp; omega)).trans HH.out)
   have HV2 := hid (And.intro ((HV.out.2.2.1.below hbq nl).below hb2 nl) hbw2)
   clear hb2 hbq hbw2
   cases hrt2 : t.right with
   | false =>
    have HT := hid hrt2
    clear hrt2
    go_wp2_with (first
     | (refine wpList_store_row rfl 70 (.tmp 2) (.tmp 27) rfl rfl w.heap.size rfl _ rfl 70 _ HH2.out (by kernel_rfl) rfl (by simp [Value.oneCell']) ?_))
    refine bodyPost_ret (v := .tuple #[.agg #[.int .i64 0, .int .u64 0, .int .u64 0, .slice none 0 0], .int .i64 40])
     (ag rfl _ _ w.heap.size 70 _ _ _ _ rfl (setRow_heap _ _ _ _ _ _ HH2.out) Tryz.underlying70 rfl (by kernel_rfl) rfl) rfl ?_
    exact iH (by rw [HN.out]; simp [HT.out]) (below_setRow HV2.out.2 _ _ nl)
   | true =>
    have HT := hid hrt2
    clear hrt2
    go_wp2_with (first
     | (refine wpList_store_row rfl 70 (.tmp 2) (.tmp 28) rfl rfl w.heap.size rfl _ rfl 70 _ HH2.out (by kernel_rfl) rfl (by simp [Value.oneCell']) ?_))
    refine bodyPost_ret (v := .tuple #[.agg #[.int .i64 q0, .int .u64 q1, .int .u64 q2, .slice q3 q4 q5], .int .i64 0])
     (ag rfl _ _ w.heap.size 70 _ _ _ _ rfl (setRow_heap _ _ _ _ _ _ HH2.out) Tryz.underlying70 rfl (by kernel_rfl) rfl) rfl ?_
    rw [HN.out]
    simp only [HR0.out, HT.out, and_self, if_true]
    exact ⟨_, rfl, ax.keep (w := w2) (S := fun b => w.heap.size + 1 ≤ b) (fun b hb _ => setRow_other _ _ _ _ (by omega)) (fun b _ h => by omega) HV2.out.1, below_setRow HV2.out.2 _ _ nl⟩
  ·have hrt : ¬ r.toList = [] := by rw [ByteArray.toList_eq]; exact hr0
   have HR0 := hid hr0
   clear hr0
   go_wp2_with (first
    | (refine wpList_store_row rfl 70 (.tmp 2) (.tmp 27) rfl rfl w.heap.size rfl _ rfl 70 _ HH.out (by kernel_rfl) rfl (by simp [Value.oneCell']) ?_))
   refine bodyPost_ret (v := .tuple #[.agg #[.int .i64 0, .int .u64 0, .int .u64 0, .slice none 0 0], .int .i64 40])
    (ag rfl _ _ w.heap.size 70 _ _ _ _ rfl (setRow_heap _ _ _ _ _ _ HH.out) Tryz.underlying70 rfl (by kernel_rfl) rfl) rfl ?_
   exact iH (by rw [HN.out]; simp [HR0.out]) (below_setRow (HV.out.2.2.2.alloc (by omega) _) _ _ nl)
end Go.Proofs.YtlpgokcapdjgjaaGreatDoor
