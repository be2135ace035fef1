/- Walks. -/
import Derived.Test.YtmgbhhmipmgcpaaGreatDoorQV21
import Derived.Test.YtmgbhhmipmgcpaaGreatDoorQW30
set_option maxHeartbeats 8000000
set_option maxRecDepth 100000
namespace Go.Proofs.YtmgbhhmipmgcpaaGreatDoor
open Go.RowKit Go
set_option linter.unusedVariables false
set_option linter.unusedSimpArgs false
theorem uR (w : World) (e : Ent) (T : TypeId) : bZ (w.alloc (.cells (il e) T)) (fun b => b = w.heap.size) true [e] (.slice (some ⟨w.heap.size, 0, none⟩) 1 1) := by
 have hh := aa w (.cells (il e) T) _ rfl
 refine ⟨rfl, by simp, _, _, rfl, Nat.le_refl _, fun _ => ⟨_, _, rfl, rfl, fun j hj => ⟨?_, fun _ => by rw [frozen_of_row _ _ _ _ _ hh]⟩⟩⟩
 rw [cell_of_row _ _ _ _ _ _ hh, Nat.zero_add]
 have he : aH [e] = (il e).toList := by simp [aH, il]
 simp only [he] at hj ⊢
 rw [← Array.getElem?_toList, List.getElem?_eq_getElem]
theorem kD (w : World) (l : List UInt8) (T : TypeId) (hl : l.length ≤ 1000 := by decide) : bM (w.alloc (.cells (bytes l).toArray T)) (fun _ => True) true l (.slice (some ⟨w.heap.size, 0, none⟩) l.length l.length) := by
 have h := bR w (fun _ => True) (bytes l).toArray T l.length l.length (by simp [bytes_length]) nl trivial hl
 have e : ((bytes l).toArray.toList.take l.length) = bytes l := by simp [List.take_of_length_le, bytes_length]
 rw [e] at h
 exact h
theorem ic (w : World) (hL : Lq w.heap.size w) : Calls Tryz.prog 6 #[] w fun e w' => e = .returned (.bool true) ∧ Below w.heap.size w w' := by
 have hv1 : aI w (fun _ => True) true ex1 (.agg #[.int .i64 2, .int .u64 7, .int .u64 300, .int .u64 2, .int .u64 1, .int .u64 0, .int .i64 0, .int .u64 0, .int .u64 0, .slice none 0 0, .slice none 0 0]) := eG w _ 2 7 300 2 1 0 (by omega) (by omega) (by omega) (by omega) (by omega) (by omega)
 have HP1 := hid (And.intro (jm _ true ex1 _ w (by decide) (by decide) hv1) hL)
 clear hv1 hL
 go_enter Tryz.func6, Tryz.ntmps6
 go_wp2_with fail
 refine HP1.out.1.mono ?_
 rintro e w1 ⟨h1, _, hb1⟩
 obtain ⟨bv, rfl, hbv⟩ := h1 nk
 rw [vR] at hbv
 obtain ⟨_, ad1, cap1, rfl, _⟩ := hbv.shape
 rw [show ex1.k = 2 from rfl, show ([7, 172, 2, 2, 1] : List UInt8).length = 5 from rfl]
 have H1 := hid (And.intro hbv hb1)
 clear h1 hbv hb1
 go_upto_region 2 with fail
 obtain ⟨w2, hw2⟩ : ∃ w2, w2 = w1.alloc (.cells #[.int .u8 2, .slice ad1 5 cap1] 24) := ⟨_, rfl⟩
 obtain ⟨b1, hb1⟩ : ∃ b1, b1 = w1.heap.size := ⟨_, rfl⟩
 have hb2 : Below w1.heap.size w1 w2 := by rw [hw2]; exact br.alloc nl _
 have hh2 : w2.heap[b1]? = some (.cells #[.int .u8 2, .slice ad1 5 cap1] 24 (0, 0)) := by rw [hw2, hb1]; exact aa _ _ _ rfl
 have hz2 : w2.heap.size = b1 + 1 := by rw [hw2, hb1]; simp
 rw [← hw2, ← hb1]
 have H2 := hid (And.intro (H1.out.2.trans (hb2.mono H1.out.2.size)) (And.intro hh2 (bM.below H1.out.1 hb2 nl)))
 have hbe : Below w2.heap.size w2 (w2.alloc (.cells #[.int .u64 5, .int .u64 0, .int .u64 0, .bool false] 78)) := br.alloc nl _
 have hv2 : aI (w2.alloc (.cells #[.int .u64 5, .int .u64 0, .int .u64 0, .bool false] 78)) (fun b => b = w2.heap.size) true ex2 (.agg #[.int .i64 5, .int .u64 1, .int .u64 0, .int .u64 0, .int .u64 0, .int .u64 0, .int .i64 1, .int .u64 0, .int .u64 0, .slice none 0 0, .slice (some ⟨w2.heap.size, 0, none⟩) 1 1]) :=
  ⟨_, _, _, _, _, rfl, by decide, by decide, ⟨by decide, by decide, by decide, by decide, by decide, by simp [ex2, Ex.nums, Ex.numss], by simp [ex2, Ent.ok]⟩, dE (by omega) (by omega) (by omega) (by omega), uR w2 ⟨5, 0, 0, false⟩ 78⟩
 have hp2 := jm _ true ex2 _ _ (by decide) (by decide) hv2
 rw [hz2] at hp2
 have HP2 := hid (And.intro hp2 hbe)
 clear hw2 hb1 hb2 hh2 hbe hv2 hp2
 go_wp2_with fail
 refine HP2.out.1.mono ?_
 rintro e w3 ⟨h1, _, hb3⟩
 obtain ⟨bv2, rfl, hbv2⟩ := h1 ul
 rw [vS] at hbv2
 obtain ⟨_, ad2, cap2, rfl, _⟩ := hbv2.shape
 rw [show ex2.k = 5 from rfl, show ([1, 1, 1, 1, 5, 0, 0, 0] : List UInt8).length = 8 from rfl]
 have H3 := hid (And.intro hbv2 (HP2.out.2.trans (hb3.mono (by simp))))
 clear h1 hbv2 hb3
 go_upto_region 3 with fail
 obtain ⟨w4, hw4⟩ : ∃ w4, w4 = w3.alloc (.cells #[.int .u8 5, .slice ad2 8 cap2] 24) := ⟨_, rfl⟩
 obtain ⟨b3, hb3⟩ : ∃ b3, b3 = w3.heap.size := ⟨_, rfl⟩
 have hb4 : Below w3.heap.size w3 w4 := by rw [hw4]; exact br.alloc nl _
 have hh4 : w4.heap[b3]? = some (.cells #[.int .u8 5, .slice ad2 8 cap2] 24 (0, 0)) := by rw [hw4, hb3]; exact aa _ _ _ rfl
 have hz34 := H3.out.2.size
 have hb24 : Below w2.heap.size w2 w4 := H3.out.2.trans (hb4.mono hz34)
 rw [← hw4, ← hb3]
 have H4 := hid (And.intro (H2.out.1.trans (hb24.mono H2.out.1.size)) (And.intro ((hb24.block _ (by omega)).trans H2.out.2.1) (And.intro hh4 (And.intro (H2.out.2.2.below hb24 nl) (bM.below H3.out.1 hb4 nl)))))
 have HL4 := hid (show Lq w4.heap.size w4 from (HP1.out.2.below H4.out.1).mono H4.out.1.size)
 have l1 : b1 < w4.heap.size := (Array.getElem?_eq_some_iff.1 H4.out.2.1).1
 have l3 : b3 < w4.heap.size := (Array.getElem?_eq_some_iff.1 hh4).1
 clear hw4 hb3 hb4 hh4 hb24 hz34 hz2
 go_wp2_with fail
 refine (kz ⟨#[114, 101, 97, 100, 32, 55, 32, 51, 48, 48, 32, 50, 46, 49]⟩ w4 (by decide) HL4.out).mono ?_
 rintro e w5 ⟨v5, rfl, hr5, hb5⟩
 rw [show (ByteArray.mk #[114, 101, 97, 100, 32, 55, 32, 51, 48, 48, 32, 50, 46, 49]).data.toList = [114, 101, 97, 100, 32, 55, 32, 51, 48, 48, 32, 50, 46, 49] from rfl, vT] at hr5 ⊢
 obtain ⟨q0, q1, q2, q3, q4, q5, q6, q7, hv5, _⟩ := hr5.conc
 have e5 : v5 = .agg #[.int .i64 2, .int .u64 7, .int .u64 300, .int .u64 2, .int .u64 1, .int .u64 0, .int .i64 q0, .int .u64 (q1 : Nat), .int .u64 (q2 : Nat), .slice q3 q4 q5, .slice q6 0 q7] := hv5
 rw [e5, show ww (some ex1) = 0 from rfl]
 have hb45 : Below w4.heap.size w4 w5 := hb5
 have H5 := hid hb45
 clear hr5 hv5 e5 hb5 hb45
 go_upto_region 4 with fail
 obtain ⟨w6, hw6⟩ : ∃ w6, w6 = w5.alloc (.cells #[.int .i64 2, .int .u64 7, .int .u64 300, .int .u64 2, .int .u64 1, .int .u64 0, .int .i64 q0, .int .u64 (q1 : Nat), .int .u64 (q2 : Nat), .slice q3 q4 q5, .slice q6 0 q7] 47) := ⟨_, rfl⟩
 obtain ⟨b5, hb5⟩ : ∃ b5, b5 = w5.heap.size := ⟨_, rfl⟩
 have hb6 : Below w5.heap.size w5 w6 := by rw [hw6]; exact br.alloc nl _
 have hh6 : w6.heap[b5]? = some (.cells #[.int .i64 2, .int .u64 7, .int .u64 300, .int .u64 2, .int .u64 1, .int .u64 0, .int .i64 q0, .int .u64 (q1 : Nat), .int .u64 (q2 : Nat), .slice q3 q4 q5, .slice q6 0 q7] 47 (0, 0)) := by rw [hw6, hb5]; exact aa _ _ _ rfl
 have hb46 : Below w4.heap.size w4 w6 := H5.out.trans (hb6.mono H5.out.size)
 rw [← hw6, ← hb5]
 have l5 : b5 < w6.heap.size := (Array.getElem?_eq_some_iff.1 hh6).1
 have H6 := hid (And.intro hb46 hh6)
 clear hw6 hb5 hb6 hh6 hb46
 go_upto_region 6 with fail
 obtain ⟨w7, hw7⟩ : ∃ w7, w7 = w6.alloc (.cells #[.string ⟨#[98, 101, 103, 105, 110, 32, 32, 49]⟩, .string ⟨#[114, 101, 97, 100, 32, 49, 32, 50, 32, 51]⟩, .string ⟨#[119, 114, 105, 116, 101, 32, 48, 49, 32, 50, 32, 51]⟩] 9) := ⟨_, rfl⟩
 obtain ⟨sb, hsb⟩ : ∃ sb, sb = w6.heap.size := ⟨_, rfl⟩
 have hb7 : Below w6.heap.size w6 w7 := by rw [hw7]; exact br.alloc nl _
 have hh7 : w7.heap[sb]? = some (.cells #[.string ⟨#[98, 101, 103, 105, 110, 32, 32, 49]⟩, .string ⟨#[114, 101, 97, 100, 32, 49, 32, 50, 32, 51]⟩, .string ⟨#[119, 114, 105, 116, 101, 32, 48, 49, 32, 50, 32, 51]⟩] 9 (0, 0)) := by rw [hw7, hsb]; exact aa _ _ _ rfl
 rw [← hw7, ← hsb]
 have l7 : sb < w7.heap.size := (Array.getElem?_eq_some_iff.1 hh7).1
 have hz46 := H6.out.1.size
 have hb47 : Below w4.heap.size w4 w7 := H6.out.1.trans (hb7.mono hz46)
 have H7 := hid (And.intro hb47 (And.intro hh7 ((hb7.block _ l5).trans H6.out.2)))
 have hz67 := hb7.size
 clear hw7 hsb hb7 hh7 hb47
 go_loopw [8] (fun i wr => ∃ j : Nat, i = .int .i64 j ∧ j ≤ 3 ∧ Below w7.heap.size w7 wr) (fun i _ => 3 - (intOf i).toNat)
 case atStart => exact ⟨0, rfl, by omega, br⟩
 case round =>
  obtain ⟨j, rfl, hj, hbr⟩ := hrel
  have hzr := hbr.size
  by_cases hlt : j < 3
  ·have hstr : ∃ X : ByteArray, wr.cell? ⟨sb, j, none⟩ = some (.string X) ∧ X.size ≤ 50000 ∧ fe X.data.toList = none := by
    have hc : j = 0 ∨ j = 1 ∨ j = 2 := by omega
    have hh := (hbr.block _ l7).trans H7.out.2.1
    rcases hc with rfl | rfl | rfl
    ·exact ⟨⟨#[98, 101, 103, 105, 110, 32, 32, 49]⟩, by rw [cell_of_row wr _ _ _ _ _ hh]; rfl, by decide, yt⟩
    ·exact ⟨⟨#[114, 101, 97, 100, 32, 49, 32, 50, 32, 51]⟩, by rw [cell_of_row wr _ _ _ _ _ hh]; rfl, by decide, yu⟩
    ·exact ⟨⟨#[119, 114, 105, 116, 101, 32, 48, 49, 32, 50, 32, 51]⟩, by rw [cell_of_row wr _ _ _ _ _ hh]; rfl, by decide, yw⟩
   obtain ⟨X, cX, zX, hX⟩ := hstr
   have hLr : Lq wr.heap.size wr := (((HL4.out.below H7.out.1).mono H7.out.1.size).below hbr).mono hbr.size
   have HLX := hid (kz X wr zX hLr)
   have HX := hid (And.intro hX hbr)
   have i0 : (0 : Int) ≤ (j : Int) := by omega
   have i1 : (j : Int) < 3 := by omega
   clear hLr hX hbr
   go_wp2_with fail
   refine HLX.out.mono ?_
   rintro e w8 ⟨v8, rfl, hr8, hb8⟩
   rw [HX.out.1] at hr8 ⊢
   rw [show ww (none : Option Rec) = 50 from rfl]
   obtain ⟨p0, p1, p2, p3, p4, p5, p6, p7, rfl, _⟩ := hr8.conc
   have HB8 := hid (HX.out.2.trans (hb8.mono HX.out.2.size))
   clear hr8 hb8 cX
   go_wp2_with fail
   go_roundw
   case rel => exact ⟨j + 1, by go_num, by omega, HB8.out.alloc HB8.out.size _⟩
   case measure => simp [intOf]; omega
  ·have hj3 : j = 3 := by omega
   subst hj3
   have hbA : Below w4.heap.size w4 wr := H7.out.1.trans (hbr.mono H7.out.1.size)
   have k1 : wr.heap[b1]? = some (.cells #[.int .u8 2, .slice ad1 5 cap1] 24 (0, 0)) := (hbA.block _ l1).trans H4.out.2.1
   have k3 : wr.heap[b3]? = some (.cells #[.int .u8 5, .slice ad2 8 cap2] 24 (0, 0)) := (hbA.block _ l3).trans H4.out.2.2.1
   have k5 : wr.heap[b5]? = some (.cells #[.int .i64 2, .int .u64 7, .int .u64 300, .int .u64 2, .int .u64 1, .int .u64 0, .int .i64 q0, .int .u64 (q1 : Nat), .int .u64 (q2 : Nat), .slice q3 q4 q5, .slice q6 0 q7] 47 (0, 0)) := (hbr.block _ (by omega)).trans H7.out.2.2
   have g1 := bM.below H4.out.2.2.2.1 hbA nl
   have g2 := bM.below H4.out.2.2.2.2 hbA nl
   have HG := hid (And.intro g1 (And.intro g2 (And.intro (H4.out.1.trans (hbA.mono H4.out.1.size)) (And.intro k1 (And.intro k3 k5)))))
   have c10 : wr.cell? ⟨b1, 0, none⟩ = some (.int .u8 2) := by rw [cell_of_row wr _ 0 _ _ _ k1]; rfl
   have c11 : wr.cell? ⟨b1, 1, none⟩ = some (.slice ad1 5 cap1) := by rw [cell_of_row wr _ 1 _ _ _ k1]; rfl
   clear hbA k1 k3 k5 g1 g2 hbr
   go_wp2_with fail
   refine (iR _ (fun _ => True) true true [7, 172, 2, 2, 1] [7, 172, 2, 2, 1] (.slice ad1 5 cap1) _ _ (HG.out.1.below (br.alloc nl _) nl) (kD wr [7, 172, 2, 2, 1] 5)).mono ?_
   rintro e w9 ⟨rfl, hb9⟩
   rw [decide_eq_true (show ([7, 172, 2, 2, 1] : List UInt8) = [7, 172, 2, 2, 1] from rfl)]
   have hbA : Below wr.heap.size wr w9 := (br.alloc nl _).trans (hb9.mono (by simp))
   have lr3 : b3 < wr.heap.size := (Array.getElem?_eq_some_iff.1 HG.out.2.2.2.2.1).1
   have lr5 : b5 < wr.heap.size := (Array.getElem?_eq_some_iff.1 HG.out.2.2.2.2.2).1
   have k3 := (hbA.block _ lr3).trans HG.out.2.2.2.2.1
   have c31 : w9.cell? ⟨b3, 1, none⟩ = some (.slice ad2 8 cap2) := by rw [cell_of_row w9 _ 1 _ _ _ k3]; rfl
   have H9 := hid (And.intro (HG.out.2.1.below hbA nl) (And.intro hbA ((hbA.block _ lr5).trans HG.out.2.2.2.2.2)))
   clear hb9 hbA k3 c10 c11
   go_wp2_with fail
   refine (iR _ (fun _ => True) true true [1, 1, 1, 1, 5, 0, 0, 0] [1, 1, 1, 1, 5, 0, 0, 0] (.slice ad2 8 cap2) _ _ (H9.out.1.below (br.alloc nl _) nl) (kD w9 [1, 1, 1, 1, 5, 0, 0, 0] 5)).mono ?_
   rintro e w10 ⟨rfl, hb10⟩
   rw [decide_eq_true (show ([1, 1, 1, 1, 5, 0, 0, 0] : List UInt8) = [1, 1, 1, 1, 5, 0, 0, 0] from rfl)]
   have hbB : Below w9.heap.size w9 w10 := (br.alloc nl _).trans (hb10.mono (by simp))
   have hz9 := H9.out.2.1.size
   have k5 := (hbB.block _ (by omega)).trans H9.out.2.2
   have c52 : w10.cell? ⟨b5, 2, none⟩ = some (.int .u64 300) := by rw [cell_of_row w10 _ 2 _ _ _ k5]; rfl
   have c53 : w10.cell? ⟨b5, 3, none⟩ = some (.int .u64 2) := by rw [cell_of_row w10 _ 3 _ _ _ k5]; rfl
   have c54 : w10.cell? ⟨b5, 4, none⟩ = some (.int .u64 1) := by rw [cell_of_row w10 _ 4 _ _ _ k5]; rfl
   have hm : Tryz.prog.eqGuardType Tryz.prog.depth 41 = false := by kernel_rfl
   have t4 : ∀ W, (binOp .eql 41 (.agg #[.int .u64 2, .int .u64 1]) (.agg #[.int .u64 2, .int .u64 1])).run Tryz.prog W = .ok (.bool true) W := fun W => (rR 2 1 2 1 W).trans (by simp)
   have HF := hid (HG.out.2.2.1.trans ((H9.out.2.1.trans (hbB.mono hz9)).mono HG.out.2.2.1.size))
   clear hb10 hbB k5 c31
   go_wp2_with fail
   go_ret
   exact ⟨rfl, HF.out⟩
end Go.Proofs.YtmgbhhmipmgcpaaGreatDoor
