/- Walks. -/
import Derived.Test.YtlpgokcapdjgjaaGreatDoorYV22
import Derived.Test.YtlpgokcapdjgjaaGreatDoorY23
set_option maxHeartbeats 8000000
set_option maxRecDepth 100000
namespace Go.Proofs.YtlpgokcapdjgjaaGreatDoor
open Go.RowKit Go
set_option linter.unusedVariables false
set_option linter.unusedSimpArgs false
theorem fD {r : Rec} (h1 : 1 ≤ r.k) (h7 : r.k ≤ 7) (h : r.k = 5 → r.p.right = true) : r.right = r.only.same r := by
 rw [lH h1 h7 h, Bool.eq_iff_iff, Rec.same_iff, Rec.same_iff]
 exact eq_comm
theorem Rec.only_p (r : Rec) : r.only.p = if r.k = 5 then r.p else .zero := by
 unfold Rec.only
 split
 ·rename_i h; simp [h]
 split
 ·rename_i h; simp [h]
 split
 ·rename_i h; simp [h]
 split <;> rfl
theorem bZ (S : Nat → Prop) (own : Bool) (r : Rec) (v : Value) (w : World) (hsz : r.p.size ≤ 900) (hv : aI w S own r v) :
  Calls Tryz.prog 74 #[v] w fun e w' => e = .returned (.bool r.right) ∧ Below w.heap.size w w' := by
 have hd := r.p.depth_le_size
 obtain ⟨k0, k1, k2, k3, k4, k5, k6, k7, rfl, hk1, hk2, hnums, he, hes⟩ := hv.conc
 obtain ⟨n6, hn6⟩ : ∃ n6, n6 = r.es.length := ⟨_, rfl⟩
 obtain ⟨kk, hkk⟩ : ∃ kk, kk = r.k := ⟨_, rfl⟩
 rw [← hn6] at hes hv ⊢
 rw [← hkk] at hk1 hk2 hv ⊢
 have HN := hid (And.intro hn6 (And.intro hnums (And.intro he (And.intro hes hv))))
 have HK := hid hkk
 clear hn6 hnums he hes hv hkk
 have hc : kk = 2 ∨ kk = 3 ∨ kk = 4 ∨ kk = 5 ∨ (kk = 1 ∨ kk = 6 ∨ kk = 7) ∨ ¬ (1 ≤ kk ∧ kk ≤ 7) := by omega
 have hB : ∀ (o o' : Obj), Below w.heap.size w ((w.alloc o).alloc o') := fun o o' => (br.alloc nl _).alloc (by simp) _
 have HB := hid hB
 clear hB
 rcases hc with rfl | rfl | rfl | rfl | hc | hc
 ·have HO := hid (show aI w S own r.only (.agg (bG 2 2 r.t r k0 k1 k2 k3 k4 k5 k6 n6 k7)) from by
   have h := HN.out.2.2.2.1
   rw [HN.out.1] at h ⊢
   exact fH HK.out.symm (by omega) (by omega) HN.out.2.1 HN.out.2.2.1 h)
  have HRS := hid (fD (r := r) (by rw [← HK.out]; omega) (by rw [← HK.out]; omega) (fun h => by rw [← HK.out] at h; omega))
  go_enter Tryz.func74, Tryz.ntmps74
  go_wp2_with fail
  refine (di S S own own r.only r _ _ _ (by rw [Rec.only_p]; split; omega; decide) (aI.below HO.out (HB.out _ _) nl) (aI.below HN.out.2.2.2.2 (HB.out _ _) nl)).mono ?_
  rintro e w1 ⟨rfl, hb1⟩
  have HE := hid (And.intro HRS.out ((HB.out _ _).trans (hb1.mono (by simp; omega))))
  clear hb1
  go_wp2_with fail
  go_ret
  exact ⟨ah HE.out.1.symm, HE.out.2⟩
 ·have HO := hid (show aI w S own r.only (.agg (bG 3 3 r.t r k0 k1 k2 k3 k4 k5 k6 n6 k7)) from by
   have h := HN.out.2.2.2.1
   rw [HN.out.1] at h ⊢
   exact fH HK.out.symm (by omega) (by omega) HN.out.2.1 HN.out.2.2.1 h)
  have HRS := hid (fD (r := r) (by rw [← HK.out]; omega) (by rw [← HK.out]; omega) (fun h => by rw [← HK.out] at h; omega))
  go_enter Tryz.func74, Tryz.ntmps74
  go_wp2_with fail
  refine (di S S own own r.only r _ _ _ (by rw [Rec.only_p]; split; omega; decide) (aI.below HO.out (HB.out _ _) nl) (aI.below HN.out.2.2.2.2 (HB.out _ _) nl)).mono ?_
  rintro e w1 ⟨rfl, hb1⟩
  have HE := hid (And.intro HRS.out ((HB.out _ _).trans (hb1.mono (by simp; omega))))
  clear hb1
  go_wp2_with fail
  go_ret
  exact ⟨ah HE.out.1.symm, HE.out.2⟩
 ·have HO := hid (show aI w S own r.only (.agg (bG 4 4 r.t r k0 k1 k2 k3 k4 k5 k6 n6 k7)) from by
   have h := HN.out.2.2.2.1
   rw [HN.out.1] at h ⊢
   exact fH HK.out.symm (by omega) (by omega) HN.out.2.1 HN.out.2.2.1 h)
  have HRS := hid (fD (r := r) (by rw [← HK.out]; omega) (by rw [← HK.out]; omega) (fun h => by rw [← HK.out] at h; omega))
  go_enter Tryz.func74, Tryz.ntmps74
  go_wp2_with fail
  refine (di S S own own r.only r _ _ _ (by rw [Rec.only_p]; split; omega; decide) (aI.below HO.out (HB.out _ _) nl) (aI.below HN.out.2.2.2.2 (HB.out _ _) nl)).mono ?_
  rintro e w1 ⟨rfl, hb1⟩
  have HE := hid (And.intro HRS.out ((HB.out _ _).trans (hb1.mono (by simp; omega))))
  clear hb1
  go_wp2_with fail
  go_ret
  exact ⟨ah HE.out.1.symm, HE.out.2⟩
 ·cases hp : r.p.right with
  | false =>
   have HRP := hid (qD HK.out.symm hp)
   go_enter Tryz.func74, Tryz.ntmps74
   go_wp2_with fail
   refine (fJ S own r.p _ _ hsz (HN.out.2.2.1.below (HB.out _ _) nl)).mono ?_
   rintro e w1 ⟨rfl, hb1⟩
   rw [hp]
   have HE := hid ((HB.out _ _).trans (hb1.mono (by simp; omega)))
   clear hb1 hp
   go_wp2_with fail
   go_ret
   exact ⟨ah HRP.out.symm, HE.out⟩
  | true =>
  have HO := hid (show aI w S own r.only (.agg (bG 5 5 r.t r k0 k1 k2 k3 k4 k5 k6 n6 k7)) from by
   have h := HN.out.2.2.2.1
   rw [HN.out.1] at h ⊢
   exact fH HK.out.symm (by omega) (by omega) HN.out.2.1 HN.out.2.2.1 h)
  have HRS := hid (fD (r := r) (by rw [← HK.out]; omega) (by rw [← HK.out]; omega) (fun _ => hp))
  go_enter Tryz.func74, Tryz.ntmps74
  go_wp2_with fail
  refine (fJ S own r.p _ _ hsz (HN.out.2.2.1.below (HB.out _ _) nl)).mono ?_
  rintro e w1 ⟨rfl, hb1⟩
  rw [hp]
  have hxb : w1.heap[w.heap.size + 1]? = some (.cells (#[.int .i64 5, .int .u64 r.t, .int .u64 0, .int .u64 0, .int .u64 0, .int .u64 0, .int .i64 0, .int .u64 0, .int .u64 0, .slice none 0 0, .slice none 0 0]) 65 (0, 0)) := (hb1.block _ (by simp)).trans (aa _ _ _ (by simp))
  have hrb : w1.heap[w.heap.size]? = some (.cells (#[.int .i64 5, .int .u64 r.t, .int .u64 r.x, .int .u64 r.w, .int .u64 r.n, .int .u64 r.v, .int .i64 k0, .int .u64 k1, .int .u64 k2, .slice k3 k4 k5, .slice k6 n6 k7]) 65 (0, 0)) := (hb1.block _ (by simp; omega)).trans (heap_alloc2_old _ _ _)
  have c6 : w1.cell? ⟨w.heap.size, 6, none⟩ = some (.int .i64 k0) := by rw [cell_of_row w1 _ 6 _ _ _ hrb]; rfl
  have c7 : w1.cell? ⟨w.heap.size, 7, none⟩ = some (.int .u64 k1) := by rw [cell_of_row w1 _ 7 _ _ _ hrb]; rfl
  have c8 : w1.cell? ⟨w.heap.size, 8, none⟩ = some (.int .u64 k2) := by rw [cell_of_row w1 _ 8 _ _ _ hrb]; rfl
  have c9 : w1.cell? ⟨w.heap.size, 9, none⟩ = some (.slice k3 k4 k5) := by rw [cell_of_row w1 _ 9 _ _ _ hrb]; rfl
  have c10 : w1.cell? ⟨w.heap.size, 10, none⟩ = some (.slice k6 n6 k7) := by rw [cell_of_row w1 _ 10 _ _ _ hrb]; rfl
  have x6 : w1.cell? ⟨w.heap.size + 1, 6, none⟩ = some (.int .i64 0) := by rw [cell_of_row w1 _ 6 _ _ _ hxb]; rfl
  have x7 : w1.cell? ⟨w.heap.size + 1, 7, none⟩ = some (.int .u64 0) := by rw [cell_of_row w1 _ 7 _ _ _ hxb]; rfl
  have x8 : w1.cell? ⟨w.heap.size + 1, 8, none⟩ = some (.int .u64 0) := by rw [cell_of_row w1 _ 8 _ _ _ hxb]; rfl
  have x9 : w1.cell? ⟨w.heap.size + 1, 9, none⟩ = some (.slice none 0 0) := by rw [cell_of_row w1 _ 9 _ _ _ hxb]; rfl
  have x10 : w1.cell? ⟨w.heap.size + 1, 10, none⟩ = some (.slice none 0 0) := by rw [cell_of_row w1 _ 10 _ _ _ hxb]; rfl
  have y6 : w1.frozen? ⟨w.heap.size + 1, 6, none⟩ = false := by rw [frozen_of_row w1 _ 6 _ _ hxb]
  have y7 : w1.frozen? ⟨w.heap.size + 1, 7, none⟩ = false := by rw [frozen_of_row w1 _ 7 _ _ hxb]
  have y8 : w1.frozen? ⟨w.heap.size + 1, 8, none⟩ = false := by rw [frozen_of_row w1 _ 8 _ _ hxb]
  have y9 : w1.frozen? ⟨w.heap.size + 1, 9, none⟩ = false := by rw [frozen_of_row w1 _ 9 _ _ hxb]
  have y10 : w1.frozen? ⟨w.heap.size + 1, 10, none⟩ = false := by rw [frozen_of_row w1 _ 10 _ _ hxb]
  have HX := hid (And.intro hxb (And.intro hrb ((HB.out _ _).trans (hb1.mono (by simp; omega)))))
  clear hxb hrb hb1 hp
  go_upto_region 20 with fail
  obtain ⟨W5, hW5⟩ : ∃ W5, W5 = (((((w1.setCell ⟨w.heap.size + 1, 6, none⟩ (.int .i64 k0)).setCell ⟨w.heap.size + 1, 7, none⟩ (.int .u64 (k1 : Nat))).setCell ⟨w.heap.size + 1, 8, none⟩ (.int .u64 (k2 : Nat))).setCell ⟨w.heap.size + 1, 9, none⟩ (.slice k3 k4 k5)).setCell ⟨w.heap.size + 1, 10, none⟩ (.slice k6 n6 k7)) := ⟨_, rfl⟩
  have hx5 : W5.heap[w.heap.size + 1]? = some (.cells (bG 5 5 r.t r k0 k1 k2 k3 k4 k5 k6 n6 k7) 65 (0, 0)) := by
   rw [hW5]
   exact ae (ae (ae (ae (ae HX.out.1 rfl) rfl) rfl) rfl) rfl
  have hr5 : Rg (w.heap.size + 1) w1 W5 := by rw [hW5]; exact (((((Rg.refl _ _).setCell _ _).setCell _ _).setCell _ _).setCell _ _).setCell _ _
  have hl1 : w.heap.size + 1 < w1.heap.size := (Array.getElem?_eq_some_iff.1 HX.out.1).1
  have hb5 : Below w.heap.size w W5 := HX.out.2.2.trans ((hr5.below (by omega)).mono (by omega))
  have hrow5 := (hr5.keep w.heap.size (by omega) (by omega)).trans HX.out.2.1
  rw [← hW5]
  have HX5 := hid (And.intro hx5 (And.intro hrow5 hb5))
  clear hW5 hx5 hr5 hl1 hb5 hrow5 c6 c7 c8 c9 c10 x6 x7 x8 x9 x10 y6 y7 y8 y9 y10
  go_wp2_with (first
   | (refine wpList_load_row rfl 65 (.tmp 3) rfl (w.heap.size + 1) rfl 65 _ (0, 0) _ HX5.out.1 Tryz.underlying65 rfl (by rw [fC]; kernel_rfl) ?_)
   | (refine wpList_load_row rfl 65 (.tmp 1) rfl w.heap.size rfl 65 _ (0, 0) _ HX5.out.2.1 Tryz.underlying65 rfl (by kernel_rfl) ?_))
  refine (di S S own own r.only r _ _ _ (by rw [Rec.only_p]; split; omega; decide) (aI.below HO.out HX5.out.2.2 nl) (aI.below HN.out.2.2.2.2 HX5.out.2.2 nl)).mono ?_
  rintro e w6 ⟨rfl, hb6⟩
  have HE := hid (And.intro HRS.out (HX5.out.2.2.trans (hb6.mono HX5.out.2.2.size)))
  clear hb6
  go_wp2_with fail
  go_ret
  exact ⟨ah HE.out.1.symm, HE.out.2⟩
 ·rcases hc with rfl | rfl | rfl
  ·have HO := hid (show aI w S own r.only (.agg (bG 1 1 r.t r k0 k1 k2 k3 k4 k5 k6 n6 k7)) from by
    have h := HN.out.2.2.2.1
    rw [HN.out.1] at h ⊢
    exact fH HK.out.symm (by omega) (by omega) HN.out.2.1 HN.out.2.2.1 h)
   have HRS := hid (fD (r := r) (by rw [← HK.out]; omega) (by rw [← HK.out]; omega) (fun h => by rw [← HK.out] at h; omega))
   go_enter Tryz.func74, Tryz.ntmps74
   go_wp2_with fail
   refine (di S S own own r.only r _ _ _ (by rw [Rec.only_p]; split; omega; decide) (aI.below HO.out (HB.out _ _) nl) (aI.below HN.out.2.2.2.2 (HB.out _ _) nl)).mono ?_
   rintro e w1 ⟨rfl, hb1⟩
   have HE := hid (And.intro HRS.out ((HB.out _ _).trans (hb1.mono (by simp; omega))))
   clear hb1
   go_wp2_with fail
   go_ret
   exact ⟨ah HE.out.1.symm, HE.out.2⟩
  ·have HO := hid (show aI w S own r.only (.agg (bG 6 6 r.t r k0 k1 k2 k3 k4 k5 k6 n6 k7)) from by
    have h := HN.out.2.2.2.1
    rw [HN.out.1] at h ⊢
    exact fH HK.out.symm (by omega) (by omega) HN.out.2.1 HN.out.2.2.1 h)
   have HRS := hid (fD (r := r) (by rw [← HK.out]; omega) (by rw [← HK.out]; omega) (fun h => by rw [← HK.out] at h; omega))
   go_enter Tryz.func74, Tryz.ntmps74
   go_wp2_with fail
   refine (di S S own own r.only r _ _ _ (by rw [Rec.only_p]; split; omega; decide) (aI.below HO.out (HB.out _ _) nl) (aI.below HN.out.2.2.2.2 (HB.out _ _) nl)).mono ?_
   rintro e w1 ⟨rfl, hb1⟩
   have HE := hid (And.intro HRS.out ((HB.out _ _).trans (hb1.mono (by simp; omega))))
   clear hb1
   go_wp2_with fail
   go_ret
   exact ⟨ah HE.out.1.symm, HE.out.2⟩
  ·have HO := hid (show aI w S own r.only (.agg (bG 7 7 r.t r k0 k1 k2 k3 k4 k5 k6 n6 k7)) from by
    have h := HN.out.2.2.2.1
    rw [HN.out.1] at h ⊢
    exact fH HK.out.symm (by omega) (by omega) HN.out.2.1 HN.out.2.2.1 h)
   have HRS := hid (fD (r := r) (by rw [← HK.out]; omega) (by rw [← HK.out]; omega) (fun h => by rw [← HK.out] at h; omega))
   go_enter Tryz.func74, Tryz.ntmps74
   go_wp2_with fail
   refine (di S S own own r.only r _ _ _ (by rw [Rec.only_p]; split; omega; decide) (aI.below HO.out (HB.out _ _) nl) (aI.below HN.out.2.2.2.2 (HB.out _ _) nl)).mono ?_
   rintro e w1 ⟨rfl, hb1⟩
   have HE := hid (And.intro HRS.out ((HB.out _ _).trans (hb1.mono (by simp; omega))))
   clear hb1
   go_wp2_with fail
   go_ret
   exact ⟨ah HE.out.1.symm, HE.out.2⟩
 ·have t1 : (kk == 1) = false := by simp; omega
  have t2 : (kk == 2) = false := by simp; omega
  have t3 : (kk == 3) = false := by simp; omega
  have t4 : (kk == 4) = false := by simp; omega
  have t5 : (kk == 5) = false := by simp; omega
  have t6 : (kk == 6) = false := by simp; omega
  have t7 : (kk == 7) = false := by simp; omega
  have HRN := hid (sZ (r := r) (by rw [← HK.out]; exact hc))
  go_enter Tryz.func74, Tryz.ntmps74
  go_wp2_with fail
  go_ret
  exact ⟨ah HRN.out.symm, HB.out _ _⟩
end Go.Proofs.YtlpgokcapdjgjaaGreatDoor
