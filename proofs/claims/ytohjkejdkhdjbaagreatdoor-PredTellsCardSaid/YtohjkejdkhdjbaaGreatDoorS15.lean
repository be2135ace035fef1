/- Walks: the law's own 'same'. -/
import Derived.Test.YtohjkejdkhdjbaaGreatDoorS14
import Derived.Test.YtohjkejdkhdjbaaGreatDoorW04l
import Derived.Test.YtohjkejdkhdjbaaGreatDoorW04h
import Derived.Deep.RegionHeld3
namespace Go.Proofs.YtohjkejdkhdjbaaGreatDoor
open Go.RowKit Go
set_option linter.unusedVariables false
set_option linter.unusedSimpArgs false


set_option maxHeartbeats 1000000 in
set_option maxRecDepth 100000 in
theorem same_any (B N : Nat) (S S' : Nat → Prop) (own' : Bool) (hSB : ∀ b, S b → B ≤ b ∧ b < N) (p : Ex) (v u : Value) (m e : Int) (w : World) (hp : p.size ≤ 900) (hBN : B ≤ N) (hN : N ≤ w.heap.size)
    (hv : RepE w S true p v) (hu : RepE w S' own' p u) :
    Calls Tryz.prog 11 #[v, .int .i64 m, .int .i64 e, u, .int .i64 m, .int .i64 e] w fun r w' => r = .returned (.bool true) ∧ Below B w w' := by
  have hd := p.depth_le_size
  have hsm := Ex.same_refl p
  have te : (m == m) = true := by simp
  have te2 : (e == e) = true := by simp
  obtain ⟨k, a, b, ad, n, cap, rfl⟩ := hv.conc
  obtain ⟨k', a', b', ad', n', cap', rfl⟩ := hu.conc
  have hb0 : Below w.heap.size w ((w.alloc (.cells #[.int .i64 k, .int .u64 a, .int .u64 b, .slice ad n cap] 26)).alloc (.cells #[.int .i64 k', .int .u64 a', .int .u64 b', .slice ad' n' cap'] 32)) := ((Below.refl _ _).alloc (Nat.le_refl _) _).alloc (by simp) _
  have hv1 := hv.below hb0 (Nat.le_refl _)
  have hu1 := hu.below hb0 (Nat.le_refl _)
  have HH := Lib.hid (And.intro hv hb0)
  clear hv hu
  go_enter Tryz.func11, Tryz.ntmps11
  go_wp2_with fail
  obtain ⟨W, hW⟩ : ∃ W, W = ((w.alloc (.cells #[.int .i64 k, .int .u64 a, .int .u64 b, .slice ad n cap] 26)).alloc (.cells #[.int .i64 k', .int .u64 a', .int .u64 b', .slice ad' n' cap'] 32)) := ⟨_, rfl⟩
  have h0 : W.heap[w.heap.size]? = some (.cells #[.int .i64 k, .int .u64 a, .int .u64 b, .slice ad n cap] 26) := by rw [hW]; exact (heap_alloc_lt _ _ _ (by simp)).trans (heap_alloc_at _ _ _ rfl)
  have h1 : W.heap[w.heap.size + 1]? = some (.cells #[.int .i64 k', .int .u64 a', .int .u64 b', .slice ad' n' cap'] 32) := by rw [hW]; exact heap_alloc_at _ _ _ (by simp)
  rw [← hW] at hv1 hu1 hb0 ⊢
  have f0 : W.cell? ⟨w.heap.size, 0, none⟩ = some (.int .i64 k) := by rw [cell_of_row W _ 0 _ _ _ h0]; rfl
  have f1 : W.cell? ⟨w.heap.size, 1, none⟩ = some (.int .u64 a) := by rw [cell_of_row W _ 1 _ _ _ h0]; rfl
  have f2 : W.cell? ⟨w.heap.size, 2, none⟩ = some (.int .u64 b) := by rw [cell_of_row W _ 2 _ _ _ h0]; rfl
  have f3 : W.cell? ⟨w.heap.size, 3, none⟩ = some (.slice ad n cap) := by rw [cell_of_row W _ 3 _ _ _ h0]; rfl
  have g0 : W.cell? ⟨w.heap.size + 1, 0, none⟩ = some (.int .i64 k') := by rw [cell_of_row W _ 0 _ _ _ h1]; rfl
  have g1 : W.cell? ⟨w.heap.size + 1, 1, none⟩ = some (.int .u64 a') := by rw [cell_of_row W _ 1 _ _ _ h1]; rfl
  have g2 : W.cell? ⟨w.heap.size + 1, 2, none⟩ = some (.int .u64 b') := by rw [cell_of_row W _ 2 _ _ _ h1]; rfl
  have g3 : W.cell? ⟨w.heap.size + 1, 3, none⟩ = some (.slice ad' n' cap') := by rw [cell_of_row W _ 3 _ _ _ h1]; rfl
  have l0 : w.heap.size < W.heap.size := (Array.getElem?_eq_some_iff.1 h0).1
  have l1 : w.heap.size + 1 < W.heap.size := (Array.getElem?_eq_some_iff.1 h1).1
  clear hW h0 h1
  go_region_held3 (fun w' => w'.cell? ⟨w.heap.size, 0, none⟩ = some (.int .i64 k) ∧ w'.cell? ⟨w.heap.size, 1, none⟩ = some (.int .u64 a) ∧ w'.cell? ⟨w.heap.size, 2, none⟩ = some (.int .u64 b) ∧ w'.cell? ⟨w.heap.size, 3, none⟩ = some (.slice ad n cap) ∧
      w'.cell? ⟨w.heap.size + 1, 0, none⟩ = some (.int .i64 k') ∧ w'.cell? ⟨w.heap.size + 1, 1, none⟩ = some (.int .u64 a') ∧ w'.cell? ⟨w.heap.size + 1, 2, none⟩ = some (.int .u64 b') ∧ w'.cell? ⟨w.heap.size + 1, 3, none⟩ = some (.slice ad' n' cap'))
    (first
      | exact ⟨(hb3.cell lw0).trans ((hb2.cell l0).trans f0), (hb3.cell lw0).trans ((hb2.cell l0).trans f1), (hb3.cell lw0).trans ((hb2.cell l0).trans f2), (hb3.cell lw0).trans ((hb2.cell l0).trans f3), (hb3.cell lw1).trans ((hb2.cell l1).trans g0), (hb3.cell lw1).trans ((hb2.cell l1).trans g1), (hb3.cell lw1).trans ((hb2.cell l1).trans g2), (hb3.cell lw1).trans ((hb2.cell l1).trans g3)⟩
      | exact ⟨(hb2.cell l0).trans f0, (hb2.cell l0).trans f1, (hb2.cell l0).trans f2, (hb2.cell l0).trans f3, (hb2.cell l1).trans g0, (hb2.cell l1).trans g1, (hb2.cell l1).trans g2, (hb2.cell l1).trans g3⟩
      | go_keep)
    (first
      | (go_at_call 13; refine (docExpr_any p.depth _ _ p _ _ (Nat.le_refl _) (by omega) (by omega) (hv1.below (Below.refl _ _).drew (Nat.le_refl _))).mono ?_; rintro e w1 ⟨⟨vv, rfl, hvv⟩, hb2⟩; have lw0 := Nat.lt_of_lt_of_le l0 hb2.size; have lw1 := Nat.lt_of_lt_of_le l1 hb2.size)
      | (go_at_call 19; refine (refSame_any p.depth _ _ _ _ p p _ _ _ (Nat.le_refl _) (by omega) hvv ((hu1.below (Below.refl _ _).drew (Nat.le_refl _)).below hb2 (by first | exact Nat.le_refl _ | simp))).mono ?_; rintro e w2 ⟨rfl, hb3⟩; rw [hsm]))
  all_goals
    have hbW : Below W.heap.size W w2 := (Below.refl _ _).drew.trans (hb2.trans (hb3.mono hb2.size))
    have c0 := (hb3.cell lw0 (p := ⟨w.heap.size, 0, none⟩)).trans ((hb2.cell l0).trans f0)
    have c1 := (hb3.cell lw0 (p := ⟨w.heap.size, 1, none⟩)).trans ((hb2.cell l0).trans f1)
    have c2 := (hb3.cell lw0 (p := ⟨w.heap.size, 2, none⟩)).trans ((hb2.cell l0).trans f2)
    have c3 := (hb3.cell lw0 (p := ⟨w.heap.size, 3, none⟩)).trans ((hb2.cell l0).trans f3)
    have HS := Lib.hid (RepE.shape (hv1.below hbW (Nat.le_refl _)) p.depth (Nat.le_refl _))
    have hNw : N ≤ w2.heap.size := by have := hbW.size; omega
    have HB := Lib.hid (hb0.trans (hbW.mono (by have := hb0.size; omega)))
    have lq : w.heap.size < w2.heap.size := by have := hbW.size; omega
    clear hb2 hb3 hbW hvv hv1 hu1 f0 f1 f2 f3 g0 g1 g2 g3
    go_wp2_with fail
    refine (spoilExpr_any B N S hSB p.depth _ _ hBN hNw HS.out).mono ?_
    rintro e w3 ⟨rfl, hsp⟩
    go_wp2_with fail
    go_ret
    exact ⟨rfl, (HB.out.mono (by omega)).trans hsp.below⟩
end Go.Proofs.YtohjkejdkhdjbaaGreatDoor
