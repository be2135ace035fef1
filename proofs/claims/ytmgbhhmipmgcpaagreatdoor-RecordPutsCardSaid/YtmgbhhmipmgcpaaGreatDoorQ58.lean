/- The reference's frame of a record, put. -/
import Derived.Test.YtmgbhhmipmgcpaaGreatDoorQ55
import Derived.Test.YtmgbhhmipmgcpaaGreatDoorQV47
set_option maxHeartbeats 8000000
set_option maxRecDepth 100000
namespace Go.Proofs.YtmgbhhmipmgcpaaGreatDoor
open Go.RowKit Go
set_option linter.unusedVariables false
set_option linter.unusedSimpArgs false
theorem fK (w : World) (l : List Nat) (T : TypeId) (n g : Nat) (hn : l.length = n) (h63 : n ≤ 1000) (hg : g = w.heap.size) : Sl (w.alloc (.cells (nums l).toArray T)) (fun _ => True) true 1 l.length (nums l) (.slice (some ⟨g, 0, none⟩) n n) := by
 subst hg hn
 have h := bR w (fun _ => True) (nums l).toArray T l.length l.length (by simp [nums]) nl trivial h63
 rwa [List.take_of_length_le (by simp [nums])] at h
theorem aV (S : Nat → Prop) (own : Bool) (l : List Nat) (v : Value) (w : World) (hl : l.length ≤ 1000) (h64 : ∀ n ∈ l, n < 18446744073709551616) (hs : Sl w S own 1 l.length (nums l) v) :
  Calls Tryz.prog 45 #[v] w (bJ 5 w (ay l)) := by
 obtain ⟨i0, hi0, hz0, hz1, hz2⟩ := info_parts infoByte
 obtain ⟨_, _, la, lc, rfl, _⟩ := Sl.shape hs
 have HS := hid hs
 have HLT := hid h64
 clear hs h64
 go_enter Tryz.func45, Tryz.ntmps45
 go_wp2_with fail
 go_loopw [3, 4] (fun sv i wr => ∃ j : Nat, j ≤ l.length ∧ i = .int .i64 j ∧ Hid (wr.ownsRow w.heap.size 5 1 sv (ay (l.take j)).length (bytes (ay (l.take j))) ∧ Below w.heap.size w wr)) (fun _ i _ => l.length - (intOf i).toNat)
 case atStart => exact ⟨0, by omega, rfl, hid ⟨World.ownsRow_nil _ _ _ _, br⟩⟩
 case round =>
  obtain ⟨j, hj, rfl, HQ⟩ := hrel
  by_cases hlt : j < l.length
  ·obtain ⟨bl, off, rfl, _, hcell⟩ := Sl.cells HS.out (by omega)
   have g0 := (hcell j (by simp [nums]; exact hlt)).1
   have hbl := World.block_lt_of_cell? w _ g0
   have g : wr.cell? ⟨bl, off + j, none⟩ = some (.int .u64 (l[j] : Nat)) := (HQ.out.2.cell (p := ⟨bl, off + j, none⟩) hbl).trans (by rw [g0]; simp [nums])
   have hlt64 := HLT.out _ (List.getElem_mem hlt)
   have PS := hid (kS l j hlt)
   have hp := aK (l.take j)
   have hp2 := aS l[j]
   have hp3 : (l.take j).length ≤ 1000 := by simp; omega
   have x1 : (0 : Int) ≤ (j : Int) := by omega
   have x2 : (j : Int) < (l.length : Int) := by omega
   have hsz := HQ.out.2.size
   clear hcell g0
   generalize hL : ay (l.take j) = L at HQ PS hp
   generalize hX : l[j] = X at g hlt64 PS hp2
   clear hL hX
   go_wp2_with fail
   refine (dJ X _ hlt64).mono ?_
   rintro e w3 ⟨v3, rfl, hown3, hb3⟩
   have hs3 := hb3.size
   obtain ⟨va3, vc3, rfl⟩ := ag hown3
   have H3 := hid (And.intro (ownsRow_below HQ.out.1 hb3 nl) (And.intro (Sl.of_owns hown3 (by omega)) (HQ.out.2.trans (hb3.mono hsz))))
   clear hown3 hb3 g
   go_wp2_with (at_builtin; go_loud (refine ai _ rfl (.tmp 11) (.tmp 16) _ rfl w.heap.size 5 i0 _ 1 1 Tryz.underlying22 hi0 hz0 hz1 hz2 rfl (by omega) _ L.length (bytes L) rfl H3.out.1 _ _ (bf X).length (bytes (bf X)) _ rfl H3.out.2.1 (aO _) (by unfold maxLen; omega) (by omega) (by omega) ?_); intro v' w4 hown4 hgrow hat)
   have hlo := H3.out.1.lt
   have HN4 : Hid (w4.ownsRow w.heap.size 5 1 v' (ay (l.take (j + 1))).length (bytes (ay (l.take (j + 1)))) ∧ Below w.heap.size w w4) := hid (by
    rw [PS.out]
    exact ⟨by simpa using hown4, H3.out.2.2.grown hgrow (by omega) (fun k hk => (hlo k hk).1)⟩)
   clear hown4 hgrow hat hlo
   go_wp2_with fail
   go_roundw
   case rel => exact ⟨j + 1, by omega, by go_num, HN4⟩
   case measure => simp [intOf]; omega
  ·have hj2 : j = l.length := by omega
   subst hj2
   rw [List.take_length] at HQ
   go_wp2_with fail
   go_ret
   exact ⟨_, rfl, HQ.out.1, HQ.out.2⟩
def jl (r : Rec) (w : World) (e : Ending) (w' : World) : Prop :=
 (r.right = true → e = .returned (.tuple #[.agg #[.int .u8 r.k, .string ⟨r.body.toArray⟩], .int .i64 0])) ∧ (r.right = false → e = .returned (.tuple #[.agg #[.int .u8 0, .string ⟨#[]⟩], .int .i64 50])) ∧ Below w.heap.size w w'
theorem si (S : Nat → Prop) (own : Bool) (r : Rec) (k0 : Int) (k1 k2 : Nat) (k3 : Option Addr) (k4 k5 : Nat) (k6 : Option Addr) (k7 : Nat) (w : World) (hsz : r.p.size ≤ 900) (hle : r.es.length ≤ 10000) (hr : r.right = false) (hv : aI w S own r (.agg #[.int .i64 r.k, .int .u64 (r.t : Nat), .int .u64 (r.x : Nat), .int .u64 (r.w : Nat), .int .u64 (r.n : Nat), .int .u64 (r.v : Nat), .int .i64 k0, .int .u64 (k1 : Nat), .int .u64 (k2 : Nat), .slice k3 k4 k5, .slice k6 r.es.length k7])) :
  Calls Tryz.prog 14 #[.agg #[.int .i64 r.k, .int .u64 (r.t : Nat), .int .u64 (r.x : Nat), .int .u64 (r.w : Nat), .int .u64 (r.n : Nat), .int .u64 (r.v : Nat), .int .i64 k0, .int .u64 (k1 : Nat), .int .u64 (k2 : Nat), .slice k3 k4 k5, .slice k6 r.es.length k7]] w fun e w' => e = .returned (.tuple #[.agg #[.int .u8 0, .string ⟨#[]⟩], .int .i64 50]) ∧ Below w.heap.size w w' := by
 have hb0 : Below w.heap.size w ((w.alloc (.cells #[.int .i64 r.k, .int .u64 (r.t : Nat), .int .u64 (r.x : Nat), .int .u64 (r.w : Nat), .int .u64 (r.n : Nat), .int .u64 (r.v : Nat), .int .i64 k0, .int .u64 (k1 : Nat), .int .u64 (k2 : Nat), .slice k3 k4 k5, .slice k6 r.es.length k7] 37)).alloc (.cells #[.int .u8 0, .string ⟨#[]⟩] 27)) := (br.alloc nl _).alloc (by simp) _
 have p0 : ((w.alloc (.cells #[.int .i64 r.k, .int .u64 (r.t : Nat), .int .u64 (r.x : Nat), .int .u64 (r.w : Nat), .int .u64 (r.n : Nat), .int .u64 (r.v : Nat), .int .i64 k0, .int .u64 (k1 : Nat), .int .u64 (k2 : Nat), .slice k3 k4 k5, .slice k6 r.es.length k7] 37)).alloc (.cells #[.int .u8 0, .string ⟨#[]⟩] 27)).heap[w.heap.size]? = some (.cells #[.int .i64 r.k, .int .u64 (r.t : Nat), .int .u64 (r.x : Nat), .int .u64 (r.w : Nat), .int .u64 (r.n : Nat), .int .u64 (r.v : Nat), .int .i64 k0, .int .u64 (k1 : Nat), .int .u64 (k2 : Nat), .slice k3 k4 k5, .slice k6 r.es.length k7] 37 (0, 0)) := heap_alloc2_old _ _ _
 have p1 : ((w.alloc (.cells #[.int .i64 r.k, .int .u64 (r.t : Nat), .int .u64 (r.x : Nat), .int .u64 (r.w : Nat), .int .u64 (r.n : Nat), .int .u64 (r.v : Nat), .int .i64 k0, .int .u64 (k1 : Nat), .int .u64 (k2 : Nat), .slice k3 k4 k5, .slice k6 r.es.length k7] 37)).alloc (.cells #[.int .u8 0, .string ⟨#[]⟩] 27)).heap[w.heap.size + 1]? = some (.cells #[.int .u8 0, .string ⟨#[]⟩] 27 (0, 0)) := aa _ _ _ (by simp)
 have HX := hid (And.intro hb0 (And.intro p0 (And.intro p1 (hv.below hb0 nl))))
 have HV0 := hid hv
 clear hb0 p0 p1 hv
 go_enter Tryz.func14, Tryz.ntmps14
 go_upto_region 1 with fail
 generalize ((w.alloc (.cells #[.int .i64 r.k, .int .u64 (r.t : Nat), .int .u64 (r.x : Nat), .int .u64 (r.w : Nat), .int .u64 (r.n : Nat), .int .u64 (r.v : Nat), .int .i64 k0, .int .u64 (k1 : Nat), .int .u64 (k2 : Nat), .slice k3 k4 k5, .slice k6 r.es.length k7] 37)).alloc (.cells #[.int .u8 0, .string ⟨#[]⟩] 27)) = X at HX ⊢
 have hlX : w.heap.size + 1 < X.heap.size := (Array.getElem?_eq_some_iff.1 HX.out.2.2.1).1
 have c0 : X.cell? ⟨w.heap.size, 0, none⟩ = some (.int .i64 r.k) := by rw [cell_of_row X _ 0 _ _ _ HX.out.2.1]; rfl
 have c1 : X.cell? ⟨w.heap.size, 1, none⟩ = some (.int .u64 (r.t : Nat)) := by rw [cell_of_row X _ 1 _ _ _ HX.out.2.1]; rfl
 have c2 : X.cell? ⟨w.heap.size, 2, none⟩ = some (.int .u64 (r.x : Nat)) := by rw [cell_of_row X _ 2 _ _ _ HX.out.2.1]; rfl
 have c3 : X.cell? ⟨w.heap.size, 3, none⟩ = some (.int .u64 (r.w : Nat)) := by rw [cell_of_row X _ 3 _ _ _ HX.out.2.1]; rfl
 have c4 : X.cell? ⟨w.heap.size, 4, none⟩ = some (.int .u64 (r.n : Nat)) := by rw [cell_of_row X _ 4 _ _ _ HX.out.2.1]; rfl
 have c5 : X.cell? ⟨w.heap.size, 5, none⟩ = some (.int .u64 (r.v : Nat)) := by rw [cell_of_row X _ 5 _ _ _ HX.out.2.1]; rfl
 have c6 : X.cell? ⟨w.heap.size, 6, none⟩ = some (.int .i64 k0) := by rw [cell_of_row X _ 6 _ _ _ HX.out.2.1]; rfl
 have c7 : X.cell? ⟨w.heap.size, 7, none⟩ = some (.int .u64 (k1 : Nat)) := by rw [cell_of_row X _ 7 _ _ _ HX.out.2.1]; rfl
 have c8 : X.cell? ⟨w.heap.size, 8, none⟩ = some (.int .u64 (k2 : Nat)) := by rw [cell_of_row X _ 8 _ _ _ HX.out.2.1]; rfl
 have c9 : X.cell? ⟨w.heap.size, 9, none⟩ = some (.slice k3 k4 k5) := by rw [cell_of_row X _ 9 _ _ _ HX.out.2.1]; rfl
 have c10 : X.cell? ⟨w.heap.size, 10, none⟩ = some (.slice k6 r.es.length k7) := by rw [cell_of_row X _ 10 _ _ _ HX.out.2.1]; rfl
 go_wp2_with fail
 refine (aJ S own r _ X hsz HX.out.2.2.2).mono ?_
 rw [hr]
 rintro e w1 ⟨rfl, hb1⟩
 have hz1 := hb1.size
 have H1 : Hid (Below w.heap.size w w1 ∧ w1.heap[w.heap.size]? = some (.cells #[.int .i64 r.k, .int .u64 (r.t : Nat), .int .u64 (r.x : Nat), .int .u64 (r.w : Nat), .int .u64 (r.n : Nat), .int .u64 (r.v : Nat), .int .i64 k0, .int .u64 (k1 : Nat), .int .u64 (k2 : Nat), .slice k3 k4 k5, .slice k6 r.es.length k7] 37 (0, 0)) ∧ w1.heap[w.heap.size + 1]? = some (.cells #[.int .u8 0, .string ⟨#[]⟩] 27 (0, 0)) ∧ aI w1 S own r (.agg #[.int .i64 r.k, .int .u64 (r.t : Nat), .int .u64 (r.x : Nat), .int .u64 (r.w : Nat), .int .u64 (r.n : Nat), .int .u64 (r.v : Nat), .int .i64 k0, .int .u64 (k1 : Nat), .int .u64 (k2 : Nat), .slice k3 k4 k5, .slice k6 r.es.length k7])) := hid ⟨HX.out.1.trans (hb1.mono (by omega)), (hb1.block _ (by omega)).trans HX.out.2.1, (hb1.block _ (by omega)).trans HX.out.2.2.1, HX.out.2.2.2.below hb1 nl⟩
 have hl1 : w.heap.size + 1 < w1.heap.size := by omega
 clear hb1 HX c0 c1 c2 c3 c4 c5 c6 c7 c8 c9 c10
 have p1 := H1.out.2.2.1
 go_wp2_with (refine wpList_store_row rfl 27 (.tmp 2) (.tmp 11) rfl rfl (w.heap.size + 1) rfl _ rfl 27 _ p1 (by kernel_rfl) rfl (by simp [Value.oneCell']) ?_)
 refine bodyPost_ret (v := .tuple #[.agg #[.int .u8 0, .string ⟨#[]⟩], .int .i64 50]) (aD rfl _ _ (w.heap.size + 1) 27 _ _ _ _ rfl (setRow_heap _ _ _ _ _ _ p1) Tryz.underlying27 rfl (by kernel_rfl) rfl) rfl ⟨rfl, below_setRow H1.out.1 _ _ (by omega)⟩
theorem uF (S : Nat → Prop) (own : Bool) (r : Rec) (k0 : Int) (k1 k2 : Nat) (k3 : Option Addr) (k4 k5 : Nat) (k6 : Option Addr) (k7 : Nat) (w : World) (hsz : r.p.size ≤ 900) (hle : r.es.length ≤ 10000) (hr : r.right = true) (hk : r.k = 1) (hv : aI w S own r (.agg #[.int .i64 1, .int .u64 (r.t : Nat), .int .u64 (r.x : Nat), .int .u64 (r.w : Nat), .int .u64 (r.n : Nat), .int .u64 (r.v : Nat), .int .i64 k0, .int .u64 (k1 : Nat), .int .u64 (k2 : Nat), .slice k3 k4 k5, .slice k6 r.es.length k7])) :
  Calls Tryz.prog 14 #[.agg #[.int .i64 1, .int .u64 (r.t : Nat), .int .u64 (r.x : Nat), .int .u64 (r.w : Nat), .int .u64 (r.n : Nat), .int .u64 (r.v : Nat), .int .i64 k0, .int .u64 (k1 : Nat), .int .u64 (k2 : Nat), .slice k3 k4 k5, .slice k6 r.es.length k7]] w fun e w' => e = .returned (.tuple #[.agg #[.int .u8 1, .string ⟨r.body.toArray⟩], .int .i64 0]) ∧ Below w.heap.size w w' := by
 have hb0 : Below w.heap.size w ((w.alloc (.cells #[.int .i64 1, .int .u64 (r.t : Nat), .int .u64 (r.x : Nat), .int .u64 (r.w : Nat), .int .u64 (r.n : Nat), .int .u64 (r.v : Nat), .int .i64 k0, .int .u64 (k1 : Nat), .int .u64 (k2 : Nat), .slice k3 k4 k5, .slice k6 r.es.length k7] 37)).alloc (.cells #[.int .u8 0, .string ⟨#[]⟩] 27)) := (br.alloc nl _).alloc (by simp) _
 have p0 : ((w.alloc (.cells #[.int .i64 1, .int .u64 (r.t : Nat), .int .u64 (r.x : Nat), .int .u64 (r.w : Nat), .int .u64 (r.n : Nat), .int .u64 (r.v : Nat), .int .i64 k0, .int .u64 (k1 : Nat), .int .u64 (k2 : Nat), .slice k3 k4 k5, .slice k6 r.es.length k7] 37)).alloc (.cells #[.int .u8 0, .string ⟨#[]⟩] 27)).heap[w.heap.size]? = some (.cells #[.int .i64 1, .int .u64 (r.t : Nat), .int .u64 (r.x : Nat), .int .u64 (r.w : Nat), .int .u64 (r.n : Nat), .int .u64 (r.v : Nat), .int .i64 k0, .int .u64 (k1 : Nat), .int .u64 (k2 : Nat), .slice k3 k4 k5, .slice k6 r.es.length k7] 37 (0, 0)) := heap_alloc2_old _ _ _
 have p1 : ((w.alloc (.cells #[.int .i64 1, .int .u64 (r.t : Nat), .int .u64 (r.x : Nat), .int .u64 (r.w : Nat), .int .u64 (r.n : Nat), .int .u64 (r.v : Nat), .int .i64 k0, .int .u64 (k1 : Nat), .int .u64 (k2 : Nat), .slice k3 k4 k5, .slice k6 r.es.length k7] 37)).alloc (.cells #[.int .u8 0, .string ⟨#[]⟩] 27)).heap[w.heap.size + 1]? = some (.cells #[.int .u8 0, .string ⟨#[]⟩] 27 (0, 0)) := aa _ _ _ (by simp)
 have HX := hid (And.intro hb0 (And.intro p0 (And.intro p1 (hv.below hb0 nl))))
 have HV0 := hid hv
 clear hb0 p0 p1 hv
 go_enter Tryz.func14, Tryz.ntmps14
 go_upto_region 1 with fail
 generalize ((w.alloc (.cells #[.int .i64 1, .int .u64 (r.t : Nat), .int .u64 (r.x : Nat), .int .u64 (r.w : Nat), .int .u64 (r.n : Nat), .int .u64 (r.v : Nat), .int .i64 k0, .int .u64 (k1 : Nat), .int .u64 (k2 : Nat), .slice k3 k4 k5, .slice k6 r.es.length k7] 37)).alloc (.cells #[.int .u8 0, .string ⟨#[]⟩] 27)) = X at HX ⊢
 have hlX : w.heap.size + 1 < X.heap.size := (Array.getElem?_eq_some_iff.1 HX.out.2.2.1).1
 have c0 : X.cell? ⟨w.heap.size, 0, none⟩ = some (.int .i64 1) := by rw [cell_of_row X _ 0 _ _ _ HX.out.2.1]; rfl
 have c1 : X.cell? ⟨w.heap.size, 1, none⟩ = some (.int .u64 (r.t : Nat)) := by rw [cell_of_row X _ 1 _ _ _ HX.out.2.1]; rfl
 have c2 : X.cell? ⟨w.heap.size, 2, none⟩ = some (.int .u64 (r.x : Nat)) := by rw [cell_of_row X _ 2 _ _ _ HX.out.2.1]; rfl
 have c3 : X.cell? ⟨w.heap.size, 3, none⟩ = some (.int .u64 (r.w : Nat)) := by rw [cell_of_row X _ 3 _ _ _ HX.out.2.1]; rfl
 have c4 : X.cell? ⟨w.heap.size, 4, none⟩ = some (.int .u64 (r.n : Nat)) := by rw [cell_of_row X _ 4 _ _ _ HX.out.2.1]; rfl
 have c5 : X.cell? ⟨w.heap.size, 5, none⟩ = some (.int .u64 (r.v : Nat)) := by rw [cell_of_row X _ 5 _ _ _ HX.out.2.1]; rfl
 have c6 : X.cell? ⟨w.heap.size, 6, none⟩ = some (.int .i64 k0) := by rw [cell_of_row X _ 6 _ _ _ HX.out.2.1]; rfl
 have c7 : X.cell? ⟨w.heap.size, 7, none⟩ = some (.int .u64 (k1 : Nat)) := by rw [cell_of_row X _ 7 _ _ _ HX.out.2.1]; rfl
 have c8 : X.cell? ⟨w.heap.size, 8, none⟩ = some (.int .u64 (k2 : Nat)) := by rw [cell_of_row X _ 8 _ _ _ HX.out.2.1]; rfl
 have c9 : X.cell? ⟨w.heap.size, 9, none⟩ = some (.slice k3 k4 k5) := by rw [cell_of_row X _ 9 _ _ _ HX.out.2.1]; rfl
 have c10 : X.cell? ⟨w.heap.size, 10, none⟩ = some (.slice k6 r.es.length k7) := by rw [cell_of_row X _ 10 _ _ _ HX.out.2.1]; rfl
 go_wp2_with fail
 refine (aJ S own r _ X hsz HX.out.2.2.2).mono ?_
 rw [hr]
 rintro e w1 ⟨rfl, hb1⟩
 have hz1 := hb1.size
 have H1 : Hid (Below w.heap.size w w1 ∧ w1.heap[w.heap.size]? = some (.cells #[.int .i64 1, .int .u64 (r.t : Nat), .int .u64 (r.x : Nat), .int .u64 (r.w : Nat), .int .u64 (r.n : Nat), .int .u64 (r.v : Nat), .int .i64 k0, .int .u64 (k1 : Nat), .int .u64 (k2 : Nat), .slice k3 k4 k5, .slice k6 r.es.length k7] 37 (0, 0)) ∧ w1.heap[w.heap.size + 1]? = some (.cells #[.int .u8 0, .string ⟨#[]⟩] 27 (0, 0)) ∧ aI w1 S own r (.agg #[.int .i64 1, .int .u64 (r.t : Nat), .int .u64 (r.x : Nat), .int .u64 (r.w : Nat), .int .u64 (r.n : Nat), .int .u64 (r.v : Nat), .int .i64 k0, .int .u64 (k1 : Nat), .int .u64 (k2 : Nat), .slice k3 k4 k5, .slice k6 r.es.length k7])) := hid ⟨HX.out.1.trans (hb1.mono (by omega)), (hb1.block _ (by omega)).trans HX.out.2.1, (hb1.block _ (by omega)).trans HX.out.2.2.1, HX.out.2.2.2.below hb1 nl⟩
 have hl1 : w.heap.size + 1 < w1.heap.size := by omega
 clear hb1 HX c0 c1 c2 c3 c4 c5 c6 c7 c8 c9 c10
 have hnums : r.nums := by obtain ⟨_, _, _, _, _, _, _, _, _, _, _, h, _⟩ := H1.out.2.2.2.conc; exact h
 have HLT : Hid (∀ n ∈ [r.t], n < 18446744073709551616) := hid (by
  intro n hn
  simp only [List.mem_cons, List.not_mem_nil, or_false] at hn
  rcases hn with rfl
  ·exact hnums.1)
 have HBD : Hid (r.body = ay [r.t]) := hid (by unfold Rec.body; simp [hk])
 clear hnums hk
 have r0 := H1.out.2.1
 have d0 : w1.cell? ⟨w.heap.size, 0, none⟩ = some (.int .i64 1) := by rw [cell_of_row w1 _ 0 _ _ _ r0]; rfl
 have d1 : w1.cell? ⟨w.heap.size, 1, none⟩ = some (.int .u64 (r.t : Nat)) := by rw [cell_of_row w1 _ 1 _ _ _ r0]; rfl
 have d2 : w1.cell? ⟨w.heap.size, 2, none⟩ = some (.int .u64 (r.x : Nat)) := by rw [cell_of_row w1 _ 2 _ _ _ r0]; rfl
 have d3 : w1.cell? ⟨w.heap.size, 3, none⟩ = some (.int .u64 (r.w : Nat)) := by rw [cell_of_row w1 _ 3 _ _ _ r0]; rfl
 have d4 : w1.cell? ⟨w.heap.size, 4, none⟩ = some (.int .u64 (r.n : Nat)) := by rw [cell_of_row w1 _ 4 _ _ _ r0]; rfl
 have d5 : w1.cell? ⟨w.heap.size, 5, none⟩ = some (.int .u64 (r.v : Nat)) := by rw [cell_of_row w1 _ 5 _ _ _ r0]; rfl
 have d6 : w1.cell? ⟨w.heap.size, 6, none⟩ = some (.int .i64 k0) := by rw [cell_of_row w1 _ 6 _ _ _ r0]; rfl
 have d7 : w1.cell? ⟨w.heap.size, 7, none⟩ = some (.int .u64 (k1 : Nat)) := by rw [cell_of_row w1 _ 7 _ _ _ r0]; rfl
 have d8 : w1.cell? ⟨w.heap.size, 8, none⟩ = some (.int .u64 (k2 : Nat)) := by rw [cell_of_row w1 _ 8 _ _ _ r0]; rfl
 have d9 : w1.cell? ⟨w.heap.size, 9, none⟩ = some (.slice k3 k4 k5) := by rw [cell_of_row w1 _ 9 _ _ _ r0]; rfl
 have d10 : w1.cell? ⟨w.heap.size, 10, none⟩ = some (.slice k6 r.es.length k7) := by rw [cell_of_row w1 _ 10 _ _ _ r0]; rfl
 clear r0
 go_wp2_with fail
 refine (aV _ true [r.t] _ _ (by simp) HLT.out (fK w1 [r.t] _ 1 _ rfl (by omega) rfl)).mono ?_
 rintro e w2 ⟨bv, rfl, hown2, hb2⟩
 obtain ⟨ba, bc, rfl⟩ := ag hown2
 have hb2' : Below w1.heap.size w1 w2 := (br.alloc nl _).trans (hb2.mono (by simp))
 have hz2 := hb2'.size
 rw [← HBD.out] at hown2
 have HC := hid (cZ _ true r.body _ w2 (bM.of_owns hown2))
 have H2 : Hid (Below w.heap.size w w2 ∧ w2.heap[w.heap.size]? = some (.cells #[.int .i64 1, .int .u64 (r.t : Nat), .int .u64 (r.x : Nat), .int .u64 (r.w : Nat), .int .u64 (r.n : Nat), .int .u64 (r.v : Nat), .int .i64 k0, .int .u64 (k1 : Nat), .int .u64 (k2 : Nat), .slice k3 k4 k5, .slice k6 r.es.length k7] 37 (0, 0)) ∧ w2.heap[w.heap.size + 1]? = some (.cells #[.int .u8 0, .string ⟨#[]⟩] 27 (0, 0))) := hid ⟨H1.out.1.trans (hb2'.mono (by omega)), (hb2'.block _ (by omega)).trans H1.out.2.1, (hb2'.block _ (by omega)).trans H1.out.2.2.1⟩
 rw [← HBD.out]
 have e0 : w2.cell? ⟨w.heap.size, 0, none⟩ = some (.int .i64 1) := by rw [cell_of_row w2 _ 0 _ _ _ H2.out.2.1]; rfl
 clear hb2 hb2' hown2 H1 d0 d1 d2 d3 d4 d5 d6 d7 d8 d9 d10
 have p1 := H2.out.2.2
 go_wp2_with (first | rw [HC.out] | (refine wpList_store_row rfl 27 (.tmp 2) (.tmp 112) rfl rfl (w.heap.size + 1) rfl _ rfl 27 _ p1 (by kernel_rfl) rfl (by simp [Value.oneCell']) ?_) | fail)
 refine bodyPost_ret (v := .tuple #[.agg #[.int .u8 1, .string ⟨r.body.toArray⟩], .int .i64 0]) (aD rfl _ _ (w.heap.size + 1) 27 _ _ _ _ rfl (setRow_heap _ _ _ _ _ _ p1) Tryz.underlying27 rfl (by kernel_rfl) rfl) rfl ⟨rfl, below_setRow H2.out.1 _ _ (by omega)⟩
theorem uG (S : Nat → Prop) (own : Bool) (r : Rec) (k0 : Int) (k1 k2 : Nat) (k3 : Option Addr) (k4 k5 : Nat) (k6 : Option Addr) (k7 : Nat) (w : World) (hsz : r.p.size ≤ 900) (hle : r.es.length ≤ 10000) (hr : r.right = true) (hk : r.k = 6) (hv : aI w S own r (.agg #[.int .i64 6, .int .u64 (r.t : Nat), .int .u64 (r.x : Nat), .int .u64 (r.w : Nat), .int .u64 (r.n : Nat), .int .u64 (r.v : Nat), .int .i64 k0, .int .u64 (k1 : Nat), .int .u64 (k2 : Nat), .slice k3 k4 k5, .slice k6 r.es.length k7])) :
  Calls Tryz.prog 14 #[.agg #[.int .i64 6, .int .u64 (r.t : Nat), .int .u64 (r.x : Nat), .int .u64 (r.w : Nat), .int .u64 (r.n : Nat), .int .u64 (r.v : Nat), .int .i64 k0, .int .u64 (k1 : Nat), .int .u64 (k2 : Nat), .slice k3 k4 k5, .slice k6 r.es.length k7]] w fun e w' => e = .returned (.tuple #[.agg #[.int .u8 6, .string ⟨r.body.toArray⟩], .int .i64 0]) ∧ Below w.heap.size w w' := by
 have hb0 : Below w.heap.size w ((w.alloc (.cells #[.int .i64 6, .int .u64 (r.t : Nat), .int .u64 (r.x : Nat), .int .u64 (r.w : Nat), .int .u64 (r.n : Nat), .int .u64 (r.v : Nat), .int .i64 k0, .int .u64 (k1 : Nat), .int .u64 (k2 : Nat), .slice k3 k4 k5, .slice k6 r.es.length k7] 37)).alloc (.cells #[.int .u8 0, .string ⟨#[]⟩] 27)) := (br.alloc nl _).alloc (by simp) _
 have p0 : ((w.alloc (.cells #[.int .i64 6, .int .u64 (r.t : Nat), .int .u64 (r.x : Nat), .int .u64 (r.w : Nat), .int .u64 (r.n : Nat), .int .u64 (r.v : Nat), .int .i64 k0, .int .u64 (k1 : Nat), .int .u64 (k2 : Nat), .slice k3 k4 k5, .slice k6 r.es.length k7] 37)).alloc (.cells #[.int .u8 0, .string ⟨#[]⟩] 27)).heap[w.heap.size]? = some (.cells #[.int .i64 6, .int .u64 (r.t : Nat), .int .u64 (r.x : Nat), .int .u64 (r.w : Nat), .int .u64 (r.n : Nat), .int .u64 (r.v : Nat), .int .i64 k0, .int .u64 (k1 : Nat), .int .u64 (k2 : Nat), .slice k3 k4 k5, .slice k6 r.es.length k7] 37 (0, 0)) := heap_alloc2_old _ _ _
 have p1 : ((w.alloc (.cells #[.int .i64 6, .int .u64 (r.t : Nat), .int .u64 (r.x : Nat), .int .u64 (r.w : Nat), .int .u64 (r.n : Nat), .int .u64 (r.v : Nat), .int .i64 k0, .int .u64 (k1 : Nat), .int .u64 (k2 : Nat), .slice k3 k4 k5, .slice k6 r.es.length k7] 37)).alloc (.cells #[.int .u8 0, .string ⟨#[]⟩] 27)).heap[w.heap.size + 1]? = some (.cells #[.int .u8 0, .string ⟨#[]⟩] 27 (0, 0)) := aa _ _ _ (by simp)
 have HX := hid (And.intro hb0 (And.intro p0 (And.intro p1 (hv.below hb0 nl))))
 have HV0 := hid hv
 clear hb0 p0 p1 hv
 go_enter Tryz.func14, Tryz.ntmps14
 go_upto_region 1 with fail
 generalize ((w.alloc (.cells #[.int .i64 6, .int .u64 (r.t : Nat), .int .u64 (r.x : Nat), .int .u64 (r.w : Nat), .int .u64 (r.n : Nat), .int .u64 (r.v : Nat), .int .i64 k0, .int .u64 (k1 : Nat), .int .u64 (k2 : Nat), .slice k3 k4 k5, .slice k6 r.es.length k7] 37)).alloc (.cells #[.int .u8 0, .string ⟨#[]⟩] 27)) = X at HX ⊢
 have hlX : w.heap.size + 1 < X.heap.size := (Array.getElem?_eq_some_iff.1 HX.out.2.2.1).1
 have c0 : X.cell? ⟨w.heap.size, 0, none⟩ = some (.int .i64 6) := by rw [cell_of_row X _ 0 _ _ _ HX.out.2.1]; rfl
 have c1 : X.cell? ⟨w.heap.size, 1, none⟩ = some (.int .u64 (r.t : Nat)) := by rw [cell_of_row X _ 1 _ _ _ HX.out.2.1]; rfl
 have c2 : X.cell? ⟨w.heap.size, 2, none⟩ = some (.int .u64 (r.x : Nat)) := by rw [cell_of_row X _ 2 _ _ _ HX.out.2.1]; rfl
 have c3 : X.cell? ⟨w.heap.size, 3, none⟩ = some (.int .u64 (r.w : Nat)) := by rw [cell_of_row X _ 3 _ _ _ HX.out.2.1]; rfl
 have c4 : X.cell? ⟨w.heap.size, 4, none⟩ = some (.int .u64 (r.n : Nat)) := by rw [cell_of_row X _ 4 _ _ _ HX.out.2.1]; rfl
 have c5 : X.cell? ⟨w.heap.size, 5, none⟩ = some (.int .u64 (r.v : Nat)) := by rw [cell_of_row X _ 5 _ _ _ HX.out.2.1]; rfl
 have c6 : X.cell? ⟨w.heap.size, 6, none⟩ = some (.int .i64 k0) := by rw [cell_of_row X _ 6 _ _ _ HX.out.2.1]; rfl
 have c7 : X.cell? ⟨w.heap.size, 7, none⟩ = some (.int .u64 (k1 : Nat)) := by rw [cell_of_row X _ 7 _ _ _ HX.out.2.1]; rfl
 have c8 : X.cell? ⟨w.heap.size, 8, none⟩ = some (.int .u64 (k2 : Nat)) := by rw [cell_of_row X _ 8 _ _ _ HX.out.2.1]; rfl
 have c9 : X.cell? ⟨w.heap.size, 9, none⟩ = some (.slice k3 k4 k5) := by rw [cell_of_row X _ 9 _ _ _ HX.out.2.1]; rfl
 have c10 : X.cell? ⟨w.heap.size, 10, none⟩ = some (.slice k6 r.es.length k7) := by rw [cell_of_row X _ 10 _ _ _ HX.out.2.1]; rfl
 go_wp2_with fail
 refine (aJ S own r _ X hsz HX.out.2.2.2).mono ?_
 rw [hr]
 rintro e w1 ⟨rfl, hb1⟩
 have hz1 := hb1.size
 have H1 : Hid (Below w.heap.size w w1 ∧ w1.heap[w.heap.size]? = some (.cells #[.int .i64 6, .int .u64 (r.t : Nat), .int .u64 (r.x : Nat), .int .u64 (r.w : Nat), .int .u64 (r.n : Nat), .int .u64 (r.v : Nat), .int .i64 k0, .int .u64 (k1 : Nat), .int .u64 (k2 : Nat), .slice k3 k4 k5, .slice k6 r.es.length k7] 37 (0, 0)) ∧ w1.heap[w.heap.size + 1]? = some (.cells #[.int .u8 0, .string ⟨#[]⟩] 27 (0, 0)) ∧ aI w1 S own r (.agg #[.int .i64 6, .int .u64 (r.t : Nat), .int .u64 (r.x : Nat), .int .u64 (r.w : Nat), .int .u64 (r.n : Nat), .int .u64 (r.v : Nat), .int .i64 k0, .int .u64 (k1 : Nat), .int .u64 (k2 : Nat), .slice k3 k4 k5, .slice k6 r.es.length k7])) := hid ⟨HX.out.1.trans (hb1.mono (by omega)), (hb1.block _ (by omega)).trans HX.out.2.1, (hb1.block _ (by omega)).trans HX.out.2.2.1, HX.out.2.2.2.below hb1 nl⟩
 have hl1 : w.heap.size + 1 < w1.heap.size := by omega
 clear hb1 HX c0 c1 c2 c3 c4 c5 c6 c7 c8 c9 c10
 have hnums : r.nums := by obtain ⟨_, _, _, _, _, _, _, _, _, _, _, h, _⟩ := H1.out.2.2.2.conc; exact h
 have HLT : Hid (∀ n ∈ [r.t], n < 18446744073709551616) := hid (by
  intro n hn
  simp only [List.mem_cons, List.not_mem_nil, or_false] at hn
  rcases hn with rfl
  ·exact hnums.1)
 have HBD : Hid (r.body = ay [r.t]) := hid (by unfold Rec.body; simp [hk])
 clear hnums hk
 have r0 := H1.out.2.1
 have d0 : w1.cell? ⟨w.heap.size, 0, none⟩ = some (.int .i64 6) := by rw [cell_of_row w1 _ 0 _ _ _ r0]; rfl
 have d1 : w1.cell? ⟨w.heap.size, 1, none⟩ = some (.int .u64 (r.t : Nat)) := by rw [cell_of_row w1 _ 1 _ _ _ r0]; rfl
 have d2 : w1.cell? ⟨w.heap.size, 2, none⟩ = some (.int .u64 (r.x : Nat)) := by rw [cell_of_row w1 _ 2 _ _ _ r0]; rfl
 have d3 : w1.cell? ⟨w.heap.size, 3, none⟩ = some (.int .u64 (r.w : Nat)) := by rw [cell_of_row w1 _ 3 _ _ _ r0]; rfl
 have d4 : w1.cell? ⟨w.heap.size, 4, none⟩ = some (.int .u64 (r.n : Nat)) := by rw [cell_of_row w1 _ 4 _ _ _ r0]; rfl
 have d5 : w1.cell? ⟨w.heap.size, 5, none⟩ = some (.int .u64 (r.v : Nat)) := by rw [cell_of_row w1 _ 5 _ _ _ r0]; rfl
 have d6 : w1.cell? ⟨w.heap.size, 6, none⟩ = some (.int .i64 k0) := by rw [cell_of_row w1 _ 6 _ _ _ r0]; rfl
 have d7 : w1.cell? ⟨w.heap.size, 7, none⟩ = some (.int .u64 (k1 : Nat)) := by rw [cell_of_row w1 _ 7 _ _ _ r0]; rfl
 have d8 : w1.cell? ⟨w.heap.size, 8, none⟩ = some (.int .u64 (k2 : Nat)) := by rw [cell_of_row w1 _ 8 _ _ _ r0]; rfl
 have d9 : w1.cell? ⟨w.heap.size, 9, none⟩ = some (.slice k3 k4 k5) := by rw [cell_of_row w1 _ 9 _ _ _ r0]; rfl
 have d10 : w1.cell? ⟨w.heap.size, 10, none⟩ = some (.slice k6 r.es.length k7) := by rw [cell_of_row w1 _ 10 _ _ _ r0]; rfl
 clear r0
 go_wp2_with fail
 refine (aV _ true [r.t] _ _ (by simp) HLT.out (fK w1 [r.t] _ 1 _ rfl (by omega) rfl)).mono ?_
 rintro e w2 ⟨bv, rfl, hown2, hb2⟩
 obtain ⟨ba, bc, rfl⟩ := ag hown2
 have hb2' : Below w1.heap.size w1 w2 := (br.alloc nl _).trans (hb2.mono (by simp))
 have hz2 := hb2'.size
 rw [← HBD.out] at hown2
 have HC := hid (cZ _ true r.body _ w2 (bM.of_owns hown2))
 have H2 : Hid (Below w.heap.size w w2 ∧ w2.heap[w.heap.size]? = some (.cells #[.int .i64 6, .int .u64 (r.t : Nat), .int .u64 (r.x : Nat), .int .u64 (r.w : Nat), .int .u64 (r.n : Nat), .int .u64 (r.v : Nat), .int .i64 k0, .int .u64 (k1 : Nat), .int .u64 (k2 : Nat), .slice k3 k4 k5, .slice k6 r.es.length k7] 37 (0, 0)) ∧ w2.heap[w.heap.size + 1]? = some (.cells #[.int .u8 0, .string ⟨#[]⟩] 27 (0, 0))) := hid ⟨H1.out.1.trans (hb2'.mono (by omega)), (hb2'.block _ (by omega)).trans H1.out.2.1, (hb2'.block _ (by omega)).trans H1.out.2.2.1⟩
 rw [← HBD.out]
 have e0 : w2.cell? ⟨w.heap.size, 0, none⟩ = some (.int .i64 6) := by rw [cell_of_row w2 _ 0 _ _ _ H2.out.2.1]; rfl
 clear hb2 hb2' hown2 H1 d0 d1 d2 d3 d4 d5 d6 d7 d8 d9 d10
 have p1 := H2.out.2.2
 go_wp2_with (first | rw [HC.out] | (refine wpList_store_row rfl 27 (.tmp 2) (.tmp 112) rfl rfl (w.heap.size + 1) rfl _ rfl 27 _ p1 (by kernel_rfl) rfl (by simp [Value.oneCell']) ?_) | fail)
 refine bodyPost_ret (v := .tuple #[.agg #[.int .u8 6, .string ⟨r.body.toArray⟩], .int .i64 0]) (aD rfl _ _ (w.heap.size + 1) 27 _ _ _ _ rfl (setRow_heap _ _ _ _ _ _ p1) Tryz.underlying27 rfl (by kernel_rfl) rfl) rfl ⟨rfl, below_setRow H2.out.1 _ _ (by omega)⟩
theorem uH (S : Nat → Prop) (own : Bool) (r : Rec) (k0 : Int) (k1 k2 : Nat) (k3 : Option Addr) (k4 k5 : Nat) (k6 : Option Addr) (k7 : Nat) (w : World) (hsz : r.p.size ≤ 900) (hle : r.es.length ≤ 10000) (hr : r.right = true) (hk : r.k = 7) (hv : aI w S own r (.agg #[.int .i64 7, .int .u64 (r.t : Nat), .int .u64 (r.x : Nat), .int .u64 (r.w : Nat), .int .u64 (r.n : Nat), .int .u64 (r.v : Nat), .int .i64 k0, .int .u64 (k1 : Nat), .int .u64 (k2 : Nat), .slice k3 k4 k5, .slice k6 r.es.length k7])) :
  Calls Tryz.prog 14 #[.agg #[.int .i64 7, .int .u64 (r.t : Nat), .int .u64 (r.x : Nat), .int .u64 (r.w : Nat), .int .u64 (r.n : Nat), .int .u64 (r.v : Nat), .int .i64 k0, .int .u64 (k1 : Nat), .int .u64 (k2 : Nat), .slice k3 k4 k5, .slice k6 r.es.length k7]] w fun e w' => e = .returned (.tuple #[.agg #[.int .u8 7, .string ⟨r.body.toArray⟩], .int .i64 0]) ∧ Below w.heap.size w w' := by
 have hb0 : Below w.heap.size w ((w.alloc (.cells #[.int .i64 7, .int .u64 (r.t : Nat), .int .u64 (r.x : Nat), .int .u64 (r.w : Nat), .int .u64 (r.n : Nat), .int .u64 (r.v : Nat), .int .i64 k0, .int .u64 (k1 : Nat), .int .u64 (k2 : Nat), .slice k3 k4 k5, .slice k6 r.es.length k7] 37)).alloc (.cells #[.int .u8 0, .string ⟨#[]⟩] 27)) := (br.alloc nl _).alloc (by simp) _
 have p0 : ((w.alloc (.cells #[.int .i64 7, .int .u64 (r.t : Nat), .int .u64 (r.x : Nat), .int .u64 (r.w : Nat), .int .u64 (r.n : Nat), .int .u64 (r.v : Nat), .int .i64 k0, .int .u64 (k1 : Nat), .int .u64 (k2 : Nat), .slice k3 k4 k5, .slice k6 r.es.length k7] 37)).alloc (.cells #[.int .u8 0, .string ⟨#[]⟩] 27)).heap[w.heap.size]? = some (.cells #[.int .i64 7, .int .u64 (r.t : Nat), .int .u64 (r.x : Nat), .int .u64 (r.w : Nat), .int .u64 (r.n : Nat), .int .u64 (r.v : Nat), .int .i64 k0, .int .u64 (k1 : Nat), .int .u64 (k2 : Nat), .slice k3 k4 k5, .slice k6 r.es.length k7] 37 (0, 0)) := heap_alloc2_old _ _ _
 have p1 : ((w.alloc (.cells #[.int .i64 7, .int .u64 (r.t : Nat), .int .u64 (r.x : Nat), .int .u64 (r.w : Nat), .int .u64 (r.n : Nat), .int .u64 (r.v : Nat), .int .i64 k0, .int .u64 (k1 : Nat), .int .u64 (k2 : Nat), .slice k3 k4 k5, .slice k6 r.es.length k7] 37)).alloc (.cells #[.int .u8 0, .string ⟨#[]⟩] 27)).heap[w.heap.size + 1]? = some (.cells #[.int .u8 0, .string ⟨#[]⟩] 27 (0, 0)) := aa _ _ _ (by simp)
 have HX := hid (And.intro hb0 (And.intro p0 (And.intro p1 (hv.below hb0 nl))))
 have HV0 := hid hv
 clear hb0 p0 p1 hv
 go_enter Tryz.func14, Tryz.ntmps14
 go_upto_region 1 with fail
 generalize ((w.alloc (.cells #[.int .i64 7, .int .u64 (r.t : Nat), .int .u64 (r.x : Nat), .int .u64 (r.w : Nat), .int .u64 (r.n : Nat), .int .u64 (r.v : Nat), .int .i64 k0, .int .u64 (k1 : Nat), .int .u64 (k2 : Nat), .slice k3 k4 k5, .slice k6 r.es.length k7] 37)).alloc (.cells #[.int .u8 0, .string ⟨#[]⟩] 27)) = X at HX ⊢
 have hlX : w.heap.size + 1 < X.heap.size := (Array.getElem?_eq_some_iff.1 HX.out.2.2.1).1
 have c0 : X.cell? ⟨w.heap.size, 0, none⟩ = some (.int .i64 7) := by rw [cell_of_row X _ 0 _ _ _ HX.out.2.1]; rfl
 have c1 : X.cell? ⟨w.heap.size, 1, none⟩ = some (.int .u64 (r.t : Nat)) := by rw [cell_of_row X _ 1 _ _ _ HX.out.2.1]; rfl
 have c2 : X.cell? ⟨w.heap.size, 2, none⟩ = some (.int .u64 (r.x : Nat)) := by rw [cell_of_row X _ 2 _ _ _ HX.out.2.1]; rfl
 have c3 : X.cell? ⟨w.heap.size, 3, none⟩ = some (.int .u64 (r.w : Nat)) := by rw [cell_of_row X _ 3 _ _ _ HX.out.2.1]; rfl
 have c4 : X.cell? ⟨w.heap.size, 4, none⟩ = some (.int .u64 (r.n : Nat)) := by rw [cell_of_row X _ 4 _ _ _ HX.out.2.1]; rfl
 have c5 : X.cell? ⟨w.heap.size, 5, none⟩ = some (.int .u64 (r.v : Nat)) := by rw [cell_of_row X _ 5 _ _ _ HX.out.2.1]; rfl
 have c6 : X.cell? ⟨w.heap.size, 6, none⟩ = some (.int .i64 k0) := by rw [cell_of_row X _ 6 _ _ _ HX.out.2.1]; rfl
 have c7 : X.cell? ⟨w.heap.size, 7, none⟩ = some (.int .u64 (k1 : Nat)) := by rw [cell_of_row X _ 7 _ _ _ HX.out.2.1]; rfl
 have c8 : X.cell? ⟨w.heap.size, 8, none⟩ = some (.int .u64 (k2 : Nat)) := by rw [cell_of_row X _ 8 _ _ _ HX.out.2.1]; rfl
 have c9 : X.cell? ⟨w.heap.size, 9, none⟩ = some (.slice k3 k4 k5) := by rw [cell_of_row X _ 9 _ _ _ HX.out.2.1]; rfl
 have c10 : X.cell? ⟨w.heap.size, 10, none⟩ = some (.slice k6 r.es.length k7) := by rw [cell_of_row X _ 10 _ _ _ HX.out.2.1]; rfl
 go_wp2_with fail
 refine (aJ S own r _ X hsz HX.out.2.2.2).mono ?_
 rw [hr]
 rintro e w1 ⟨rfl, hb1⟩
 have hz1 := hb1.size
 have H1 : Hid (Below w.heap.size w w1 ∧ w1.heap[w.heap.size]? = some (.cells #[.int .i64 7, .int .u64 (r.t : Nat), .int .u64 (r.x : Nat), .int .u64 (r.w : Nat), .int .u64 (r.n : Nat), .int .u64 (r.v : Nat), .int .i64 k0, .int .u64 (k1 : Nat), .int .u64 (k2 : Nat), .slice k3 k4 k5, .slice k6 r.es.length k7] 37 (0, 0)) ∧ w1.heap[w.heap.size + 1]? = some (.cells #[.int .u8 0, .string ⟨#[]⟩] 27 (0, 0)) ∧ aI w1 S own r (.agg #[.int .i64 7, .int .u64 (r.t : Nat), .int .u64 (r.x : Nat), .int .u64 (r.w : Nat), .int .u64 (r.n : Nat), .int .u64 (r.v : Nat), .int .i64 k0, .int .u64 (k1 : Nat), .int .u64 (k2 : Nat), .slice k3 k4 k5, .slice k6 r.es.length k7])) := hid ⟨HX.out.1.trans (hb1.mono (by omega)), (hb1.block _ (by omega)).trans HX.out.2.1, (hb1.block _ (by omega)).trans HX.out.2.2.1, HX.out.2.2.2.below hb1 nl⟩
 have hl1 : w.heap.size + 1 < w1.heap.size := by omega
 clear hb1 HX c0 c1 c2 c3 c4 c5 c6 c7 c8 c9 c10
 have hnums : r.nums := by obtain ⟨_, _, _, _, _, _, _, _, _, _, _, h, _⟩ := H1.out.2.2.2.conc; exact h
 have HLT : Hid (∀ n ∈ [r.t], n < 18446744073709551616) := hid (by
  intro n hn
  simp only [List.mem_cons, List.not_mem_nil, or_false] at hn
  rcases hn with rfl
  ·exact hnums.1)
 have HBD : Hid (r.body = ay [r.t]) := hid (by unfold Rec.body; simp [hk])
 clear hnums hk
 have r0 := H1.out.2.1
 have d0 : w1.cell? ⟨w.heap.size, 0, none⟩ = some (.int .i64 7) := by rw [cell_of_row w1 _ 0 _ _ _ r0]; rfl
 have d1 : w1.cell? ⟨w.heap.size, 1, none⟩ = some (.int .u64 (r.t : Nat)) := by rw [cell_of_row w1 _ 1 _ _ _ r0]; rfl
 have d2 : w1.cell? ⟨w.heap.size, 2, none⟩ = some (.int .u64 (r.x : Nat)) := by rw [cell_of_row w1 _ 2 _ _ _ r0]; rfl
 have d3 : w1.cell? ⟨w.heap.size, 3, none⟩ = some (.int .u64 (r.w : Nat)) := by rw [cell_of_row w1 _ 3 _ _ _ r0]; rfl
 have d4 : w1.cell? ⟨w.heap.size, 4, none⟩ = some (.int .u64 (r.n : Nat)) := by rw [cell_of_row w1 _ 4 _ _ _ r0]; rfl
 have d5 : w1.cell? ⟨w.heap.size, 5, none⟩ = some (.int .u64 (r.v : Nat)) := by rw [cell_of_row w1 _ 5 _ _ _ r0]; rfl
 have d6 : w1.cell? ⟨w.heap.size, 6, none⟩ = some (.int .i64 k0) := by rw [cell_of_row w1 _ 6 _ _ _ r0]; rfl
 have d7 : w1.cell? ⟨w.heap.size, 7, none⟩ = some (.int .u64 (k1 : Nat)) := by rw [cell_of_row w1 _ 7 _ _ _ r0]; rfl
 have d8 : w1.cell? ⟨w.heap.size, 8, none⟩ = some (.int .u64 (k2 : Nat)) := by rw [cell_of_row w1 _ 8 _ _ _ r0]; rfl
 have d9 : w1.cell? ⟨w.heap.size, 9, none⟩ = some (.slice k3 k4 k5) := by rw [cell_of_row w1 _ 9 _ _ _ r0]; rfl
 have d10 : w1.cell? ⟨w.heap.size, 10, none⟩ = some (.slice k6 r.es.length k7) := by rw [cell_of_row w1 _ 10 _ _ _ r0]; rfl
 clear r0
 go_wp2_with fail
 refine (aV _ true [r.t] _ _ (by simp) HLT.out (fK w1 [r.t] _ 1 _ rfl (by omega) rfl)).mono ?_
 rintro e w2 ⟨bv, rfl, hown2, hb2⟩
 obtain ⟨ba, bc, rfl⟩ := ag hown2
 have hb2' : Below w1.heap.size w1 w2 := (br.alloc nl _).trans (hb2.mono (by simp))
 have hz2 := hb2'.size
 rw [← HBD.out] at hown2
 have HC := hid (cZ _ true r.body _ w2 (bM.of_owns hown2))
 have H2 : Hid (Below w.heap.size w w2 ∧ w2.heap[w.heap.size]? = some (.cells #[.int .i64 7, .int .u64 (r.t : Nat), .int .u64 (r.x : Nat), .int .u64 (r.w : Nat), .int .u64 (r.n : Nat), .int .u64 (r.v : Nat), .int .i64 k0, .int .u64 (k1 : Nat), .int .u64 (k2 : Nat), .slice k3 k4 k5, .slice k6 r.es.length k7] 37 (0, 0)) ∧ w2.heap[w.heap.size + 1]? = some (.cells #[.int .u8 0, .string ⟨#[]⟩] 27 (0, 0))) := hid ⟨H1.out.1.trans (hb2'.mono (by omega)), (hb2'.block _ (by omega)).trans H1.out.2.1, (hb2'.block _ (by omega)).trans H1.out.2.2.1⟩
 rw [← HBD.out]
 have e0 : w2.cell? ⟨w.heap.size, 0, none⟩ = some (.int .i64 7) := by rw [cell_of_row w2 _ 0 _ _ _ H2.out.2.1]; rfl
 clear hb2 hb2' hown2 H1 d0 d1 d2 d3 d4 d5 d6 d7 d8 d9 d10
 have p1 := H2.out.2.2
 go_wp2_with (first | rw [HC.out] | (refine wpList_store_row rfl 27 (.tmp 2) (.tmp 112) rfl rfl (w.heap.size + 1) rfl _ rfl 27 _ p1 (by kernel_rfl) rfl (by simp [Value.oneCell']) ?_) | fail)
 refine bodyPost_ret (v := .tuple #[.agg #[.int .u8 7, .string ⟨r.body.toArray⟩], .int .i64 0]) (aD rfl _ _ (w.heap.size + 1) 27 _ _ _ _ rfl (setRow_heap _ _ _ _ _ _ p1) Tryz.underlying27 rfl (by kernel_rfl) rfl) rfl ⟨rfl, below_setRow H2.out.1 _ _ (by omega)⟩
theorem uI (S : Nat → Prop) (own : Bool) (r : Rec) (k0 : Int) (k1 k2 : Nat) (k3 : Option Addr) (k4 k5 : Nat) (k6 : Option Addr) (k7 : Nat) (w : World) (hsz : r.p.size ≤ 900) (hle : r.es.length ≤ 10000) (hr : r.right = true) (hk : r.k = 2) (hv : aI w S own r (.agg #[.int .i64 2, .int .u64 (r.t : Nat), .int .u64 (r.x : Nat), .int .u64 (r.w : Nat), .int .u64 (r.n : Nat), .int .u64 (r.v : Nat), .int .i64 k0, .int .u64 (k1 : Nat), .int .u64 (k2 : Nat), .slice k3 k4 k5, .slice k6 r.es.length k7])) :
  Calls Tryz.prog 14 #[.agg #[.int .i64 2, .int .u64 (r.t : Nat), .int .u64 (r.x : Nat), .int .u64 (r.w : Nat), .int .u64 (r.n : Nat), .int .u64 (r.v : Nat), .int .i64 k0, .int .u64 (k1 : Nat), .int .u64 (k2 : Nat), .slice k3 k4 k5, .slice k6 r.es.length k7]] w fun e w' => e = .returned (.tuple #[.agg #[.int .u8 2, .string ⟨r.body.toArray⟩], .int .i64 0]) ∧ Below w.heap.size w w' := by
 have hb0 : Below w.heap.size w ((w.alloc (.cells #[.int .i64 2, .int .u64 (r.t : Nat), .int .u64 (r.x : Nat), .int .u64 (r.w : Nat), .int .u64 (r.n : Nat), .int .u64 (r.v : Nat), .int .i64 k0, .int .u64 (k1 : Nat), .int .u64 (k2 : Nat), .slice k3 k4 k5, .slice k6 r.es.length k7] 37)).alloc (.cells #[.int .u8 0, .string ⟨#[]⟩] 27)) := (br.alloc nl _).alloc (by simp) _
 have p0 : ((w.alloc (.cells #[.int .i64 2, .int .u64 (r.t : Nat), .int .u64 (r.x : Nat), .int .u64 (r.w : Nat), .int .u64 (r.n : Nat), .int .u64 (r.v : Nat), .int .i64 k0, .int .u64 (k1 : Nat), .int .u64 (k2 : Nat), .slice k3 k4 k5, .slice k6 r.es.length k7] 37)).alloc (.cells #[.int .u8 0, .string ⟨#[]⟩] 27)).heap[w.heap.size]? = some (.cells #[.int .i64 2, .int .u64 (r.t : Nat), .int .u64 (r.x : Nat), .int .u64 (r.w : Nat), .int .u64 (r.n : Nat), .int .u64 (r.v : Nat), .int .i64 k0, .int .u64 (k1 : Nat), .int .u64 (k2 : Nat), .slice k3 k4 k5, .slice k6 r.es.length k7] 37 (0, 0)) := heap_alloc2_old _ _ _
 have p1 : ((w.alloc (.cells #[.int .i64 2, .int .u64 (r.t : Nat), .int .u64 (r.x : Nat), .int .u64 (r.w : Nat), .int .u64 (r.n : Nat), .int .u64 (r.v : Nat), .int .i64 k0, .int .u64 (k1 : Nat), .int .u64 (k2 : Nat), .slice k3 k4 k5, .slice k6 r.es.length k7] 37)).alloc (.cells #[.int .u8 0, .string ⟨#[]⟩] 27)).heap[w.heap.size + 1]? = some (.cells #[.int .u8 0, .string ⟨#[]⟩] 27 (0, 0)) := aa _ _ _ (by simp)
 have HX := hid (And.intro hb0 (And.intro p0 (And.intro p1 (hv.below hb0 nl))))
 have HV0 := hid hv
 clear hb0 p0 p1 hv
 go_enter Tryz.func14, Tryz.ntmps14
 go_upto_region 1 with fail
 generalize ((w.alloc (.cells #[.int .i64 2, .int .u64 (r.t : Nat), .int .u64 (r.x : Nat), .int .u64 (r.w : Nat), .int .u64 (r.n : Nat), .int .u64 (r.v : Nat), .int .i64 k0, .int .u64 (k1 : Nat), .int .u64 (k2 : Nat), .slice k3 k4 k5, .slice k6 r.es.length k7] 37)).alloc (.cells #[.int .u8 0, .string ⟨#[]⟩] 27)) = X at HX ⊢
 have hlX : w.heap.size + 1 < X.heap.size := (Array.getElem?_eq_some_iff.1 HX.out.2.2.1).1
 have c0 : X.cell? ⟨w.heap.size, 0, none⟩ = some (.int .i64 2) := by rw [cell_of_row X _ 0 _ _ _ HX.out.2.1]; rfl
 have c1 : X.cell? ⟨w.heap.size, 1, none⟩ = some (.int .u64 (r.t : Nat)) := by rw [cell_of_row X _ 1 _ _ _ HX.out.2.1]; rfl
 have c2 : X.cell? ⟨w.heap.size, 2, none⟩ = some (.int .u64 (r.x : Nat)) := by rw [cell_of_row X _ 2 _ _ _ HX.out.2.1]; rfl
 have c3 : X.cell? ⟨w.heap.size, 3, none⟩ = some (.int .u64 (r.w : Nat)) := by rw [cell_of_row X _ 3 _ _ _ HX.out.2.1]; rfl
 have c4 : X.cell? ⟨w.heap.size, 4, none⟩ = some (.int .u64 (r.n : Nat)) := by rw [cell_of_row X _ 4 _ _ _ HX.out.2.1]; rfl
 have c5 : X.cell? ⟨w.heap.size, 5, none⟩ = some (.int .u64 (r.v : Nat)) := by rw [cell_of_row X _ 5 _ _ _ HX.out.2.1]; rfl
 have c6 : X.cell? ⟨w.heap.size, 6, none⟩ = some (.int .i64 k0) := by rw [cell_of_row X _ 6 _ _ _ HX.out.2.1]; rfl
 have c7 : X.cell? ⟨w.heap.size, 7, none⟩ = some (.int .u64 (k1 : Nat)) := by rw [cell_of_row X _ 7 _ _ _ HX.out.2.1]; rfl
 have c8 : X.cell? ⟨w.heap.size, 8, none⟩ = some (.int .u64 (k2 : Nat)) := by rw [cell_of_row X _ 8 _ _ _ HX.out.2.1]; rfl
 have c9 : X.cell? ⟨w.heap.size, 9, none⟩ = some (.slice k3 k4 k5) := by rw [cell_of_row X _ 9 _ _ _ HX.out.2.1]; rfl
 have c10 : X.cell? ⟨w.heap.size, 10, none⟩ = some (.slice k6 r.es.length k7) := by rw [cell_of_row X _ 10 _ _ _ HX.out.2.1]; rfl
 go_wp2_with fail
 refine (aJ S own r _ X hsz HX.out.2.2.2).mono ?_
 rw [hr]
 rintro e w1 ⟨rfl, hb1⟩
 have hz1 := hb1.size
 have H1 : Hid (Below w.heap.size w w1 ∧ w1.heap[w.heap.size]? = some (.cells #[.int .i64 2, .int .u64 (r.t : Nat), .int .u64 (r.x : Nat), .int .u64 (r.w : Nat), .int .u64 (r.n : Nat), .int .u64 (r.v : Nat), .int .i64 k0, .int .u64 (k1 : Nat), .int .u64 (k2 : Nat), .slice k3 k4 k5, .slice k6 r.es.length k7] 37 (0, 0)) ∧ w1.heap[w.heap.size + 1]? = some (.cells #[.int .u8 0, .string ⟨#[]⟩] 27 (0, 0)) ∧ aI w1 S own r (.agg #[.int .i64 2, .int .u64 (r.t : Nat), .int .u64 (r.x : Nat), .int .u64 (r.w : Nat), .int .u64 (r.n : Nat), .int .u64 (r.v : Nat), .int .i64 k0, .int .u64 (k1 : Nat), .int .u64 (k2 : Nat), .slice k3 k4 k5, .slice k6 r.es.length k7])) := hid ⟨HX.out.1.trans (hb1.mono (by omega)), (hb1.block _ (by omega)).trans HX.out.2.1, (hb1.block _ (by omega)).trans HX.out.2.2.1, HX.out.2.2.2.below hb1 nl⟩
 have hl1 : w.heap.size + 1 < w1.heap.size := by omega
 clear hb1 HX c0 c1 c2 c3 c4 c5 c6 c7 c8 c9 c10
 have hnums : r.nums := by obtain ⟨_, _, _, _, _, _, _, _, _, _, _, h, _⟩ := H1.out.2.2.2.conc; exact h
 have HLT : Hid (∀ n ∈ [r.t, r.x, r.w, r.n], n < 18446744073709551616) := hid (by
  intro n hn
  simp only [List.mem_cons, List.not_mem_nil, or_false] at hn
  rcases hn with rfl | rfl | rfl | rfl
  ·exact hnums.1
  ·exact hnums.2.1
  ·exact hnums.2.2.1
  ·exact hnums.2.2.2.1)
 have HBD : Hid (r.body = ay [r.t, r.x, r.w, r.n]) := hid (by unfold Rec.body; simp [hk])
 clear hnums hk
 have r0 := H1.out.2.1
 have d0 : w1.cell? ⟨w.heap.size, 0, none⟩ = some (.int .i64 2) := by rw [cell_of_row w1 _ 0 _ _ _ r0]; rfl
 have d1 : w1.cell? ⟨w.heap.size, 1, none⟩ = some (.int .u64 (r.t : Nat)) := by rw [cell_of_row w1 _ 1 _ _ _ r0]; rfl
 have d2 : w1.cell? ⟨w.heap.size, 2, none⟩ = some (.int .u64 (r.x : Nat)) := by rw [cell_of_row w1 _ 2 _ _ _ r0]; rfl
 have d3 : w1.cell? ⟨w.heap.size, 3, none⟩ = some (.int .u64 (r.w : Nat)) := by rw [cell_of_row w1 _ 3 _ _ _ r0]; rfl
 have d4 : w1.cell? ⟨w.heap.size, 4, none⟩ = some (.int .u64 (r.n : Nat)) := by rw [cell_of_row w1 _ 4 _ _ _ r0]; rfl
 have d5 : w1.cell? ⟨w.heap.size, 5, none⟩ = some (.int .u64 (r.v : Nat)) := by rw [cell_of_row w1 _ 5 _ _ _ r0]; rfl
 have d6 : w1.cell? ⟨w.heap.size, 6, none⟩ = some (.int .i64 k0) := by rw [cell_of_row w1 _ 6 _ _ _ r0]; rfl
 have d7 : w1.cell? ⟨w.heap.size, 7, none⟩ = some (.int .u64 (k1 : Nat)) := by rw [cell_of_row w1 _ 7 _ _ _ r0]; rfl
 have d8 : w1.cell? ⟨w.heap.size, 8, none⟩ = some (.int .u64 (k2 : Nat)) := by rw [cell_of_row w1 _ 8 _ _ _ r0]; rfl
 have d9 : w1.cell? ⟨w.heap.size, 9, none⟩ = some (.slice k3 k4 k5) := by rw [cell_of_row w1 _ 9 _ _ _ r0]; rfl
 have d10 : w1.cell? ⟨w.heap.size, 10, none⟩ = some (.slice k6 r.es.length k7) := by rw [cell_of_row w1 _ 10 _ _ _ r0]; rfl
 clear r0
 go_wp2_with fail
 refine (aV _ true [r.t, r.x, r.w, r.n] _ _ (by simp) HLT.out (fK w1 [r.t, r.x, r.w, r.n] _ 4 _ rfl (by omega) rfl)).mono ?_
 rintro e w2 ⟨bv, rfl, hown2, hb2⟩
 obtain ⟨ba, bc, rfl⟩ := ag hown2
 have hb2' : Below w1.heap.size w1 w2 := (br.alloc nl _).trans (hb2.mono (by simp))
 have hz2 := hb2'.size
 rw [← HBD.out] at hown2
 have HC := hid (cZ _ true r.body _ w2 (bM.of_owns hown2))
 have H2 : Hid (Below w.heap.size w w2 ∧ w2.heap[w.heap.size]? = some (.cells #[.int .i64 2, .int .u64 (r.t : Nat), .int .u64 (r.x : Nat), .int .u64 (r.w : Nat), .int .u64 (r.n : Nat), .int .u64 (r.v : Nat), .int .i64 k0, .int .u64 (k1 : Nat), .int .u64 (k2 : Nat), .slice k3 k4 k5, .slice k6 r.es.length k7] 37 (0, 0)) ∧ w2.heap[w.heap.size + 1]? = some (.cells #[.int .u8 0, .string ⟨#[]⟩] 27 (0, 0))) := hid ⟨H1.out.1.trans (hb2'.mono (by omega)), (hb2'.block _ (by omega)).trans H1.out.2.1, (hb2'.block _ (by omega)).trans H1.out.2.2.1⟩
 rw [← HBD.out]
 have e0 : w2.cell? ⟨w.heap.size, 0, none⟩ = some (.int .i64 2) := by rw [cell_of_row w2 _ 0 _ _ _ H2.out.2.1]; rfl
 clear hb2 hb2' hown2 H1 d0 d1 d2 d3 d4 d5 d6 d7 d8 d9 d10
 have p1 := H2.out.2.2
 go_wp2_with (first | rw [HC.out] | (refine wpList_store_row rfl 27 (.tmp 2) (.tmp 112) rfl rfl (w.heap.size + 1) rfl _ rfl 27 _ p1 (by kernel_rfl) rfl (by simp [Value.oneCell']) ?_) | fail)
 refine bodyPost_ret (v := .tuple #[.agg #[.int .u8 2, .string ⟨r.body.toArray⟩], .int .i64 0]) (aD rfl _ _ (w.heap.size + 1) 27 _ _ _ _ rfl (setRow_heap _ _ _ _ _ _ p1) Tryz.underlying27 rfl (by kernel_rfl) rfl) rfl ⟨rfl, below_setRow H2.out.1 _ _ (by omega)⟩
theorem uJ (S : Nat → Prop) (own : Bool) (r : Rec) (k0 : Int) (k1 k2 : Nat) (k3 : Option Addr) (k4 k5 : Nat) (k6 : Option Addr) (k7 : Nat) (w : World) (hsz : r.p.size ≤ 900) (hle : r.es.length ≤ 10000) (hr : r.right = true) (hk : r.k = 3) (hv : aI w S own r (.agg #[.int .i64 3, .int .u64 (r.t : Nat), .int .u64 (r.x : Nat), .int .u64 (r.w : Nat), .int .u64 (r.n : Nat), .int .u64 (r.v : Nat), .int .i64 k0, .int .u64 (k1 : Nat), .int .u64 (k2 : Nat), .slice k3 k4 k5, .slice k6 r.es.length k7])) :
  Calls Tryz.prog 14 #[.agg #[.int .i64 3, .int .u64 (r.t : Nat), .int .u64 (r.x : Nat), .int .u64 (r.w : Nat), .int .u64 (r.n : Nat), .int .u64 (r.v : Nat), .int .i64 k0, .int .u64 (k1 : Nat), .int .u64 (k2 : Nat), .slice k3 k4 k5, .slice k6 r.es.length k7]] w fun e w' => e = .returned (.tuple #[.agg #[.int .u8 3, .string ⟨r.body.toArray⟩], .int .i64 0]) ∧ Below w.heap.size w w' := by
 have hb0 : Below w.heap.size w ((w.alloc (.cells #[.int .i64 3, .int .u64 (r.t : Nat), .int .u64 (r.x : Nat), .int .u64 (r.w : Nat), .int .u64 (r.n : Nat), .int .u64 (r.v : Nat), .int .i64 k0, .int .u64 (k1 : Nat), .int .u64 (k2 : Nat), .slice k3 k4 k5, .slice k6 r.es.length k7] 37)).alloc (.cells #[.int .u8 0, .string ⟨#[]⟩] 27)) := (br.alloc nl _).alloc (by simp) _
 have p0 : ((w.alloc (.cells #[.int .i64 3, .int .u64 (r.t : Nat), .int .u64 (r.x : Nat), .int .u64 (r.w : Nat), .int .u64 (r.n : Nat), .int .u64 (r.v : Nat), .int .i64 k0, .int .u64 (k1 : Nat), .int .u64 (k2 : Nat), .slice k3 k4 k5, .slice k6 r.es.length k7] 37)).alloc (.cells #[.int .u8 0, .string ⟨#[]⟩] 27)).heap[w.heap.size]? = some (.cells #[.int .i64 3, .int .u64 (r.t : Nat), .int .u64 (r.x : Nat), .int .u64 (r.w : Nat), .int .u64 (r.n : Nat), .int .u64 (r.v : Nat), .int .i64 k0, .int .u64 (k1 : Nat), .int .u64 (k2 : Nat), .slice k3 k4 k5, .slice k6 r.es.length k7] 37 (0, 0)) := heap_alloc2_old _ _ _
 have p1 : ((w.alloc (.cells #[.int .i64 3, .int .u64 (r.t : Nat), .int .u64 (r.x : Nat), .int .u64 (r.w : Nat), .int .u64 (r.n : Nat), .int .u64 (r.v : Nat), .int .i64 k0, .int .u64 (k1 : Nat), .int .u64 (k2 : Nat), .slice k3 k4 k5, .slice k6 r.es.length k7] 37)).alloc (.cells #[.int .u8 0, .string ⟨#[]⟩] 27)).heap[w.heap.size + 1]? = some (.cells #[.int .u8 0, .string ⟨#[]⟩] 27 (0, 0)) := aa _ _ _ (by simp)
 have HX := hid (And.intro hb0 (And.intro p0 (And.intro p1 (hv.below hb0 nl))))
 have HV0 := hid hv
 clear hb0 p0 p1 hv
 go_enter Tryz.func14, Tryz.ntmps14
 go_upto_region 1 with fail
 generalize ((w.alloc (.cells #[.int .i64 3, .int .u64 (r.t : Nat), .int .u64 (r.x : Nat), .int .u64 (r.w : Nat), .int .u64 (r.n : Nat), .int .u64 (r.v : Nat), .int .i64 k0, .int .u64 (k1 : Nat), .int .u64 (k2 : Nat), .slice k3 k4 k5, .slice k6 r.es.length k7] 37)).alloc (.cells #[.int .u8 0, .string ⟨#[]⟩] 27)) = X at HX ⊢
 have hlX : w.heap.size + 1 < X.heap.size := (Array.getElem?_eq_some_iff.1 HX.out.2.2.1).1
 have c0 : X.cell? ⟨w.heap.size, 0, none⟩ = some (.int .i64 3) := by rw [cell_of_row X _ 0 _ _ _ HX.out.2.1]; rfl
 have c1 : X.cell? ⟨w.heap.size, 1, none⟩ = some (.int .u64 (r.t : Nat)) := by rw [cell_of_row X _ 1 _ _ _ HX.out.2.1]; rfl
 have c2 : X.cell? ⟨w.heap.size, 2, none⟩ = some (.int .u64 (r.x : Nat)) := by rw [cell_of_row X _ 2 _ _ _ HX.out.2.1]; rfl
 have c3 : X.cell? ⟨w.heap.size, 3, none⟩ = some (.int .u64 (r.w : Nat)) := by rw [cell_of_row X _ 3 _ _ _ HX.out.2.1]; rfl
 have c4 : X.cell? ⟨w.heap.size, 4, none⟩ = some (.int .u64 (r.n : Nat)) := by rw [cell_of_row X _ 4 _ _ _ HX.out.2.1]; rfl
 have c5 : X.cell? ⟨w.heap.size, 5, none⟩ = some (.int .u64 (r.v : Nat)) := by rw [cell_of_row X _ 5 _ _ _ HX.out.2.1]; rfl
 have c6 : X.cell? ⟨w.heap.size, 6, none⟩ = some (.int .i64 k0) := by rw [cell_of_row X _ 6 _ _ _ HX.out.2.1]; rfl
 have c7 : X.cell? ⟨w.heap.size, 7, none⟩ = some (.int .u64 (k1 : Nat)) := by rw [cell_of_row X _ 7 _ _ _ HX.out.2.1]; rfl
 have c8 : X.cell? ⟨w.heap.size, 8, none⟩ = some (.int .u64 (k2 : Nat)) := by rw [cell_of_row X _ 8 _ _ _ HX.out.2.1]; rfl
 have c9 : X.cell? ⟨w.heap.size, 9, none⟩ = some (.slice k3 k4 k5) := by rw [cell_of_row X _ 9 _ _ _ HX.out.2.1]; rfl
 have c10 : X.cell? ⟨w.heap.size, 10, none⟩ = some (.slice k6 r.es.length k7) := by rw [cell_of_row X _ 10 _ _ _ HX.out.2.1]; rfl
 go_wp2_with fail
 refine (aJ S own r _ X hsz HX.out.2.2.2).mono ?_
 rw [hr]
 rintro e w1 ⟨rfl, hb1⟩
 have hz1 := hb1.size
 have H1 : Hid (Below w.heap.size w w1 ∧ w1.heap[w.heap.size]? = some (.cells #[.int .i64 3, .int .u64 (r.t : Nat), .int .u64 (r.x : Nat), .int .u64 (r.w : Nat), .int .u64 (r.n : Nat), .int .u64 (r.v : Nat), .int .i64 k0, .int .u64 (k1 : Nat), .int .u64 (k2 : Nat), .slice k3 k4 k5, .slice k6 r.es.length k7] 37 (0, 0)) ∧ w1.heap[w.heap.size + 1]? = some (.cells #[.int .u8 0, .string ⟨#[]⟩] 27 (0, 0)) ∧ aI w1 S own r (.agg #[.int .i64 3, .int .u64 (r.t : Nat), .int .u64 (r.x : Nat), .int .u64 (r.w : Nat), .int .u64 (r.n : Nat), .int .u64 (r.v : Nat), .int .i64 k0, .int .u64 (k1 : Nat), .int .u64 (k2 : Nat), .slice k3 k4 k5, .slice k6 r.es.length k7])) := hid ⟨HX.out.1.trans (hb1.mono (by omega)), (hb1.block _ (by omega)).trans HX.out.2.1, (hb1.block _ (by omega)).trans HX.out.2.2.1, HX.out.2.2.2.below hb1 nl⟩
 have hl1 : w.heap.size + 1 < w1.heap.size := by omega
 clear hb1 HX c0 c1 c2 c3 c4 c5 c6 c7 c8 c9 c10
 have hnums : r.nums := by obtain ⟨_, _, _, _, _, _, _, _, _, _, _, h, _⟩ := H1.out.2.2.2.conc; exact h
 have HLT : Hid (∀ n ∈ [r.t, r.x, r.v], n < 18446744073709551616) := hid (by
  intro n hn
  simp only [List.mem_cons, List.not_mem_nil, or_false] at hn
  rcases hn with rfl | rfl | rfl
  ·exact hnums.1
  ·exact hnums.2.1
  ·exact hnums.2.2.2.2.1)
 have HBD : Hid (r.body = ay [r.t, r.x, r.v]) := hid (by unfold Rec.body; simp [hk])
 clear hnums hk
 have r0 := H1.out.2.1
 have d0 : w1.cell? ⟨w.heap.size, 0, none⟩ = some (.int .i64 3) := by rw [cell_of_row w1 _ 0 _ _ _ r0]; rfl
 have d1 : w1.cell? ⟨w.heap.size, 1, none⟩ = some (.int .u64 (r.t : Nat)) := by rw [cell_of_row w1 _ 1 _ _ _ r0]; rfl
 have d2 : w1.cell? ⟨w.heap.size, 2, none⟩ = some (.int .u64 (r.x : Nat)) := by rw [cell_of_row w1 _ 2 _ _ _ r0]; rfl
 have d3 : w1.cell? ⟨w.heap.size, 3, none⟩ = some (.int .u64 (r.w : Nat)) := by rw [cell_of_row w1 _ 3 _ _ _ r0]; rfl
 have d4 : w1.cell? ⟨w.heap.size, 4, none⟩ = some (.int .u64 (r.n : Nat)) := by rw [cell_of_row w1 _ 4 _ _ _ r0]; rfl
 have d5 : w1.cell? ⟨w.heap.size, 5, none⟩ = some (.int .u64 (r.v : Nat)) := by rw [cell_of_row w1 _ 5 _ _ _ r0]; rfl
 have d6 : w1.cell? ⟨w.heap.size, 6, none⟩ = some (.int .i64 k0) := by rw [cell_of_row w1 _ 6 _ _ _ r0]; rfl
 have d7 : w1.cell? ⟨w.heap.size, 7, none⟩ = some (.int .u64 (k1 : Nat)) := by rw [cell_of_row w1 _ 7 _ _ _ r0]; rfl
 have d8 : w1.cell? ⟨w.heap.size, 8, none⟩ = some (.int .u64 (k2 : Nat)) := by rw [cell_of_row w1 _ 8 _ _ _ r0]; rfl
 have d9 : w1.cell? ⟨w.heap.size, 9, none⟩ = some (.slice k3 k4 k5) := by rw [cell_of_row w1 _ 9 _ _ _ r0]; rfl
 have d10 : w1.cell? ⟨w.heap.size, 10, none⟩ = some (.slice k6 r.es.length k7) := by rw [cell_of_row w1 _ 10 _ _ _ r0]; rfl
 clear r0
 go_wp2_with fail
 refine (aV _ true [r.t, r.x, r.v] _ _ (by simp) HLT.out (fK w1 [r.t, r.x, r.v] _ 3 _ rfl (by omega) rfl)).mono ?_
 rintro e w2 ⟨bv, rfl, hown2, hb2⟩
 obtain ⟨ba, bc, rfl⟩ := ag hown2
 have hb2' : Below w1.heap.size w1 w2 := (br.alloc nl _).trans (hb2.mono (by simp))
 have hz2 := hb2'.size
 rw [← HBD.out] at hown2
 have HC := hid (cZ _ true r.body _ w2 (bM.of_owns hown2))
 have H2 : Hid (Below w.heap.size w w2 ∧ w2.heap[w.heap.size]? = some (.cells #[.int .i64 3, .int .u64 (r.t : Nat), .int .u64 (r.x : Nat), .int .u64 (r.w : Nat), .int .u64 (r.n : Nat), .int .u64 (r.v : Nat), .int .i64 k0, .int .u64 (k1 : Nat), .int .u64 (k2 : Nat), .slice k3 k4 k5, .slice k6 r.es.length k7] 37 (0, 0)) ∧ w2.heap[w.heap.size + 1]? = some (.cells #[.int .u8 0, .string ⟨#[]⟩] 27 (0, 0))) := hid ⟨H1.out.1.trans (hb2'.mono (by omega)), (hb2'.block _ (by omega)).trans H1.out.2.1, (hb2'.block _ (by omega)).trans H1.out.2.2.1⟩
 rw [← HBD.out]
 have e0 : w2.cell? ⟨w.heap.size, 0, none⟩ = some (.int .i64 3) := by rw [cell_of_row w2 _ 0 _ _ _ H2.out.2.1]; rfl
 clear hb2 hb2' hown2 H1 d0 d1 d2 d3 d4 d5 d6 d7 d8 d9 d10
 have p1 := H2.out.2.2
 go_wp2_with (first | rw [HC.out] | (refine wpList_store_row rfl 27 (.tmp 2) (.tmp 112) rfl rfl (w.heap.size + 1) rfl _ rfl 27 _ p1 (by kernel_rfl) rfl (by simp [Value.oneCell']) ?_) | fail)
 refine bodyPost_ret (v := .tuple #[.agg #[.int .u8 3, .string ⟨r.body.toArray⟩], .int .i64 0]) (aD rfl _ _ (w.heap.size + 1) 27 _ _ _ _ rfl (setRow_heap _ _ _ _ _ _ p1) Tryz.underlying27 rfl (by kernel_rfl) rfl) rfl ⟨rfl, below_setRow H2.out.1 _ _ (by omega)⟩
theorem uK (S : Nat → Prop) (own : Bool) (r : Rec) (k0 : Int) (k1 k2 : Nat) (k3 : Option Addr) (k4 k5 : Nat) (k6 : Option Addr) (k7 : Nat) (w : World) (hsz : r.p.size ≤ 900) (hle : r.es.length ≤ 10000) (hr : r.right = true) (hk : r.k = 4) (hv : aI w S own r (.agg #[.int .i64 4, .int .u64 (r.t : Nat), .int .u64 (r.x : Nat), .int .u64 (r.w : Nat), .int .u64 (r.n : Nat), .int .u64 (r.v : Nat), .int .i64 k0, .int .u64 (k1 : Nat), .int .u64 (k2 : Nat), .slice k3 k4 k5, .slice k6 r.es.length k7])) :
  Calls Tryz.prog 14 #[.agg #[.int .i64 4, .int .u64 (r.t : Nat), .int .u64 (r.x : Nat), .int .u64 (r.w : Nat), .int .u64 (r.n : Nat), .int .u64 (r.v : Nat), .int .i64 k0, .int .u64 (k1 : Nat), .int .u64 (k2 : Nat), .slice k3 k4 k5, .slice k6 r.es.length k7]] w fun e w' => e = .returned (.tuple #[.agg #[.int .u8 4, .string ⟨r.body.toArray⟩], .int .i64 0]) ∧ Below w.heap.size w w' := by
 have hb0 : Below w.heap.size w ((w.alloc (.cells #[.int .i64 4, .int .u64 (r.t : Nat), .int .u64 (r.x : Nat), .int .u64 (r.w : Nat), .int .u64 (r.n : Nat), .int .u64 (r.v : Nat), .int .i64 k0, .int .u64 (k1 : Nat), .int .u64 (k2 : Nat), .slice k3 k4 k5, .slice k6 r.es.length k7] 37)).alloc (.cells #[.int .u8 0, .string ⟨#[]⟩] 27)) := (br.alloc nl _).alloc (by simp) _
 have p0 : ((w.alloc (.cells #[.int .i64 4, .int .u64 (r.t : Nat), .int .u64 (r.x : Nat), .int .u64 (r.w : Nat), .int .u64 (r.n : Nat), .int .u64 (r.v : Nat), .int .i64 k0, .int .u64 (k1 : Nat), .int .u64 (k2 : Nat), .slice k3 k4 k5, .slice k6 r.es.length k7] 37)).alloc (.cells #[.int .u8 0, .string ⟨#[]⟩] 27)).heap[w.heap.size]? = some (.cells #[.int .i64 4, .int .u64 (r.t : Nat), .int .u64 (r.x : Nat), .int .u64 (r.w : Nat), .int .u64 (r.n : Nat), .int .u64 (r.v : Nat), .int .i64 k0, .int .u64 (k1 : Nat), .int .u64 (k2 : Nat), .slice k3 k4 k5, .slice k6 r.es.length k7] 37 (0, 0)) := heap_alloc2_old _ _ _
 have p1 : ((w.alloc (.cells #[.int .i64 4, .int .u64 (r.t : Nat), .int .u64 (r.x : Nat), .int .u64 (r.w : Nat), .int .u64 (r.n : Nat), .int .u64 (r.v : Nat), .int .i64 k0, .int .u64 (k1 : Nat), .int .u64 (k2 : Nat), .slice k3 k4 k5, .slice k6 r.es.length k7] 37)).alloc (.cells #[.int .u8 0, .string ⟨#[]⟩] 27)).heap[w.heap.size + 1]? = some (.cells #[.int .u8 0, .string ⟨#[]⟩] 27 (0, 0)) := aa _ _ _ (by simp)
 have HX := hid (And.intro hb0 (And.intro p0 (And.intro p1 (hv.below hb0 nl))))
 have HV0 := hid hv
 clear hb0 p0 p1 hv
 go_enter Tryz.func14, Tryz.ntmps14
 go_upto_region 1 with fail
 generalize ((w.alloc (.cells #[.int .i64 4, .int .u64 (r.t : Nat), .int .u64 (r.x : Nat), .int .u64 (r.w : Nat), .int .u64 (r.n : Nat), .int .u64 (r.v : Nat), .int .i64 k0, .int .u64 (k1 : Nat), .int .u64 (k2 : Nat), .slice k3 k4 k5, .slice k6 r.es.length k7] 37)).alloc (.cells #[.int .u8 0, .string ⟨#[]⟩] 27)) = X at HX ⊢
 have hlX : w.heap.size + 1 < X.heap.size := (Array.getElem?_eq_some_iff.1 HX.out.2.2.1).1
 have c0 : X.cell? ⟨w.heap.size, 0, none⟩ = some (.int .i64 4) := by rw [cell_of_row X _ 0 _ _ _ HX.out.2.1]; rfl
 have c1 : X.cell? ⟨w.heap.size, 1, none⟩ = some (.int .u64 (r.t : Nat)) := by rw [cell_of_row X _ 1 _ _ _ HX.out.2.1]; rfl
 have c2 : X.cell? ⟨w.heap.size, 2, none⟩ = some (.int .u64 (r.x : Nat)) := by rw [cell_of_row X _ 2 _ _ _ HX.out.2.1]; rfl
 have c3 : X.cell? ⟨w.heap.size, 3, none⟩ = some (.int .u64 (r.w : Nat)) := by rw [cell_of_row X _ 3 _ _ _ HX.out.2.1]; rfl
 have c4 : X.cell? ⟨w.heap.size, 4, none⟩ = some (.int .u64 (r.n : Nat)) := by rw [cell_of_row X _ 4 _ _ _ HX.out.2.1]; rfl
 have c5 : X.cell? ⟨w.heap.size, 5, none⟩ = some (.int .u64 (r.v : Nat)) := by rw [cell_of_row X _ 5 _ _ _ HX.out.2.1]; rfl
 have c6 : X.cell? ⟨w.heap.size, 6, none⟩ = some (.int .i64 k0) := by rw [cell_of_row X _ 6 _ _ _ HX.out.2.1]; rfl
 have c7 : X.cell? ⟨w.heap.size, 7, none⟩ = some (.int .u64 (k1 : Nat)) := by rw [cell_of_row X _ 7 _ _ _ HX.out.2.1]; rfl
 have c8 : X.cell? ⟨w.heap.size, 8, none⟩ = some (.int .u64 (k2 : Nat)) := by rw [cell_of_row X _ 8 _ _ _ HX.out.2.1]; rfl
 have c9 : X.cell? ⟨w.heap.size, 9, none⟩ = some (.slice k3 k4 k5) := by rw [cell_of_row X _ 9 _ _ _ HX.out.2.1]; rfl
 have c10 : X.cell? ⟨w.heap.size, 10, none⟩ = some (.slice k6 r.es.length k7) := by rw [cell_of_row X _ 10 _ _ _ HX.out.2.1]; rfl
 go_wp2_with fail
 refine (aJ S own r _ X hsz HX.out.2.2.2).mono ?_
 rw [hr]
 rintro e w1 ⟨rfl, hb1⟩
 have hz1 := hb1.size
 have H1 : Hid (Below w.heap.size w w1 ∧ w1.heap[w.heap.size]? = some (.cells #[.int .i64 4, .int .u64 (r.t : Nat), .int .u64 (r.x : Nat), .int .u64 (r.w : Nat), .int .u64 (r.n : Nat), .int .u64 (r.v : Nat), .int .i64 k0, .int .u64 (k1 : Nat), .int .u64 (k2 : Nat), .slice k3 k4 k5, .slice k6 r.es.length k7] 37 (0, 0)) ∧ w1.heap[w.heap.size + 1]? = some (.cells #[.int .u8 0, .string ⟨#[]⟩] 27 (0, 0)) ∧ aI w1 S own r (.agg #[.int .i64 4, .int .u64 (r.t : Nat), .int .u64 (r.x : Nat), .int .u64 (r.w : Nat), .int .u64 (r.n : Nat), .int .u64 (r.v : Nat), .int .i64 k0, .int .u64 (k1 : Nat), .int .u64 (k2 : Nat), .slice k3 k4 k5, .slice k6 r.es.length k7])) := hid ⟨HX.out.1.trans (hb1.mono (by omega)), (hb1.block _ (by omega)).trans HX.out.2.1, (hb1.block _ (by omega)).trans HX.out.2.2.1, HX.out.2.2.2.below hb1 nl⟩
 have hl1 : w.heap.size + 1 < w1.heap.size := by omega
 clear hb1 HX c0 c1 c2 c3 c4 c5 c6 c7 c8 c9 c10
 have hnums : r.nums := by obtain ⟨_, _, _, _, _, _, _, _, _, _, _, h, _⟩ := H1.out.2.2.2.conc; exact h
 have HLT : Hid (∀ n ∈ [r.t, r.x], n < 18446744073709551616) := hid (by
  intro n hn
  simp only [List.mem_cons, List.not_mem_nil, or_false] at hn
  rcases hn with rfl | rfl
  ·exact hnums.1
  ·exact hnums.2.1)
 have HBD : Hid (r.body = ay [r.t, r.x]) := hid (by unfold Rec.body; simp [hk])
 clear hnums hk
 have r0 := H1.out.2.1
 have d0 : w1.cell? ⟨w.heap.size, 0, none⟩ = some (.int .i64 4) := by rw [cell_of_row w1 _ 0 _ _ _ r0]; rfl
 have d1 : w1.cell? ⟨w.heap.size, 1, none⟩ = some (.int .u64 (r.t : Nat)) := by rw [cell_of_row w1 _ 1 _ _ _ r0]; rfl
 have d2 : w1.cell? ⟨w.heap.size, 2, none⟩ = some (.int .u64 (r.x : Nat)) := by rw [cell_of_row w1 _ 2 _ _ _ r0]; rfl
 have d3 : w1.cell? ⟨w.heap.size, 3, none⟩ = some (.int .u64 (r.w : Nat)) := by rw [cell_of_row w1 _ 3 _ _ _ r0]; rfl
 have d4 : w1.cell? ⟨w.heap.size, 4, none⟩ = some (.int .u64 (r.n : Nat)) := by rw [cell_of_row w1 _ 4 _ _ _ r0]; rfl
 have d5 : w1.cell? ⟨w.heap.size, 5, none⟩ = some (.int .u64 (r.v : Nat)) := by rw [cell_of_row w1 _ 5 _ _ _ r0]; rfl
 have d6 : w1.cell? ⟨w.heap.size, 6, none⟩ = some (.int .i64 k0) := by rw [cell_of_row w1 _ 6 _ _ _ r0]; rfl
 have d7 : w1.cell? ⟨w.heap.size, 7, none⟩ = some (.int .u64 (k1 : Nat)) := by rw [cell_of_row w1 _ 7 _ _ _ r0]; rfl
 have d8 : w1.cell? ⟨w.heap.size, 8, none⟩ = some (.int .u64 (k2 : Nat)) := by rw [cell_of_row w1 _ 8 _ _ _ r0]; rfl
 have d9 : w1.cell? ⟨w.heap.size, 9, none⟩ = some (.slice k3 k4 k5) := by rw [cell_of_row w1 _ 9 _ _ _ r0]; rfl
 have d10 : w1.cell? ⟨w.heap.size, 10, none⟩ = some (.slice k6 r.es.length k7) := by rw [cell_of_row w1 _ 10 _ _ _ r0]; rfl
 clear r0
 go_wp2_with fail
 refine (aV _ true [r.t, r.x] _ _ (by simp) HLT.out (fK w1 [r.t, r.x] _ 2 _ rfl (by omega) rfl)).mono ?_
 rintro e w2 ⟨bv, rfl, hown2, hb2⟩
 obtain ⟨ba, bc, rfl⟩ := ag hown2
 have hb2' : Below w1.heap.size w1 w2 := (br.alloc nl _).trans (hb2.mono (by simp))
 have hz2 := hb2'.size
 rw [← HBD.out] at hown2
 have HC := hid (cZ _ true r.body _ w2 (bM.of_owns hown2))
 have H2 : Hid (Below w.heap.size w w2 ∧ w2.heap[w.heap.size]? = some (.cells #[.int .i64 4, .int .u64 (r.t : Nat), .int .u64 (r.x : Nat), .int .u64 (r.w : Nat), .int .u64 (r.n : Nat), .int .u64 (r.v : Nat), .int .i64 k0, .int .u64 (k1 : Nat), .int .u64 (k2 : Nat), .slice k3 k4 k5, .slice k6 r.es.length k7] 37 (0, 0)) ∧ w2.heap[w.heap.size + 1]? = some (.cells #[.int .u8 0, .string ⟨#[]⟩] 27 (0, 0))) := hid ⟨H1.out.1.trans (hb2'.mono (by omega)), (hb2'.block _ (by omega)).trans H1.out.2.1, (hb2'.block _ (by omega)).trans H1.out.2.2.1⟩
 rw [← HBD.out]
 have e0 : w2.cell? ⟨w.heap.size, 0, none⟩ = some (.int .i64 4) := by rw [cell_of_row w2 _ 0 _ _ _ H2.out.2.1]; rfl
 clear hb2 hb2' hown2 H1 d0 d1 d2 d3 d4 d5 d6 d7 d8 d9 d10
 have p1 := H2.out.2.2
 go_wp2_with (first | rw [HC.out] | (refine wpList_store_row rfl 27 (.tmp 2) (.tmp 112) rfl rfl (w.heap.size + 1) rfl _ rfl 27 _ p1 (by kernel_rfl) rfl (by simp [Value.oneCell']) ?_) | fail)
 refine bodyPost_ret (v := .tuple #[.agg #[.int .u8 4, .string ⟨r.body.toArray⟩], .int .i64 0]) (aD rfl _ _ (w.heap.size + 1) 27 _ _ _ _ rfl (setRow_heap _ _ _ _ _ _ p1) Tryz.underlying27 rfl (by kernel_rfl) rfl) rfl ⟨rfl, below_setRow H2.out.1 _ _ (by omega)⟩
structure PQ (w : World) (row : Array Value) (W : World) : Prop where
 bel : Below w.heap.size w W
 h0 : W.heap[w.heap.size]? = some (.cells row 37 (0, 0))
 h1 : W.heap[w.heap.size + 1]? = some (.cells #[.int .u8 0, .string ⟨#[]⟩] 27 (0, 0))
theorem PQ.lt {w W : World} {row : Array Value} (h : PQ w row W) : w.heap.size + 1 < W.heap.size := (Array.getElem?_eq_some_iff.1 h.h1).1
theorem PQ.below {w W W' : World} {row : Array Value} (h : PQ w row W) (hb : Below W.heap.size W W') : PQ w row W' := by
 have := h.lt
 exact ⟨h.bel.trans (hb.mono h.bel.size), (hb.block _ (by omega)).trans h.h0, (hb.block _ (by omega)).trans h.h1⟩
theorem PQ.grown {w W W' : World} {row : Array Value} {ob : Option Nat} (h : PQ w row W) (hg : W.grownBy W' ob) (ho : ∀ k, ob = some k → w.heap.size + 2 ≤ k) : PQ w row W' := by
 have := h.lt
 exact ⟨h.bel.grown hg (by omega) (fun k hk => by have := ho k hk; omega), (hg.block _ (by omega) (fun e => by have := ho _ e.symm; omega)).trans h.h0, (hg.block _ (by omega) (fun e => by have := ho _ e.symm; omega)).trans h.h1⟩
theorem tZ (w : World) (x : UInt8) (T : TypeId) (g : Nat) (hg : g = w.heap.size) : Sl (w.alloc (.cells #[.int .u8 (x.toNat : Int)] T)) (fun _ => True) true 1 1 (bytes [x]) (.slice (some ⟨g, 0, none⟩) 1 1) := by
 subst hg
 exact bR w (fun _ => True) #[.int .u8 (x.toNat : Int)] T 1 1 (by simp) nl trivial (by omega)
theorem uL (S : Nat → Prop) (own : Bool) (r : Rec) (k0 : Int) (k1 k2 : Nat) (k3 : Option Addr) (k4 k5 : Nat) (k6 : Option Addr) (k7 : Nat) (w : World) (hsz : r.p.size ≤ 900) (hle : r.es.length ≤ 10000) (hr : r.right = true) (hk : r.k = 5) (hv : aI w S own r (.agg #[.int .i64 5, .int .u64 (r.t : Nat), .int .u64 (r.x : Nat), .int .u64 (r.w : Nat), .int .u64 (r.n : Nat), .int .u64 (r.v : Nat), .int .i64 k0, .int .u64 (k1 : Nat), .int .u64 (k2 : Nat), .slice k3 k4 k5, .slice k6 r.es.length k7])) :
  Calls Tryz.prog 14 #[.agg #[.int .i64 5, .int .u64 (r.t : Nat), .int .u64 (r.x : Nat), .int .u64 (r.w : Nat), .int .u64 (r.n : Nat), .int .u64 (r.v : Nat), .int .i64 k0, .int .u64 (k1 : Nat), .int .u64 (k2 : Nat), .slice k3 k4 k5, .slice k6 r.es.length k7]] w fun e w' => e = .returned (.tuple #[.agg #[.int .u8 5, .string ⟨r.body.toArray⟩], .int .i64 0]) ∧ Below w.heap.size w w' := by
 have hb0 : Below w.heap.size w ((w.alloc (.cells #[.int .i64 5, .int .u64 (r.t : Nat), .int .u64 (r.x : Nat), .int .u64 (r.w : Nat), .int .u64 (r.n : Nat), .int .u64 (r.v : Nat), .int .i64 k0, .int .u64 (k1 : Nat), .int .u64 (k2 : Nat), .slice k3 k4 k5, .slice k6 r.es.length k7] 37)).alloc (.cells #[.int .u8 0, .string ⟨#[]⟩] 27)) := (br.alloc nl _).alloc (by simp) _
 have p0 : ((w.alloc (.cells #[.int .i64 5, .int .u64 (r.t : Nat), .int .u64 (r.x : Nat), .int .u64 (r.w : Nat), .int .u64 (r.n : Nat), .int .u64 (r.v : Nat), .int .i64 k0, .int .u64 (k1 : Nat), .int .u64 (k2 : Nat), .slice k3 k4 k5, .slice k6 r.es.length k7] 37)).alloc (.cells #[.int .u8 0, .string ⟨#[]⟩] 27)).heap[w.heap.size]? = some (.cells #[.int .i64 5, .int .u64 (r.t : Nat), .int .u64 (r.x : Nat), .int .u64 (r.w : Nat), .int .u64 (r.n : Nat), .int .u64 (r.v : Nat), .int .i64 k0, .int .u64 (k1 : Nat), .int .u64 (k2 : Nat), .slice k3 k4 k5, .slice k6 r.es.length k7] 37 (0, 0)) := heap_alloc2_old _ _ _
 have p1 : ((w.alloc (.cells #[.int .i64 5, .int .u64 (r.t : Nat), .int .u64 (r.x : Nat), .int .u64 (r.w : Nat), .int .u64 (r.n : Nat), .int .u64 (r.v : Nat), .int .i64 k0, .int .u64 (k1 : Nat), .int .u64 (k2 : Nat), .slice k3 k4 k5, .slice k6 r.es.length k7] 37)).alloc (.cells #[.int .u8 0, .string ⟨#[]⟩] 27)).heap[w.heap.size + 1]? = some (.cells #[.int .u8 0, .string ⟨#[]⟩] 27 (0, 0)) := aa _ _ _ (by simp)
 have HX := hid (And.intro hb0 (And.intro p0 (And.intro p1 (hv.below hb0 nl))))
 have HV0 := hid hv
 clear hb0 p0 p1 hv
 go_enter Tryz.func14, Tryz.ntmps14
 go_upto_region 1 with fail
 generalize ((w.alloc (.cells #[.int .i64 5, .int .u64 (r.t : Nat), .int .u64 (r.x : Nat), .int .u64 (r.w : Nat), .int .u64 (r.n : Nat), .int .u64 (r.v : Nat), .int .i64 k0, .int .u64 (k1 : Nat), .int .u64 (k2 : Nat), .slice k3 k4 k5, .slice k6 r.es.length k7] 37)).alloc (.cells #[.int .u8 0, .string ⟨#[]⟩] 27)) = X at HX ⊢
 have hlX : w.heap.size + 1 < X.heap.size := (Array.getElem?_eq_some_iff.1 HX.out.2.2.1).1
 have c0 : X.cell? ⟨w.heap.size, 0, none⟩ = some (.int .i64 5) := by rw [cell_of_row X _ 0 _ _ _ HX.out.2.1]; rfl
 have c1 : X.cell? ⟨w.heap.size, 1, none⟩ = some (.int .u64 (r.t : Nat)) := by rw [cell_of_row X _ 1 _ _ _ HX.out.2.1]; rfl
 have c2 : X.cell? ⟨w.heap.size, 2, none⟩ = some (.int .u64 (r.x : Nat)) := by rw [cell_of_row X _ 2 _ _ _ HX.out.2.1]; rfl
 have c3 : X.cell? ⟨w.heap.size, 3, none⟩ = some (.int .u64 (r.w : Nat)) := by rw [cell_of_row X _ 3 _ _ _ HX.out.2.1]; rfl
 have c4 : X.cell? ⟨w.heap.size, 4, none⟩ = some (.int .u64 (r.n : Nat)) := by rw [cell_of_row X _ 4 _ _ _ HX.out.2.1]; rfl
 have c5 : X.cell? ⟨w.heap.size, 5, none⟩ = some (.int .u64 (r.v : Nat)) := by rw [cell_of_row X _ 5 _ _ _ HX.out.2.1]; rfl
 have c6 : X.cell? ⟨w.heap.size, 6, none⟩ = some (.int .i64 k0) := by rw [cell_of_row X _ 6 _ _ _ HX.out.2.1]; rfl
 have c7 : X.cell? ⟨w.heap.size, 7, none⟩ = some (.int .u64 (k1 : Nat)) := by rw [cell_of_row X _ 7 _ _ _ HX.out.2.1]; rfl
 have c8 : X.cell? ⟨w.heap.size, 8, none⟩ = some (.int .u64 (k2 : Nat)) := by rw [cell_of_row X _ 8 _ _ _ HX.out.2.1]; rfl
 have c9 : X.cell? ⟨w.heap.size, 9, none⟩ = some (.slice k3 k4 k5) := by rw [cell_of_row X _ 9 _ _ _ HX.out.2.1]; rfl
 have c10 : X.cell? ⟨w.heap.size, 10, none⟩ = some (.slice k6 r.es.length k7) := by rw [cell_of_row X _ 10 _ _ _ HX.out.2.1]; rfl
 go_wp2_with fail
 refine (aJ S own r _ X hsz HX.out.2.2.2).mono ?_
 rw [hr]
 rintro e w1 ⟨rfl, hb1⟩
 have hz1 := hb1.size
 have H1 : Hid (Below w.heap.size w w1 ∧ w1.heap[w.heap.size]? = some (.cells #[.int .i64 5, .int .u64 (r.t : Nat), .int .u64 (r.x : Nat), .int .u64 (r.w : Nat), .int .u64 (r.n : Nat), .int .u64 (r.v : Nat), .int .i64 k0, .int .u64 (k1 : Nat), .int .u64 (k2 : Nat), .slice k3 k4 k5, .slice k6 r.es.length k7] 37 (0, 0)) ∧ w1.heap[w.heap.size + 1]? = some (.cells #[.int .u8 0, .string ⟨#[]⟩] 27 (0, 0)) ∧ aI w1 S own r (.agg #[.int .i64 5, .int .u64 (r.t : Nat), .int .u64 (r.x : Nat), .int .u64 (r.w : Nat), .int .u64 (r.n : Nat), .int .u64 (r.v : Nat), .int .i64 k0, .int .u64 (k1 : Nat), .int .u64 (k2 : Nat), .slice k3 k4 k5, .slice k6 r.es.length k7])) := hid ⟨HX.out.1.trans (hb1.mono (by omega)), (hb1.block _ (by omega)).trans HX.out.2.1, (hb1.block _ (by omega)).trans HX.out.2.2.1, HX.out.2.2.2.below hb1 nl⟩
 have hl1 : w.heap.size + 1 < w1.heap.size := by omega
 clear hb1 HX c0 c1 c2 c3 c4 c5 c6 c7 c8 c9 c10
 obtain ⟨i0, hi0, hz0, hz1', hz2'⟩ := info_parts infoByte
 have hnums : r.nums := by obtain ⟨_, _, _, _, _, _, _, _, _, _, _, h, _⟩ := H1.out.2.2.2.conc; exact h
 have HV5 : Hid (av w S own r.p (.agg #[.int .i64 k0, .int .u64 (k1 : Nat), .int .u64 (k2 : Nat), .slice k3 k4 k5]) ∧ bZ w S own r.es (.slice k6 r.es.length k7)) := hid (by
  obtain ⟨c0, c1, c2, c3, s, hq, _, _, _, h5, h6⟩ := HV0.out
  simp only [Value.agg.injEq, Array.mk.injEq, List.cons.injEq, and_true, true_and] at hq
  obtain ⟨_, rfl, rfl, rfl, rfl, rfl⟩ := hq
  exact ⟨h5, h6⟩)
 have hplen : r.p.put.length ≤ 992 := by
  by_cases h : r.p.right = true
  ·exact gD h
  ·simp [Ex.put, h]
 have HLT : Hid ((∀ n ∈ [r.t, r.p.put.length], n < 18446744073709551616) ∧ (∀ n ∈ [r.es.length], n < 18446744073709551616) ∧ ∀ e ∈ r.es, ∀ n ∈ [e.x, e.w, e.n], n < 18446744073709551616) := hid (by
  refine ⟨?_, ?_, ?_⟩
  ·intro n hn
   simp only [List.mem_cons, List.not_mem_nil, or_false] at hn
   rcases hn with rfl | rfl
   ·exact hnums.1
   ·omega
  ·intro n hn
   simp only [List.mem_cons, List.not_mem_nil, or_false] at hn
   omega
  ·intro e he n hn
   obtain ⟨h1, h2, h3⟩ := hnums.2.2.2.2.2.2 e he
   simp only [List.mem_cons, List.not_mem_nil, or_false] at hn
   rcases hn with rfl | rfl | rfl <;> assumption)
 have HBD : Hid (r.body = ay [r.t, r.p.put.length] ++ (r.p.put ++ (ay [r.es.length] ++ aZ r.es))) := hid (by unfold Rec.body; simp [hk])
 have Q1 : Hid (PQ w #[.int .i64 5, .int .u64 (r.t : Nat), .int .u64 (r.x : Nat), .int .u64 (r.w : Nat), .int .u64 (r.n : Nat), .int .u64 (r.v : Nat), .int .i64 k0, .int .u64 (k1 : Nat), .int .u64 (k2 : Nat), .slice k3 k4 k5, .slice k6 r.es.length k7] w1) := hid ⟨H1.out.1, H1.out.2.1, H1.out.2.2.1⟩
 clear hnums hk H1 HV0
 have r0 := Q1.out.h0
 have d0 : w1.cell? ⟨w.heap.size, 0, none⟩ = some (.int .i64 5) := by rw [cell_of_row w1 _ 0 _ _ _ r0]; rfl
 have d1 : w1.cell? ⟨w.heap.size, 1, none⟩ = some (.int .u64 (r.t : Nat)) := by rw [cell_of_row w1 _ 1 _ _ _ r0]; rfl
 have d2 : w1.cell? ⟨w.heap.size, 2, none⟩ = some (.int .u64 (r.x : Nat)) := by rw [cell_of_row w1 _ 2 _ _ _ r0]; rfl
 have d3 : w1.cell? ⟨w.heap.size, 3, none⟩ = some (.int .u64 (r.w : Nat)) := by rw [cell_of_row w1 _ 3 _ _ _ r0]; rfl
 have d4 : w1.cell? ⟨w.heap.size, 4, none⟩ = some (.int .u64 (r.n : Nat)) := by rw [cell_of_row w1 _ 4 _ _ _ r0]; rfl
 have d5 : w1.cell? ⟨w.heap.size, 5, none⟩ = some (.int .u64 (r.v : Nat)) := by rw [cell_of_row w1 _ 5 _ _ _ r0]; rfl
 have d6 : w1.cell? ⟨w.heap.size, 6, none⟩ = some (.int .i64 k0) := by rw [cell_of_row w1 _ 6 _ _ _ r0]; rfl
 have d7 : w1.cell? ⟨w.heap.size, 7, none⟩ = some (.int .u64 (k1 : Nat)) := by rw [cell_of_row w1 _ 7 _ _ _ r0]; rfl
 have d8 : w1.cell? ⟨w.heap.size, 8, none⟩ = some (.int .u64 (k2 : Nat)) := by rw [cell_of_row w1 _ 8 _ _ _ r0]; rfl
 have d9 : w1.cell? ⟨w.heap.size, 9, none⟩ = some (.slice k3 k4 k5) := by rw [cell_of_row w1 _ 9 _ _ _ r0]; rfl
 have d10 : w1.cell? ⟨w.heap.size, 10, none⟩ = some (.slice k6 r.es.length k7) := by rw [cell_of_row w1 _ 10 _ _ _ r0]; rfl
 clear r0
 go_wp2_with fail
 refine (qb S own r.p _ w1 hsz (av.below HV5.out.1 Q1.out.bel nl)).mono ?_
 rintro e w2 ⟨pv, rfl, hownp, hb2⟩
 obtain ⟨pa, pc, rfl⟩ := ag hownp
 have hz2 := hb2.size
 have Q2 := hid (Q1.out.below hb2)
 have HOP := hid hownp
 clear hb2 hownp Q1 d0 d1 d2 d3 d4 d5 d6 d7 d8 d9 d10
 have d1 : w2.cell? ⟨w.heap.size, 1, none⟩ = some (.int .u64 (r.t : Nat)) := by rw [cell_of_row w2 _ 1 _ _ _ Q2.out.h0]; rfl
 have hw : IntKind.u64.wrap (r.p.put.length : Int) = (r.p.put.length : Int) := by rw [IntKind.wrap_u64]; omega
 go_wp2_with fail
 refine (aV _ true [r.t, r.p.put.length] _ _ (by simp) HLT.out.1 (fK w2 [r.t, r.p.put.length] _ 2 _ rfl (by omega) rfl)).mono ?_
 rintro e w3 ⟨bv, rfl, hown3, hb3⟩
 obtain ⟨ba3, bc3, rfl⟩ := ag hown3
 have hb3' : Below w2.heap.size w2 w3 := (br.alloc nl _).trans (hb3.mono (by simp))
 have hz3 : w2.heap.size + 1 ≤ w3.heap.size := by have := hb3.size; simpa using this
 have Q3 := hid (Q2.out.below hb3')
 have ho3 : w3.ownsRow (w2.heap.size + 1) 5 1 (.slice ba3 (ay [r.t, r.p.put.length]).length bc3) (ay [r.t, r.p.put.length]).length (bytes (ay [r.t, r.p.put.length])) := by simpa using hown3
 have HS3 := hid (And.intro ho3 (Sl.of_owns (ownsRow_below HOP.out hb3' nl) (by omega)))
 have hvl : (ay [r.t, r.p.put.length]).length ≤ 20 := by have := aK [r.t, r.p.put.length]; simpa using this
 clear hb3 hb3' hown3 ho3 HOP Q2 d1 hw
 go_upto_region 8 with (at_builtin; go_loud (refine ai _ rfl (.tmp 24) (.tmp 25) _ rfl (w2.heap.size + 1) 5 i0 _ 1 1 Tryz.underlying22 hi0 hz0 hz1' hz2' rfl (by omega) _ (ay [r.t, r.p.put.length]).length (bytes (ay [r.t, r.p.put.length])) rfl HS3.out.1 _ _ r.p.put.length (bytes r.p.put) _ rfl HS3.out.2 (aO _) (by unfold maxLen; omega) (by omega) (by omega) ?_); intro v4 w4 hown4 hgrow4 hat4)
 have hlo3 := HS3.out.1.lt
 have hz4 := hgrow4.size
 have hl2 : w.heap.size + 1 < w2.heap.size := by omega
 have Q4 := hid (Q3.out.grown hgrow4 (fun k hk => by have := (hlo3 k hk).1; omega))
 obtain ⟨va4, vc4, rfl⟩ := ag hown4
 have HO4 := hid hown4
 clear hown4 hgrow4 hat4 hlo3 HS3 Q3
 have d10 : w4.cell? ⟨w.heap.size, 10, none⟩ = some (.slice k6 r.es.length k7) := by rw [cell_of_row w4 _ 10 _ _ _ Q4.out.h0]; rfl
 have hw : IntKind.u64.wrap (r.es.length : Int) = (r.es.length : Int) := by rw [IntKind.wrap_u64]; omega
 go_wp2_with fail
 refine (aV _ true [r.es.length] _ _ (by simp) HLT.out.2.1 (fK w4 [r.es.length] _ 1 _ rfl (by omega) rfl)).mono ?_
 rintro e w5 ⟨bv, rfl, hown5, hb5⟩
 obtain ⟨ba5, bc5, rfl⟩ := ag hown5
 have hb5' : Below w4.heap.size w4 w5 := (br.alloc nl _).trans (hb5.mono (by simp))
 have hz5 := hb5'.size
 have Q5 := hid (Q4.out.below hb5')
 have HS5 := hid (And.intro (ownsRow_below HO4.out hb5' nl) (Sl.of_owns hown5 (by omega)))
 have hvl5 : (ay [r.es.length]).length ≤ 10 := by have := aK [r.es.length]; simpa using this
 clear hb5 hb5' hown5 HO4 Q4 d10 hw
 go_upto_region 9 with (at_builtin; go_loud (refine ai _ rfl (.tmp 27) (.tmp 33) _ rfl (w2.heap.size + 1) 5 i0 _ 1 1 Tryz.underlying22 hi0 hz0 hz1' hz2' rfl (by omega) _ _ _ rfl HS5.out.1 _ _ (ay [r.es.length]).length (bytes (ay [r.es.length])) _ rfl HS5.out.2 (aO _) (by unfold maxLen; omega) (by omega) (by omega) ?_); intro v6 w6 hown6 hgrow6 hat6)
 have hlo5 := HS5.out.1.lt
 have hz6 := hgrow6.size
 have Q6 := hid (Q5.out.grown hgrow6 (fun k hk => by have := (hlo5 k hk).1; omega))
 obtain ⟨PRE, hPRE⟩ : ∃ PRE, PRE = ay [r.t, r.p.put.length] ++ (r.p.put ++ ay [r.es.length]) := ⟨_, rfl⟩
 have hpre : PRE.length ≤ 1022 := by rw [hPRE, List.length_append, List.length_append]; omega
 have ho6 : w6.ownsRow (w2.heap.size + 1) 5 1 v6 PRE.length (bytes PRE) := by rw [hPRE]; simpa [Nat.add_assoc] using hown6
 have HO6 := hid (And.intro ho6 hPRE)
 clear hown6 hgrow6 hat6 hlo5 HS5 Q5 ho6 hPRE hvl hvl5 hplen
 go_wp2_with fail
 go_loopw [4, 6] (fun sv i wr => ∃ j : Nat, j ≤ r.es.length ∧ i = .int .i64 j ∧ Hid (wr.ownsRow (w2.heap.size + 1) 5 1 sv (PRE ++ aZ (r.es.take j)).length (bytes (PRE ++ aZ (r.es.take j))) ∧ PQ w #[.int .i64 5, .int .u64 (r.t : Nat), .int .u64 (r.x : Nat), .int .u64 (r.w : Nat), .int .u64 (r.n : Nat), .int .u64 (r.v : Nat), .int .i64 k0, .int .u64 (k1 : Nat), .int .u64 (k2 : Nat), .slice k3 k4 k5, .slice k6 r.es.length k7] wr ∧ w2.heap.size + 1 ≤ wr.heap.size)) (fun _ i _ => r.es.length - (intOf i).toNat)
 case atStart => exact ⟨0, by omega, rfl, hid ⟨by simpa [aZ] using HO6.out.1, Q6.out, by omega⟩⟩
 case round =>
  obtain ⟨j, hj, rfl, HQ⟩ := hrel
  have c10 : wr.cell? ⟨w.heap.size, 10, none⟩ = some (.slice k6 r.es.length k7) := by rw [cell_of_row wr _ 10 _ _ _ HQ.out.2.1.h0]; rfl
  by_cases hlt : j < r.es.length
  ·obtain ⟨bl, off, hk6, _, d0, d1, d2, d3, _⟩ := (HV5.out.2.below HQ.out.2.1.bel nl).part j hlt
   have HT := hid (jF r.es j hlt)
   have hE := HLT.out.2.2 r.es[j] (List.getElem_mem hlt)
   generalize r.es[j] = E at d0 d1 d2 d3 hE HT
   obtain ⟨M, hM⟩ : ∃ M, M = E.m := ⟨_, rfl⟩
   rw [← hM] at d3
   have HE := hid (And.intro hE hM)
   have hll : (PRE ++ aZ (r.es.take j)).length ≤ 400000 := by
    have := fG r.es j
    rw [List.length_append]; omega
   have hbase := HQ.out.2.2
   obtain ⟨sa, sc, rfl⟩ := ag HQ.out.1
   obtain ⟨L, hL⟩ : ∃ L, L = PRE ++ aZ (r.es.take j) := ⟨_, rfl⟩
   rw [← hL] at HQ hll
   rw [← hL]
   have HL := hid hL
   have x1 : (0 : Int) ≤ (j : Int) := by omega
   have x2 : (j : Int) < (r.es.length : Int) := by omega
   clear hE hM hL
   rw [hk6] at c10
   clear hk6
   go_upto_region 13 with fail
   have hb7 : Below wr.heap.size wr (wr.alloc (.cells #[.int .u64 (E.x : Nat), .int .u64 (E.w : Nat), .int .u64 (E.n : Nat), .bool M] 102)) := br.alloc nl _
   have H7 : Hid (PQ w #[.int .i64 5, .int .u64 (r.t : Nat), .int .u64 (r.x : Nat), .int .u64 (r.w : Nat), .int .u64 (r.n : Nat), .int .u64 (r.v : Nat), .int .i64 k0, .int .u64 (k1 : Nat), .int .u64 (k2 : Nat), .slice k3 k4 k5, .slice k6 r.es.length k7] (wr.alloc (.cells #[.int .u64 (E.x : Nat), .int .u64 (E.w : Nat), .int .u64 (E.n : Nat), .bool M] 102)) ∧ (wr.alloc (.cells #[.int .u64 (E.x : Nat), .int .u64 (E.w : Nat), .int .u64 (E.n : Nat), .bool M] 102)).ownsRow (w2.heap.size + 1) 5 1 (.slice sa L.length sc) L.length (bytes L) ∧ (wr.alloc (.cells #[.int .u64 (E.x : Nat), .int .u64 (E.w : Nat), .int .u64 (E.n : Nat), .bool M] 102)).heap[wr.heap.size]? = some (.cells #[.int .u64 (E.x : Nat), .int .u64 (E.w : Nat), .int .u64 (E.n : Nat), .bool M] 102 (0, 0)) ∧ (wr.alloc (.cells #[.int .u64 (E.x : Nat), .int .u64 (E.w : Nat), .int .u64 (E.n : Nat), .bool M] 102)).heap.size = wr.heap.size + 1) := hid ⟨HQ.out.2.1.below hb7, ownsRow_below HQ.out.1 hb7 nl, aa _ _ _ rfl, World.size_alloc _ _⟩
   generalize wr.alloc (.cells #[.int .u64 (E.x : Nat), .int .u64 (E.w : Nat), .int .u64 (E.n : Nat), .bool M] 102) = w7 at H7 ⊢
   have hz7 : wr.heap.size + 1 ≤ w7.heap.size := by have := H7.out.2.2.2; omega
   have g0 : w7.cell? ⟨wr.heap.size, 0, none⟩ = some (.int .u64 (E.x : Nat)) := by rw [cell_of_row w7 _ 0 _ _ _ H7.out.2.2.1]; rfl
   have g1 : w7.cell? ⟨wr.heap.size, 1, none⟩ = some (.int .u64 (E.w : Nat)) := by rw [cell_of_row w7 _ 1 _ _ _ H7.out.2.2.1]; rfl
   have g2 : w7.cell? ⟨wr.heap.size, 2, none⟩ = some (.int .u64 (E.n : Nat)) := by rw [cell_of_row w7 _ 2 _ _ _ H7.out.2.2.1]; rfl
   have hlo7 : ∀ k, (Value.slice sa L.length sc).ownBlock = some k → w2.heap.size + 1 ≤ k ∧ k < wr.heap.size := HQ.out.1.lt
   have HLO := hid hlo7
   clear hb7 c10 d0 d1 d2 d3 HQ hlo7
   go_wp2_with fail
   refine (aV _ true [E.x, E.w, E.n] _ _ (by simp) HE.out.1 (fK w7 [E.x, E.w, E.n] _ 3 _ rfl (by omega) rfl)).mono ?_
   rintro e w8 ⟨bv, rfl, hown8, hb8⟩
   obtain ⟨ba8, bc8, rfl⟩ := ag hown8
   have hb8' : Below w7.heap.size w7 w8 := (br.alloc nl _).trans (hb8.mono (by simp))
   have hz8 := hb8'.size
   have H8 := hid (And.intro (H7.out.1.below hb8') (And.intro (ownsRow_below H7.out.2.1 hb8' nl) (And.intro (Sl.of_owns hown8 (by omega)) ((hb8'.block _ (by omega)).trans H7.out.2.2.1))))
   have hvl8 : (ay [E.x, E.w, E.n]).length ≤ 30 := by have := aK [E.x, E.w, E.n]; simpa using this
   clear hb8 hb8' hown8 H7 g0 g1 g2
   go_upto_region 14 with (at_builtin; go_loud (refine ai _ rfl (.tmp 47) (.tmp 57) _ rfl (w2.heap.size + 1) 5 i0 _ 1 1 Tryz.underlying22 hi0 hz0 hz1' hz2' rfl (by omega) _ L.length (bytes L) rfl H8.out.2.1 _ _ (ay [E.x, E.w, E.n]).length (bytes (ay [E.x, E.w, E.n])) _ rfl H8.out.2.2.1 (aO _) (by unfold maxLen; omega) (by omega) (by omega) ?_); intro v9 w9 hown9 hgrow9 hat9)
   have hz9 := hgrow9.size
   obtain ⟨va9, vc9, rfl⟩ := ag hown9
   have hl9 : w9.ownsRow (w2.heap.size + 1) 5 1 (.slice va9 (L.length + (ay [E.x, E.w, E.n]).length) vc9) (L ++ ay [E.x, E.w, E.n]).length (bytes (L ++ ay [E.x, E.w, E.n])) := by simpa using hown9
   have H9 := hid (And.intro (H8.out.1.grown hgrow9 (fun k hk => by have := (HLO.out k hk).1; omega)) (And.intro hl9 ((hgrow9.block _ (by omega) (fun e => by have := (HLO.out _ e.symm).2; omega)).trans H8.out.2.2.2)))
   have g3 : w9.cell? ⟨wr.heap.size, 3, none⟩ = some (.bool M) := by rw [cell_of_row w9 _ 3 _ _ _ H9.out.2.2]; rfl
   have hln : (L ++ ay [E.x, E.w, E.n]).length ≤ 400030 := by rw [List.length_append]; omega
   clear hown9 hgrow9 hat9 H8 hl9
   cases M with
   | true =>
    have HZ : Hid (E.put = ay [E.x, E.w, E.n] ++ [1]) := hid (by unfold Ent.put; rw [← HE.out.2]; rfl)
    go_upto_region 11 with (at_builtin; go_loud (refine ai _ rfl (.tmp 61) (.tmp 62) _ rfl (w2.heap.size + 1) 5 i0 _ 1 1 Tryz.underlying22 hi0 hz0 hz1' hz2' rfl (by omega) _ (L ++ ay [E.x, E.w, E.n]).length (bytes (L ++ ay [E.x, E.w, E.n])) rfl (ownsRow_below H9.out.2.1 (br.alloc nl _) nl) _ _ 1 (bytes [1]) _ rfl (tZ w9 1 5 _ rfl) (aO _) (by unfold maxLen; omega) (by omega) (by simp; omega) ?_); intro v10 w10 hown10 hgrow10 hat10)
    have hlo9 := H9.out.2.1.lt
    have HN : Hid (w10.ownsRow (w2.heap.size + 1) 5 1 v10 (PRE ++ aZ (r.es.take (j + 1))).length (bytes (PRE ++ aZ (r.es.take (j + 1)))) ∧ PQ w #[.int .i64 5, .int .u64 (r.t : Nat), .int .u64 (r.x : Nat), .int .u64 (r.w : Nat), .int .u64 (r.n : Nat), .int .u64 (r.v : Nat), .int .i64 k0, .int .u64 (k1 : Nat), .int .u64 (k2 : Nat), .slice k3 k4 k5, .slice k6 r.es.length k7] w10 ∧ w2.heap.size + 1 ≤ w10.heap.size) := hid (by
     have hz10 := hgrow10.size
     simp only [World.size_alloc] at hz10
     rw [HT.out, HZ.out, ← List.append_assoc, ← HL.out, ← List.append_assoc]
     exact ⟨by simpa [Nat.add_assoc] using hown10, (H9.out.1.below (br.alloc nl _)).grown hgrow10 (fun k hk => by have := (hlo9 k hk).1; omega), by omega⟩)
    clear hown10 hgrow10 hat10 hlo9 H9 g3
    go_wp2_with fail
    go_roundw
    case rel => exact ⟨j + 1, by omega, by go_num, HN⟩
    case measure => simp [intOf]; omega
   | false =>
    have HZ : Hid (E.put = ay [E.x, E.w, E.n] ++ [0]) := hid (by unfold Ent.put; rw [← HE.out.2]; rfl)
    go_upto_region 11 with (at_builtin; go_loud (refine ai _ rfl (.tmp 64) (.tmp 65) _ rfl (w2.heap.size + 1) 5 i0 _ 1 1 Tryz.underlying22 hi0 hz0 hz1' hz2' rfl (by omega) _ (L ++ ay [E.x, E.w, E.n]).length (bytes (L ++ ay [E.x, E.w, E.n])) rfl (ownsRow_below H9.out.2.1 (br.alloc nl _) nl) _ _ 1 (bytes [0]) _ rfl (tZ w9 0 5 _ rfl) (aO _) (by unfold maxLen; omega) (by omega) (by simp; omega) ?_); intro v10 w10 hown10 hgrow10 hat10)
    have hlo9 := H9.out.2.1.lt
    have HN : Hid (w10.ownsRow (w2.heap.size + 1) 5 1 v10 (PRE ++ aZ (r.es.take (j + 1))).length (bytes (PRE ++ aZ (r.es.take (j + 1)))) ∧ PQ w #[.int .i64 5, .int .u64 (r.t : Nat), .int .u64 (r.x : Nat), .int .u64 (r.w : Nat), .int .u64 (r.n : Nat), .int .u64 (r.v : Nat), .int .i64 k0, .int .u64 (k1 : Nat), .int .u64 (k2 : Nat), .slice k3 k4 k5, .slice k6 r.es.length k7] w10 ∧ w2.heap.size + 1 ≤ w10.heap.size) := hid (by
     have hz10 := hgrow10.size
     simp only [World.size_alloc] at hz10
     rw [HT.out, HZ.out, ← List.append_assoc, ← HL.out, ← List.append_assoc]
     exact ⟨by simpa [Nat.add_assoc] using hown10, (H9.out.1.below (br.alloc nl _)).grown hgrow10 (fun k hk => by have := (hlo9 k hk).1; omega), by omega⟩)
    clear hown10 hgrow10 hat10 hlo9 H9 g3
    go_wp2_with fail
    go_roundw
    case rel => exact ⟨j + 1, by omega, by go_num, HN⟩
    case measure => simp [intOf]; omega
  ·have hj2 : j = r.es.length := by omega
   subst hj2
   rw [List.take_length] at HQ
   have hbd : PRE ++ aZ r.es = r.body := by rw [HBD.out, HO6.out.2]; simp [List.append_assoc]
   rw [hbd] at HQ
   obtain ⟨sa, sc, rfl⟩ := ag HQ.out.1
   have hbe := bM.of_owns HQ.out.1
   have HC := hid (cZ _ true r.body _ wr hbe)
   have e0 : wr.cell? ⟨w.heap.size, 0, none⟩ = some (.int .i64 5) := by rw [cell_of_row wr _ 0 _ _ _ HQ.out.2.1.h0]; rfl
   clear hbe hbd
   have p1 := HQ.out.2.1.h1
   go_wp2_with (first | rw [HC.out] | (refine wpList_store_row rfl 27 (.tmp 2) (.tmp 112) rfl rfl (w.heap.size + 1) rfl _ rfl 27 _ p1 (by kernel_rfl) rfl (by simp [Value.oneCell']) ?_) | fail)
   refine bodyPost_ret (v := .tuple #[.agg #[.int .u8 5, .string ⟨r.body.toArray⟩], .int .i64 0]) (aD rfl _ _ (w.heap.size + 1) 27 _ _ _ _ rfl (setRow_heap _ _ _ _ _ _ p1) Tryz.underlying27 rfl (by kernel_rfl) rfl) rfl ⟨rfl, below_setRow HQ.out.2.1.bel _ _ (by omega)⟩
theorem qF (S : Nat → Prop) (own : Bool) (r : Rec) (v : Value) (w : World) (hsz : r.p.size ≤ 900) (hle : r.es.length ≤ 10000) (hv : aI w S own r v) :
  Calls Tryz.prog 14 #[v] w (jl r w) := by
 obtain ⟨k0, k1, k2, k3, k4, k5, k6, k7, rfl, _⟩ := hv.conc
 cases hr : r.right with
 | false =>
  refine (si S own r k0 k1 k2 k3 k4 k5 k6 k7 w hsz hle hr hv).mono ?_
  rintro e w' ⟨rfl, hb⟩
  exact ⟨fun h => (by rw [hr] at h; cases h), fun _ => rfl, hb⟩
 | true =>
  obtain ⟨q1, q7, _⟩ := (Rec.right_iff r).1 hr
  have hk : r.k = 1 ∨ r.k = 2 ∨ r.k = 3 ∨ r.k = 4 ∨ r.k = 5 ∨ r.k = 6 ∨ r.k = 7 := by omega
  rcases hk with hk | hk | hk | hk | hk | hk | hk
  all_goals
   rw [hk] at hv ⊢
  ·exact (uF S own r k0 k1 k2 k3 k4 k5 k6 k7 w hsz hle hr hk hv).mono fun e w' ⟨h, hb⟩ => ⟨fun _ => (by rw [h, hk]), fun h => (by rw [hr] at h; cases h), hb⟩
  ·exact (uI S own r k0 k1 k2 k3 k4 k5 k6 k7 w hsz hle hr hk hv).mono fun e w' ⟨h, hb⟩ => ⟨fun _ => (by rw [h, hk]), fun h => (by rw [hr] at h; cases h), hb⟩
  ·exact (uJ S own r k0 k1 k2 k3 k4 k5 k6 k7 w hsz hle hr hk hv).mono fun e w' ⟨h, hb⟩ => ⟨fun _ => (by rw [h, hk]), fun h => (by rw [hr] at h; cases h), hb⟩
  ·exact (uK S own r k0 k1 k2 k3 k4 k5 k6 k7 w hsz hle hr hk hv).mono fun e w' ⟨h, hb⟩ => ⟨fun _ => (by rw [h, hk]), fun h => (by rw [hr] at h; cases h), hb⟩
  ·exact (uL S own r k0 k1 k2 k3 k4 k5 k6 k7 w hsz hle hr hk hv).mono fun e w' ⟨h, hb⟩ => ⟨fun _ => (by rw [h, hk]), fun h => (by rw [hr] at h; cases h), hb⟩
  ·exact (uG S own r k0 k1 k2 k3 k4 k5 k6 k7 w hsz hle hr hk hv).mono fun e w' ⟨h, hb⟩ => ⟨fun _ => (by rw [h, hk]), fun h => (by rw [hr] at h; cases h), hb⟩
  ·exact (uH S own r k0 k1 k2 k3 k4 k5 k6 k7 w hsz hle hr hk hv).mono fun e w' ⟨h, hb⟩ => ⟨fun _ => (by rw [h, hk]), fun h => (by rw [hr] at h; cases h), hb⟩
end Go.Proofs.YtmgbhhmipmgcpaaGreatDoor
