/- Walks. -/
import Derived.Test.YtagnalfkmdjajaaGreatDoorY28
set_option maxHeartbeats 12000000
set_option maxRecDepth 100000
namespace Go.Proofs.YtagnalfkmdjajaaGreatDoor
open Go.RowKit Go
set_option linter.unusedVariables false
set_option linter.unusedSimpArgs false
structure CO (w : World) (row : Array Value) (T : TypeId) (sz : Nat) (v : Value) (n : Nat) (xs : List Value) (wr : World) : Prop where
 bel : Below w.heap.size w wr
 size : w.heap.size + 2 ≤ wr.heap.size
 res : wr.heap[w.heap.size]? = some (.cells #[.int .i64 0, .slice none 0 0, .int .i64 0, .int .i64 0, .slice none 0 0] 46 (0, 0))
 row : wr.heap[w.heap.size + 1]? = some (.cells row 46 (0, 0))
 own : wr.ownsRow (w.heap.size + 2) T sz v n xs
section
variable {w wr wx w2 : World} {row : Array Value} {T : TypeId} {sz n n' : Nat} {v v' : Value} {xs xs' : List Value}
theorem CO.below (h : CO w row T sz v n xs wr) (hb : Below wr.heap.size wr w2) : CO w row T sz v n xs w2 := by
 have h1 := h.size
 exact ⟨h.bel.trans (hb.mono (by omega)), by have := hb.size; omega, (hb.block _ (by omega)).trans h.res, (hb.block _ (by omega)).trans h.row, ownsRow_below h.own hb nl⟩
theorem CO.append (h : CO w row T sz v n xs wr) (hb : Below wr.heap.size wr wx) (hg : wx.grownBy w2 v.ownBlock) (ho : w2.ownsRow (w.heap.size + 2) T sz v' n' xs') : CO w row T sz v' n' xs' w2 := by
 have h1 := h.below hb
 have h2 := h1.size
 have hlt := h1.own.lt
 have hne : ∀ b, b < w.heap.size + 2 → some b ≠ v.ownBlock := fun b hb e => by have := (hlt b e.symm).1; omega
 exact ⟨h1.bel.grown hg (by omega) (fun k hk => by have := (hlt k hk).1; omega), by have := hg.size; omega, (hg.block _ (by omega) (hne _ (by omega))).trans h1.res, (hg.block _ (by omega) (hne _ (by omega))).trans h1.row, ho⟩
theorem CO.store (h : CO w row T sz v n xs wr) (o : Nat) (u : Value) : CO w (row.setIfInBounds o u) T sz v n xs (wr.setCell ⟨w.heap.size + 1, o, none⟩ u) := by
 have h2 := h.size
 have hlt := h.own.lt
 exact ⟨h.bel.setCell (by simp) _, by simpa using h2, (Below.heap_setCell _ _ _ _ (by simp)).trans h.res, aQ h.row rfl, bZ h.own fun g hg => Below.heap_setCell _ _ _ _ (by have := (hlt g hg).1; simp; omega)⟩
theorem CO.put {g cap : Nat} (h : CO w row T sz (.slice (some ⟨g, 0, none⟩) n cap) n xs wr) (i : Nat) (u : Value) : CO w row T sz (.slice (some ⟨g, 0, none⟩) n cap) n (xs.set i u) (wr.setCell ⟨g, i, none⟩ u) := by
 have h2 := h.size
 have hlt := (h.own.lt g rfl).1
 exact ⟨h.bel.setCell (by simp; omega) _, by simpa using h2, (Below.heap_setCell _ _ _ _ (by simp; omega)).trans h.res, (Below.heap_setCell _ _ _ _ (by simp; omega)).trans h.row, qw i u h.own rfl⟩
end
theorem zM {w : World} {S : Nat → Prop} {own : Bool} {ns : List Nat} {la : Option Addr} {lc : Nat} (h : Sl w S own 1 ns.length (nums ns) (.slice la ns.length lc)) (hn : 0 < ns.length) : ∃ bl off, la = some ⟨bl, off, none⟩ ∧ bl < w.heap.size ∧ ∀ p x, ns[p]? = some x → w.cell? ⟨bl, off + p, none⟩ = some (.int .u64 (x : Nat)) := by
 obtain ⟨bl, off, ha, hS, hc⟩ := Sl.cells h hn
 have hl : (nums ns).length = ns.length := by simp [nums]
 refine ⟨bl, off, ha, World.block_lt_of_cell? w _ (hc 0 (by omega)).1, fun p x hx => ?_⟩
 have hp := (List.getElem?_eq_some_iff.1 hx).1
 have h1 := (hc p (by omega)).1
 rw [h1]
 have : (nums ns)[p]? = some (.int .u64 (x : Nat)) := by simp [nums, hx]
 rw [List.getElem?_eq_getElem (by omega)] at this
 exact this
theorem xY (S : Nat → Prop) (own : Bool) (k : Int) (ns : List Nat) (v : Value) (w : World) (hr : Sl w S own 1 ns.length (nums ns) v) (hl : ns.length ≤ 1000) (hx : ∀ n ∈ ns, n < 18446744073709551616) (hk : ¬ k = 1 ∧ ¬ k = 4) :
  Calls Tryz.prog 88 #[.int .i64 k, v] w (lV w (bL k ns)) := by
 obtain ⟨_, _, la, lc, rfl, hlc⟩ := Sl.shape hr
 have h0 : CO w #[.int .i64 k, .slice none 0 0, .int .i64 0, .int .i64 0, .slice none 0 0] 3 1 (.slice none 0 0) 0 [] ((w.alloc (.cells #[.int .i64 0, .slice none 0 0, .int .i64 0, .int .i64 0, .slice none 0 0] 46)).alloc (.cells #[.int .i64 k, .slice none 0 0, .int .i64 0, .int .i64 0, .slice none 0 0] 46)) := ⟨(br.alloc nl _).alloc (by simp) _, by rw [World.size_alloc, World.size_alloc]; omega, (aU _ _ _ (by simp)).trans (az _ _ _ rfl), az _ _ _ (by simp), World.ownsRow_nil _ _ _ _⟩
 have HR := hid (And.intro hr hx)
 obtain ⟨N, hN⟩ : ∃ N, N = ns.length := ⟨_, rfl⟩
 have HN := hid hN
 rw [← hN] at hl hlc ⊢
 have H0 := hid h0
 clear hr hx hN h0
 obtain ⟨k1, k4⟩ := hk
 have t1 : (k == 1) = false := by simpa using k1
 have t4 : (k == 4) = false := by simpa using k4
 have HK := hid (And.intro k1 k4)
 clear k1 k4
 go_enter Tryz.func88, Tryz.ntmps88
 go_upto_region 2 with fail
 generalize ((w.alloc (.cells #[.int .i64 0, .slice none 0 0, .int .i64 0, .int .i64 0, .slice none 0 0] 46)).alloc (.cells #[.int .i64 k, .slice none 0 0, .int .i64 0, .int .i64 0, .slice none 0 0] 46)) = W at H0 ⊢
 by_cases h2 : N = 2
 ·obtain ⟨X, Y, hXY⟩ : ∃ X Y, ns = [X, Y] := by
   have := HN.out
   match ns, this with
   | [], h => simp at h; omega
   | [_], h => simp at h; omega
   | [X, Y], _ => exact ⟨X, Y, rfl⟩
   | _ :: _ :: _ :: _, h => simp at h; omega
  subst hXY h2
  obtain ⟨bl, off, rfl, hbl, hcell⟩ := zM HR.out.1 (by simp)
  have HX : Hid (∀ n ∈ [X, Y], n < 18446744073709551616) := hid HR.out.2
  have gX := (H0.out.bel.cell hbl).trans (hcell 0 X rfl)
  have gY := (H0.out.bel.cell hbl).trans (hcell 1 Y rfl)
  rw [Nat.add_zero] at gX
  have c2 : W.cell? ⟨w.heap.size + 1, 2, none⟩ = some (.int .i64 0) := by rw [cell_of_row W _ 2 _ _ _ H0.out.row]; rfl
  have f2 : W.frozen? ⟨w.heap.size + 1, 2, none⟩ = false := by rw [frozen_of_row W _ 2 _ _ H0.out.row]
  clear hcell
  go_wp2_with fail
  refine (dh X W (HX.out X (by simp))).mono ?_
  rintro e w1 ⟨rfl, rfl⟩
  go_upto_region 5 with fail
  have H1 := hid (H0.out.store 2 (.int .i64 (aj X)))
  have gY1 : (w1.setCell ⟨w.heap.size + 1, 2, none⟩ (.int .i64 (aj X))).cell? ⟨bl, off + 1, none⟩ = some (.int .u64 (Y : Nat)) := by rw [World.cell?_setCell_other _ _ _ _ (by intro e; injection e with e; omega)]; exact gY
  generalize w1.setCell ⟨w.heap.size + 1, 2, none⟩ (.int .i64 (aj X)) = w2 at H1 gY1 ⊢
  have c3 : w2.cell? ⟨w.heap.size + 1, 3, none⟩ = some (.int .i64 0) := by rw [cell_of_row w2 _ 3 _ _ _ H1.out.row]; rfl
  have f3 : w2.frozen? ⟨w.heap.size + 1, 3, none⟩ = false := by rw [frozen_of_row w2 _ 3 _ _ H1.out.row]
  clear gX gY c2 f2 H0
  go_wp2_with fail
  refine (dh Y w2 (HX.out Y (by simp))).mono ?_
  rintro e w3 ⟨rfl, rfl⟩
  go_upto_region 18 with fail
  have H2 := hid (H1.out.store 3 (.int .i64 (aj Y)))
  generalize w3.setCell ⟨w.heap.size + 1, 3, none⟩ (.int .i64 (aj Y)) = w4 at H2 ⊢
  have q9 := H2.out.row
  have g9 := H2.out.res
  have HE := H2
  have HC : Hid (bL k [X, Y] = ⟨k, [], aj X, aj Y, []⟩) := hid (by unfold bL; simp [HK.out.1, HK.out.2])
  clear gY1 c3 f3 H1
  have d0 : w4.cell? ⟨w.heap.size + 1, 0, none⟩ = some (.int .i64 k) := by rw [cell_of_row w4 _ 0 _ _ _ q9]; rfl
  have d1 : w4.cell? ⟨w.heap.size + 1, 1, none⟩ = some (.slice none 0 0) := by rw [cell_of_row w4 _ 1 _ _ _ q9]; rfl
  have d2 : w4.cell? ⟨w.heap.size + 1, 2, none⟩ = some (.int .i64 (aj X)) := by rw [cell_of_row w4 _ 2 _ _ _ q9]; rfl
  have d3 : w4.cell? ⟨w.heap.size + 1, 3, none⟩ = some (.int .i64 (aj Y)) := by rw [cell_of_row w4 _ 3 _ _ _ q9]; rfl
  have d4 : w4.cell? ⟨w.heap.size + 1, 4, none⟩ = some (.slice none 0 0) := by rw [cell_of_row w4 _ 4 _ _ _ q9]; rfl
  clear q9
  go_wp2_with (refine wpList_store_row rfl 46 (.tmp 4) (.tmp 122) rfl rfl w.heap.size rfl _ rfl 46 _ g9 (by kernel_rfl) rfl (by simp [Value.oneCell']) ?_)
  refine bodyPost_ret (v := .agg #[.int .i64 k, .slice none 0 0, .int .i64 (aj X), .int .i64 (aj Y), .slice none 0 0]) (results_cell_row rfl _ _ w.heap.size 46 _ _ _ rfl (setRow_heap _ _ _ _ _ _ g9) Tryz.underlying46 rfl (by kernel_rfl)) rfl ?_
  rw [HC.out]
  exact ⟨_, rfl, ⟨_, _, rfl, bn.nil _ _ _, aX.nil _ _ _⟩, below_setRow HE.out.bel _ _ nl⟩
 ·have t2 : ((N : Int) == 2) = false := by simpa using (by omega : ¬ (N : Int) = 2)
  have t2' : ¬ (N : Int) = 2 := by omega
  have q9 := H0.out.row
  have g9 := H0.out.res
  have HE := H0
  have HC : Hid (bL k ns = ⟨k, [], 0, 0, []⟩) := hid (by
   unfold bL
   rw [if_neg HK.out.1, if_neg HK.out.2]
   have := HN.out
   match ns, this with
   | [], _ => rfl
   | [_], _ => rfl
   | [X, Y], h => exact absurd h h2
   | _ :: _ :: _ :: _, _ => rfl)
  have d0 : W.cell? ⟨w.heap.size + 1, 0, none⟩ = some (.int .i64 k) := by rw [cell_of_row W _ 0 _ _ _ q9]; rfl
  have d1 : W.cell? ⟨w.heap.size + 1, 1, none⟩ = some (.slice none 0 0) := by rw [cell_of_row W _ 1 _ _ _ q9]; rfl
  have d2 : W.cell? ⟨w.heap.size + 1, 2, none⟩ = some (.int .i64 0) := by rw [cell_of_row W _ 2 _ _ _ q9]; rfl
  have d3 : W.cell? ⟨w.heap.size + 1, 3, none⟩ = some (.int .i64 0) := by rw [cell_of_row W _ 3 _ _ _ q9]; rfl
  have d4 : W.cell? ⟨w.heap.size + 1, 4, none⟩ = some (.slice none 0 0) := by rw [cell_of_row W _ 4 _ _ _ q9]; rfl
  clear q9 h2
  go_wp2_with (refine wpList_store_row rfl 46 (.tmp 4) (.tmp 122) rfl rfl w.heap.size rfl _ rfl 46 _ g9 (by kernel_rfl) rfl (by simp [Value.oneCell']) ?_)
  refine bodyPost_ret (v := .agg #[.int .i64 k, .slice none 0 0, .int .i64 0, .int .i64 0, .slice none 0 0]) (results_cell_row rfl _ _ w.heap.size 46 _ _ _ rfl (setRow_heap _ _ _ _ _ _ g9) Tryz.underlying46 rfl (by kernel_rfl)) rfl ?_
  rw [HC.out]
  exact ⟨_, rfl, ⟨_, _, rfl, bn.nil _ _ _, aX.nil _ _ _⟩, below_setRow HE.out.bel _ _ nl⟩
theorem xZ (S : Nat → Prop) (own : Bool) (ns : List Nat) (v : Value) (w : World) (hr : Sl w S own 1 ns.length (nums ns) v) (hl : ns.length ≤ 1000) (hx : ∀ n ∈ ns, n < 18446744073709551616) :
  Calls Tryz.prog 88 #[.int .i64 1, v] w (lV w (bL 1 ns)) := by
 obtain ⟨i0, hi0, hz0, hz1, hz2⟩ := info_parts kP
 obtain ⟨_, _, la, lc, rfl, hlc⟩ := Sl.shape hr
 have h0 : CO w #[.int .i64 1, .slice none 0 0, .int .i64 0, .int .i64 0, .slice none 0 0] 3 1 (.slice none 0 0) 0 [] ((w.alloc (.cells #[.int .i64 0, .slice none 0 0, .int .i64 0, .int .i64 0, .slice none 0 0] 46)).alloc (.cells #[.int .i64 1, .slice none 0 0, .int .i64 0, .int .i64 0, .slice none 0 0] 46)) := ⟨(br.alloc nl _).alloc (by simp) _, by rw [World.size_alloc, World.size_alloc]; omega, (aU _ _ _ (by simp)).trans (az _ _ _ rfl), az _ _ _ (by simp), World.ownsRow_nil _ _ _ _⟩
 have HR := hid (And.intro hr hx)
 obtain ⟨N, hN⟩ : ∃ N, N = ns.length := ⟨_, rfl⟩
 have HN := hid hN
 rw [← hN] at hl hlc ⊢
 have H0 := hid h0
 clear hr hx hN h0
 go_enter Tryz.func88, Tryz.ntmps88
 go_upto_region 7 with fail
 generalize ((w.alloc (.cells #[.int .i64 0, .slice none 0 0, .int .i64 0, .int .i64 0, .slice none 0 0] 46)).alloc (.cells #[.int .i64 1, .slice none 0 0, .int .i64 0, .int .i64 0, .slice none 0 0] 46)) = W at H0 ⊢
 go_wp2_with fail
 go_loopw [6] (fun iv wr => ∃ (j i : Nat) (sa : Option Addr) (sc : Nat), i = j + 1 ∧ j ≤ N - 1 ∧ iv = .int .i64 i ∧ Hid (CO w #[.int .i64 1, .slice sa j sc, .int .i64 0, .int .i64 0, .slice none 0 0] 3 1 (.slice sa j sc) j (ints (((ns.drop 1).take j).map aj)) wr)) (fun iv _ => N + 1 - (intOf iv).toNat)
 case atStart => exact ⟨0, 1, none, 0, rfl, by omega, rfl, H0⟩
 case round =>
  clear H0
  obtain ⟨j, i, sa, sc, hi, hj, rfl, HQ⟩ := hrel
  by_cases hlt : i < N
  ·obtain ⟨bl, off, rfl, hbl, hcell⟩ := zM HR.out.1 (by have := HN.out; omega)
   obtain ⟨X, hX⟩ : ∃ X, ns[i]? = some X := ⟨ns[i]'(by have := HN.out; omega), List.getElem?_eq_getElem _⟩
   have HX : Hid (∀ n ∈ [X], n < 18446744073709551616) := hid fun n hn => by simp at hn; subst hn; exact HR.out.2 _ (List.mem_of_getElem? hX)
   have gX := (HQ.out.bel.cell hbl).trans (hcell i X hX)
   have hcb := World.block_lt_of_cell? wr _ gX
   have p1 : wr.cell? ⟨w.heap.size + 1, 1, none⟩ = some (.slice sa j sc) := by rw [cell_of_row wr _ 1 _ _ _ HQ.out.row]; rfl
   have hc1 : w.heap.size + 1 < wr.heap.size := by have := HQ.out.size; omega
   have HT : Hid (ints (((ns.drop 1).take (j + 1)).map aj) = ints (((ns.drop 1).take j).map aj) ++ [.int .i64 (aj X)]) := hid (by
    have h1 : j < (ns.drop 1).length := by have := HN.out; simp; omega
    have h2 : (ns.drop 1)[j] = X := by
     have h3 := List.getElem?_eq_getElem h1
     rw [List.getElem?_drop, show 1 + j = i from by omega, hX] at h3
     injection h3 with h3; exact h3.symm
    rw [List.take_succ_eq_append_getElem h1, List.map_append, fF, h2]; rfl)
   have x1 : (0 : Int) ≤ (i : Int) := by omega
   have x2 : (i : Int) < (N : Int) := by omega
   have HI := hid hi
   clear hcell hX hi
   go_wp2_with fail
   refine ak (w0 := wr) rfl [.eq (.pointer (some ⟨w.heap.size + 1, 1, none⟩)), .eq (.slice sa j sc), .eq (.slice (some ⟨bl, off, none⟩) N lc), .eq (.int .i64 (i : Nat)), .eq (.pointer (some ⟨bl, off + i, none⟩)), .eq (.int .u64 (X : Nat)), .eq (.int .i64 (aj X)), .of (dZ 1 1 #[.int .i64 (aj X)]), .tail, .eq (.pointer (some ⟨w.heap.size + 1, 1, none⟩)), .tail] 8 [10] [9] (by kernel_rfl) ⟨?_, ?_, ?_, ?_, ?_, ?_, ?_, ?_, ?_, ?_, trivial⟩ ⟨?_, trivial⟩ [fun vs w' => ∃ sa2 sc2, vs 8 = .slice sa2 (j + 1) sc2 ∧ CO w #[.int .i64 1, .slice sa j sc, .int .i64 0, .int .i64 0, .slice none 0 0] 3 1 (.slice sa2 (j + 1) sc2) (j + 1) (ints (((ns.drop 1).take j).map aj) ++ [.int .i64 (aj X)]) w', fun vs w' => ∃ sa2 sc2, CO w #[.int .i64 1, .slice sa2 (j + 1) sc2, .int .i64 0, .int .i64 0, .slice none 0 0] 3 1 (.slice sa2 (j + 1) sc2) (j + 1) (ints (((ns.drop 1).take j).map aj) ++ [.int .i64 (aj X)]) w'] ⟨?_, ?_, trivial⟩ (fun vs => [(32, (.pointer (some ⟨w.heap.size + 1, 1, none⟩))), (33, (.slice sa j sc)), (34, (.slice (some ⟨bl, off, none⟩) N lc)), (35, (.int .i64 (i : Nat))), (36, (.pointer (some ⟨bl, off + i, none⟩))), (37, (.int .u64 (X : Nat))), (38, (.int .i64 (aj X))), (39, vs 7), (40, vs 8), (41, (.pointer (some ⟨w.heap.size + 1, 1, none⟩)))]) (fun _ => rfl) ?_
   ·refine rs fun S a wx K Q hR hK => ?_
    have t5 : a.tmps[5]? = some (.pointer (some ⟨w.heap.size + 1, 0, none⟩)) := hR.o 5
    go_simp
    exact hK _ _ br rfl
   ·refine rs fun S a wx K Q hR hK => ?_
    have t32 := hR.q 0
    have y0 := (hR.bel.cell (p := ⟨w.heap.size + 1, 1, none⟩) hc1).trans p1
    go_simp
    exact hK _ _ br rfl
   ·refine rs fun S a wx K Q hR hK => ?_
    have t1 : a.tmps[1]? = some (.slice (some ⟨bl, off, none⟩) N lc) := hR.o 1
    go_simp
    exact hK _ _ br rfl
   ·refine rs fun S a wx K Q hR hK => ?_
    have t6 : a.tmps[6]? = some (.int .i64 (i : Nat)) := hR.o 6
    go_simp
    exact hK _ _ br rfl
   ·refine rs fun S a wx K Q hR hK => ?_
    have t34 := hR.q 2
    have t35 := hR.q 3
    go_simp
    exact hK _ _ br rfl
   ·refine rs fun S a wx K Q hR hK => ?_
    have t36 := hR.q 4
    have y0 := (hR.bel.cell (p := ⟨bl, off + i, none⟩) hcb).trans gX
    go_simp
    exact hK _ _ br rfl
   ·refine rs fun S a wx K Q hR hK => ?_
    have t37 := hR.q 5
    go_simp
    go_at_call 113
    refine (dh X wx (HX.out X (by simp))).mono ?_
    rintro e w' ⟨rfl, rfl⟩
    exact hK _ _ br rfl
   ·exact bS _ _ _
   ·refine rs fun S a wx K Q hR hK => ?_
    have t38 := hR.q 6
    go_simp
    exact hK _ _ (br.alloc nl _) ⟨_, _, rfl, hR.new _ nl, heap_alloc_new _ _⟩
   ·refine cK.step rfl (cK.mk rfl rfl (fun a wx K Q hR hK => ?_))
    have t5 : a.tmps[5]? = some (.pointer (some ⟨w.heap.size + 1, 0, none⟩)) := hR.o 5
    go_simp
    exact hK
   ·refine cK.mk rfl rfl (fun a wx K Q hR hK => ?_)
    have t5 : a.tmps[5]? = some (.pointer (some ⟨w.heap.size + 1, 0, none⟩)) := hR.o 5
    go_simp
    exact hK
   ·refine ts fun vs a wx K Q hR hZ hK => ?_
    have t33 := hR.d 1 33
    rw [hR.eqs 1 _ rfl] at t33
    have t39 := hR.d 7 39
    obtain ⟨hbel2, S2, hlow, hof⟩ := hZ
    obtain ⟨g0, T0, ev, hSg, hg⟩ := (show dZ 1 1 #[.int .i64 (aj X)] S2 (vs 7) wx from hof 7 _ rfl)
    rw [ev] at t39
    have hco := HQ.out
    refine fJ wx (.tmp 33) (.tmp 39) 22 rfl (w.heap.size + 2) 3 i0 _ 1 8 Tryz.underlying22 hi0 hz0 hz1 hz2 rfl (by omega) (.slice sa j sc) j (ints (((ns.drop 1).take j).map aj)) (aI t33) (ownsRow_below hco.own hbel2 nl) _ _ 1 _ _ (aI t39) (zB hg rfl) (by simp [Value.oneCell']) (by unfold maxLen; omega) (by omega) (by have := hbel2.size; have := hco.size; omega) ?_
    intro v2 w2 hown2 hgrow hat
    obtain ⟨sa2, sc2, rfl⟩ := ag hown2
    exact hK _ _ ⟨sa2, sc2, upd_self _ _ _, hco.append hbel2 hgrow hown2⟩
   ·refine ts fun vs a wx K Q hR hZ hK => ?_
    have t41 := hR.d 9 41
    rw [hR.eqs 9 _ rfl] at t41
    have t40 := hR.d 8 40
    obtain ⟨sa2, sc2, ev, hco⟩ := hZ
    rw [ev] at t40
    have c5 : wx.cell? ⟨w.heap.size + 1, 1, none⟩ = some (.slice sa j sc) := by rw [cell_of_row wx _ 1 _ _ _ hco.row]; rfl
    have f5 : wx.frozen? ⟨w.heap.size + 1, 1, none⟩ = false := by rw [frozen_of_row wx _ 1 _ _ hco.row]
    have HS := hid (hco.store 1 (.slice sa2 (j + 1) sc2))
    clear hco ev
    go_simp
    exact hK undef _ ⟨sa2, sc2, HS.out⟩
   intro vs wN hE hZ
   have HZ := hid hZ
   simp only [aP, List.foldl_cons, List.foldl_nil]
   clear hE hZ p1 gX
   generalize vs 7 = vt1
   generalize vs 8 = vt2
   go_simp
   obtain ⟨sa2, sc2, hco⟩ := HZ.out
   have HCO := hid hco
   clear hco HZ
   go_wp2_with fail
   go_roundw
   case rel => have hi := HI.out; exact ⟨j + 1, i + 1, sa2, sc2, by omega, by omega, by go_num, hid (by rw [HT.out]; exact HCO.out)⟩
   case measure => simp [intOf]; omega
  ·have HJ : Hid (j = N - 1) := hid (by omega)
   clear hi
   have q9 := HQ.out.row
   have g9 := HQ.out.res
   have HE := HQ
   have HC : Hid (bL 1 ns = ⟨1, (ns.drop 1).map aj, 0, 0, []⟩) := hid rfl
   have d0 : wr.cell? ⟨w.heap.size + 1, 0, none⟩ = some (.int .i64 1) := by rw [cell_of_row wr _ 0 _ _ _ q9]; rfl
   have d1 : wr.cell? ⟨w.heap.size + 1, 1, none⟩ = some (.slice sa j sc) := by rw [cell_of_row wr _ 1 _ _ _ q9]; rfl
   have d2 : wr.cell? ⟨w.heap.size + 1, 2, none⟩ = some (.int .i64 0) := by rw [cell_of_row wr _ 2 _ _ _ q9]; rfl
   have d3 : wr.cell? ⟨w.heap.size + 1, 3, none⟩ = some (.int .i64 0) := by rw [cell_of_row wr _ 3 _ _ _ q9]; rfl
   have d4 : wr.cell? ⟨w.heap.size + 1, 4, none⟩ = some (.slice none 0 0) := by rw [cell_of_row wr _ 4 _ _ _ q9]; rfl
   have HF : Hid (bn wr (fun b => w.heap.size + 2 ≤ b) true ((ns.drop 1).map aj) (.slice sa j sc)) := hid (by
    have h1 := HQ.out.own
    have h2 : (ns.drop 1).length = j := by have := HN.out; have := HJ.out; simp; omega
    rw [← h2, List.take_length] at h1
    rw [← h2]
    exact bn.of_owns (T := 3) (by rw [List.length_map]; exact h1))
   clear q9
   go_wp2_with (refine wpList_store_row rfl 46 (.tmp 4) (.tmp 122) rfl rfl w.heap.size rfl _ rfl 46 _ g9 (by kernel_rfl) rfl (by simp [Value.oneCell']) ?_)
   refine bodyPost_ret (v := .agg #[.int .i64 1, .slice sa j sc, .int .i64 0, .int .i64 0, .slice none 0 0]) (results_cell_row rfl _ _ w.heap.size 46 _ _ _ rfl (setRow_heap _ _ _ _ _ _ g9) Tryz.underlying46 rfl (by kernel_rfl)) rfl ?_
   rw [HC.out]
   exact ⟨_, rfl, ⟨_, _, rfl, (HF.out.keep (aC (g := w.heap.size) (fun h => by have h : _ ≤ w.heap.size := h; omega)) (fun b _ hb => by have hb : _ ≤ b := hb; show _ ≤ b; omega)), aX.nil _ _ _⟩, below_setRow HE.out.bel _ _ nl⟩
theorem yf (S : Nat → Prop) (own : Bool) (ns : List Nat) (v : Value) (w : World) (hr : Sl w S own 1 ns.length (nums ns) v) (hl : ns.length ≤ 1000) (hx : ∀ n ∈ ns, n < 18446744073709551616) :
  Calls Tryz.prog 88 #[.int .i64 4, v] w (lV w (bL 4 ns)) := by
 obtain ⟨i0, hi0, hz0, hz1, hz2⟩ := info_parts ve
 obtain ⟨_, _, la, lc, rfl, hlc⟩ := Sl.shape hr
 have h0 : CO w #[.int .i64 4, .slice none 0 0, .int .i64 0, .int .i64 0, .slice none 0 0] 3 1 (.slice none 0 0) 0 [] ((w.alloc (.cells #[.int .i64 0, .slice none 0 0, .int .i64 0, .int .i64 0, .slice none 0 0] 46)).alloc (.cells #[.int .i64 4, .slice none 0 0, .int .i64 0, .int .i64 0, .slice none 0 0] 46)) := ⟨(br.alloc nl _).alloc (by simp) _, by rw [World.size_alloc, World.size_alloc]; omega, (aU _ _ _ (by simp)).trans (az _ _ _ rfl), az _ _ _ (by simp), World.ownsRow_nil _ _ _ _⟩
 have HR := hid (And.intro hr hx)
 obtain ⟨N, hN⟩ : ∃ N, N = ns.length := ⟨_, rfl⟩
 have HN := hid hN
 rw [← hN] at hl hlc ⊢
 have H0 := hid h0
 clear hr hx hN h0
 go_enter Tryz.func88, Tryz.ntmps88
 go_upto_region 12 with fail
 generalize ((w.alloc (.cells #[.int .i64 0, .slice none 0 0, .int .i64 0, .int .i64 0, .slice none 0 0] 46)).alloc (.cells #[.int .i64 4, .slice none 0 0, .int .i64 0, .int .i64 0, .slice none 0 0] 46)) = W at H0 ⊢
 go_wp2_with fail
 go_loopw [7] (fun iv wr => ∃ (j i : Nat) (sa : Option Addr) (sc : Nat), i = 1 + 9 * j ∧ j ≤ (N - 1) / 9 ∧ iv = .int .i64 i ∧ Hid (CO w #[.int .i64 4, .slice none 0 0, .int .i64 0, .int .i64 0, .slice sa j sc] 108 9 (.slice sa j sc) j (bD ((cu (ns.drop 1)).take j)) wr)) (fun iv _ => N + 9 - (intOf iv).toNat)
 case atStart => exact ⟨0, 1, none, 0, rfl, by omega, rfl, hid ⟨H0.out.bel, H0.out.size, H0.out.res, H0.out.row, World.ownsRow_nil _ _ _ _⟩⟩
 case round =>
  clear H0
  obtain ⟨j, i, sa, sc, hi, hj, rfl, HQ⟩ := hrel
  obtain ⟨E8, hE8⟩ : ∃ E, E = i + 8 := ⟨_, rfl⟩
  have e8 : (i : Int) + 8 = (E8 : Int) := by omega
  have e8w : IntKind.i64.wrap ((E8 : Nat) : Int) = (E8 : Int) := by rw [IntKind.wrap_i64]; omega
  by_cases hlt : E8 < N
  ·obtain ⟨bl, off, rfl, hbl, hcell⟩ := zM HR.out.1 (by have := HN.out; omega)
   obtain ⟨E1, hE1⟩ : ∃ E, E = i + 1 := ⟨_, rfl⟩
   have e1 : (i : Int) + 1 = (E1 : Int) := by omega
   have e1w : IntKind.i64.wrap ((E1 : Nat) : Int) = (E1 : Int) := by rw [IntKind.wrap_i64]; omega
   obtain ⟨E2, hE2⟩ : ∃ E, E = i + 2 := ⟨_, rfl⟩
   have e2 : (i : Int) + 2 = (E2 : Int) := by omega
   have e2w : IntKind.i64.wrap ((E2 : Nat) : Int) = (E2 : Int) := by rw [IntKind.wrap_i64]; omega
   obtain ⟨E3, hE3⟩ : ∃ E, E = i + 3 := ⟨_, rfl⟩
   have e3 : (i : Int) + 3 = (E3 : Int) := by omega
   have e3w : IntKind.i64.wrap ((E3 : Nat) : Int) = (E3 : Int) := by rw [IntKind.wrap_i64]; omega
   obtain ⟨E4, hE4⟩ : ∃ E, E = i + 4 := ⟨_, rfl⟩
   have e4 : (i : Int) + 4 = (E4 : Int) := by omega
   have e4w : IntKind.i64.wrap ((E4 : Nat) : Int) = (E4 : Int) := by rw [IntKind.wrap_i64]; omega
   obtain ⟨E5, hE5⟩ : ∃ E, E = i + 5 := ⟨_, rfl⟩
   have e5 : (i : Int) + 5 = (E5 : Int) := by omega
   have e5w : IntKind.i64.wrap ((E5 : Nat) : Int) = (E5 : Int) := by rw [IntKind.wrap_i64]; omega
   obtain ⟨E6, hE6⟩ : ∃ E, E = i + 6 := ⟨_, rfl⟩
   have e6 : (i : Int) + 6 = (E6 : Int) := by omega
   have e6w : IntKind.i64.wrap ((E6 : Nat) : Int) = (E6 : Int) := by rw [IntKind.wrap_i64]; omega
   obtain ⟨E7, hE7⟩ : ∃ E, E = i + 7 := ⟨_, rfl⟩
   have e7 : (i : Int) + 7 = (E7 : Int) := by omega
   have e7w : IntKind.i64.wrap ((E7 : Nat) : Int) = (E7 : Int) := by rw [IntKind.wrap_i64]; omega
   obtain ⟨X0, hX0⟩ : ∃ X, ns[i]? = some X := ⟨ns[i]'(by have := HN.out; omega), List.getElem?_eq_getElem _⟩
   have g0 := (HQ.out.bel.cell hbl).trans (hcell i X0 hX0)
   have x0 : (i : Int) < (N : Int) := by omega
   have b0 := HR.out.2 _ (List.mem_of_getElem? hX0)
   obtain ⟨X1, hX1⟩ : ∃ X, ns[E1]? = some X := ⟨ns[E1]'(by have := HN.out; omega), List.getElem?_eq_getElem _⟩
   have g1 := (HQ.out.bel.cell hbl).trans (hcell E1 X1 hX1)
   have x1 : (E1 : Int) < (N : Int) := by omega
   have b1 := HR.out.2 _ (List.mem_of_getElem? hX1)
   obtain ⟨X2, hX2⟩ : ∃ X, ns[E2]? = some X := ⟨ns[E2]'(by have := HN.out; omega), List.getElem?_eq_getElem _⟩
   have g2 := (HQ.out.bel.cell hbl).trans (hcell E2 X2 hX2)
   have x2 : (E2 : Int) < (N : Int) := by omega
   have b2 := HR.out.2 _ (List.mem_of_getElem? hX2)
   obtain ⟨X3, hX3⟩ : ∃ X, ns[E3]? = some X := ⟨ns[E3]'(by have := HN.out; omega), List.getElem?_eq_getElem _⟩
   have g3 := (HQ.out.bel.cell hbl).trans (hcell E3 X3 hX3)
   have x3 : (E3 : Int) < (N : Int) := by omega
   have b3 := HR.out.2 _ (List.mem_of_getElem? hX3)
   obtain ⟨X4, hX4⟩ : ∃ X, ns[E4]? = some X := ⟨ns[E4]'(by have := HN.out; omega), List.getElem?_eq_getElem _⟩
   have g4 := (HQ.out.bel.cell hbl).trans (hcell E4 X4 hX4)
   have x4 : (E4 : Int) < (N : Int) := by omega
   have b4 := HR.out.2 _ (List.mem_of_getElem? hX4)
   obtain ⟨X5, hX5⟩ : ∃ X, ns[E5]? = some X := ⟨ns[E5]'(by have := HN.out; omega), List.getElem?_eq_getElem _⟩
   have g5 := (HQ.out.bel.cell hbl).trans (hcell E5 X5 hX5)
   have x5 : (E5 : Int) < (N : Int) := by omega
   have b5 := HR.out.2 _ (List.mem_of_getElem? hX5)
   obtain ⟨X6, hX6⟩ : ∃ X, ns[E6]? = some X := ⟨ns[E6]'(by have := HN.out; omega), List.getElem?_eq_getElem _⟩
   have g6 := (HQ.out.bel.cell hbl).trans (hcell E6 X6 hX6)
   have x6 : (E6 : Int) < (N : Int) := by omega
   have b6 := HR.out.2 _ (List.mem_of_getElem? hX6)
   obtain ⟨X7, hX7⟩ : ∃ X, ns[E7]? = some X := ⟨ns[E7]'(by have := HN.out; omega), List.getElem?_eq_getElem _⟩
   have g7 := (HQ.out.bel.cell hbl).trans (hcell E7 X7 hX7)
   have x7 : (E7 : Int) < (N : Int) := by omega
   have b7 := HR.out.2 _ (List.mem_of_getElem? hX7)
   obtain ⟨X8, hX8⟩ : ∃ X, ns[E8]? = some X := ⟨ns[E8]'(by have := HN.out; omega), List.getElem?_eq_getElem _⟩
   have g8 := (HQ.out.bel.cell hbl).trans (hcell E8 X8 hX8)
   have x8 : (E8 : Int) < (N : Int) := by omega
   have b8 := HR.out.2 _ (List.mem_of_getElem? hX8)
   obtain ⟨Y, hY⟩ : ∃ Y : Nat, Y = (IntKind.u64.wrap ((X8 : Int) - 1)).toNat := ⟨_, rfl⟩
   have hYw : IntKind.u64.wrap ((X8 : Int) - 1) = (Y : Int) := by rw [hY, IntKind.wrap_u64]; omega
   have hYl : Y < 18446744073709551616 := by rw [hY, IntKind.wrap_u64]; omega
   have HY : Hid ((X8 = 0 → True) ∧ (¬ X8 = 0 → Y = X8 - 1)) := hid ⟨fun _ => trivial, fun h => by rw [hY, IntKind.wrap_u64]; omega⟩
   have HX : Hid (∀ n ∈ [X0, X1, X2, Y], n < 18446744073709551616) := hid fun n hn => by
    simp only [List.mem_cons, List.not_mem_nil, or_false] at hn
    rcases hn with rfl | rfl | rfl | rfl <;> omega
   have hcb := World.block_lt_of_cell? wr _ g0
   have p4 : wr.cell? ⟨w.heap.size + 1, 4, none⟩ = some (.slice sa j sc) := by rw [cell_of_row wr _ 4 _ _ _ HQ.out.row]; rfl
   have hc1 : w.heap.size + 1 < wr.heap.size := by have := HQ.out.size; omega
   have HT : Hid ((cu (ns.drop 1)).take (j + 1) = (cu (ns.drop 1)).take j ++ [jH [X0, X1, X2, X3, X4, X5, X6, X7, X8]]) := hid (by
    refine De ?_ ?_ ?_ ?_ ?_ ?_ ?_ ?_ ?_
    ·rw [List.getElem?_drop, ← hX0]; congr 1; omega
    ·rw [List.getElem?_drop, ← hX1]; congr 1; omega
    ·rw [List.getElem?_drop, ← hX2]; congr 1; omega
    ·rw [List.getElem?_drop, ← hX3]; congr 1; omega
    ·rw [List.getElem?_drop, ← hX4]; congr 1; omega
    ·rw [List.getElem?_drop, ← hX5]; congr 1; omega
    ·rw [List.getElem?_drop, ← hX6]; congr 1; omega
    ·rw [List.getElem?_drop, ← hX7]; congr 1; omega
    ·rw [List.getElem?_drop, ← hX8]; congr 1; omega
    )
   have HTL : Hid ((bD ((cu (ns.drop 1)).take j)).length = j * 9) := hid (by rw [jW, List.length_take, mX, Nat.min_eq_left (by have := HN.out; simp; omega)])
   have x9 : (0 : Int) ≤ (i : Int) := by omega
   have HI := hid (And.intro hi hE8)
   clear hi hE8
   clear hcell hY hX0 b0 hX1 b1 hX2 b2 hX3 b3 hX4 b4 hX5 b5 hX6 b6 hX7 b7 hX8 b8 hE1 hE2 hE3 hE4 hE5 hE6 hE7
   go_upto_region 15 with fail
   refine ak (w0 := wr) rfl ((.eq (.pointer (some ⟨w.heap.size + 1, 4, none⟩))) :: (.eq (.slice sa j sc)) :: (.eq (.slice (some ⟨bl, off, none⟩) N lc)) :: (.eq (.int .i64 (i : Nat))) :: (.eq (.pointer (some ⟨bl, off + i, none⟩))) :: (.eq (.int .u64 (X0 : Nat))) :: (.eq (.int .i64 (aj X0))) :: (.eq (.slice (some ⟨bl, off, none⟩) N lc)) :: (.eq (.int .i64 (i : Nat))) :: (.eq (.int .i64 (E1 : Nat))) :: (.eq (.pointer (some ⟨bl, off + E1, none⟩))) :: (.eq (.int .u64 (X1 : Nat))) :: (.eq (.int .i64 (aj X1))) :: (.eq (.slice (some ⟨bl, off, none⟩) N lc)) :: (.eq (.int .i64 (i : Nat))) :: (.eq (.int .i64 (E2 : Nat))) :: (.eq (.pointer (some ⟨bl, off + E2, none⟩))) :: (.eq (.int .u64 (X2 : Nat))) :: (.eq (.int .i64 (aj X2))) :: (.eq (.slice (some ⟨bl, off, none⟩) N lc)) :: (.eq (.int .i64 (i : Nat))) :: (.eq (.int .i64 (E3 : Nat))) :: (.eq (.pointer (some ⟨bl, off + E3, none⟩))) :: (.eq (.int .u64 (X3 : Nat))) :: (.eq (.slice (some ⟨bl, off, none⟩) N lc)) :: (.eq (.int .i64 (i : Nat))) :: (.eq (.int .i64 (E4 : Nat))) :: (.eq (.pointer (some ⟨bl, off + E4, none⟩))) :: (.eq (.int .u64 (X4 : Nat))) :: (.eq (.slice (some ⟨bl, off, none⟩) N lc)) :: (.eq (.int .i64 (i : Nat))) :: (.eq (.int .i64 (E5 : Nat))) :: (.eq (.pointer (some ⟨bl, off + E5, none⟩))) :: (.eq (.int .u64 (X5 : Nat))) :: (.eq (.agg #[.int .u64 (X4 : Nat), .int .u64 (X5 : Nat)])) :: (.eq (.slice (some ⟨bl, off, none⟩) N lc)) :: (.eq (.int .i64 (i : Nat))) :: (.eq (.int .i64 (E6 : Nat))) :: (.eq (.pointer (some ⟨bl, off + E6, none⟩))) :: (.eq (.int .u64 (X6 : Nat))) :: (.eq (.slice (some ⟨bl, off, none⟩) N lc)) :: (.eq (.int .i64 (i : Nat))) :: (.eq (.int .i64 (E7 : Nat))) :: (.eq (.pointer (some ⟨bl, off + E7, none⟩))) :: (.eq (.int .u64 (X7 : Nat))) :: (.eq (.agg #[.int .u64 (X6 : Nat), .int .u64 (X7 : Nat)])) :: (.eq (.slice (some ⟨bl, off, none⟩) N lc)) :: (.eq (.int .i64 (i : Nat))) :: (.eq (.int .i64 (E8 : Nat))) :: (.eq (.pointer (some ⟨bl, off + E8, none⟩))) :: (.eq (.int .u64 (X8 : Nat))) :: (.eq (.int .u64 (Y : Nat))) :: (.eq (.int .i64 (aj Y))) :: (.eq (.agg #[.int .i64 (aj X0), .int .i64 (aj X1), .int .i64 (aj X2), .int .u64 (X3 : Nat), .int .u64 (X4 : Nat), .int .u64 (X5 : Nat), .int .u64 (X6 : Nat), .int .u64 (X7 : Nat), .int .i64 (aj Y)])) :: (.of (dZ 1 1 #[.int .i64 (aj X0), .int .i64 (aj X1), .int .i64 (aj X2), .int .u64 (X3 : Nat), .int .u64 (X4 : Nat), .int .u64 (X5 : Nat), .int .u64 (X6 : Nat), .int .u64 (X7 : Nat), .int .i64 (aj Y)])) :: (.tail) :: (.eq (.pointer (some ⟨w.heap.size + 1, 4, none⟩))) :: (.tail) :: []) 55 [57] [56] (by kernel_rfl) ⟨?_, ?_, ?_, ?_, ?_, ?_, ?_, ?_, ?_, ?_, ?_, ?_, ?_, ?_, ?_, ?_, ?_, ?_, ?_, ?_, ?_, ?_, ?_, ?_, ?_, ?_, ?_, ?_, ?_, ?_, ?_, ?_, ?_, ?_, ?_, ?_, ?_, ?_, ?_, ?_, ?_, ?_, ?_, ?_, ?_, ?_, ?_, ?_, ?_, ?_, ?_, ?_, ?_, ?_, ?_, ?_, ?_, trivial⟩ ⟨?_, trivial⟩ [fun vs w' => ∃ sa2 sc2, vs 55 = .slice sa2 (j + 1) sc2 ∧ CO w #[.int .i64 4, .slice none 0 0, .int .i64 0, .int .i64 0, .slice sa j sc] 108 9 (.slice sa2 (j + 1) sc2) (j + 1) (bD ((cu (ns.drop 1)).take j) ++ [.int .i64 (aj X0), .int .i64 (aj X1), .int .i64 (aj X2), .int .u64 (X3 : Nat), .int .u64 (X4 : Nat), .int .u64 (X5 : Nat), .int .u64 (X6 : Nat), .int .u64 (X7 : Nat), .int .i64 (aj Y)]) w', fun vs w' => ∃ sa2 sc2, CO w #[.int .i64 4, .slice none 0 0, .int .i64 0, .int .i64 0, .slice sa2 (j + 1) sc2] 108 9 (.slice sa2 (j + 1) sc2) (j + 1) (bD ((cu (ns.drop 1)).take j) ++ [.int .i64 (aj X0), .int .i64 (aj X1), .int .i64 (aj X2), .int .u64 (X3 : Nat), .int .u64 (X4 : Nat), .int .u64 (X5 : Nat), .int .u64 (X6 : Nat), .int .u64 (X7 : Nat), .int .i64 (aj Y)]) w'] ⟨?_, ?_, trivial⟩ (fun vs => [(51, (.pointer (some ⟨w.heap.size + 1, 4, none⟩))), (52, (.slice sa j sc)), (53, (.slice (some ⟨bl, off, none⟩) N lc)), (54, (.int .i64 (i : Nat))), (55, (.pointer (some ⟨bl, off + i, none⟩))), (56, (.int .u64 (X0 : Nat))), (57, (.int .i64 (aj X0))), (58, (.slice (some ⟨bl, off, none⟩) N lc)), (59, (.int .i64 (i : Nat))), (60, (.int .i64 (E1 : Nat))), (61, (.pointer (some ⟨bl, off + E1, none⟩))), (62, (.int .u64 (X1 : Nat))), (63, (.int .i64 (aj X1))), (64, (.slice (some ⟨bl, off, none⟩) N lc)), (65, (.int .i64 (i : Nat))), (66, (.int .i64 (E2 : Nat))), (67, (.pointer (some ⟨bl, off + E2, none⟩))), (68, (.int .u64 (X2 : Nat))), (69, (.int .i64 (aj X2))), (70, (.slice (some ⟨bl, off, none⟩) N lc)), (71, (.int .i64 (i : Nat))), (72, (.int .i64 (E3 : Nat))), (73, (.pointer (some ⟨bl, off + E3, none⟩))), (74, (.int .u64 (X3 : Nat))), (75, (.slice (some ⟨bl, off, none⟩) N lc)), (76, (.int .i64 (i : Nat))), (77, (.int .i64 (E4 : Nat))), (78, (.pointer (some ⟨bl, off + E4, none⟩))), (79, (.int .u64 (X4 : Nat))), (80, (.slice (some ⟨bl, off, none⟩) N lc)), (81, (.int .i64 (i : Nat))), (82, (.int .i64 (E5 : Nat))), (83, (.pointer (some ⟨bl, off + E5, none⟩))), (84, (.int .u64 (X5 : Nat))), (85, (.agg #[.int .u64 (X4 : Nat), .int .u64 (X5 : Nat)])), (86, (.slice (some ⟨bl, off, none⟩) N lc)), (87, (.int .i64 (i : Nat))), (88, (.int .i64 (E6 : Nat))), (89, (.pointer (some ⟨bl, off + E6, none⟩))), (90, (.int .u64 (X6 : Nat))), (91, (.slice (some ⟨bl, off, none⟩) N lc)), (92, (.int .i64 (i : Nat))), (93, (.int .i64 (E7 : Nat))), (94, (.pointer (some ⟨bl, off + E7, none⟩))), (95, (.int .u64 (X7 : Nat))), (96, (.agg #[.int .u64 (X6 : Nat), .int .u64 (X7 : Nat)])), (97, (.slice (some ⟨bl, off, none⟩) N lc)), (98, (.int .i64 (i : Nat))), (99, (.int .i64 (E8 : Nat))), (100, (.pointer (some ⟨bl, off + E8, none⟩))), (101, (.int .u64 (X8 : Nat))), (102, (.int .u64 (Y : Nat))), (103, (.int .i64 (aj Y))), (104, (.agg #[.int .i64 (aj X0), .int .i64 (aj X1), .int .i64 (aj X2), .int .u64 (X3 : Nat), .int .u64 (X4 : Nat), .int .u64 (X5 : Nat), .int .u64 (X6 : Nat), .int .u64 (X7 : Nat), .int .i64 (aj Y)])), (105, vs 54), (106, vs 55), (107, (.pointer (some ⟨w.heap.size + 1, 4, none⟩)))]) (fun _ => rfl) ?_
   ·refine rs fun S a wx K Q hR hK => ?_
    have t5 : a.tmps[5]? = some (.pointer (some ⟨w.heap.size + 1, 0, none⟩)) := hR.o 5
    go_simp
    exact hK _ _ br rfl
   ·refine rs fun S a wx K Q hR hK => ?_
    have t51 := hR.q 0
    have y0 := (hR.bel.cell (p := ⟨w.heap.size + 1, 4, none⟩) hc1).trans p4
    go_simp
    exact hK _ _ br rfl
   ·refine rs fun S a wx K Q hR hK => ?_
    have t1 : a.tmps[1]? = some (.slice (some ⟨bl, off, none⟩) N lc) := hR.o 1
    go_simp
    exact hK _ _ br rfl
   ·refine rs fun S a wx K Q hR hK => ?_
    have t7 : a.tmps[7]? = some (.int .i64 (i : Nat)) := hR.o 7
    go_simp
    exact hK _ _ br rfl
   ·refine rs fun S a wx K Q hR hK => ?_
    have t53 := hR.q 2
    have t54 := hR.q 3
    go_simp
    exact hK _ _ br rfl
   ·refine rs fun S a wx K Q hR hK => ?_
    have t55 := hR.q 4
    have y0 := (hR.bel.cell (p := ⟨bl, off + i, none⟩) hcb).trans g0
    go_simp
    exact hK _ _ br rfl
   ·refine rs fun S a wx K Q hR hK => ?_
    have t56 := hR.q 5
    go_simp
    go_at_call 113
    refine (dh X0 wx (HX.out X0 (by simp))).mono ?_
    rintro e w' ⟨rfl, rfl⟩
    exact hK _ _ br rfl
   ·refine rs fun S a wx K Q hR hK => ?_
    have t1 : a.tmps[1]? = some (.slice (some ⟨bl, off, none⟩) N lc) := hR.o 1
    go_simp
    exact hK _ _ br rfl
   ·refine rs fun S a wx K Q hR hK => ?_
    have t7 : a.tmps[7]? = some (.int .i64 (i : Nat)) := hR.o 7
    go_simp
    exact hK _ _ br rfl
   ·refine rs fun S a wx K Q hR hK => ?_
    have t59 := hR.q 8
    go_simp
    (try go_ints)
    exact hK _ _ br rfl
   ·refine rs fun S a wx K Q hR hK => ?_
    have t58 := hR.q 7
    have t60 := hR.q 9
    go_simp
    exact hK _ _ br rfl
   ·refine rs fun S a wx K Q hR hK => ?_
    have t61 := hR.q 10
    have y0 := (hR.bel.cell (p := ⟨bl, off + E1, none⟩) hcb).trans g1
    go_simp
    exact hK _ _ br rfl
   ·refine rs fun S a wx K Q hR hK => ?_
    have t62 := hR.q 11
    go_simp
    go_at_call 113
    refine (dh X1 wx (HX.out X1 (by simp))).mono ?_
    rintro e w' ⟨rfl, rfl⟩
    exact hK _ _ br rfl
   ·refine rs fun S a wx K Q hR hK => ?_
    have t1 : a.tmps[1]? = some (.slice (some ⟨bl, off, none⟩) N lc) := hR.o 1
    go_simp
    exact hK _ _ br rfl
   ·refine rs fun S a wx K Q hR hK => ?_
    have t7 : a.tmps[7]? = some (.int .i64 (i : Nat)) := hR.o 7
    go_simp
    exact hK _ _ br rfl
   ·refine rs fun S a wx K Q hR hK => ?_
    have t65 := hR.q 14
    go_simp
    (try go_ints)
    exact hK _ _ br rfl
   ·refine rs fun S a wx K Q hR hK => ?_
    have t64 := hR.q 13
    have t66 := hR.q 15
    go_simp
    exact hK _ _ br rfl
   ·refine rs fun S a wx K Q hR hK => ?_
    have t67 := hR.q 16
    have y0 := (hR.bel.cell (p := ⟨bl, off + E2, none⟩) hcb).trans g2
    go_simp
    exact hK _ _ br rfl
   ·refine rs fun S a wx K Q hR hK => ?_
    have t68 := hR.q 17
    go_simp
    go_at_call 113
    refine (dh X2 wx (HX.out X2 (by simp))).mono ?_
    rintro e w' ⟨rfl, rfl⟩
    exact hK _ _ br rfl
   ·refine rs fun S a wx K Q hR hK => ?_
    have t1 : a.tmps[1]? = some (.slice (some ⟨bl, off, none⟩) N lc) := hR.o 1
    go_simp
    exact hK _ _ br rfl
   ·refine rs fun S a wx K Q hR hK => ?_
    have t7 : a.tmps[7]? = some (.int .i64 (i : Nat)) := hR.o 7
    go_simp
    exact hK _ _ br rfl
   ·refine rs fun S a wx K Q hR hK => ?_
    have t71 := hR.q 20
    go_simp
    (try go_ints)
    exact hK _ _ br rfl
   ·refine rs fun S a wx K Q hR hK => ?_
    have t70 := hR.q 19
    have t72 := hR.q 21
    go_simp
    exact hK _ _ br rfl
   ·refine rs fun S a wx K Q hR hK => ?_
    have t73 := hR.q 22
    have y0 := (hR.bel.cell (p := ⟨bl, off + E3, none⟩) hcb).trans g3
    go_simp
    exact hK _ _ br rfl
   ·refine rs fun S a wx K Q hR hK => ?_
    have t1 : a.tmps[1]? = some (.slice (some ⟨bl, off, none⟩) N lc) := hR.o 1
    go_simp
    exact hK _ _ br rfl
   ·refine rs fun S a wx K Q hR hK => ?_
    have t7 : a.tmps[7]? = some (.int .i64 (i : Nat)) := hR.o 7
    go_simp
    exact hK _ _ br rfl
   ·refine rs fun S a wx K Q hR hK => ?_
    have t76 := hR.q 25
    go_simp
    (try go_ints)
    exact hK _ _ br rfl
   ·refine rs fun S a wx K Q hR hK => ?_
    have t75 := hR.q 24
    have t77 := hR.q 26
    go_simp
    exact hK _ _ br rfl
   ·refine rs fun S a wx K Q hR hK => ?_
    have t78 := hR.q 27
    have y0 := (hR.bel.cell (p := ⟨bl, off + E4, none⟩) hcb).trans g4
    go_simp
    exact hK _ _ br rfl
   ·refine rs fun S a wx K Q hR hK => ?_
    have t1 : a.tmps[1]? = some (.slice (some ⟨bl, off, none⟩) N lc) := hR.o 1
    go_simp
    exact hK _ _ br rfl
   ·refine rs fun S a wx K Q hR hK => ?_
    have t7 : a.tmps[7]? = some (.int .i64 (i : Nat)) := hR.o 7
    go_simp
    exact hK _ _ br rfl
   ·refine rs fun S a wx K Q hR hK => ?_
    have t81 := hR.q 30
    go_simp
    (try go_ints)
    exact hK _ _ br rfl
   ·refine rs fun S a wx K Q hR hK => ?_
    have t80 := hR.q 29
    have t82 := hR.q 31
    go_simp
    exact hK _ _ br rfl
   ·refine rs fun S a wx K Q hR hK => ?_
    have t83 := hR.q 32
    have y0 := (hR.bel.cell (p := ⟨bl, off + E5, none⟩) hcb).trans g5
    go_simp
    exact hK _ _ br rfl
   ·refine rs fun S a wx K Q hR hK => ?_
    have t79 := hR.q 28
    have t84 := hR.q 33
    go_simp
    exact hK _ _ br rfl
   ·refine rs fun S a wx K Q hR hK => ?_
    have t1 : a.tmps[1]? = some (.slice (some ⟨bl, off, none⟩) N lc) := hR.o 1
    go_simp
    exact hK _ _ br rfl
   ·refine rs fun S a wx K Q hR hK => ?_
    have t7 : a.tmps[7]? = some (.int .i64 (i : Nat)) := hR.o 7
    go_simp
    exact hK _ _ br rfl
   ·refine rs fun S a wx K Q hR hK => ?_
    have t87 := hR.q 36
    go_simp
    (try go_ints)
    exact hK _ _ br rfl
   ·refine rs fun S a wx K Q hR hK => ?_
    have t86 := hR.q 35
    have t88 := hR.q 37
    go_simp
    exact hK _ _ br rfl
   ·refine rs fun S a wx K Q hR hK => ?_
    have t89 := hR.q 38
    have y0 := (hR.bel.cell (p := ⟨bl, off + E6, none⟩) hcb).trans g6
    go_simp
    exact hK _ _ br rfl
   ·refine rs fun S a wx K Q hR hK => ?_
    have t1 : a.tmps[1]? = some (.slice (some ⟨bl, off, none⟩) N lc) := hR.o 1
    go_simp
    exact hK _ _ br rfl
   ·refine rs fun S a wx K Q hR hK => ?_
    have t7 : a.tmps[7]? = some (.int .i64 (i : Nat)) := hR.o 7
    go_simp
    exact hK _ _ br rfl
   ·refine rs fun S a wx K Q hR hK => ?_
    have t92 := hR.q 41
    go_simp
    (try go_ints)
    exact hK _ _ br rfl
   ·refine rs fun S a wx K Q hR hK => ?_
    have t91 := hR.q 40
    have t93 := hR.q 42
    go_simp
    exact hK _ _ br rfl
   ·refine rs fun S a wx K Q hR hK => ?_
    have t94 := hR.q 43
    have y0 := (hR.bel.cell (p := ⟨bl, off + E7, none⟩) hcb).trans g7
    go_simp
    exact hK _ _ br rfl
   ·refine rs fun S a wx K Q hR hK => ?_
    have t90 := hR.q 39
    have t95 := hR.q 44
    go_simp
    exact hK _ _ br rfl
   ·refine rs fun S a wx K Q hR hK => ?_
    have t1 : a.tmps[1]? = some (.slice (some ⟨bl, off, none⟩) N lc) := hR.o 1
    go_simp
    exact hK _ _ br rfl
   ·refine rs fun S a wx K Q hR hK => ?_
    have t7 : a.tmps[7]? = some (.int .i64 (i : Nat)) := hR.o 7
    go_simp
    exact hK _ _ br rfl
   ·refine rs fun S a wx K Q hR hK => ?_
    have t98 := hR.q 47
    go_simp
    (try go_ints)
    exact hK _ _ br rfl
   ·refine rs fun S a wx K Q hR hK => ?_
    have t97 := hR.q 46
    have t99 := hR.q 48
    go_simp
    exact hK _ _ br rfl
   ·refine rs fun S a wx K Q hR hK => ?_
    have t100 := hR.q 49
    have y0 := (hR.bel.cell (p := ⟨bl, off + E8, none⟩) hcb).trans g8
    go_simp
    exact hK _ _ br rfl
   ·refine rs fun S a wx K Q hR hK => ?_
    have t101 := hR.q 50
    go_simp
    (try go_ints)
    exact hK _ _ br rfl
   ·refine rs fun S a wx K Q hR hK => ?_
    have t102 := hR.q 51
    go_simp
    go_at_call 113
    refine (dh Y wx (HX.out Y (by simp))).mono ?_
    rintro e w' ⟨rfl, rfl⟩
    exact hK _ _ br rfl
   ·refine rs fun S a wx K Q hR hK => ?_
    have t57 := hR.q 6
    have t63 := hR.q 12
    have t69 := hR.q 18
    have t74 := hR.q 23
    have t85 := hR.q 34
    have t96 := hR.q 45
    have t103 := hR.q 52
    go_simp
    exact hK _ _ br rfl
   ·exact bS _ _ _
   ·refine rs fun S a wx K Q hR hK => ?_
    have t104 := hR.q 53
    go_simp
    exact hK _ _ (br.alloc nl _) ⟨_, _, rfl, hR.new _ nl, heap_alloc_new _ _⟩
   ·refine cK.step rfl (cK.mk rfl rfl (fun a wx K Q hR hK => ?_))
    have t5 : a.tmps[5]? = some (.pointer (some ⟨w.heap.size + 1, 0, none⟩)) := hR.o 5
    go_simp
    exact hK
   ·refine cK.mk rfl rfl (fun a wx K Q hR hK => ?_)
    have t5 : a.tmps[5]? = some (.pointer (some ⟨w.heap.size + 1, 0, none⟩)) := hR.o 5
    go_simp
    exact hK
   ·refine ts fun vs a wx K Q hR hZ hK => ?_
    have t52 := hR.d 1 52
    rw [hR.eqs 1 _ rfl] at t52
    have t105 := hR.d 54 105
    obtain ⟨hbel2, S2, hlow, hof⟩ := hZ
    obtain ⟨g0, T0, ev, hSg, hg⟩ := (show dZ 1 1 #[.int .i64 (aj X0), .int .i64 (aj X1), .int .i64 (aj X2), .int .u64 (X3 : Nat), .int .u64 (X4 : Nat), .int .u64 (X5 : Nat), .int .u64 (X6 : Nat), .int .u64 (X7 : Nat), .int .i64 (aj Y)] S2 (vs 54) wx from hof 54 _ rfl)
    rw [ev] at t105
    have hco := HQ.out
    refine fJ wx (.tmp 52) (.tmp 105) 44 rfl (w.heap.size + 2) 108 i0 _ 9 72 Tryz.underlying44 hi0 hz0 hz1 hz2 rfl (by omega) (.slice sa j sc) j (bD ((cu (ns.drop 1)).take j)) (aI t52) (ownsRow_below hco.own hbel2 nl) _ _ 1 _ _ (aI t105) (zB hg rfl) (by simp [Value.oneCell']) (by unfold maxLen; omega) (by omega) (by have := hbel2.size; have := hco.size; omega) ?_
    intro v2 w2 hown2 hgrow hat
    obtain ⟨sa2, sc2, rfl⟩ := ag hown2
    exact hK _ _ ⟨sa2, sc2, upd_self _ _ _, hco.append hbel2 hgrow hown2⟩
   ·refine ts fun vs a wx K Q hR hZ hK => ?_
    have t107 := hR.d 56 107
    rw [hR.eqs 56 _ rfl] at t107
    have t106 := hR.d 55 106
    obtain ⟨sa2, sc2, ev, hco⟩ := hZ
    rw [ev] at t106
    have c5 : wx.cell? ⟨w.heap.size + 1, 4, none⟩ = some (.slice sa j sc) := by rw [cell_of_row wx _ 4 _ _ _ hco.row]; rfl
    have f5 : wx.frozen? ⟨w.heap.size + 1, 4, none⟩ = false := by rw [frozen_of_row wx _ 4 _ _ hco.row]
    have HS := hid (hco.store 4 (.slice sa2 (j + 1) sc2))
    clear hco ev
    go_simp
    exact hK undef _ ⟨sa2, sc2, HS.out⟩
   intro vs wN hE hZ
   have HZ := hid hZ
   simp only [aP, List.foldl_cons, List.foldl_nil]
   clear hE hZ p4
   generalize vs 54 = vt1
   generalize vs 55 = vt2
   go_simp
   obtain ⟨sa2, sc2, hco⟩ := HZ.out
   have hbz := hco.bel
   have gN := (hbz.cell hbl).trans ((HQ.out.bel.cell hbl).symm.trans g8)
   have HCO : Hid (CO w #[.int .i64 4, .slice none 0 0, .int .i64 0, .int .i64 0, .slice sa2 (j + 1) sc2] 108 9 (.slice sa2 (j + 1) sc2) (j + 1) (bD ((cu (ns.drop 1)).take j) ++ (⟨aj X0, aj X1, aj X2, X3, X4, X5, X6, X7, aj Y⟩ : Ed).vals) wN) := hid hco
   clear hbz hco HZ g0 g1 g2 g3 g4 g5 g6 g7 g8
   by_cases h8 : X8 = 0
   ·subst h8
    obtain ⟨g, hgg⟩ : ∃ g, sa2 = some ⟨g, 0, none⟩ := by
     rcases HCO.out.own.2 with ⟨e, _⟩ | ⟨g, _, _, e, _⟩
     ·injection e with _ e; omega
     ·injection e with e; exact ⟨g, e⟩
    subst hgg
    have qN : wN.cell? ⟨w.heap.size + 1, 4, none⟩ = some (.slice (some ⟨g, 0, none⟩) (j + 1) sc2) := by rw [cell_of_row wN _ 4 _ _ _ HCO.out.row]; rfl
    obtain ⟨k1, k2, _, _⟩ := fG HCO.out.own (j * 9 + 8) (by omega)
    have k3 : wN.cell? ⟨g, j * 9 + 8, none⟩ = some (.int .i64 (aj Y)) := by
     rw [k1, List.getElem?_append_right (by rw [HTL.out]; omega), HTL.out, Nat.add_sub_cancel_left]; rfl
    have n1 : IntKind.i64.wrap (j : Int) = (j : Int) := by rw [IntKind.wrap_i64]; omega
    have n2 : (j : Int) + 1 - 1 = (j : Int) := by omega
    have n3 : (j : Int) < (j : Int) + 1 := by omega
    have n4 : (0 : Int) ≤ (j : Int) := by omega
    have HS : Hid (CO w #[.int .i64 4, .slice none 0 0, .int .i64 0, .int .i64 0, .slice (some ⟨g, 0, none⟩) (j + 1) sc2] 108 9 (.slice (some ⟨g, 0, none⟩) (j + 1) sc2) (j + 1) (bD ((cu (ns.drop 1)).take (j + 1))) (wN.setCell ⟨g, j * 9 + 8, none⟩ (.int .i64 (-1)))) := hid (by
     have h1 := HCO.out.put (j * 9 + 8) (.int .i64 (-1))
     rw [Bz _ _ _ _ HTL.out] at h1
     rw [HT.out, dG]
     have e : bD [jH [X0, X1, X2, X3, X4, X5, X6, X7, 0]] = (⟨aj X0, aj X1, aj X2, X3, X4, X5, X6, X7, -1⟩ : Ed).vals := by simp [bD, jH]
     rw [e]
     exact h1)
    clear k1
    go_wp2_with fail
    go_roundw
    case rel => have hi := HI.out; exact ⟨j + 1, i + 9, _, sc2, by omega, by omega, by go_num, HS⟩
    case measure => simp [intOf]; omega
   ·have t8 : ((X8 : Int) == 0) = false := by simpa using h8
    have t8' : ¬ (X8 : Int) = 0 := by omega
    have HS : Hid (CO w #[.int .i64 4, .slice none 0 0, .int .i64 0, .int .i64 0, .slice sa2 (j + 1) sc2] 108 9 (.slice sa2 (j + 1) sc2) (j + 1) (bD ((cu (ns.drop 1)).take (j + 1))) wN) := hid (by
     rw [HT.out, dG]
     have e : bD [jH [X0, X1, X2, X3, X4, X5, X6, X7, X8]] = (⟨aj X0, aj X1, aj X2, X3, X4, X5, X6, X7, aj Y⟩ : Ed).vals := by simp [bD, jH, h8, HY.out.2 h8]
     rw [e]
     exact HCO.out)
    clear HCO h8
    go_wp2_with fail
    go_roundw
    case rel => have hi := HI.out; exact ⟨j + 1, i + 9, sa2, sc2, by omega, by omega, by go_num, HS⟩
    case measure => simp [intOf]; omega
  ·have HJ : Hid (j = (N - 1) / 9) := hid (by omega)
   clear hi hE8
   have q9 := HQ.out.row
   have g9 := HQ.out.res
   have HE := HQ
   have HC : Hid (bL 4 ns = ⟨4, [], 0, 0, cu (ns.drop 1)⟩) := hid rfl
   have d0 : wr.cell? ⟨w.heap.size + 1, 0, none⟩ = some (.int .i64 4) := by rw [cell_of_row wr _ 0 _ _ _ q9]; rfl
   have d1 : wr.cell? ⟨w.heap.size + 1, 1, none⟩ = some (.slice none 0 0) := by rw [cell_of_row wr _ 1 _ _ _ q9]; rfl
   have d2 : wr.cell? ⟨w.heap.size + 1, 2, none⟩ = some (.int .i64 0) := by rw [cell_of_row wr _ 2 _ _ _ q9]; rfl
   have d3 : wr.cell? ⟨w.heap.size + 1, 3, none⟩ = some (.int .i64 0) := by rw [cell_of_row wr _ 3 _ _ _ q9]; rfl
   have d4 : wr.cell? ⟨w.heap.size + 1, 4, none⟩ = some (.slice sa j sc) := by rw [cell_of_row wr _ 4 _ _ _ q9]; rfl
   have HF : Hid (aX wr (fun b => w.heap.size + 2 ≤ b) true (cu (ns.drop 1)) (.slice sa j sc)) := hid (by
    have h1 := HQ.out.own
    have h2 : (cu (ns.drop 1)).length = j := by have := HN.out; have := HJ.out; rw [mX]; simp; omega
    rw [← h2, List.take_length] at h1
    rw [← h2]
    exact aX.of_owns (T := 108) h1)
   clear q9
   go_wp2_with (refine wpList_store_row rfl 46 (.tmp 4) (.tmp 122) rfl rfl w.heap.size rfl _ rfl 46 _ g9 (by kernel_rfl) rfl (by simp [Value.oneCell']) ?_)
   refine bodyPost_ret (v := .agg #[.int .i64 4, .slice none 0 0, .int .i64 0, .int .i64 0, .slice sa j sc]) (results_cell_row rfl _ _ w.heap.size 46 _ _ _ rfl (setRow_heap _ _ _ _ _ _ g9) Tryz.underlying46 rfl (by kernel_rfl)) rfl ?_
   rw [HC.out]
   exact ⟨_, rfl, ⟨_, _, rfl, bn.nil _ _ _, (HF.out.keep (aC (g := w.heap.size) (fun h => by have h : _ ≤ w.heap.size := h; omega)) (fun b _ hb => by have hb : _ ≤ b := hb; show _ ≤ b; omega))⟩, below_setRow HE.out.bel _ _ nl⟩
theorem tH (S : Nat → Prop) (own : Bool) (k : Int) (ns : List Nat) (v : Value) (w : World) (hr : Sl w S own 1 ns.length (nums ns) v) (hl : ns.length ≤ 1000) (hx : ∀ n ∈ ns, n < 18446744073709551616) :
  Calls Tryz.prog 88 #[.int .i64 k, v] w (lV w (bL k ns)) := by
 by_cases h1 : k = 1
 ·subst h1; exact xZ S own ns v w hr hl hx
 ·by_cases h4 : k = 4
  ·subst h4; exact yf S own ns v w hr hl hx
  ·exact xY S own k ns v w hr hl hx ⟨h1, h4⟩
end Go.Proofs.YtagnalfkmdjajaaGreatDoor
