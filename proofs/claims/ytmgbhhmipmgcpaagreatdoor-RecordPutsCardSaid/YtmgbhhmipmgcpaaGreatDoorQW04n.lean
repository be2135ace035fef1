/- Walks. -/
import Derived.Test.YtmgbhhmipmgcpaaGreatDoorQW04m
set_option maxHeartbeats 1000000
set_option maxRecDepth 100000
namespace Go.Proofs.YtmgbhhmipmgcpaaGreatDoor
open Go.RowKit Go
set_option linter.unusedVariables false
set_option linter.unusedSimpArgs false
theorem bR (w : World) (S : Nat → Prop) (cs : Array Value) (T : TypeId) (n cap : Nat) (hn : n ≤ cs.size) (hm : n ≤ cap) (hS : S w.heap.size) (h63 : n ≤ 1000) : Sl (w.alloc (.cells cs T)) S true 1 n (cs.toList.take n) (.slice (some ⟨w.heap.size, 0, none⟩) n cap) := by
 refine ⟨by simp; omega, by omega, _, _, rfl, hm, fun _ => ⟨_, _, rfl, hS, fun j hj => ?_⟩⟩
 have hj2 : j < cs.size := by simp at hj; omega
 rw [cell_of_row _ _ (0 + j) cs T (0, 0) (heap_alloc_new w _), frozen_of_row _ _ (0 + j) cs T (heap_alloc_new w _)]
 simp [hj2]
theorem eY (w : World) (q : Nat) (hq : q < 256) (T : TypeId) : bM (w.alloc (.cells #[.int .u8 (q : Int)] T)) (fun _ => True) true [q.toUInt8] (.slice (some ⟨w.heap.size, 0, none⟩) 1 1) := by
 have h := bR w (fun _ => True) #[.int .u8 (q : Int)] T 1 1 (by simp) (by omega) trivial (by omega)
 unfold bM
 simpa [bytes, fZ hq] using h
structure aX (w W : World) (wb : Nat) (sv svi : Value) (li : List UInt8) (kb : Nat) (ob ok : Obj) : Prop where
 wr : Wr 111 5 W wb svi li
 wt : Wrote wb sv svi w W
 wb : wb < w.heap.size
 lt : w.heap.size < kb
 box : W.heap[w.heap.size]? = some ob
 kind : W.heap[kb]? = some ok
 far : svi.ownBlock ≠ some w.heap.size ∧ svi.ownBlock ≠ some kb
theorem aX.below {w W W' : World} {wb kb : Nat} {sv svi : Value} {li : List UInt8} {ob ok : Obj} (h : aX w W wb sv svi li kb ob ok) (hb : Below W.heap.size W W') : aX w W' wb sv svi li kb ob ok :=
 ⟨h.wr.below hb, h.wt.trans (Wrote.of_below hb), h.wb, h.lt, (hb.block _ (Array.getElem?_eq_some_iff.1 h.box).1).trans h.box, (hb.block _ (Array.getElem?_eq_some_iff.1 h.kind).1).trans h.kind, h.far⟩
theorem aX.step {w W W' : World} {wb kb : Nat} {sv svi svj : Value} {li lj : List UInt8} {ob ok : Obj} (h : aX w W wb sv svi li kb ob ok) (hw : Wr 111 5 W' wb svj lj) (ht : Wrote wb svi svj W W') : aX w W' wb sv svj lj kb ob ok := by
 have h1 := (Array.getElem?_eq_some_iff.1 h.box).1
 have h2 := (Array.getElem?_eq_some_iff.1 h.kind).1
 have h3 := h.wb
 have h4 := h.lt
 refine ⟨hw, h.wt.trans ht, h.wb, h.lt, (ht.keep _ h1 (by omega) h.far.1).trans h.box, (ht.keep _ h2 (by omega) h.far.2).trans h.kind, ?_⟩
 rcases ht.row with hr | ⟨b, hr, hl⟩
 ·rw [hr]; exact h.far
 ·rw [hr]; simp only [ne_eq, Option.some.injEq]; omega
theorem aX.lts {w W : World} {wb kb : Nat} {sv svi : Value} {li : List UInt8} {ob ok : Obj} (h : aX w W wb sv svi li kb ob ok) : wb < W.heap.size ∧ w.heap.size < W.heap.size ∧ kb < W.heap.size ∧ (∀ k, svi.ownBlock = some k → k < W.heap.size) :=
 ⟨h.wr.lt.1, (Array.getElem?_eq_some_iff.1 h.box).1, (Array.getElem?_eq_some_iff.1 h.kind).1, fun k hk => (h.wr.lt.2 k hk).2⟩
theorem aX.cells {w W : World} {wb kb : Nat} {sv svi : Value} {li : List UInt8} {cs cs' : Array Value} {t t' : TypeId} (h : aX w W wb sv svi li kb (.cells cs t (0, 0)) (.cells cs' t' (0, 0))) : (∀ o, W.cell? ⟨w.heap.size, o, none⟩ = cs[o]?) ∧ (∀ o, W.cell? ⟨kb, o, none⟩ = cs'[o]?) :=
 ⟨fun o => cell_of_row W _ o _ _ _ h.box, fun o => cell_of_row W _ o _ _ _ h.kind⟩
theorem yf (d : Nat) (IH : Hid (∀ (own : Bool) (e : Ex) (v : Value) (wb : Nat) (sv : Value) (l : List UInt8) (w : World), e.depth ≤ d → d ≤ 1000 → e.okR = true → av w (fun b => b < wb) own e v → Wr 111 5 w wb sv l → l.length + 50 * e.size ≤ 500000 →
   Calls Tryz.prog 162 #[v, .pointer (some ⟨wb, 0, none⟩)] w (Wg 111 5 w wb sv (l ++ e.st) (.tuple #[]))))
  (own : Bool) (a b : Nat) (ps : List Ex) (xs : List Value) (ad : Option Addr) (cap wb : Nat) (sv : Value) (l HD : List UInt8) (w : World) (hd : Ex.depths ps ≤ d) (hd2 : d ≤ 1000) (hsz : l.length + 50 * (Ex.sizes ps + 1) ≤ 500000) (HOK : Hid (Ex.okRs ps = true))
  (ha : a < 18446744073709551616) (hb : b < 18446744073709551616) (HS : Hid (Sl w (fun b => b < wb) own 4 ps.length xs (.slice ad ps.length cap) ∧ au w (fun b => b < wb) own ps xs)) (hhl : HD.length ≤ 31) (HE : Hid (HD = [(1:Nat).toUInt8])) (HW : Hid (Wr 111 5 w wb sv l)) :
  Calls Tryz.prog 162 #[.agg #[.int .i64 1, .int .u64 a, .int .u64 b, .slice ad ps.length cap], .pointer (some ⟨wb, 0, none⟩)] w (Wg 111 5 w wb sv (l ++ (HD ++ Ex.sts ps)) (.tuple #[])) := by
 obtain ⟨hxl, hlen, _, _, _, hcap⟩ := HS.out.1.shape
 clear hxl
 have hpl := Ex.length_le_sizes ps
 go_enter Tryz.func162, Tryz.ntmps162
 go_wp2_with fail
 refine (cz 1 _ (by omega) (by omega)).mono ?_
 rintro e1 w1 ⟨hin, hout, hb1⟩
 obtain ⟨blk, hblk, hheap, rfl⟩ := hin (by omega)
 clear hin hout
 have h := (hb1.block w.heap.size (by simp)).trans (aa w _ _ rfl)
 have hz1 := hb1.size
 have hB : Below w.heap.size w w1 := ((Below.refl w.heap.size w).alloc nl _).trans (hb1.mono (by simp))
 have hlt := HW.out.lt
 have HP0 : Hid (aX w (w1.alloc (.cells #[.int .i64 0, .int .i64 0, .int .i64 0, .func (.func 206) #[] #[]] 203)) wb sv sv l w1.heap.size (.cells #[.int .i64 1, .int .u64 a, .int .u64 b, .slice ad ps.length cap] 44) (.cells #[.int .i64 0, .int .i64 0, .int .i64 0, .func (.func 206) #[] #[]] 203)) := by
  refine hid ⟨HW.out.below (hB.alloc (by have := hB.size; omega) _), Wrote.of_below (hB.alloc (by have := hB.size; omega) _), hlt.1, by simp at hz1; omega, ?_, heap_alloc_new _ _, fun e => ?_, fun e => ?_⟩
  ·rw [Below.heap_alloc _ _ _ (by simp at hz1; omega)]; exact h
  ·have := (hlt.2 _ e).2; omega
  ·have := (hlt.2 _ e).2; simp at hz1; omega
 have hbx : ∀ o, w1.cell? ⟨w.heap.size, o, none⟩ = #[.int .i64 1, .int .u64 a, .int .u64 b, .slice ad ps.length cap][o]? := fun o => cell_of_row w1 _ o _ _ _ h
 have hzz : w.heap.size < w1.heap.size := by simp at hz1; omega
 have q0 : fD 1 blk = .func (.func 206) #[] #[] := rfl
 have q1 : bC 1 = 0 := rfl
 have q2 : bi 1 = 0 := rfl
 have q3 : bK 1 = 0 := rfl
 rw [q0, q1, q2, q3]
 clear q0 q1 q2 q3 h hb1 hz1 hheap hB hlt
 go_wp2_with fail
 have hs0 : (w1.alloc (.cells #[.int .i64 0, .int .i64 0, .int .i64 0, .func (.func 206) #[] #[]] 203)).heap.size = w1.heap.size + 1 := by simp
 generalize w1.alloc (.cells #[.int .i64 0, .int .i64 0, .int .i64 0, .func (.func 206) #[] #[]] 203) = W0 at HP0 hs0 ⊢
 generalize w1.heap.size = kb at HP0 hs0 ⊢
 rw [← hs0]
 clear hs0
 have hp1 := HP0.out.below (br.alloc nl (.cells #[.int .u8 1] 5))
 refine (di _ _ wb sv l [(1:Nat).toUInt8] _ _ hp1.wr (eY W0 1 (by omega) 5) (by simp; omega)).mono ?_
 rintro e2 w2 ⟨rfl, sv2, hw2, ht2⟩
 have hp2 := hp1.step hw2 ht2
 clear hbx hzz hp1 hw2 ht2
 obtain ⟨hc1, hc2⟩ := hp2.cells
 obtain ⟨hl1, hl2, hl3, hl4⟩ := hp2.lts
 have HP2 := hid hp2
 clear hp2
 go_wp2_with fail
 have hp3 := HP2.out.below (br.alloc nl (.cells #[.int .u64 a, .int .u64 b] 29))
 refine (aN true wb sv2 (l ++ [(1:Nat).toUInt8]) ([] : List Nat) _ _ hp3.wr (by simpa [nums] using bR w2 _ #[.int .u64 a, .int .u64 b] 29 0 2 (by simp) (by omega) ⟨by omega, fun e => by have := hl4 _ e; omega⟩ (by omega)) (by intro n hn; simp at hn <;> omega) (by simp; omega)).mono ?_
 rintro e3 w3 ⟨rfl, sv3, hw3, ht3⟩
 have hp4 := hp3.step hw3 ht3
 clear hc1 hc2 hl1 hl2 hl3 hl4 hp3 hw3 ht3
 obtain ⟨hc1, hc2⟩ := hp4.cells
 obtain ⟨hl1, hl2, hl3, hl4⟩ := hp4.lts
 have HP4 := hid hp4
 clear hp4
 go_wp2_with fail
 have HE2 : Hid (l ++ ([(1:Nat).toUInt8] ++ ay ([] : List Nat)) = l ++ (HD ++ Ex.sts (ps.take 0))) := hid (by rw [HE.out]; simp [Ex.sts, ay])
 go_loopw [45] (fun i wr => ∃ j : Nat, ∃ svi, j ≤ ps.length ∧ i = .int .i64 j ∧ aX w wr wb sv svi (l ++ (HD ++ Ex.sts (ps.take j))) kb (.cells #[.int .i64 1, .int .u64 a, .int .u64 b, .slice ad ps.length cap] 44) (.cells #[.int .i64 0, .int .i64 0, .int .i64 0, .func (.func 206) #[] #[]] 203)) (fun i _ => ps.length - (intOf i).toNat)
 case atStart => exact ⟨0, _, by omega, rfl, by rw [← HE2.out]; simpa using HP4.out⟩
 case round =>
  obtain ⟨j, svi, hj, rfl, hp⟩ := hrel
  clear hc1 hc2 hl1 hl2 hl3 hl4
  obtain ⟨hl1, hl2, hl3, hl4⟩ := hp.lts
  have HP := hid hp
  clear hp
  by_cases hlt : j < ps.length
  ·have hk : bB (fun b => b < wb) w wr := fun b hb _ => (HP.out.wt.below HW.out).block b hb
   obtain ⟨bl, off, k', a', b', ad', n', cap', rfl, hS, g0, g1, g2, g3, _, ge⟩ := (au.keep hk (fun _ _ h => h) HS.out.2).part (HS.out.1.keep (by omega) hk (fun _ _ h => h)) j hlt
   have hdj := Ex.depths_ge ps j hlt
   have hsj := Ex.sizes_ge ps j hlt
   have PS := hid (Ex.sts_take ps j hlt)
   have hl0 := Ex.sts_length (ps.take j)
   have hls := Ex.sizes_split ps j
   clear hk
   go_wp2_with fail
   have hb2 : Below wr.heap.size wr (wr.alloc (.cells #[.int .i64 k', .int .u64 a', .int .u64 b', .slice ad' n' cap'] 44)) := br.alloc nl _
   have hp5 := HP.out.below hb2
   refine (IH.out _ ps[j] _ wb svi _ _ (by omega) (by omega) (Ex.okRs_get ps j hlt HOK.out) (ge.below hb2 nl) hp5.wr (by simp; omega)).mono ?_
   rintro e6 w6 ⟨rfl, sv6, hw6, ht6⟩
   have HP6 := hid (hp5.step hw6 ht6)
   clear hp5 hw6 ht6
   go_wp2_with fail
   go_roundw
   case rel => exact ⟨j + 1, _, by omega, by go_num, by rw [PS.out, ← List.append_assoc HD, ← List.append_assoc l]; exact HP6.out⟩
   case measure => simp [intOf]; omega
  ·have hj2 : j = ps.length := by omega
   subst hj2
   go_wp2_with fail
   go_end0
   have h := HP.out
   rw [List.take_length] at h
   exact ⟨rfl, _, h.wr, h.wt⟩
theorem yg (d : Nat) (IH : Hid (∀ (own : Bool) (e : Ex) (v : Value) (wb : Nat) (sv : Value) (l : List UInt8) (w : World), e.depth ≤ d → d ≤ 1000 → e.okR = true → av w (fun b => b < wb) own e v → Wr 111 5 w wb sv l → l.length + 50 * e.size ≤ 500000 →
   Calls Tryz.prog 162 #[v, .pointer (some ⟨wb, 0, none⟩)] w (Wg 111 5 w wb sv (l ++ e.st) (.tuple #[]))))
  (own : Bool) (a b : Nat) (ps : List Ex) (xs : List Value) (ad : Option Addr) (cap wb : Nat) (sv : Value) (l HD : List UInt8) (w : World) (hd : Ex.depths ps ≤ d) (hd2 : d ≤ 1000) (hsz : l.length + 50 * (Ex.sizes ps + 1) ≤ 500000) (HOK : Hid (Ex.okRs ps = true))
  (ha : a < 18446744073709551616) (hb : b < 18446744073709551616) (HS : Hid (Sl w (fun b => b < wb) own 4 ps.length xs (.slice ad ps.length cap) ∧ au w (fun b => b < wb) own ps xs)) (hhl : HD.length ≤ 31) (HE : Hid (HD = [(2:Nat).toUInt8] ++ bf a)) (HW : Hid (Wr 111 5 w wb sv l)) :
  Calls Tryz.prog 162 #[.agg #[.int .i64 2, .int .u64 a, .int .u64 b, .slice ad ps.length cap], .pointer (some ⟨wb, 0, none⟩)] w (Wg 111 5 w wb sv (l ++ (HD ++ Ex.sts ps)) (.tuple #[])) := by
 obtain ⟨hxl, hlen, _, _, _, hcap⟩ := HS.out.1.shape
 clear hxl
 have hpl := Ex.length_le_sizes ps
 go_enter Tryz.func162, Tryz.ntmps162
 go_wp2_with fail
 refine (cz 2 _ (by omega) (by omega)).mono ?_
 rintro e1 w1 ⟨hin, hout, hb1⟩
 obtain ⟨blk, hblk, hheap, rfl⟩ := hin (by omega)
 clear hin hout
 have h := (hb1.block w.heap.size (by simp)).trans (aa w _ _ rfl)
 have hz1 := hb1.size
 have hB : Below w.heap.size w w1 := ((Below.refl w.heap.size w).alloc nl _).trans (hb1.mono (by simp))
 have hlt := HW.out.lt
 have HP0 : Hid (aX w (w1.alloc (.cells #[.int .i64 1, .int .i64 0, .int .i64 0, .func (.func 207) #[] #[]] 203)) wb sv sv l w1.heap.size (.cells #[.int .i64 2, .int .u64 a, .int .u64 b, .slice ad ps.length cap] 44) (.cells #[.int .i64 1, .int .i64 0, .int .i64 0, .func (.func 207) #[] #[]] 203)) := by
  refine hid ⟨HW.out.below (hB.alloc (by have := hB.size; omega) _), Wrote.of_below (hB.alloc (by have := hB.size; omega) _), hlt.1, by simp at hz1; omega, ?_, heap_alloc_new _ _, fun e => ?_, fun e => ?_⟩
  ·rw [Below.heap_alloc _ _ _ (by simp at hz1; omega)]; exact h
  ·have := (hlt.2 _ e).2; omega
  ·have := (hlt.2 _ e).2; simp at hz1; omega
 have hbx : ∀ o, w1.cell? ⟨w.heap.size, o, none⟩ = #[.int .i64 2, .int .u64 a, .int .u64 b, .slice ad ps.length cap][o]? := fun o => cell_of_row w1 _ o _ _ _ h
 have hzz : w.heap.size < w1.heap.size := by simp at hz1; omega
 have q0 : fD 2 blk = .func (.func 207) #[] #[] := rfl
 have q1 : bC 2 = 1 := rfl
 have q2 : bi 2 = 0 := rfl
 have q3 : bK 2 = 0 := rfl
 rw [q0, q1, q2, q3]
 clear q0 q1 q2 q3 h hb1 hz1 hheap hB hlt
 go_wp2_with fail
 have hs0 : (w1.alloc (.cells #[.int .i64 1, .int .i64 0, .int .i64 0, .func (.func 207) #[] #[]] 203)).heap.size = w1.heap.size + 1 := by simp
 generalize w1.alloc (.cells #[.int .i64 1, .int .i64 0, .int .i64 0, .func (.func 207) #[] #[]] 203) = W0 at HP0 hs0 ⊢
 generalize w1.heap.size = kb at HP0 hs0 ⊢
 rw [← hs0]
 clear hs0
 have hp1 := HP0.out.below (br.alloc nl (.cells #[.int .u8 2] 5))
 refine (di _ _ wb sv l [(2:Nat).toUInt8] _ _ hp1.wr (eY W0 2 (by omega) 5) (by simp; omega)).mono ?_
 rintro e2 w2 ⟨rfl, sv2, hw2, ht2⟩
 have hp2 := hp1.step hw2 ht2
 clear hbx hzz hp1 hw2 ht2
 obtain ⟨hc1, hc2⟩ := hp2.cells
 obtain ⟨hl1, hl2, hl3, hl4⟩ := hp2.lts
 have HP2 := hid hp2
 clear hp2
 go_wp2_with fail
 have hp3 := HP2.out.below (br.alloc nl (.cells #[.int .u64 a, .int .u64 b] 29))
 refine (aN true wb sv2 (l ++ [(2:Nat).toUInt8]) [a] _ _ hp3.wr (by simpa [nums] using bR w2 _ #[.int .u64 a, .int .u64 b] 29 1 2 (by simp) (by omega) ⟨by omega, fun e => by have := hl4 _ e; omega⟩ (by omega)) (by intro n hn; simp at hn <;> omega) (by simp; omega)).mono ?_
 rintro e3 w3 ⟨rfl, sv3, hw3, ht3⟩
 have hp4 := hp3.step hw3 ht3
 clear hc1 hc2 hl1 hl2 hl3 hl4 hp3 hw3 ht3
 obtain ⟨hc1, hc2⟩ := hp4.cells
 obtain ⟨hl1, hl2, hl3, hl4⟩ := hp4.lts
 have HP4 := hid hp4
 clear hp4
 go_wp2_with fail
 have HE2 : Hid (l ++ ([(2:Nat).toUInt8] ++ ay [a]) = l ++ (HD ++ Ex.sts (ps.take 0))) := hid (by rw [HE.out]; simp [Ex.sts, ay])
 go_loopw [45] (fun i wr => ∃ j : Nat, ∃ svi, j ≤ ps.length ∧ i = .int .i64 j ∧ aX w wr wb sv svi (l ++ (HD ++ Ex.sts (ps.take j))) kb (.cells #[.int .i64 2, .int .u64 a, .int .u64 b, .slice ad ps.length cap] 44) (.cells #[.int .i64 1, .int .i64 0, .int .i64 0, .func (.func 207) #[] #[]] 203)) (fun i _ => ps.length - (intOf i).toNat)
 case atStart => exact ⟨0, _, by omega, rfl, by rw [← HE2.out]; simpa using HP4.out⟩
 case round =>
  obtain ⟨j, svi, hj, rfl, hp⟩ := hrel
  clear hc1 hc2 hl1 hl2 hl3 hl4
  obtain ⟨hl1, hl2, hl3, hl4⟩ := hp.lts
  have HP := hid hp
  clear hp
  by_cases hlt : j < ps.length
  ·have hk : bB (fun b => b < wb) w wr := fun b hb _ => (HP.out.wt.below HW.out).block b hb
   obtain ⟨bl, off, k', a', b', ad', n', cap', rfl, hS, g0, g1, g2, g3, _, ge⟩ := (au.keep hk (fun _ _ h => h) HS.out.2).part (HS.out.1.keep (by omega) hk (fun _ _ h => h)) j hlt
   have hdj := Ex.depths_ge ps j hlt
   have hsj := Ex.sizes_ge ps j hlt
   have PS := hid (Ex.sts_take ps j hlt)
   have hl0 := Ex.sts_length (ps.take j)
   have hls := Ex.sizes_split ps j
   clear hk
   go_wp2_with fail
   have hb2 : Below wr.heap.size wr (wr.alloc (.cells #[.int .i64 k', .int .u64 a', .int .u64 b', .slice ad' n' cap'] 44)) := br.alloc nl _
   have hp5 := HP.out.below hb2
   refine (IH.out _ ps[j] _ wb svi _ _ (by omega) (by omega) (Ex.okRs_get ps j hlt HOK.out) (ge.below hb2 nl) hp5.wr (by simp; omega)).mono ?_
   rintro e6 w6 ⟨rfl, sv6, hw6, ht6⟩
   have HP6 := hid (hp5.step hw6 ht6)
   clear hp5 hw6 ht6
   go_wp2_with fail
   go_roundw
   case rel => exact ⟨j + 1, _, by omega, by go_num, by rw [PS.out, ← List.append_assoc HD, ← List.append_assoc l]; exact HP6.out⟩
   case measure => simp [intOf]; omega
  ·have hj2 : j = ps.length := by omega
   subst hj2
   go_wp2_with fail
   go_end0
   have h := HP.out
   rw [List.take_length] at h
   exact ⟨rfl, _, h.wr, h.wt⟩
theorem yh (d : Nat) (IH : Hid (∀ (own : Bool) (e : Ex) (v : Value) (wb : Nat) (sv : Value) (l : List UInt8) (w : World), e.depth ≤ d → d ≤ 1000 → e.okR = true → av w (fun b => b < wb) own e v → Wr 111 5 w wb sv l → l.length + 50 * e.size ≤ 500000 →
   Calls Tryz.prog 162 #[v, .pointer (some ⟨wb, 0, none⟩)] w (Wg 111 5 w wb sv (l ++ e.st) (.tuple #[]))))
  (own : Bool) (a b : Nat) (ps : List Ex) (xs : List Value) (ad : Option Addr) (cap wb : Nat) (sv : Value) (l HD : List UInt8) (w : World) (hd : Ex.depths ps ≤ d) (hd2 : d ≤ 1000) (hsz : l.length + 50 * (Ex.sizes ps + 1) ≤ 500000) (HOK : Hid (Ex.okRs ps = true))
  (ha : a < 18446744073709551616) (hb : b < 18446744073709551616) (HS : Hid (Sl w (fun b => b < wb) own 4 ps.length xs (.slice ad ps.length cap) ∧ au w (fun b => b < wb) own ps xs)) (hhl : HD.length ≤ 31) (HE : Hid (HD = [(3:Nat).toUInt8] ++ bf a)) (HW : Hid (Wr 111 5 w wb sv l)) :
  Calls Tryz.prog 162 #[.agg #[.int .i64 3, .int .u64 a, .int .u64 b, .slice ad ps.length cap], .pointer (some ⟨wb, 0, none⟩)] w (Wg 111 5 w wb sv (l ++ (HD ++ Ex.sts ps)) (.tuple #[])) := by
 obtain ⟨hxl, hlen, _, _, _, hcap⟩ := HS.out.1.shape
 clear hxl
 have hpl := Ex.length_le_sizes ps
 go_enter Tryz.func162, Tryz.ntmps162
 go_wp2_with fail
 refine (cz 3 _ (by omega) (by omega)).mono ?_
 rintro e1 w1 ⟨hin, hout, hb1⟩
 obtain ⟨blk, hblk, hheap, rfl⟩ := hin (by omega)
 clear hin hout
 have h := (hb1.block w.heap.size (by simp)).trans (aa w _ _ rfl)
 have hz1 := hb1.size
 have hB : Below w.heap.size w w1 := ((Below.refl w.heap.size w).alloc nl _).trans (hb1.mono (by simp))
 have hlt := HW.out.lt
 have HP0 : Hid (aX w (w1.alloc (.cells #[.int .i64 1, .int .i64 0, .int .i64 0, .func (.func 208) #[] #[]] 203)) wb sv sv l w1.heap.size (.cells #[.int .i64 3, .int .u64 a, .int .u64 b, .slice ad ps.length cap] 44) (.cells #[.int .i64 1, .int .i64 0, .int .i64 0, .func (.func 208) #[] #[]] 203)) := by
  refine hid ⟨HW.out.below (hB.alloc (by have := hB.size; omega) _), Wrote.of_below (hB.alloc (by have := hB.size; omega) _), hlt.1, by simp at hz1; omega, ?_, heap_alloc_new _ _, fun e => ?_, fun e => ?_⟩
  ·rw [Below.heap_alloc _ _ _ (by simp at hz1; omega)]; exact h
  ·have := (hlt.2 _ e).2; omega
  ·have := (hlt.2 _ e).2; simp at hz1; omega
 have hbx : ∀ o, w1.cell? ⟨w.heap.size, o, none⟩ = #[.int .i64 3, .int .u64 a, .int .u64 b, .slice ad ps.length cap][o]? := fun o => cell_of_row w1 _ o _ _ _ h
 have hzz : w.heap.size < w1.heap.size := by simp at hz1; omega
 have q0 : fD 3 blk = .func (.func 208) #[] #[] := rfl
 have q1 : bC 3 = 1 := rfl
 have q2 : bi 3 = 0 := rfl
 have q3 : bK 3 = 0 := rfl
 rw [q0, q1, q2, q3]
 clear q0 q1 q2 q3 h hb1 hz1 hheap hB hlt
 go_wp2_with fail
 have hs0 : (w1.alloc (.cells #[.int .i64 1, .int .i64 0, .int .i64 0, .func (.func 208) #[] #[]] 203)).heap.size = w1.heap.size + 1 := by simp
 generalize w1.alloc (.cells #[.int .i64 1, .int .i64 0, .int .i64 0, .func (.func 208) #[] #[]] 203) = W0 at HP0 hs0 ⊢
 generalize w1.heap.size = kb at HP0 hs0 ⊢
 rw [← hs0]
 clear hs0
 have hp1 := HP0.out.below (br.alloc nl (.cells #[.int .u8 3] 5))
 refine (di _ _ wb sv l [(3:Nat).toUInt8] _ _ hp1.wr (eY W0 3 (by omega) 5) (by simp; omega)).mono ?_
 rintro e2 w2 ⟨rfl, sv2, hw2, ht2⟩
 have hp2 := hp1.step hw2 ht2
 clear hbx hzz hp1 hw2 ht2
 obtain ⟨hc1, hc2⟩ := hp2.cells
 obtain ⟨hl1, hl2, hl3, hl4⟩ := hp2.lts
 have HP2 := hid hp2
 clear hp2
 go_wp2_with fail
 have hp3 := HP2.out.below (br.alloc nl (.cells #[.int .u64 a, .int .u64 b] 29))
 refine (aN true wb sv2 (l ++ [(3:Nat).toUInt8]) [a] _ _ hp3.wr (by simpa [nums] using bR w2 _ #[.int .u64 a, .int .u64 b] 29 1 2 (by simp) (by omega) ⟨by omega, fun e => by have := hl4 _ e; omega⟩ (by omega)) (by intro n hn; simp at hn <;> omega) (by simp; omega)).mono ?_
 rintro e3 w3 ⟨rfl, sv3, hw3, ht3⟩
 have hp4 := hp3.step hw3 ht3
 clear hc1 hc2 hl1 hl2 hl3 hl4 hp3 hw3 ht3
 obtain ⟨hc1, hc2⟩ := hp4.cells
 obtain ⟨hl1, hl2, hl3, hl4⟩ := hp4.lts
 have HP4 := hid hp4
 clear hp4
 go_wp2_with fail
 have HE2 : Hid (l ++ ([(3:Nat).toUInt8] ++ ay [a]) = l ++ (HD ++ Ex.sts (ps.take 0))) := hid (by rw [HE.out]; simp [Ex.sts, ay])
 go_loopw [45] (fun i wr => ∃ j : Nat, ∃ svi, j ≤ ps.length ∧ i = .int .i64 j ∧ aX w wr wb sv svi (l ++ (HD ++ Ex.sts (ps.take j))) kb (.cells #[.int .i64 3, .int .u64 a, .int .u64 b, .slice ad ps.length cap] 44) (.cells #[.int .i64 1, .int .i64 0, .int .i64 0, .func (.func 208) #[] #[]] 203)) (fun i _ => ps.length - (intOf i).toNat)
 case atStart => exact ⟨0, _, by omega, rfl, by rw [← HE2.out]; simpa using HP4.out⟩
 case round =>
  obtain ⟨j, svi, hj, rfl, hp⟩ := hrel
  clear hc1 hc2 hl1 hl2 hl3 hl4
  obtain ⟨hl1, hl2, hl3, hl4⟩ := hp.lts
  have HP := hid hp
  clear hp
  by_cases hlt : j < ps.length
  ·have hk : bB (fun b => b < wb) w wr := fun b hb _ => (HP.out.wt.below HW.out).block b hb
   obtain ⟨bl, off, k', a', b', ad', n', cap', rfl, hS, g0, g1, g2, g3, _, ge⟩ := (au.keep hk (fun _ _ h => h) HS.out.2).part (HS.out.1.keep (by omega) hk (fun _ _ h => h)) j hlt
   have hdj := Ex.depths_ge ps j hlt
   have hsj := Ex.sizes_ge ps j hlt
   have PS := hid (Ex.sts_take ps j hlt)
   have hl0 := Ex.sts_length (ps.take j)
   have hls := Ex.sizes_split ps j
   clear hk
   go_wp2_with fail
   have hb2 : Below wr.heap.size wr (wr.alloc (.cells #[.int .i64 k', .int .u64 a', .int .u64 b', .slice ad' n' cap'] 44)) := br.alloc nl _
   have hp5 := HP.out.below hb2
   refine (IH.out _ ps[j] _ wb svi _ _ (by omega) (by omega) (Ex.okRs_get ps j hlt HOK.out) (ge.below hb2 nl) hp5.wr (by simp; omega)).mono ?_
   rintro e6 w6 ⟨rfl, sv6, hw6, ht6⟩
   have HP6 := hid (hp5.step hw6 ht6)
   clear hp5 hw6 ht6
   go_wp2_with fail
   go_roundw
   case rel => exact ⟨j + 1, _, by omega, by go_num, by rw [PS.out, ← List.append_assoc HD, ← List.append_assoc l]; exact HP6.out⟩
   case measure => simp [intOf]; omega
  ·have hj2 : j = ps.length := by omega
   subst hj2
   go_wp2_with fail
   go_end0
   have h := HP.out
   rw [List.take_length] at h
   exact ⟨rfl, _, h.wr, h.wt⟩
theorem yj (d : Nat) (IH : Hid (∀ (own : Bool) (e : Ex) (v : Value) (wb : Nat) (sv : Value) (l : List UInt8) (w : World), e.depth ≤ d → d ≤ 1000 → e.okR = true → av w (fun b => b < wb) own e v → Wr 111 5 w wb sv l → l.length + 50 * e.size ≤ 500000 →
   Calls Tryz.prog 162 #[v, .pointer (some ⟨wb, 0, none⟩)] w (Wg 111 5 w wb sv (l ++ e.st) (.tuple #[]))))
  (own : Bool) (a b : Nat) (ps : List Ex) (xs : List Value) (ad : Option Addr) (cap wb : Nat) (sv : Value) (l HD : List UInt8) (w : World) (hd : Ex.depths ps ≤ d) (hd2 : d ≤ 1000) (hsz : l.length + 50 * (Ex.sizes ps + 1) ≤ 500000) (HOK : Hid (Ex.okRs ps = true))
  (ha : a < 18446744073709551616) (hb : b < 18446744073709551616) (HS : Hid (Sl w (fun b => b < wb) own 4 ps.length xs (.slice ad ps.length cap) ∧ au w (fun b => b < wb) own ps xs)) (hhl : HD.length ≤ 31) (HE : Hid (HD = [(4:Nat).toUInt8] ++ bf a ++ bf b)) (HW : Hid (Wr 111 5 w wb sv l)) :
  Calls Tryz.prog 162 #[.agg #[.int .i64 4, .int .u64 a, .int .u64 b, .slice ad ps.length cap], .pointer (some ⟨wb, 0, none⟩)] w (Wg 111 5 w wb sv (l ++ (HD ++ Ex.sts ps)) (.tuple #[])) := by
 obtain ⟨hxl, hlen, _, _, _, hcap⟩ := HS.out.1.shape
 clear hxl
 have hpl := Ex.length_le_sizes ps
 go_enter Tryz.func162, Tryz.ntmps162
 go_wp2_with fail
 refine (cz 4 _ (by omega) (by omega)).mono ?_
 rintro e1 w1 ⟨hin, hout, hb1⟩
 obtain ⟨blk, hblk, hheap, rfl⟩ := hin (by omega)
 clear hin hout
 have h := (hb1.block w.heap.size (by simp)).trans (aa w _ _ rfl)
 have hz1 := hb1.size
 have hB : Below w.heap.size w w1 := ((Below.refl w.heap.size w).alloc nl _).trans (hb1.mono (by simp))
 have hlt := HW.out.lt
 have HP0 : Hid (aX w (w1.alloc (.cells #[.int .i64 2, .int .i64 0, .int .i64 0, .func (.func 209) #[] #[]] 203)) wb sv sv l w1.heap.size (.cells #[.int .i64 4, .int .u64 a, .int .u64 b, .slice ad ps.length cap] 44) (.cells #[.int .i64 2, .int .i64 0, .int .i64 0, .func (.func 209) #[] #[]] 203)) := by
  refine hid ⟨HW.out.below (hB.alloc (by have := hB.size; omega) _), Wrote.of_below (hB.alloc (by have := hB.size; omega) _), hlt.1, by simp at hz1; omega, ?_, heap_alloc_new _ _, fun e => ?_, fun e => ?_⟩
  ·rw [Below.heap_alloc _ _ _ (by simp at hz1; omega)]; exact h
  ·have := (hlt.2 _ e).2; omega
  ·have := (hlt.2 _ e).2; simp at hz1; omega
 have hbx : ∀ o, w1.cell? ⟨w.heap.size, o, none⟩ = #[.int .i64 4, .int .u64 a, .int .u64 b, .slice ad ps.length cap][o]? := fun o => cell_of_row w1 _ o _ _ _ h
 have hzz : w.heap.size < w1.heap.size := by simp at hz1; omega
 have q0 : fD 4 blk = .func (.func 209) #[] #[] := rfl
 have q1 : bC 4 = 2 := rfl
 have q2 : bi 4 = 0 := rfl
 have q3 : bK 4 = 0 := rfl
 rw [q0, q1, q2, q3]
 clear q0 q1 q2 q3 h hb1 hz1 hheap hB hlt
 go_wp2_with fail
 have hs0 : (w1.alloc (.cells #[.int .i64 2, .int .i64 0, .int .i64 0, .func (.func 209) #[] #[]] 203)).heap.size = w1.heap.size + 1 := by simp
 generalize w1.alloc (.cells #[.int .i64 2, .int .i64 0, .int .i64 0, .func (.func 209) #[] #[]] 203) = W0 at HP0 hs0 ⊢
 generalize w1.heap.size = kb at HP0 hs0 ⊢
 rw [← hs0]
 clear hs0
 have hp1 := HP0.out.below (br.alloc nl (.cells #[.int .u8 4] 5))
 refine (di _ _ wb sv l [(4:Nat).toUInt8] _ _ hp1.wr (eY W0 4 (by omega) 5) (by simp; omega)).mono ?_
 rintro e2 w2 ⟨rfl, sv2, hw2, ht2⟩
 have hp2 := hp1.step hw2 ht2
 clear hbx hzz hp1 hw2 ht2
 obtain ⟨hc1, hc2⟩ := hp2.cells
 obtain ⟨hl1, hl2, hl3, hl4⟩ := hp2.lts
 have HP2 := hid hp2
 clear hp2
 go_wp2_with fail
 have hp3 := HP2.out.below (br.alloc nl (.cells #[.int .u64 a, .int .u64 b] 29))
 refine (aN true wb sv2 (l ++ [(4:Nat).toUInt8]) [a, b] _ _ hp3.wr (by simpa [nums] using bR w2 _ #[.int .u64 a, .int .u64 b] 29 2 2 (by simp) (by omega) ⟨by omega, fun e => by have := hl4 _ e; omega⟩ (by omega)) (by intro n hn; simp at hn <;> omega) (by simp; omega)).mono ?_
 rintro e3 w3 ⟨rfl, sv3, hw3, ht3⟩
 have hp4 := hp3.step hw3 ht3
 clear hc1 hc2 hl1 hl2 hl3 hl4 hp3 hw3 ht3
 obtain ⟨hc1, hc2⟩ := hp4.cells
 obtain ⟨hl1, hl2, hl3, hl4⟩ := hp4.lts
 have HP4 := hid hp4
 clear hp4
 go_wp2_with fail
 have HE2 : Hid (l ++ ([(4:Nat).toUInt8] ++ ay [a, b]) = l ++ (HD ++ Ex.sts (ps.take 0))) := hid (by rw [HE.out]; simp [Ex.sts, ay])
 go_loopw [45] (fun i wr => ∃ j : Nat, ∃ svi, j ≤ ps.length ∧ i = .int .i64 j ∧ aX w wr wb sv svi (l ++ (HD ++ Ex.sts (ps.take j))) kb (.cells #[.int .i64 4, .int .u64 a, .int .u64 b, .slice ad ps.length cap] 44) (.cells #[.int .i64 2, .int .i64 0, .int .i64 0, .func (.func 209) #[] #[]] 203)) (fun i _ => ps.length - (intOf i).toNat)
 case atStart => exact ⟨0, _, by omega, rfl, by rw [← HE2.out]; simpa using HP4.out⟩
 case round =>
  obtain ⟨j, svi, hj, rfl, hp⟩ := hrel
  clear hc1 hc2 hl1 hl2 hl3 hl4
  obtain ⟨hl1, hl2, hl3, hl4⟩ := hp.lts
  have HP := hid hp
  clear hp
  by_cases hlt : j < ps.length
  ·have hk : bB (fun b => b < wb) w wr := fun b hb _ => (HP.out.wt.below HW.out).block b hb
   obtain ⟨bl, off, k', a', b', ad', n', cap', rfl, hS, g0, g1, g2, g3, _, ge⟩ := (au.keep hk (fun _ _ h => h) HS.out.2).part (HS.out.1.keep (by omega) hk (fun _ _ h => h)) j hlt
   have hdj := Ex.depths_ge ps j hlt
   have hsj := Ex.sizes_ge ps j hlt
   have PS := hid (Ex.sts_take ps j hlt)
   have hl0 := Ex.sts_length (ps.take j)
   have hls := Ex.sizes_split ps j
   clear hk
   go_wp2_with fail
   have hb2 : Below wr.heap.size wr (wr.alloc (.cells #[.int .i64 k', .int .u64 a', .int .u64 b', .slice ad' n' cap'] 44)) := br.alloc nl _
   have hp5 := HP.out.below hb2
   refine (IH.out _ ps[j] _ wb svi _ _ (by omega) (by omega) (Ex.okRs_get ps j hlt HOK.out) (ge.below hb2 nl) hp5.wr (by simp; omega)).mono ?_
   rintro e6 w6 ⟨rfl, sv6, hw6, ht6⟩
   have HP6 := hid (hp5.step hw6 ht6)
   clear hp5 hw6 ht6
   go_wp2_with fail
   go_roundw
   case rel => exact ⟨j + 1, _, by omega, by go_num, by rw [PS.out, ← List.append_assoc HD, ← List.append_assoc l]; exact HP6.out⟩
   case measure => simp [intOf]; omega
  ·have hj2 : j = ps.length := by omega
   subst hj2
   go_wp2_with fail
   go_end0
   have h := HP.out
   rw [List.take_length] at h
   exact ⟨rfl, _, h.wr, h.wt⟩
theorem yl (d : Nat) (IH : Hid (∀ (own : Bool) (e : Ex) (v : Value) (wb : Nat) (sv : Value) (l : List UInt8) (w : World), e.depth ≤ d → d ≤ 1000 → e.okR = true → av w (fun b => b < wb) own e v → Wr 111 5 w wb sv l → l.length + 50 * e.size ≤ 500000 →
   Calls Tryz.prog 162 #[v, .pointer (some ⟨wb, 0, none⟩)] w (Wg 111 5 w wb sv (l ++ e.st) (.tuple #[]))))
  (own : Bool) (a b : Nat) (ps : List Ex) (xs : List Value) (ad : Option Addr) (cap wb : Nat) (sv : Value) (l HD : List UInt8) (w : World) (hd : Ex.depths ps ≤ d) (hd2 : d ≤ 1000) (hsz : l.length + 50 * (Ex.sizes ps + 1) ≤ 500000) (HOK : Hid (Ex.okRs ps = true))
  (ha : a < 18446744073709551616) (hb : b < 18446744073709551616) (HS : Hid (Sl w (fun b => b < wb) own 4 ps.length xs (.slice ad ps.length cap) ∧ au w (fun b => b < wb) own ps xs)) (hhl : HD.length ≤ 31) (HE : Hid (HD = [(5:Nat).toUInt8])) (HW : Hid (Wr 111 5 w wb sv l)) :
  Calls Tryz.prog 162 #[.agg #[.int .i64 5, .int .u64 a, .int .u64 b, .slice ad ps.length cap], .pointer (some ⟨wb, 0, none⟩)] w (Wg 111 5 w wb sv (l ++ (HD ++ Ex.sts ps)) (.tuple #[])) := by
 obtain ⟨hxl, hlen, _, _, _, hcap⟩ := HS.out.1.shape
 clear hxl
 have hpl := Ex.length_le_sizes ps
 go_enter Tryz.func162, Tryz.ntmps162
 go_wp2_with fail
 refine (cz 5 _ (by omega) (by omega)).mono ?_
 rintro e1 w1 ⟨hin, hout, hb1⟩
 obtain ⟨blk, hblk, hheap, rfl⟩ := hin (by omega)
 clear hin hout
 have h := (hb1.block w.heap.size (by simp)).trans (aa w _ _ rfl)
 have hz1 := hb1.size
 have hB : Below w.heap.size w w1 := ((Below.refl w.heap.size w).alloc nl _).trans (hb1.mono (by simp))
 have hlt := HW.out.lt
 have HP0 : Hid (aX w (w1.alloc (.cells #[.int .i64 0, .int .i64 1, .int .i64 1, .func (.func 210) #[] #[.pointer (some ⟨blk, 0, none⟩)]] 203)) wb sv sv l w1.heap.size (.cells #[.int .i64 5, .int .u64 a, .int .u64 b, .slice ad ps.length cap] 44) (.cells #[.int .i64 0, .int .i64 1, .int .i64 1, .func (.func 210) #[] #[.pointer (some ⟨blk, 0, none⟩)]] 203)) := by
  refine hid ⟨HW.out.below (hB.alloc (by have := hB.size; omega) _), Wrote.of_below (hB.alloc (by have := hB.size; omega) _), hlt.1, by simp at hz1; omega, ?_, heap_alloc_new _ _, fun e => ?_, fun e => ?_⟩
  ·rw [Below.heap_alloc _ _ _ (by simp at hz1; omega)]; exact h
  ·have := (hlt.2 _ e).2; omega
  ·have := (hlt.2 _ e).2; simp at hz1; omega
 have hbx : ∀ o, w1.cell? ⟨w.heap.size, o, none⟩ = #[.int .i64 5, .int .u64 a, .int .u64 b, .slice ad ps.length cap][o]? := fun o => cell_of_row w1 _ o _ _ _ h
 have hzz : w.heap.size < w1.heap.size := by simp at hz1; omega
 have q0 : fD 5 blk = .func (.func 210) #[] #[.pointer (some ⟨blk, 0, none⟩)] := rfl
 have q1 : bC 5 = 0 := rfl
 have q2 : bi 5 = 1 := rfl
 have q3 : bK 5 = 1 := rfl
 rw [q0, q1, q2, q3]
 clear q0 q1 q2 q3 h hb1 hz1 hheap hB hlt
 go_wp2_with fail
 have hs0 : (w1.alloc (.cells #[.int .i64 0, .int .i64 1, .int .i64 1, .func (.func 210) #[] #[.pointer (some ⟨blk, 0, none⟩)]] 203)).heap.size = w1.heap.size + 1 := by simp
 generalize w1.alloc (.cells #[.int .i64 0, .int .i64 1, .int .i64 1, .func (.func 210) #[] #[.pointer (some ⟨blk, 0, none⟩)]] 203) = W0 at HP0 hs0 ⊢
 generalize w1.heap.size = kb at HP0 hs0 ⊢
 rw [← hs0]
 clear hs0
 have hp1 := HP0.out.below (br.alloc nl (.cells #[.int .u8 5] 5))
 refine (di _ _ wb sv l [(5:Nat).toUInt8] _ _ hp1.wr (eY W0 5 (by omega) 5) (by simp; omega)).mono ?_
 rintro e2 w2 ⟨rfl, sv2, hw2, ht2⟩
 have hp2 := hp1.step hw2 ht2
 clear hbx hzz hp1 hw2 ht2
 obtain ⟨hc1, hc2⟩ := hp2.cells
 obtain ⟨hl1, hl2, hl3, hl4⟩ := hp2.lts
 have HP2 := hid hp2
 clear hp2
 go_wp2_with fail
 have hp3 := HP2.out.below (br.alloc nl (.cells #[.int .u64 a, .int .u64 b] 29))
 refine (aN true wb sv2 (l ++ [(5:Nat).toUInt8]) ([] : List Nat) _ _ hp3.wr (by simpa [nums] using bR w2 _ #[.int .u64 a, .int .u64 b] 29 0 2 (by simp) (by omega) ⟨by omega, fun e => by have := hl4 _ e; omega⟩ (by omega)) (by intro n hn; simp at hn <;> omega) (by simp; omega)).mono ?_
 rintro e3 w3 ⟨rfl, sv3, hw3, ht3⟩
 have hp4 := hp3.step hw3 ht3
 clear hc1 hc2 hl1 hl2 hl3 hl4 hp3 hw3 ht3
 obtain ⟨hc1, hc2⟩ := hp4.cells
 obtain ⟨hl1, hl2, hl3, hl4⟩ := hp4.lts
 have HP4 := hid hp4
 clear hp4
 go_wp2_with fail
 have HE2 : Hid (l ++ ([(5:Nat).toUInt8] ++ ay ([] : List Nat)) = l ++ (HD ++ Ex.sts (ps.take 0))) := hid (by rw [HE.out]; simp [Ex.sts, ay])
 go_loopw [45] (fun i wr => ∃ j : Nat, ∃ svi, j ≤ ps.length ∧ i = .int .i64 j ∧ aX w wr wb sv svi (l ++ (HD ++ Ex.sts (ps.take j))) kb (.cells #[.int .i64 5, .int .u64 a, .int .u64 b, .slice ad ps.length cap] 44) (.cells #[.int .i64 0, .int .i64 1, .int .i64 1, .func (.func 210) #[] #[.pointer (some ⟨blk, 0, none⟩)]] 203)) (fun i _ => ps.length - (intOf i).toNat)
 case atStart => exact ⟨0, _, by omega, rfl, by rw [← HE2.out]; simpa using HP4.out⟩
 case round =>
  obtain ⟨j, svi, hj, rfl, hp⟩ := hrel
  clear hc1 hc2 hl1 hl2 hl3 hl4
  obtain ⟨hl1, hl2, hl3, hl4⟩ := hp.lts
  have HP := hid hp
  clear hp
  by_cases hlt : j < ps.length
  ·have hk : bB (fun b => b < wb) w wr := fun b hb _ => (HP.out.wt.below HW.out).block b hb
   obtain ⟨bl, off, k', a', b', ad', n', cap', rfl, hS, g0, g1, g2, g3, _, ge⟩ := (au.keep hk (fun _ _ h => h) HS.out.2).part (HS.out.1.keep (by omega) hk (fun _ _ h => h)) j hlt
   have hdj := Ex.depths_ge ps j hlt
   have hsj := Ex.sizes_ge ps j hlt
   have PS := hid (Ex.sts_take ps j hlt)
   have hl0 := Ex.sts_length (ps.take j)
   have hls := Ex.sizes_split ps j
   clear hk
   go_wp2_with fail
   have hb2 : Below wr.heap.size wr (wr.alloc (.cells #[.int .i64 k', .int .u64 a', .int .u64 b', .slice ad' n' cap'] 44)) := br.alloc nl _
   have hp5 := HP.out.below hb2
   refine (IH.out _ ps[j] _ wb svi _ _ (by omega) (by omega) (Ex.okRs_get ps j hlt HOK.out) (ge.below hb2 nl) hp5.wr (by simp; omega)).mono ?_
   rintro e6 w6 ⟨rfl, sv6, hw6, ht6⟩
   have HP6 := hid (hp5.step hw6 ht6)
   clear hp5 hw6 ht6
   go_wp2_with fail
   go_roundw
   case rel => exact ⟨j + 1, _, by omega, by go_num, by rw [PS.out, ← List.append_assoc HD, ← List.append_assoc l]; exact HP6.out⟩
   case measure => simp [intOf]; omega
  ·have hj2 : j = ps.length := by omega
   subst hj2
   go_wp2_with fail
   go_end0
   have h := HP.out
   rw [List.take_length] at h
   exact ⟨rfl, _, h.wr, h.wt⟩
theorem ym (d : Nat) (IH : Hid (∀ (own : Bool) (e : Ex) (v : Value) (wb : Nat) (sv : Value) (l : List UInt8) (w : World), e.depth ≤ d → d ≤ 1000 → e.okR = true → av w (fun b => b < wb) own e v → Wr 111 5 w wb sv l → l.length + 50 * e.size ≤ 500000 →
   Calls Tryz.prog 162 #[v, .pointer (some ⟨wb, 0, none⟩)] w (Wg 111 5 w wb sv (l ++ e.st) (.tuple #[]))))
  (own : Bool) (a b : Nat) (ps : List Ex) (xs : List Value) (ad : Option Addr) (cap wb : Nat) (sv : Value) (l HD : List UInt8) (w : World) (hd : Ex.depths ps ≤ d) (hd2 : d ≤ 1000) (hsz : l.length + 50 * (Ex.sizes ps + 1) ≤ 500000) (HOK : Hid (Ex.okRs ps = true))
  (ha : a < 18446744073709551616) (hb : b < 18446744073709551616) (HS : Hid (Sl w (fun b => b < wb) own 4 ps.length xs (.slice ad ps.length cap) ∧ au w (fun b => b < wb) own ps xs)) (hhl : HD.length ≤ 31) (HE : Hid (HD = [(6:Nat).toUInt8] ++ bf ps.length)) (HW : Hid (Wr 111 5 w wb sv l)) :
  Calls Tryz.prog 162 #[.agg #[.int .i64 6, .int .u64 a, .int .u64 b, .slice ad ps.length cap], .pointer (some ⟨wb, 0, none⟩)] w (Wg 111 5 w wb sv (l ++ (HD ++ Ex.sts ps)) (.tuple #[])) := by
 obtain ⟨hxl, hlen, _, _, _, hcap⟩ := HS.out.1.shape
 clear hxl
 have hpl := Ex.length_le_sizes ps
 go_enter Tryz.func162, Tryz.ntmps162
 go_wp2_with fail
 refine (cz 6 _ (by omega) (by omega)).mono ?_
 rintro e1 w1 ⟨hin, hout, hb1⟩
 obtain ⟨blk, hblk, hheap, rfl⟩ := hin (by omega)
 clear hin hout
 have h := (hb1.block w.heap.size (by simp)).trans (aa w _ _ rfl)
 have hz1 := hb1.size
 have hB : Below w.heap.size w w1 := ((Below.refl w.heap.size w).alloc nl _).trans (hb1.mono (by simp))
 have hlt := HW.out.lt
 have HP0 : Hid (aX w (w1.alloc (.cells #[.int .i64 0, .int .i64 0, .int .i64 32, .func (.func 211) #[] #[.pointer (some ⟨blk, 0, none⟩)]] 203)) wb sv sv l w1.heap.size (.cells #[.int .i64 6, .int .u64 a, .int .u64 b, .slice ad ps.length cap] 44) (.cells #[.int .i64 0, .int .i64 0, .int .i64 32, .func (.func 211) #[] #[.pointer (some ⟨blk, 0, none⟩)]] 203)) := by
  refine hid ⟨HW.out.below (hB.alloc (by have := hB.size; omega) _), Wrote.of_below (hB.alloc (by have := hB.size; omega) _), hlt.1, by simp at hz1; omega, ?_, heap_alloc_new _ _, fun e => ?_, fun e => ?_⟩
  ·rw [Below.heap_alloc _ _ _ (by simp at hz1; omega)]; exact h
  ·have := (hlt.2 _ e).2; omega
  ·have := (hlt.2 _ e).2; simp at hz1; omega
 have hbx : ∀ o, w1.cell? ⟨w.heap.size, o, none⟩ = #[.int .i64 6, .int .u64 a, .int .u64 b, .slice ad ps.length cap][o]? := fun o => cell_of_row w1 _ o _ _ _ h
 have hzz : w.heap.size < w1.heap.size := by simp at hz1; omega
 have q0 : fD 6 blk = .func (.func 211) #[] #[.pointer (some ⟨blk, 0, none⟩)] := rfl
 have q1 : bC 6 = 0 := rfl
 have q2 : bi 6 = 0 := rfl
 have q3 : bK 6 = 32 := rfl
 rw [q0, q1, q2, q3]
 clear q0 q1 q2 q3 h hb1 hz1 hheap hB hlt
 go_wp2_with fail
 have hs0 : (w1.alloc (.cells #[.int .i64 0, .int .i64 0, .int .i64 32, .func (.func 211) #[] #[.pointer (some ⟨blk, 0, none⟩)]] 203)).heap.size = w1.heap.size + 1 := by simp
 generalize w1.alloc (.cells #[.int .i64 0, .int .i64 0, .int .i64 32, .func (.func 211) #[] #[.pointer (some ⟨blk, 0, none⟩)]] 203) = W0 at HP0 hs0 ⊢
 generalize w1.heap.size = kb at HP0 hs0 ⊢
 rw [← hs0]
 clear hs0
 have hp1 := HP0.out.below (br.alloc nl (.cells #[.int .u8 6] 5))
 refine (di _ _ wb sv l [(6:Nat).toUInt8] _ _ hp1.wr (eY W0 6 (by omega) 5) (by simp; omega)).mono ?_
 rintro e2 w2 ⟨rfl, sv2, hw2, ht2⟩
 have hp2 := hp1.step hw2 ht2
 clear hbx hzz hp1 hw2 ht2
 obtain ⟨hc1, hc2⟩ := hp2.cells
 obtain ⟨hl1, hl2, hl3, hl4⟩ := hp2.lts
 have HP2 := hid hp2
 clear hp2
 go_wp2_with fail
 have hp3 := HP2.out.below (br.alloc nl (.cells #[.int .u64 a, .int .u64 b] 29))
 refine (aN true wb sv2 (l ++ [(6:Nat).toUInt8]) ([] : List Nat) _ _ hp3.wr (by simpa [nums] using bR w2 _ #[.int .u64 a, .int .u64 b] 29 0 2 (by simp) (by omega) ⟨by omega, fun e => by have := hl4 _ e; omega⟩ (by omega)) (by intro n hn; simp at hn <;> omega) (by simp; omega)).mono ?_
 rintro e3 w3 ⟨rfl, sv3, hw3, ht3⟩
 have hp4 := hp3.step hw3 ht3
 clear hc1 hc2 hl1 hl2 hl3 hl4 hp3 hw3 ht3
 obtain ⟨hc1, hc2⟩ := hp4.cells
 obtain ⟨hl1, hl2, hl3, hl4⟩ := hp4.lts
 have HP4 := hid hp4
 clear hp4
 go_wp2_with fail
 have hp5 := HP4.out.below (br.alloc nl (.cells #[.int .u64 (ps.length : Nat)] 29))
 refine (aN true wb sv3 (l ++ [(6:Nat).toUInt8] ++ ay ([] : List Nat)) [ps.length] _ _ hp5.wr (by simpa [nums] using bR w3 _ #[.int .u64 (ps.length : Nat)] 29 1 1 (by simp) (by omega) ⟨by omega, fun e => by have := hl4 _ e; omega⟩ (by omega)) (by intro n hn; simp at hn <;> omega) (by simp [ay]; omega)).mono ?_
 rintro e4 w4 ⟨rfl, sv4, hw4, ht4⟩
 have hp6 := hp5.step hw4 ht4
 clear hc1 hc2 hl1 hl2 hl3 hl4 hp5 hw4 ht4
 obtain ⟨hc1, hc2⟩ := hp6.cells
 obtain ⟨hl1, hl2, hl3, hl4⟩ := hp6.lts
 have HP6 := hid hp6
 clear hp6
 go_wp2_with fail
 have HE2 : Hid (l ++ ([(6:Nat).toUInt8] ++ ay ([] : List Nat) ++ ay [ps.length]) = l ++ (HD ++ Ex.sts (ps.take 0))) := hid (by rw [HE.out]; simp [Ex.sts, ay])
 go_loopw [45] (fun i wr => ∃ j : Nat, ∃ svi, j ≤ ps.length ∧ i = .int .i64 j ∧ aX w wr wb sv svi (l ++ (HD ++ Ex.sts (ps.take j))) kb (.cells #[.int .i64 6, .int .u64 a, .int .u64 b, .slice ad ps.length cap] 44) (.cells #[.int .i64 0, .int .i64 0, .int .i64 32, .func (.func 211) #[] #[.pointer (some ⟨blk, 0, none⟩)]] 203)) (fun i _ => ps.length - (intOf i).toNat)
 case atStart => exact ⟨0, _, by omega, rfl, by rw [← HE2.out]; simpa using HP6.out⟩
 case round =>
  obtain ⟨j, svi, hj, rfl, hp⟩ := hrel
  clear hc1 hc2 hl1 hl2 hl3 hl4
  obtain ⟨hl1, hl2, hl3, hl4⟩ := hp.lts
  have HP := hid hp
  clear hp
  by_cases hlt : j < ps.length
  ·have hk : bB (fun b => b < wb) w wr := fun b hb _ => (HP.out.wt.below HW.out).block b hb
   obtain ⟨bl, off, k', a', b', ad', n', cap', rfl, hS, g0, g1, g2, g3, _, ge⟩ := (au.keep hk (fun _ _ h => h) HS.out.2).part (HS.out.1.keep (by omega) hk (fun _ _ h => h)) j hlt
   have hdj := Ex.depths_ge ps j hlt
   have hsj := Ex.sizes_ge ps j hlt
   have PS := hid (Ex.sts_take ps j hlt)
   have hl0 := Ex.sts_length (ps.take j)
   have hls := Ex.sizes_split ps j
   clear hk
   go_wp2_with fail
   have hb2 : Below wr.heap.size wr (wr.alloc (.cells #[.int .i64 k', .int .u64 a', .int .u64 b', .slice ad' n' cap'] 44)) := br.alloc nl _
   have hp5 := HP.out.below hb2
   refine (IH.out _ ps[j] _ wb svi _ _ (by omega) (by omega) (Ex.okRs_get ps j hlt HOK.out) (ge.below hb2 nl) hp5.wr (by simp; omega)).mono ?_
   rintro e6 w6 ⟨rfl, sv6, hw6, ht6⟩
   have HP6 := hid (hp5.step hw6 ht6)
   clear hp5 hw6 ht6
   go_wp2_with fail
   go_roundw
   case rel => exact ⟨j + 1, _, by omega, by go_num, by rw [PS.out, ← List.append_assoc HD, ← List.append_assoc l]; exact HP6.out⟩
   case measure => simp [intOf]; omega
  ·have hj2 : j = ps.length := by omega
   subst hj2
   go_wp2_with fail
   go_end0
   have h := HP.out
   rw [List.take_length] at h
   exact ⟨rfl, _, h.wr, h.wt⟩
theorem yn (d : Nat) (IH : Hid (∀ (own : Bool) (e : Ex) (v : Value) (wb : Nat) (sv : Value) (l : List UInt8) (w : World), e.depth ≤ d → d ≤ 1000 → e.okR = true → av w (fun b => b < wb) own e v → Wr 111 5 w wb sv l → l.length + 50 * e.size ≤ 500000 →
   Calls Tryz.prog 162 #[v, .pointer (some ⟨wb, 0, none⟩)] w (Wg 111 5 w wb sv (l ++ e.st) (.tuple #[]))))
  (own : Bool) (a b : Nat) (ps : List Ex) (xs : List Value) (ad : Option Addr) (cap wb : Nat) (sv : Value) (l HD : List UInt8) (w : World) (hd : Ex.depths ps ≤ d) (hd2 : d ≤ 1000) (hsz : l.length + 50 * (Ex.sizes ps + 1) ≤ 500000) (HOK : Hid (Ex.okRs ps = true))
  (ha : a < 18446744073709551616) (hb : b < 18446744073709551616) (HS : Hid (Sl w (fun b => b < wb) own 4 ps.length xs (.slice ad ps.length cap) ∧ au w (fun b => b < wb) own ps xs)) (hhl : HD.length ≤ 31) (HE : Hid (HD = [(7:Nat).toUInt8] ++ bf ps.length)) (HW : Hid (Wr 111 5 w wb sv l)) :
  Calls Tryz.prog 162 #[.agg #[.int .i64 7, .int .u64 a, .int .u64 b, .slice ad ps.length cap], .pointer (some ⟨wb, 0, none⟩)] w (Wg 111 5 w wb sv (l ++ (HD ++ Ex.sts ps)) (.tuple #[])) := by
 obtain ⟨hxl, hlen, _, _, _, hcap⟩ := HS.out.1.shape
 clear hxl
 have hpl := Ex.length_le_sizes ps
 go_enter Tryz.func162, Tryz.ntmps162
 go_wp2_with fail
 refine (cz 7 _ (by omega) (by omega)).mono ?_
 rintro e1 w1 ⟨hin, hout, hb1⟩
 obtain ⟨blk, hblk, hheap, rfl⟩ := hin (by omega)
 clear hin hout
 have h := (hb1.block w.heap.size (by simp)).trans (aa w _ _ rfl)
 have hz1 := hb1.size
 have hB : Below w.heap.size w w1 := ((Below.refl w.heap.size w).alloc nl _).trans (hb1.mono (by simp))
 have hlt := HW.out.lt
 have HP0 : Hid (aX w (w1.alloc (.cells #[.int .i64 0, .int .i64 0, .int .i64 32, .func (.func 212) #[] #[.pointer (some ⟨blk, 0, none⟩)]] 203)) wb sv sv l w1.heap.size (.cells #[.int .i64 7, .int .u64 a, .int .u64 b, .slice ad ps.length cap] 44) (.cells #[.int .i64 0, .int .i64 0, .int .i64 32, .func (.func 212) #[] #[.pointer (some ⟨blk, 0, none⟩)]] 203)) := by
  refine hid ⟨HW.out.below (hB.alloc (by have := hB.size; omega) _), Wrote.of_below (hB.alloc (by have := hB.size; omega) _), hlt.1, by simp at hz1; omega, ?_, heap_alloc_new _ _, fun e => ?_, fun e => ?_⟩
  ·rw [Below.heap_alloc _ _ _ (by simp at hz1; omega)]; exact h
  ·have := (hlt.2 _ e).2; omega
  ·have := (hlt.2 _ e).2; simp at hz1; omega
 have hbx : ∀ o, w1.cell? ⟨w.heap.size, o, none⟩ = #[.int .i64 7, .int .u64 a, .int .u64 b, .slice ad ps.length cap][o]? := fun o => cell_of_row w1 _ o _ _ _ h
 have hzz : w.heap.size < w1.heap.size := by simp at hz1; omega
 have q0 : fD 7 blk = .func (.func 212) #[] #[.pointer (some ⟨blk, 0, none⟩)] := rfl
 have q1 : bC 7 = 0 := rfl
 have q2 : bi 7 = 0 := rfl
 have q3 : bK 7 = 32 := rfl
 rw [q0, q1, q2, q3]
 clear q0 q1 q2 q3 h hb1 hz1 hheap hB hlt
 go_wp2_with fail
 have hs0 : (w1.alloc (.cells #[.int .i64 0, .int .i64 0, .int .i64 32, .func (.func 212) #[] #[.pointer (some ⟨blk, 0, none⟩)]] 203)).heap.size = w1.heap.size + 1 := by simp
 generalize w1.alloc (.cells #[.int .i64 0, .int .i64 0, .int .i64 32, .func (.func 212) #[] #[.pointer (some ⟨blk, 0, none⟩)]] 203) = W0 at HP0 hs0 ⊢
 generalize w1.heap.size = kb at HP0 hs0 ⊢
 rw [← hs0]
 clear hs0
 have hp1 := HP0.out.below (br.alloc nl (.cells #[.int .u8 7] 5))
 refine (di _ _ wb sv l [(7:Nat).toUInt8] _ _ hp1.wr (eY W0 7 (by omega) 5) (by simp; omega)).mono ?_
 rintro e2 w2 ⟨rfl, sv2, hw2, ht2⟩
 have hp2 := hp1.step hw2 ht2
 clear hbx hzz hp1 hw2 ht2
 obtain ⟨hc1, hc2⟩ := hp2.cells
 obtain ⟨hl1, hl2, hl3, hl4⟩ := hp2.lts
 have HP2 := hid hp2
 clear hp2
 go_wp2_with fail
 have hp3 := HP2.out.below (br.alloc nl (.cells #[.int .u64 a, .int .u64 b] 29))
 refine (aN true wb sv2 (l ++ [(7:Nat).toUInt8]) ([] : List Nat) _ _ hp3.wr (by simpa [nums] using bR w2 _ #[.int .u64 a, .int .u64 b] 29 0 2 (by simp) (by omega) ⟨by omega, fun e => by have := hl4 _ e; omega⟩ (by omega)) (by intro n hn; simp at hn <;> omega) (by simp; omega)).mono ?_
 rintro e3 w3 ⟨rfl, sv3, hw3, ht3⟩
 have hp4 := hp3.step hw3 ht3
 clear hc1 hc2 hl1 hl2 hl3 hl4 hp3 hw3 ht3
 obtain ⟨hc1, hc2⟩ := hp4.cells
 obtain ⟨hl1, hl2, hl3, hl4⟩ := hp4.lts
 have HP4 := hid hp4
 clear hp4
 go_wp2_with fail
 have hp5 := HP4.out.below (br.alloc nl (.cells #[.int .u64 (ps.length : Nat)] 29))
 refine (aN true wb sv3 (l ++ [(7:Nat).toUInt8] ++ ay ([] : List Nat)) [ps.length] _ _ hp5.wr (by simpa [nums] using bR w3 _ #[.int .u64 (ps.length : Nat)] 29 1 1 (by simp) (by omega) ⟨by omega, fun e => by have := hl4 _ e; omega⟩ (by omega)) (by intro n hn; simp at hn <;> omega) (by simp [ay]; omega)).mono ?_
 rintro e4 w4 ⟨rfl, sv4, hw4, ht4⟩
 have hp6 := hp5.step hw4 ht4
 clear hc1 hc2 hl1 hl2 hl3 hl4 hp5 hw4 ht4
 obtain ⟨hc1, hc2⟩ := hp6.cells
 obtain ⟨hl1, hl2, hl3, hl4⟩ := hp6.lts
 have HP6 := hid hp6
 clear hp6
 go_wp2_with fail
 have HE2 : Hid (l ++ ([(7:Nat).toUInt8] ++ ay ([] : List Nat) ++ ay [ps.length]) = l ++ (HD ++ Ex.sts (ps.take 0))) := hid (by rw [HE.out]; simp [Ex.sts, ay])
 go_loopw [45] (fun i wr => ∃ j : Nat, ∃ svi, j ≤ ps.length ∧ i = .int .i64 j ∧ aX w wr wb sv svi (l ++ (HD ++ Ex.sts (ps.take j))) kb (.cells #[.int .i64 7, .int .u64 a, .int .u64 b, .slice ad ps.length cap] 44) (.cells #[.int .i64 0, .int .i64 0, .int .i64 32, .func (.func 212) #[] #[.pointer (some ⟨blk, 0, none⟩)]] 203)) (fun i _ => ps.length - (intOf i).toNat)
 case atStart => exact ⟨0, _, by omega, rfl, by rw [← HE2.out]; simpa using HP6.out⟩
 case round =>
  obtain ⟨j, svi, hj, rfl, hp⟩ := hrel
  clear hc1 hc2 hl1 hl2 hl3 hl4
  obtain ⟨hl1, hl2, hl3, hl4⟩ := hp.lts
  have HP := hid hp
  clear hp
  by_cases hlt : j < ps.length
  ·have hk : bB (fun b => b < wb) w wr := fun b hb _ => (HP.out.wt.below HW.out).block b hb
   obtain ⟨bl, off, k', a', b', ad', n', cap', rfl, hS, g0, g1, g2, g3, _, ge⟩ := (au.keep hk (fun _ _ h => h) HS.out.2).part (HS.out.1.keep (by omega) hk (fun _ _ h => h)) j hlt
   have hdj := Ex.depths_ge ps j hlt
   have hsj := Ex.sizes_ge ps j hlt
   have PS := hid (Ex.sts_take ps j hlt)
   have hl0 := Ex.sts_length (ps.take j)
   have hls := Ex.sizes_split ps j
   clear hk
   go_wp2_with fail
   have hb2 : Below wr.heap.size wr (wr.alloc (.cells #[.int .i64 k', .int .u64 a', .int .u64 b', .slice ad' n' cap'] 44)) := br.alloc nl _
   have hp5 := HP.out.below hb2
   refine (IH.out _ ps[j] _ wb svi _ _ (by omega) (by omega) (Ex.okRs_get ps j hlt HOK.out) (ge.below hb2 nl) hp5.wr (by simp; omega)).mono ?_
   rintro e6 w6 ⟨rfl, sv6, hw6, ht6⟩
   have HP6 := hid (hp5.step hw6 ht6)
   clear hp5 hw6 ht6
   go_wp2_with fail
   go_roundw
   case rel => exact ⟨j + 1, _, by omega, by go_num, by rw [PS.out, ← List.append_assoc HD, ← List.append_assoc l]; exact HP6.out⟩
   case measure => simp [intOf]; omega
  ·have hj2 : j = ps.length := by omega
   subst hj2
   go_wp2_with fail
   go_end0
   have h := HP.out
   rw [List.take_length] at h
   exact ⟨rfl, _, h.wr, h.wt⟩
theorem wP (d : Nat) : ∀ (own : Bool) (e : Ex) (v : Value) (wb : Nat) (sv : Value) (l : List UInt8) (w : World), e.depth ≤ d → d ≤ 1000 → e.okR = true → av w (fun b => b < wb) own e v → Wr 111 5 w wb sv l → l.length + 50 * e.size ≤ 500000 →
   Calls Tryz.prog 162 #[v, .pointer (some ⟨wb, 0, none⟩)] w (Wg 111 5 w wb sv (l ++ e.st) (.tuple #[])) := by
 induction d with
 | zero => intro own e v wb sv l w hd; cases e; simp [Ex.depth] at hd
 | succ d ih =>
  intro own e v wb sv l w hd hd2 hok hrep hW hsz
  obtain ⟨k, a, b, ps⟩ := e
  simp only [av] at hrep
  obtain ⟨s, xs, rfl, hk1, hk2, ha, hb, hs, hes⟩ := hrep
  obtain ⟨hxl, hlen, ad, cap, rfl, hcap⟩ := hs.shape
  simp only [Ex.depth, Ex.size, Ex.okR, Bool.and_eq_true] at hd hsz hok
  simp only [Ex.st]
  have hhl := gN k a b ps.length
  have HS := hid (And.intro hs hes)
  obtain ⟨hok1, hok2⟩ := hok
  have HOK := hid hok1
  rcases jA hok2 with rfl | rfl | rfl | ⟨rfl, hab⟩ | rfl | rfl | rfl
  ·exact yf d (hid ih) own a b ps xs ad cap wb sv l _ w (by omega) (by omega) hsz HOK ha hb HS hhl (hid (by simp [eX])) (hid hW)
  ·exact yg d (hid ih) own a b ps xs ad cap wb sv l _ w (by omega) (by omega) hsz HOK ha hb HS hhl (hid (by simp [eX])) (hid hW)
  ·exact yh d (hid ih) own a b ps xs ad cap wb sv l _ w (by omega) (by omega) hsz HOK ha hb HS hhl (hid (by simp [eX])) (hid hW)
  ·exact yj d (hid ih) own a b ps xs ad cap wb sv l _ w (by omega) (by omega) hsz HOK ha hb HS hhl (hid (by simp [eX])) (hid hW)
  ·exact yl d (hid ih) own a b ps xs ad cap wb sv l _ w (by omega) (by omega) hsz HOK ha hb HS hhl (hid (by simp [eX])) (hid hW)
  ·exact ym d (hid ih) own a b ps xs ad cap wb sv l _ w (by omega) (by omega) hsz HOK ha hb HS hhl (hid (by simp [eX])) (hid hW)
  ·exact yn d (hid ih) own a b ps xs ad cap wb sv l _ w (by omega) (by omega) hsz HOK ha hb HS hhl (hid (by simp [eX])) (hid hW)
theorem qc (S : Nat → Prop) (own : Bool) (e : Ex) (v : Value) (w : World) (hsz : e.size ≤ 900) (hrep : av w S own e v) :
  Calls Tryz.prog 134 #[v] w (bJ 5 w e.put) := by
 have hds := e.depth_le_size
 obtain ⟨c0, c1, c2, c3, rfl⟩ := hrep.four
 have hb0 : Below w.heap.size w (w.alloc (.cells #[c0, c1, c2, c3] 44)) := br.alloc nl _
 go_enter Tryz.func134, Tryz.ntmps134
 go_wp2_with fail
 refine (dD _ _ e _ _ hsz (hrep.below hb0 nl)).mono ?_
 rintro e1 w1 ⟨rfl, hb1⟩
 have hb2 : Below w.heap.size w w1 := hb0.trans (hb1.mono (by simp))
 have hbox : ∀ o, w1.cell? ⟨w.heap.size, o, none⟩ = (w.alloc (.cells #[c0, c1, c2, c3] 44)).cell? ⟨w.heap.size, o, none⟩ := fun o => hb1.cell (by simp)
 have hsz1 : w.heap.size + 1 ≤ w1.heap.size := by have := hb1.size; simpa using this
 cases h1 : e.right with
 | true =>
  have H1 := hid h1
  clear h1
  have hzz : w.heap.size < w1.heap.size := by omega
  go_wp2_with fail
  have hW : Wr 111 5 (w1.alloc (.cells #[.slice none 0 0] 111)) w1.heap.size (.slice none 0 0) [] := ⟨heap_alloc_new _ _, World.ownsRow_nil _ _ _ _⟩
  have hr := (av.keep (w := w) (S := S) (S' := fun b => b < w1.heap.size) (Below.keeps hb2 nl S) (fun b hb _ => by omega) hrep).below ((Below.refl w1.heap.size w1).alloc nl (.cells #[.slice none 0 0] 111)) nl
  refine (wP e.depth _ e _ w1.heap.size _ [] _ nl (by omega) (by have := H1.out; simp [Ex.right] at this; exact this.1.1) hr hW (by simp; omega)).mono ?_
  rintro e2 w2 ⟨rfl, sv2, hw2, ht2⟩
  have hb3 : Below w.heap.size w w2 := (hb2.alloc (by omega) _).trans ((ht2.below hW).mono (by omega))
  clear hr hW
  have HC := hid (jZ w1.heap.size sv2 _ w2 hw2 (by have := e.st_length; simp; omega))
  have HB3 := hid hb3
  clear hw2 hb3 ht2
  go_wp2_with fail
  refine HC.out.mono ?_
  rintro e3 w3 ⟨v3, rfl, hown3, hb4⟩
  go_wp2_with fail
  go_ret
  exact ⟨v3, rfl, by simpa [Ex.put, H1.out] using bF hown3 (by have := HB3.out.size; omega), HB3.out.trans (hb4.mono (by have := HB3.out.size; omega))⟩
 | false =>
  have H1 := hid h1
  clear h1
  go_wp2_with fail
  go_ret
  exact ⟨_, rfl, by simpa [Ex.put, H1.out] using World.ownsRow_nil _ _ _ _, hb2⟩
end Go.Proofs.YtmgbhhmipmgcpaaGreatDoor
