/- Walks. -/
import Derived.Test.YtmgbhhmipmgcpaaGreatDoorQ47
import Derived.Test.YtmgbhhmipmgcpaaGreatDoorQ37
set_option maxHeartbeats 1000000
set_option maxRecDepth 100000
namespace Go.Proofs.YtmgbhhmipmgcpaaGreatDoor
open Go.RowKit Go
set_option linter.unusedVariables false
set_option linter.unusedSimpArgs false
theorem dJ (n : Nat) (w : World) (h64 : n < 18446744073709551616) : Calls Tryz.prog 76 #[.int .u64 n] w (bJ 5 w (bf n)) := pJ 9 n w (Nat.lt_of_lt_of_le h64 (by decide)) h64
theorem eu {w w1 : World} {B : Nat} (o : Obj) (q : Nat) (hq : q < 256) (hb1 : Below B ((w.alloc o).alloc (.cells #[.int .u8 (q : Int)] 5)) w1) (hB : w.heap.size + 2 ≤ B) :
  w1.ownsRow (w.heap.size + 1) 5 1 (.slice (some ⟨w.heap.size + 1, 0, none⟩) 1 1) [q.toUInt8].length (bytes [q.toUInt8]) ∧ w1.heap[w.heap.size]? = some o ∧ Below w.heap.size w w1 := by
 have h := ownsRow_below (ownsRow_lit (w.alloc o) (w.heap.size + 1) #[.int .u8 (q : Int)] 5 (by simp) (by simp)) hb1 (by simp; omega)
 refine ⟨by simpa [bytes, fZ hq] using h, ?_, ((br.alloc nl _).alloc (by simp) _).trans (hb1.mono (by omega))⟩
 rw [hb1.block _ (by omega), Below.heap_alloc _ _ _ (by simp)]
 exact aa _ _ _ rfl
theorem bq {w w1 w2 : World} {o : Obj} {base : Nat} {sv v' : Value} {T : TypeId} {l m : List UInt8} (hb : Below w.heap.size w w1) (hbase : w.heap.size + 1 ≤ base) (hh : w1.heap[w.heap.size]? = some o)
  (hob : ∀ k, sv.ownBlock = some k → base ≤ k ∧ k < w1.heap.size) (hown : w2.ownsRow base T 1 v' (l.length + m.length) (bytes l ++ bytes m)) (hg : w1.grownBy w2 sv.ownBlock) :
  w2.ownsRow base T 1 v' (l ++ m).length (bytes (l ++ m)) ∧ w2.heap[w.heap.size]? = some o ∧ Below w.heap.size w w2 := by
 have hlt : w.heap.size < w1.heap.size := (Array.getElem?_eq_some_iff.1 hh).1
 refine ⟨by simpa [bytes] using hown, ?_, hb.grown hg (by omega) (fun k hk => by have := (hob k hk).1; omega)⟩
 rw [hg.block _ hlt (fun e => by have := (hob _ e.symm).1; omega)]; exact hh
theorem vC (d : Nat) (IH : Hid (∀ (S : Nat → Prop) (own : Bool) (e : Ex) (v : Value) (w : World), e.depth ≤ d → d ≤ 1000 → e.size ≤ 1000 → e.okR = true → av w S own e v → Calls Tryz.prog 77 #[v] w (bJ 5 w e.st)))
  (S : Nat → Prop) (own : Bool) (a b : Nat) (ps : List Ex) (xs : List Value) (ad : Option Addr) (cap : Nat) (HD : List UInt8) (w : World) (hd : Ex.depths ps ≤ d) (hd2 : d ≤ 1000) (hsz : Ex.sizes ps + 1 ≤ 1000) (HOK : Hid (Ex.okRs ps = true))
  (ha : a < 18446744073709551616) (hb : b < 18446744073709551616) (HS : Hid (Sl w S own 4 ps.length xs (.slice ad ps.length cap) ∧ au w S own ps xs)) (hhl : HD.length ≤ 31) (HE : Hid (HD = [(1:Nat).toUInt8])) :
  Calls Tryz.prog 77 #[.agg #[.int .i64 1, .int .u64 a, .int .u64 b, .slice ad ps.length cap]] w (bJ 5 w (HD ++ Ex.sts ps)) := by
 obtain ⟨i0, hi0, hz0, hz1, hz2⟩ := info_parts infoByte
 obtain ⟨hxl, hlen, _, _, _, hcap⟩ := HS.out.1.shape
 clear hxl
 have hpl := Ex.length_le_sizes ps
 have hstl := hid (Ex.sts_take_length ps)
 go_enter Tryz.func77, Tryz.ntmps77
 go_wp2_with fail
 have HL0 := eu (w := w) (.cells #[.int .i64 1, .int .u64 a, .int .u64 b, .slice ad ps.length cap] 34) 1 (by omega) (Below.refl (w.heap.size + 2) ((w.alloc (.cells #[.int .i64 1, .int .u64 a, .int .u64 b, .slice ad ps.length cap] 34)).alloc (.cells #[.int .u8 (1:Nat)] 5))) nl
 rw [← HE.out] at HL0
 have HL := hid HL0
 clear HL0
 go_loopw [3, 4] (fun o i wr => ∃ j : Nat, j ≤ ps.length ∧ i = .int .i64 j ∧ wr.ownsRow (w.heap.size + 1) 5 1 o (HD ++ Ex.sts (ps.take j)).length (bytes (HD ++ Ex.sts (ps.take j))) ∧ wr.heap[w.heap.size]? = some (.cells #[.int .i64 1, .int .u64 a, .int .u64 b, .slice ad ps.length cap] 34) ∧ Below w.heap.size w wr) (fun _ i _ => ps.length - (intOf i).toNat)
 case atStart => exact ⟨0, by omega, rfl, by simpa [Ex.sts] using HL.out.1, HL.out.2.1, HL.out.2.2⟩
 case round =>
  obtain ⟨j, hj, rfl, hown, hbx, hbel⟩ := hrel
  have c3 : wr.cell? ⟨w.heap.size, 3, none⟩ = some (.slice ad ps.length cap) := by rw [cell_of_row wr _ 3 _ _ _ hbx]; rfl
  have hzr : w.heap.size < wr.heap.size := (Array.getElem?_eq_some_iff.1 hbx).1
  have hob := hown.lt
  have HBX := hid hbx
  clear hbx
  obtain ⟨sa, sc, rfl⟩ := ag hown
  by_cases hlt : j < ps.length
  ·obtain ⟨bl, off, k', a', b', ad', n', cap', rfl, _, g0, g1, g2, g3, _, ge⟩ := (HS.out.2.below hbel nl).part (HS.out.1.below (by omega) hbel nl) j hlt
   have hdj := Ex.depths_ge ps j hlt
   have hsj := Ex.sizes_ge ps j hlt
   have PS := hid (Ex.sts_take ps j hlt)
   have hl0 := hstl.out j
   have hlp := Ex.st_length ps[j]
   obtain ⟨L, hL⟩ : ∃ L, L = HD ++ Ex.sts (ps.take j) := ⟨_, rfl⟩
   have hLl : L.length ≤ 31031 := by rw [hL]; simp; omega
   rw [← hL] at hown hob
   rw [← hL]
   have HLL := hid hL
   have HOWN := hid hown
   clear hL hl0 hown
   go_wp2_with fail
   refine (IH.out _ _ ps[j] _ _ (by omega) (by omega) (by omega) (Ex.okRs_get ps j hlt HOK.out) ge).mono ?_
   rintro e w1 ⟨v1, rfl, hown1, hb1⟩
   obtain ⟨sa1, sc1, rfl⟩ := ag hown1
   have hsz1 := hb1.size
   have HS1 := hid (Sl.of_owns hown1 (by omega))
   have HB1 := hid hb1
   clear hown1 hb1
   go_wp2_with (at_builtin; refine ai _ rfl (.tmp 47) (.tmp 53) _ rfl (w.heap.size + 1) 5 i0 _ 1 1 Tryz.underlying22 hi0 hz0 hz1 hz2 rfl (by omega) _ L.length (bytes L) rfl (ownsRow_below HOWN.out HB1.out nl) _ _ ps[j].st.length (bytes ps[j].st) _ rfl HS1.out (aO _) (by unfold maxLen; omega) (by omega) (by omega) ?_; intro v' w2 hown2 hgrow hat)
   have HP := hid (bq (hbel.trans (HB1.out.mono (by omega))) nl ((HB1.out.block _ hzr).trans HBX.out) (fun k hk => ⟨(hob k hk).1, by have := (hob k hk).2; omega⟩) hown2 hgrow)
   clear hown2 hgrow hat
   go_wp2_with fail
   go_roundw
   case rel =>
    refine ⟨j + 1, by omega, by go_num, ?_, HP.out.2⟩
    rw [PS.out, ← List.append_assoc, ← HLL.out]
    exact HP.out.1
   case measure => simp [intOf]; omega
  ·have hj2 : j = ps.length := by omega
   subst hj2
   rw [List.take_length] at hown ⊢
   go_wp2_with fail
   go_ret
   refine ⟨_, rfl, ?_, hbel⟩
   exact bF hown (by omega)
theorem vD (d : Nat) (IH : Hid (∀ (S : Nat → Prop) (own : Bool) (e : Ex) (v : Value) (w : World), e.depth ≤ d → d ≤ 1000 → e.size ≤ 1000 → e.okR = true → av w S own e v → Calls Tryz.prog 77 #[v] w (bJ 5 w e.st)))
  (S : Nat → Prop) (own : Bool) (a b : Nat) (ps : List Ex) (xs : List Value) (ad : Option Addr) (cap : Nat) (HD : List UInt8) (w : World) (hd : Ex.depths ps ≤ d) (hd2 : d ≤ 1000) (hsz : Ex.sizes ps + 1 ≤ 1000) (HOK : Hid (Ex.okRs ps = true))
  (ha : a < 18446744073709551616) (hb : b < 18446744073709551616) (HS : Hid (Sl w S own 4 ps.length xs (.slice ad ps.length cap) ∧ au w S own ps xs)) (hhl : HD.length ≤ 31) (HE : Hid (HD = [(2:Nat).toUInt8] ++ bf a)) :
  Calls Tryz.prog 77 #[.agg #[.int .i64 2, .int .u64 a, .int .u64 b, .slice ad ps.length cap]] w (bJ 5 w (HD ++ Ex.sts ps)) := by
 obtain ⟨i0, hi0, hz0, hz1, hz2⟩ := info_parts infoByte
 obtain ⟨hxl, hlen, _, _, _, hcap⟩ := HS.out.1.shape
 clear hxl
 have hpl := Ex.length_le_sizes ps
 have hstl := hid (Ex.sts_take_length ps)
 go_enter Tryz.func77, Tryz.ntmps77
 go_wp2_with fail
 refine (dJ a _ (by omega)).mono ?_
 rintro e w1 ⟨v1, rfl, hown1, hb1⟩
 obtain ⟨sa1, sc1, rfl⟩ := ag hown1
 have hsz1 := hb1.size
 have hpl1 := aS a
 have HS1 := hid (Sl.of_owns hown1 (by omega))
 have HL1 := eu (w := w) _ 2 (by omega) hb1 (by simp)
 clear hown1
 have hbx1 : ∀ o, w1.cell? ⟨w.heap.size, o, none⟩ = (w.alloc (.cells #[.int .i64 2, .int .u64 a, .int .u64 b, .slice ad ps.length cap] 34)).cell? ⟨w.heap.size, o, none⟩ := fun o => by rw [hb1.cell (by simp; omega), World.cell?_alloc_past _ _ _ (by simp)]
 have hzz2 : w.heap.size < w1.heap.size := by simp at hsz1; omega
 have hzz3 : w.heap.size + 1 ≤ w1.heap.size := by omega
 have HL2 := hid HL1
 clear HL1 hb1
 go_wp2_with (at_builtin; go_loud (refine ai _ rfl (.tmp 17) (.tmp 20) _ rfl (w.heap.size + 1) 5 i0 _ 1 1 Tryz.underlying22 hi0 hz0 hz1 hz2 rfl (by omega) (.slice (some ⟨w.heap.size + 1, 0, none⟩) 1 1) [(2:Nat).toUInt8].length (bytes [(2:Nat).toUInt8]) rfl HL2.out.1 _ _ (bf a).length (bytes (bf a)) _ rfl HS1.out (aO _) (by unfold maxLen; simp; omega) (by simp; omega) (by omega) ?_); intro v' w2 hown2 hgrow hat
              obtain ⟨va, vc, rfl⟩ := ag hown2
              have hqx := bq (sv := .slice (some ⟨w.heap.size + 1, 0, none⟩) 1 1) HL2.out.2.2 nl HL2.out.2.1 HL2.out.1.lt hown2 hgrow
              have c0 : w2.cell? ⟨w.heap.size, 0, none⟩ = some (.int .i64 2) := (by rw [cell_of_row w2 _ 0 _ _ _ hqx.2.1]; rfl))
 rw [← HE.out] at hqx
 have HL := hid hqx
 clear hqx hown2 hgrow hat HL2
 go_loopw [3, 4] (fun o i wr => ∃ j : Nat, j ≤ ps.length ∧ i = .int .i64 j ∧ wr.ownsRow (w.heap.size + 1) 5 1 o (HD ++ Ex.sts (ps.take j)).length (bytes (HD ++ Ex.sts (ps.take j))) ∧ wr.heap[w.heap.size]? = some (.cells #[.int .i64 2, .int .u64 a, .int .u64 b, .slice ad ps.length cap] 34) ∧ Below w.heap.size w wr) (fun _ i _ => ps.length - (intOf i).toNat)
 case atStart => exact ⟨0, by omega, rfl, by simpa [Ex.sts] using HL.out.1, HL.out.2.1, HL.out.2.2⟩
 case round =>
  obtain ⟨j, hj, rfl, hown, hbx, hbel⟩ := hrel
  have c3 : wr.cell? ⟨w.heap.size, 3, none⟩ = some (.slice ad ps.length cap) := by rw [cell_of_row wr _ 3 _ _ _ hbx]; rfl
  have hzr : w.heap.size < wr.heap.size := (Array.getElem?_eq_some_iff.1 hbx).1
  have hob := hown.lt
  have HBX := hid hbx
  clear hbx
  obtain ⟨sa, sc, rfl⟩ := ag hown
  by_cases hlt : j < ps.length
  ·obtain ⟨bl, off, k', a', b', ad', n', cap', rfl, _, g0, g1, g2, g3, _, ge⟩ := (HS.out.2.below hbel nl).part (HS.out.1.below (by omega) hbel nl) j hlt
   have hdj := Ex.depths_ge ps j hlt
   have hsj := Ex.sizes_ge ps j hlt
   have PS := hid (Ex.sts_take ps j hlt)
   have hl0 := hstl.out j
   have hlp := Ex.st_length ps[j]
   obtain ⟨L, hL⟩ : ∃ L, L = HD ++ Ex.sts (ps.take j) := ⟨_, rfl⟩
   have hLl : L.length ≤ 31031 := by rw [hL]; simp; omega
   rw [← hL] at hown hob
   rw [← hL]
   have HLL := hid hL
   have HOWN := hid hown
   clear hL hl0 hown
   go_wp2_with fail
   refine (IH.out _ _ ps[j] _ _ (by omega) (by omega) (by omega) (Ex.okRs_get ps j hlt HOK.out) ge).mono ?_
   rintro e w1 ⟨v1, rfl, hown1, hb1⟩
   obtain ⟨sa1, sc1, rfl⟩ := ag hown1
   have hsz1 := hb1.size
   have HS1 := hid (Sl.of_owns hown1 (by omega))
   have HB1 := hid hb1
   clear hown1 hb1
   go_wp2_with (at_builtin; refine ai _ rfl (.tmp 47) (.tmp 53) _ rfl (w.heap.size + 1) 5 i0 _ 1 1 Tryz.underlying22 hi0 hz0 hz1 hz2 rfl (by omega) _ L.length (bytes L) rfl (ownsRow_below HOWN.out HB1.out nl) _ _ ps[j].st.length (bytes ps[j].st) _ rfl HS1.out (aO _) (by unfold maxLen; omega) (by omega) (by omega) ?_; intro v' w2 hown2 hgrow hat)
   have HP := hid (bq (hbel.trans (HB1.out.mono (by omega))) nl ((HB1.out.block _ hzr).trans HBX.out) (fun k hk => ⟨(hob k hk).1, by have := (hob k hk).2; omega⟩) hown2 hgrow)
   clear hown2 hgrow hat
   go_wp2_with fail
   go_roundw
   case rel =>
    refine ⟨j + 1, by omega, by go_num, ?_, HP.out.2⟩
    rw [PS.out, ← List.append_assoc, ← HLL.out]
    exact HP.out.1
   case measure => simp [intOf]; omega
  ·have hj2 : j = ps.length := by omega
   subst hj2
   rw [List.take_length] at hown ⊢
   go_wp2_with fail
   go_ret
   refine ⟨_, rfl, ?_, hbel⟩
   exact bF hown (by omega)
theorem vE (d : Nat) (IH : Hid (∀ (S : Nat → Prop) (own : Bool) (e : Ex) (v : Value) (w : World), e.depth ≤ d → d ≤ 1000 → e.size ≤ 1000 → e.okR = true → av w S own e v → Calls Tryz.prog 77 #[v] w (bJ 5 w e.st)))
  (S : Nat → Prop) (own : Bool) (a b : Nat) (ps : List Ex) (xs : List Value) (ad : Option Addr) (cap : Nat) (HD : List UInt8) (w : World) (hd : Ex.depths ps ≤ d) (hd2 : d ≤ 1000) (hsz : Ex.sizes ps + 1 ≤ 1000) (HOK : Hid (Ex.okRs ps = true))
  (ha : a < 18446744073709551616) (hb : b < 18446744073709551616) (HS : Hid (Sl w S own 4 ps.length xs (.slice ad ps.length cap) ∧ au w S own ps xs)) (hhl : HD.length ≤ 31) (HE : Hid (HD = [(3:Nat).toUInt8] ++ bf a)) :
  Calls Tryz.prog 77 #[.agg #[.int .i64 3, .int .u64 a, .int .u64 b, .slice ad ps.length cap]] w (bJ 5 w (HD ++ Ex.sts ps)) := by
 obtain ⟨i0, hi0, hz0, hz1, hz2⟩ := info_parts infoByte
 obtain ⟨hxl, hlen, _, _, _, hcap⟩ := HS.out.1.shape
 clear hxl
 have hpl := Ex.length_le_sizes ps
 have hstl := hid (Ex.sts_take_length ps)
 go_enter Tryz.func77, Tryz.ntmps77
 go_wp2_with fail
 refine (dJ a _ (by omega)).mono ?_
 rintro e w1 ⟨v1, rfl, hown1, hb1⟩
 obtain ⟨sa1, sc1, rfl⟩ := ag hown1
 have hsz1 := hb1.size
 have hpl1 := aS a
 have HS1 := hid (Sl.of_owns hown1 (by omega))
 have HL1 := eu (w := w) _ 3 (by omega) hb1 (by simp)
 clear hown1
 have hbx1 : ∀ o, w1.cell? ⟨w.heap.size, o, none⟩ = (w.alloc (.cells #[.int .i64 3, .int .u64 a, .int .u64 b, .slice ad ps.length cap] 34)).cell? ⟨w.heap.size, o, none⟩ := fun o => by rw [hb1.cell (by simp; omega), World.cell?_alloc_past _ _ _ (by simp)]
 have hzz2 : w.heap.size < w1.heap.size := by simp at hsz1; omega
 have hzz3 : w.heap.size + 1 ≤ w1.heap.size := by omega
 have HL2 := hid HL1
 clear HL1 hb1
 go_wp2_with (at_builtin; go_loud (refine ai _ rfl (.tmp 17) (.tmp 20) _ rfl (w.heap.size + 1) 5 i0 _ 1 1 Tryz.underlying22 hi0 hz0 hz1 hz2 rfl (by omega) (.slice (some ⟨w.heap.size + 1, 0, none⟩) 1 1) [(3:Nat).toUInt8].length (bytes [(3:Nat).toUInt8]) rfl HL2.out.1 _ _ (bf a).length (bytes (bf a)) _ rfl HS1.out (aO _) (by unfold maxLen; simp; omega) (by simp; omega) (by omega) ?_); intro v' w2 hown2 hgrow hat
              obtain ⟨va, vc, rfl⟩ := ag hown2
              have hqx := bq (sv := .slice (some ⟨w.heap.size + 1, 0, none⟩) 1 1) HL2.out.2.2 nl HL2.out.2.1 HL2.out.1.lt hown2 hgrow
              have c0 : w2.cell? ⟨w.heap.size, 0, none⟩ = some (.int .i64 3) := (by rw [cell_of_row w2 _ 0 _ _ _ hqx.2.1]; rfl))
 rw [← HE.out] at hqx
 have HL := hid hqx
 clear hqx hown2 hgrow hat HL2
 go_loopw [3, 4] (fun o i wr => ∃ j : Nat, j ≤ ps.length ∧ i = .int .i64 j ∧ wr.ownsRow (w.heap.size + 1) 5 1 o (HD ++ Ex.sts (ps.take j)).length (bytes (HD ++ Ex.sts (ps.take j))) ∧ wr.heap[w.heap.size]? = some (.cells #[.int .i64 3, .int .u64 a, .int .u64 b, .slice ad ps.length cap] 34) ∧ Below w.heap.size w wr) (fun _ i _ => ps.length - (intOf i).toNat)
 case atStart => exact ⟨0, by omega, rfl, by simpa [Ex.sts] using HL.out.1, HL.out.2.1, HL.out.2.2⟩
 case round =>
  obtain ⟨j, hj, rfl, hown, hbx, hbel⟩ := hrel
  have c3 : wr.cell? ⟨w.heap.size, 3, none⟩ = some (.slice ad ps.length cap) := by rw [cell_of_row wr _ 3 _ _ _ hbx]; rfl
  have hzr : w.heap.size < wr.heap.size := (Array.getElem?_eq_some_iff.1 hbx).1
  have hob := hown.lt
  have HBX := hid hbx
  clear hbx
  obtain ⟨sa, sc, rfl⟩ := ag hown
  by_cases hlt : j < ps.length
  ·obtain ⟨bl, off, k', a', b', ad', n', cap', rfl, _, g0, g1, g2, g3, _, ge⟩ := (HS.out.2.below hbel nl).part (HS.out.1.below (by omega) hbel nl) j hlt
   have hdj := Ex.depths_ge ps j hlt
   have hsj := Ex.sizes_ge ps j hlt
   have PS := hid (Ex.sts_take ps j hlt)
   have hl0 := hstl.out j
   have hlp := Ex.st_length ps[j]
   obtain ⟨L, hL⟩ : ∃ L, L = HD ++ Ex.sts (ps.take j) := ⟨_, rfl⟩
   have hLl : L.length ≤ 31031 := by rw [hL]; simp; omega
   rw [← hL] at hown hob
   rw [← hL]
   have HLL := hid hL
   have HOWN := hid hown
   clear hL hl0 hown
   go_wp2_with fail
   refine (IH.out _ _ ps[j] _ _ (by omega) (by omega) (by omega) (Ex.okRs_get ps j hlt HOK.out) ge).mono ?_
   rintro e w1 ⟨v1, rfl, hown1, hb1⟩
   obtain ⟨sa1, sc1, rfl⟩ := ag hown1
   have hsz1 := hb1.size
   have HS1 := hid (Sl.of_owns hown1 (by omega))
   have HB1 := hid hb1
   clear hown1 hb1
   go_wp2_with (at_builtin; refine ai _ rfl (.tmp 47) (.tmp 53) _ rfl (w.heap.size + 1) 5 i0 _ 1 1 Tryz.underlying22 hi0 hz0 hz1 hz2 rfl (by omega) _ L.length (bytes L) rfl (ownsRow_below HOWN.out HB1.out nl) _ _ ps[j].st.length (bytes ps[j].st) _ rfl HS1.out (aO _) (by unfold maxLen; omega) (by omega) (by omega) ?_; intro v' w2 hown2 hgrow hat)
   have HP := hid (bq (hbel.trans (HB1.out.mono (by omega))) nl ((HB1.out.block _ hzr).trans HBX.out) (fun k hk => ⟨(hob k hk).1, by have := (hob k hk).2; omega⟩) hown2 hgrow)
   clear hown2 hgrow hat
   go_wp2_with fail
   go_roundw
   case rel =>
    refine ⟨j + 1, by omega, by go_num, ?_, HP.out.2⟩
    rw [PS.out, ← List.append_assoc, ← HLL.out]
    exact HP.out.1
   case measure => simp [intOf]; omega
  ·have hj2 : j = ps.length := by omega
   subst hj2
   rw [List.take_length] at hown ⊢
   go_wp2_with fail
   go_ret
   refine ⟨_, rfl, ?_, hbel⟩
   exact bF hown (by omega)
theorem vF (d : Nat) (IH : Hid (∀ (S : Nat → Prop) (own : Bool) (e : Ex) (v : Value) (w : World), e.depth ≤ d → d ≤ 1000 → e.size ≤ 1000 → e.okR = true → av w S own e v → Calls Tryz.prog 77 #[v] w (bJ 5 w e.st)))
  (S : Nat → Prop) (own : Bool) (a b : Nat) (ps : List Ex) (xs : List Value) (ad : Option Addr) (cap : Nat) (HD : List UInt8) (w : World) (hd : Ex.depths ps ≤ d) (hd2 : d ≤ 1000) (hsz : Ex.sizes ps + 1 ≤ 1000) (HOK : Hid (Ex.okRs ps = true))
  (ha : a < 18446744073709551616) (hb : b < 18446744073709551616) (HS : Hid (Sl w S own 4 ps.length xs (.slice ad ps.length cap) ∧ au w S own ps xs)) (hhl : HD.length ≤ 31) (HE : Hid (HD = [(4:Nat).toUInt8] ++ bf a ++ bf b)) :
  Calls Tryz.prog 77 #[.agg #[.int .i64 4, .int .u64 a, .int .u64 b, .slice ad ps.length cap]] w (bJ 5 w (HD ++ Ex.sts ps)) := by
 obtain ⟨i0, hi0, hz0, hz1, hz2⟩ := info_parts infoByte
 obtain ⟨hxl, hlen, _, _, _, hcap⟩ := HS.out.1.shape
 clear hxl
 have hpl := Ex.length_le_sizes ps
 have hstl := hid (Ex.sts_take_length ps)
 go_enter Tryz.func77, Tryz.ntmps77
 go_wp2_with fail
 refine (dJ a _ (by omega)).mono ?_
 rintro e w1 ⟨v1, rfl, hown1, hb1⟩
 obtain ⟨sa1, sc1, rfl⟩ := ag hown1
 have hsz1 := hb1.size
 have hpl1 := aS a
 have HS1 := hid (Sl.of_owns hown1 (by omega))
 have HL1 := eu (w := w) _ 4 (by omega) hb1 (by simp)
 clear hown1
 have hbx1 : ∀ o, w1.cell? ⟨w.heap.size, o, none⟩ = (w.alloc (.cells #[.int .i64 4, .int .u64 a, .int .u64 b, .slice ad ps.length cap] 34)).cell? ⟨w.heap.size, o, none⟩ := fun o => by rw [hb1.cell (by simp; omega), World.cell?_alloc_past _ _ _ (by simp)]
 have hzz2 : w.heap.size < w1.heap.size := by simp at hsz1; omega
 have hzz3 : w.heap.size + 1 ≤ w1.heap.size := by omega
 have HL2 := hid HL1
 clear HL1 hb1
 go_wp2_with (at_builtin; go_loud (refine ai _ rfl (.tmp 17) (.tmp 20) _ rfl (w.heap.size + 1) 5 i0 _ 1 1 Tryz.underlying22 hi0 hz0 hz1 hz2 rfl (by omega) (.slice (some ⟨w.heap.size + 1, 0, none⟩) 1 1) [(4:Nat).toUInt8].length (bytes [(4:Nat).toUInt8]) rfl HL2.out.1 _ _ (bf a).length (bytes (bf a)) _ rfl HS1.out (aO _) (by unfold maxLen; simp; omega) (by simp; omega) (by omega) ?_); intro v' w2 hown2 hgrow hat
              obtain ⟨va, vc, rfl⟩ := ag hown2
              have hqx := bq (sv := .slice (some ⟨w.heap.size + 1, 0, none⟩) 1 1) HL2.out.2.2 nl HL2.out.2.1 HL2.out.1.lt hown2 hgrow
              have c0 : w2.cell? ⟨w.heap.size, 0, none⟩ = some (.int .i64 4) := (by rw [cell_of_row w2 _ 0 _ _ _ hqx.2.1]; rfl)
              have c2 : w2.cell? ⟨w.heap.size, 2, none⟩ = some (.int .u64 b) := (by rw [cell_of_row w2 _ 2 _ _ _ hqx.2.1]; rfl))
 have hqs : w.heap.size < w2.heap.size := (Array.getElem?_eq_some_iff.1 hqx.2.1).1
 have hMl : ([(4:Nat).toUInt8] ++ bf a).length = 1 + (bf a).length := by simp; omega
 rw [hMl] at hqx
 have HQ := hid hqx
 clear hqx hown2 hgrow hat HL2
 refine (dJ b _ hb).mono ?_
 rintro e w3 ⟨v3, rfl, hown3, hb3⟩
 obtain ⟨sa3, sc3, rfl⟩ := ag hown3
 have hsz3 := hb3.size
 have hpl3 := aS b
 have HS3 := hid (Sl.of_owns hown3 (by omega))
 have c03 : w3.cell? ⟨w.heap.size, 0, none⟩ = some (.int .i64 4) := (hb3.cell hqs).trans c0
 have hob2 := HQ.out.1.lt
 have HB3 := hid hb3
 clear hown3 hb3
 have hzz4 : w.heap.size < w3.heap.size := by omega
 go_wp2_with (at_builtin; go_loud (refine ai _ rfl (.tmp 25) (.tmp 28) _ rfl (w.heap.size + 1) 5 i0 _ 1 1 Tryz.underlying22 hi0 hz0 hz1 hz2 rfl (by omega) (.slice va (1 + (bf a).length) vc) (1 + (bf a).length) (bytes ([(4:Nat).toUInt8] ++ bf a)) rfl (ownsRow_below HQ.out.1 HB3.out nl) _ _ (bf b).length (bytes (bf b)) _ rfl HS3.out (aO _) (by unfold maxLen; simp; omega) (by simp; omega) (by omega) ?_); intro v' w4 hown4 hgrow hat
              obtain ⟨vb, vd, rfl⟩ := ag hown4
              go_loud (have hqx := bq (l := [(4:Nat).toUInt8] ++ bf a) (m := bf b) (T := 5) (sv := .slice va (1 + (bf a).length) vc) (HQ.out.2.2.trans (HB3.out.mono (by omega))) nl ((HB3.out.block _ hqs).trans HQ.out.2.1) (fun k hk => ⟨(hob2 k hk).1, by have := (hob2 k hk).2; omega⟩) (by rw [hMl]; exact hown4) hgrow)
              have c04 : w4.cell? ⟨w.heap.size, 0, none⟩ = some (.int .i64 4) := (by rw [cell_of_row w4 _ 0 _ _ _ hqx.2.1]; rfl))
 rw [← HE.out] at hqx
 have HL := hid hqx
 clear hqx hown4 hgrow hat HQ
 go_loopw [3, 4] (fun o i wr => ∃ j : Nat, j ≤ ps.length ∧ i = .int .i64 j ∧ wr.ownsRow (w.heap.size + 1) 5 1 o (HD ++ Ex.sts (ps.take j)).length (bytes (HD ++ Ex.sts (ps.take j))) ∧ wr.heap[w.heap.size]? = some (.cells #[.int .i64 4, .int .u64 a, .int .u64 b, .slice ad ps.length cap] 34) ∧ Below w.heap.size w wr) (fun _ i _ => ps.length - (intOf i).toNat)
 case atStart => exact ⟨0, by omega, rfl, by simpa [Ex.sts] using HL.out.1, HL.out.2.1, HL.out.2.2⟩
 case round =>
  obtain ⟨j, hj, rfl, hown, hbx, hbel⟩ := hrel
  have c3 : wr.cell? ⟨w.heap.size, 3, none⟩ = some (.slice ad ps.length cap) := by rw [cell_of_row wr _ 3 _ _ _ hbx]; rfl
  have hzr : w.heap.size < wr.heap.size := (Array.getElem?_eq_some_iff.1 hbx).1
  have hob := hown.lt
  have HBX := hid hbx
  clear hbx
  obtain ⟨sa, sc, rfl⟩ := ag hown
  by_cases hlt : j < ps.length
  ·obtain ⟨bl, off, k', a', b', ad', n', cap', rfl, _, g0, g1, g2, g3, _, ge⟩ := (HS.out.2.below hbel nl).part (HS.out.1.below (by omega) hbel nl) j hlt
   have hdj := Ex.depths_ge ps j hlt
   have hsj := Ex.sizes_ge ps j hlt
   have PS := hid (Ex.sts_take ps j hlt)
   have hl0 := hstl.out j
   have hlp := Ex.st_length ps[j]
   obtain ⟨L, hL⟩ : ∃ L, L = HD ++ Ex.sts (ps.take j) := ⟨_, rfl⟩
   have hLl : L.length ≤ 31031 := by rw [hL]; simp; omega
   rw [← hL] at hown hob
   rw [← hL]
   have HLL := hid hL
   have HOWN := hid hown
   clear hL hl0 hown
   go_wp2_with fail
   refine (IH.out _ _ ps[j] _ _ (by omega) (by omega) (by omega) (Ex.okRs_get ps j hlt HOK.out) ge).mono ?_
   rintro e w1 ⟨v1, rfl, hown1, hb1⟩
   obtain ⟨sa1, sc1, rfl⟩ := ag hown1
   have hsz1 := hb1.size
   have HS1 := hid (Sl.of_owns hown1 (by omega))
   have HB1 := hid hb1
   clear hown1 hb1
   go_wp2_with (at_builtin; refine ai _ rfl (.tmp 47) (.tmp 53) _ rfl (w.heap.size + 1) 5 i0 _ 1 1 Tryz.underlying22 hi0 hz0 hz1 hz2 rfl (by omega) _ L.length (bytes L) rfl (ownsRow_below HOWN.out HB1.out nl) _ _ ps[j].st.length (bytes ps[j].st) _ rfl HS1.out (aO _) (by unfold maxLen; omega) (by omega) (by omega) ?_; intro v' w2 hown2 hgrow hat)
   have HP := hid (bq (hbel.trans (HB1.out.mono (by omega))) nl ((HB1.out.block _ hzr).trans HBX.out) (fun k hk => ⟨(hob k hk).1, by have := (hob k hk).2; omega⟩) hown2 hgrow)
   clear hown2 hgrow hat
   go_wp2_with fail
   go_roundw
   case rel =>
    refine ⟨j + 1, by omega, by go_num, ?_, HP.out.2⟩
    rw [PS.out, ← List.append_assoc, ← HLL.out]
    exact HP.out.1
   case measure => simp [intOf]; omega
  ·have hj2 : j = ps.length := by omega
   subst hj2
   rw [List.take_length] at hown ⊢
   go_wp2_with fail
   go_ret
   refine ⟨_, rfl, ?_, hbel⟩
   exact bF hown (by omega)
theorem vG (d : Nat) (IH : Hid (∀ (S : Nat → Prop) (own : Bool) (e : Ex) (v : Value) (w : World), e.depth ≤ d → d ≤ 1000 → e.size ≤ 1000 → e.okR = true → av w S own e v → Calls Tryz.prog 77 #[v] w (bJ 5 w e.st)))
  (S : Nat → Prop) (own : Bool) (a b : Nat) (ps : List Ex) (xs : List Value) (ad : Option Addr) (cap : Nat) (HD : List UInt8) (w : World) (hd : Ex.depths ps ≤ d) (hd2 : d ≤ 1000) (hsz : Ex.sizes ps + 1 ≤ 1000) (HOK : Hid (Ex.okRs ps = true))
  (ha : a < 18446744073709551616) (hb : b < 18446744073709551616) (HS : Hid (Sl w S own 4 ps.length xs (.slice ad ps.length cap) ∧ au w S own ps xs)) (hhl : HD.length ≤ 31) (HE : Hid (HD = [(5:Nat).toUInt8])) :
  Calls Tryz.prog 77 #[.agg #[.int .i64 5, .int .u64 a, .int .u64 b, .slice ad ps.length cap]] w (bJ 5 w (HD ++ Ex.sts ps)) := by
 obtain ⟨i0, hi0, hz0, hz1, hz2⟩ := info_parts infoByte
 obtain ⟨hxl, hlen, _, _, _, hcap⟩ := HS.out.1.shape
 clear hxl
 have hpl := Ex.length_le_sizes ps
 have hstl := hid (Ex.sts_take_length ps)
 go_enter Tryz.func77, Tryz.ntmps77
 go_wp2_with fail
 have HL0 := eu (w := w) (.cells #[.int .i64 5, .int .u64 a, .int .u64 b, .slice ad ps.length cap] 34) 5 (by omega) (Below.refl (w.heap.size + 2) ((w.alloc (.cells #[.int .i64 5, .int .u64 a, .int .u64 b, .slice ad ps.length cap] 34)).alloc (.cells #[.int .u8 (5:Nat)] 5))) nl
 rw [← HE.out] at HL0
 have HL := hid HL0
 clear HL0
 go_loopw [3, 4] (fun o i wr => ∃ j : Nat, j ≤ ps.length ∧ i = .int .i64 j ∧ wr.ownsRow (w.heap.size + 1) 5 1 o (HD ++ Ex.sts (ps.take j)).length (bytes (HD ++ Ex.sts (ps.take j))) ∧ wr.heap[w.heap.size]? = some (.cells #[.int .i64 5, .int .u64 a, .int .u64 b, .slice ad ps.length cap] 34) ∧ Below w.heap.size w wr) (fun _ i _ => ps.length - (intOf i).toNat)
 case atStart => exact ⟨0, by omega, rfl, by simpa [Ex.sts] using HL.out.1, HL.out.2.1, HL.out.2.2⟩
 case round =>
  obtain ⟨j, hj, rfl, hown, hbx, hbel⟩ := hrel
  have c3 : wr.cell? ⟨w.heap.size, 3, none⟩ = some (.slice ad ps.length cap) := by rw [cell_of_row wr _ 3 _ _ _ hbx]; rfl
  have hzr : w.heap.size < wr.heap.size := (Array.getElem?_eq_some_iff.1 hbx).1
  have hob := hown.lt
  have HBX := hid hbx
  clear hbx
  obtain ⟨sa, sc, rfl⟩ := ag hown
  by_cases hlt : j < ps.length
  ·obtain ⟨bl, off, k', a', b', ad', n', cap', rfl, _, g0, g1, g2, g3, _, ge⟩ := (HS.out.2.below hbel nl).part (HS.out.1.below (by omega) hbel nl) j hlt
   have hdj := Ex.depths_ge ps j hlt
   have hsj := Ex.sizes_ge ps j hlt
   have PS := hid (Ex.sts_take ps j hlt)
   have hl0 := hstl.out j
   have hlp := Ex.st_length ps[j]
   obtain ⟨L, hL⟩ : ∃ L, L = HD ++ Ex.sts (ps.take j) := ⟨_, rfl⟩
   have hLl : L.length ≤ 31031 := by rw [hL]; simp; omega
   rw [← hL] at hown hob
   rw [← hL]
   have HLL := hid hL
   have HOWN := hid hown
   clear hL hl0 hown
   go_wp2_with fail
   refine (IH.out _ _ ps[j] _ _ (by omega) (by omega) (by omega) (Ex.okRs_get ps j hlt HOK.out) ge).mono ?_
   rintro e w1 ⟨v1, rfl, hown1, hb1⟩
   obtain ⟨sa1, sc1, rfl⟩ := ag hown1
   have hsz1 := hb1.size
   have HS1 := hid (Sl.of_owns hown1 (by omega))
   have HB1 := hid hb1
   clear hown1 hb1
   go_wp2_with (at_builtin; refine ai _ rfl (.tmp 47) (.tmp 53) _ rfl (w.heap.size + 1) 5 i0 _ 1 1 Tryz.underlying22 hi0 hz0 hz1 hz2 rfl (by omega) _ L.length (bytes L) rfl (ownsRow_below HOWN.out HB1.out nl) _ _ ps[j].st.length (bytes ps[j].st) _ rfl HS1.out (aO _) (by unfold maxLen; omega) (by omega) (by omega) ?_; intro v' w2 hown2 hgrow hat)
   have HP := hid (bq (hbel.trans (HB1.out.mono (by omega))) nl ((HB1.out.block _ hzr).trans HBX.out) (fun k hk => ⟨(hob k hk).1, by have := (hob k hk).2; omega⟩) hown2 hgrow)
   clear hown2 hgrow hat
   go_wp2_with fail
   go_roundw
   case rel =>
    refine ⟨j + 1, by omega, by go_num, ?_, HP.out.2⟩
    rw [PS.out, ← List.append_assoc, ← HLL.out]
    exact HP.out.1
   case measure => simp [intOf]; omega
  ·have hj2 : j = ps.length := by omega
   subst hj2
   rw [List.take_length] at hown ⊢
   go_wp2_with fail
   go_ret
   refine ⟨_, rfl, ?_, hbel⟩
   exact bF hown (by omega)
theorem vH (d : Nat) (IH : Hid (∀ (S : Nat → Prop) (own : Bool) (e : Ex) (v : Value) (w : World), e.depth ≤ d → d ≤ 1000 → e.size ≤ 1000 → e.okR = true → av w S own e v → Calls Tryz.prog 77 #[v] w (bJ 5 w e.st)))
  (S : Nat → Prop) (own : Bool) (a b : Nat) (ps : List Ex) (xs : List Value) (ad : Option Addr) (cap : Nat) (HD : List UInt8) (w : World) (hd : Ex.depths ps ≤ d) (hd2 : d ≤ 1000) (hsz : Ex.sizes ps + 1 ≤ 1000) (HOK : Hid (Ex.okRs ps = true))
  (ha : a < 18446744073709551616) (hb : b < 18446744073709551616) (HS : Hid (Sl w S own 4 ps.length xs (.slice ad ps.length cap) ∧ au w S own ps xs)) (hhl : HD.length ≤ 31) (HE : Hid (HD = [(6:Nat).toUInt8] ++ bf ps.length)) :
  Calls Tryz.prog 77 #[.agg #[.int .i64 6, .int .u64 a, .int .u64 b, .slice ad ps.length cap]] w (bJ 5 w (HD ++ Ex.sts ps)) := by
 obtain ⟨i0, hi0, hz0, hz1, hz2⟩ := info_parts infoByte
 obtain ⟨hxl, hlen, _, _, _, hcap⟩ := HS.out.1.shape
 clear hxl
 have hpl := Ex.length_le_sizes ps
 have hstl := hid (Ex.sts_take_length ps)
 go_enter Tryz.func77, Tryz.ntmps77
 go_wp2_with fail
 refine (dJ ps.length _ (by omega)).mono ?_
 rintro e w1 ⟨v1, rfl, hown1, hb1⟩
 obtain ⟨sa1, sc1, rfl⟩ := ag hown1
 have hsz1 := hb1.size
 have hpl1 := aS ps.length
 have HS1 := hid (Sl.of_owns hown1 (by omega))
 have HL1 := eu (w := w) _ 6 (by omega) hb1 (by simp)
 clear hown1
 have hbx1 : ∀ o, w1.cell? ⟨w.heap.size, o, none⟩ = (w.alloc (.cells #[.int .i64 6, .int .u64 a, .int .u64 b, .slice ad ps.length cap] 34)).cell? ⟨w.heap.size, o, none⟩ := fun o => by rw [hb1.cell (by simp; omega), World.cell?_alloc_past _ _ _ (by simp)]
 have hzz2 : w.heap.size < w1.heap.size := by simp at hsz1; omega
 have hzz3 : w.heap.size + 1 ≤ w1.heap.size := by omega
 have HL2 := hid HL1
 clear HL1 hb1
 go_wp2_with (at_builtin; go_loud (refine ai _ rfl (.tmp 33) (.tmp 38) _ rfl (w.heap.size + 1) 5 i0 _ 1 1 Tryz.underlying22 hi0 hz0 hz1 hz2 rfl (by omega) (.slice (some ⟨w.heap.size + 1, 0, none⟩) 1 1) [(6:Nat).toUInt8].length (bytes [(6:Nat).toUInt8]) rfl HL2.out.1 _ _ (bf ps.length).length (bytes (bf ps.length)) _ rfl HS1.out (aO _) (by unfold maxLen; simp; omega) (by simp; omega) (by omega) ?_); intro v' w2 hown2 hgrow hat
              obtain ⟨va, vc, rfl⟩ := ag hown2
              have hqx := bq (sv := .slice (some ⟨w.heap.size + 1, 0, none⟩) 1 1) HL2.out.2.2 nl HL2.out.2.1 HL2.out.1.lt hown2 hgrow
              have c0 : w2.cell? ⟨w.heap.size, 0, none⟩ = some (.int .i64 6) := (by rw [cell_of_row w2 _ 0 _ _ _ hqx.2.1]; rfl))
 rw [← HE.out] at hqx
 have HL := hid hqx
 clear hqx hown2 hgrow hat HL2
 go_loopw [3, 4] (fun o i wr => ∃ j : Nat, j ≤ ps.length ∧ i = .int .i64 j ∧ wr.ownsRow (w.heap.size + 1) 5 1 o (HD ++ Ex.sts (ps.take j)).length (bytes (HD ++ Ex.sts (ps.take j))) ∧ wr.heap[w.heap.size]? = some (.cells #[.int .i64 6, .int .u64 a, .int .u64 b, .slice ad ps.length cap] 34) ∧ Below w.heap.size w wr) (fun _ i _ => ps.length - (intOf i).toNat)
 case atStart => exact ⟨0, by omega, rfl, by simpa [Ex.sts] using HL.out.1, HL.out.2.1, HL.out.2.2⟩
 case round =>
  obtain ⟨j, hj, rfl, hown, hbx, hbel⟩ := hrel
  have c3 : wr.cell? ⟨w.heap.size, 3, none⟩ = some (.slice ad ps.length cap) := by rw [cell_of_row wr _ 3 _ _ _ hbx]; rfl
  have hzr : w.heap.size < wr.heap.size := (Array.getElem?_eq_some_iff.1 hbx).1
  have hob := hown.lt
  have HBX := hid hbx
  clear hbx
  obtain ⟨sa, sc, rfl⟩ := ag hown
  by_cases hlt : j < ps.length
  ·obtain ⟨bl, off, k', a', b', ad', n', cap', rfl, _, g0, g1, g2, g3, _, ge⟩ := (HS.out.2.below hbel nl).part (HS.out.1.below (by omega) hbel nl) j hlt
   have hdj := Ex.depths_ge ps j hlt
   have hsj := Ex.sizes_ge ps j hlt
   have PS := hid (Ex.sts_take ps j hlt)
   have hl0 := hstl.out j
   have hlp := Ex.st_length ps[j]
   obtain ⟨L, hL⟩ : ∃ L, L = HD ++ Ex.sts (ps.take j) := ⟨_, rfl⟩
   have hLl : L.length ≤ 31031 := by rw [hL]; simp; omega
   rw [← hL] at hown hob
   rw [← hL]
   have HLL := hid hL
   have HOWN := hid hown
   clear hL hl0 hown
   go_wp2_with fail
   refine (IH.out _ _ ps[j] _ _ (by omega) (by omega) (by omega) (Ex.okRs_get ps j hlt HOK.out) ge).mono ?_
   rintro e w1 ⟨v1, rfl, hown1, hb1⟩
   obtain ⟨sa1, sc1, rfl⟩ := ag hown1
   have hsz1 := hb1.size
   have HS1 := hid (Sl.of_owns hown1 (by omega))
   have HB1 := hid hb1
   clear hown1 hb1
   go_wp2_with (at_builtin; refine ai _ rfl (.tmp 47) (.tmp 53) _ rfl (w.heap.size + 1) 5 i0 _ 1 1 Tryz.underlying22 hi0 hz0 hz1 hz2 rfl (by omega) _ L.length (bytes L) rfl (ownsRow_below HOWN.out HB1.out nl) _ _ ps[j].st.length (bytes ps[j].st) _ rfl HS1.out (aO _) (by unfold maxLen; omega) (by omega) (by omega) ?_; intro v' w2 hown2 hgrow hat)
   have HP := hid (bq (hbel.trans (HB1.out.mono (by omega))) nl ((HB1.out.block _ hzr).trans HBX.out) (fun k hk => ⟨(hob k hk).1, by have := (hob k hk).2; omega⟩) hown2 hgrow)
   clear hown2 hgrow hat
   go_wp2_with fail
   go_roundw
   case rel =>
    refine ⟨j + 1, by omega, by go_num, ?_, HP.out.2⟩
    rw [PS.out, ← List.append_assoc, ← HLL.out]
    exact HP.out.1
   case measure => simp [intOf]; omega
  ·have hj2 : j = ps.length := by omega
   subst hj2
   rw [List.take_length] at hown ⊢
   go_wp2_with fail
   go_ret
   refine ⟨_, rfl, ?_, hbel⟩
   exact bF hown (by omega)
theorem vI (d : Nat) (IH : Hid (∀ (S : Nat → Prop) (own : Bool) (e : Ex) (v : Value) (w : World), e.depth ≤ d → d ≤ 1000 → e.size ≤ 1000 → e.okR = true → av w S own e v → Calls Tryz.prog 77 #[v] w (bJ 5 w e.st)))
  (S : Nat → Prop) (own : Bool) (a b : Nat) (ps : List Ex) (xs : List Value) (ad : Option Addr) (cap : Nat) (HD : List UInt8) (w : World) (hd : Ex.depths ps ≤ d) (hd2 : d ≤ 1000) (hsz : Ex.sizes ps + 1 ≤ 1000) (HOK : Hid (Ex.okRs ps = true))
  (ha : a < 18446744073709551616) (hb : b < 18446744073709551616) (HS : Hid (Sl w S own 4 ps.length xs (.slice ad ps.length cap) ∧ au w S own ps xs)) (hhl : HD.length ≤ 31) (HE : Hid (HD = [(7:Nat).toUInt8] ++ bf ps.length)) :
  Calls Tryz.prog 77 #[.agg #[.int .i64 7, .int .u64 a, .int .u64 b, .slice ad ps.length cap]] w (bJ 5 w (HD ++ Ex.sts ps)) := by
 obtain ⟨i0, hi0, hz0, hz1, hz2⟩ := info_parts infoByte
 obtain ⟨hxl, hlen, _, _, _, hcap⟩ := HS.out.1.shape
 clear hxl
 have hpl := Ex.length_le_sizes ps
 have hstl := hid (Ex.sts_take_length ps)
 go_enter Tryz.func77, Tryz.ntmps77
 go_wp2_with fail
 refine (dJ ps.length _ (by omega)).mono ?_
 rintro e w1 ⟨v1, rfl, hown1, hb1⟩
 obtain ⟨sa1, sc1, rfl⟩ := ag hown1
 have hsz1 := hb1.size
 have hpl1 := aS ps.length
 have HS1 := hid (Sl.of_owns hown1 (by omega))
 have HL1 := eu (w := w) _ 7 (by omega) hb1 (by simp)
 clear hown1
 have hbx1 : ∀ o, w1.cell? ⟨w.heap.size, o, none⟩ = (w.alloc (.cells #[.int .i64 7, .int .u64 a, .int .u64 b, .slice ad ps.length cap] 34)).cell? ⟨w.heap.size, o, none⟩ := fun o => by rw [hb1.cell (by simp; omega), World.cell?_alloc_past _ _ _ (by simp)]
 have hzz2 : w.heap.size < w1.heap.size := by simp at hsz1; omega
 have hzz3 : w.heap.size + 1 ≤ w1.heap.size := by omega
 have HL2 := hid HL1
 clear HL1 hb1
 go_wp2_with (at_builtin; go_loud (refine ai _ rfl (.tmp 33) (.tmp 38) _ rfl (w.heap.size + 1) 5 i0 _ 1 1 Tryz.underlying22 hi0 hz0 hz1 hz2 rfl (by omega) (.slice (some ⟨w.heap.size + 1, 0, none⟩) 1 1) [(7:Nat).toUInt8].length (bytes [(7:Nat).toUInt8]) rfl HL2.out.1 _ _ (bf ps.length).length (bytes (bf ps.length)) _ rfl HS1.out (aO _) (by unfold maxLen; simp; omega) (by simp; omega) (by omega) ?_); intro v' w2 hown2 hgrow hat
              obtain ⟨va, vc, rfl⟩ := ag hown2
              have hqx := bq (sv := .slice (some ⟨w.heap.size + 1, 0, none⟩) 1 1) HL2.out.2.2 nl HL2.out.2.1 HL2.out.1.lt hown2 hgrow
              have c0 : w2.cell? ⟨w.heap.size, 0, none⟩ = some (.int .i64 7) := (by rw [cell_of_row w2 _ 0 _ _ _ hqx.2.1]; rfl))
 rw [← HE.out] at hqx
 have HL := hid hqx
 clear hqx hown2 hgrow hat HL2
 go_loopw [3, 4] (fun o i wr => ∃ j : Nat, j ≤ ps.length ∧ i = .int .i64 j ∧ wr.ownsRow (w.heap.size + 1) 5 1 o (HD ++ Ex.sts (ps.take j)).length (bytes (HD ++ Ex.sts (ps.take j))) ∧ wr.heap[w.heap.size]? = some (.cells #[.int .i64 7, .int .u64 a, .int .u64 b, .slice ad ps.length cap] 34) ∧ Below w.heap.size w wr) (fun _ i _ => ps.length - (intOf i).toNat)
 case atStart => exact ⟨0, by omega, rfl, by simpa [Ex.sts] using HL.out.1, HL.out.2.1, HL.out.2.2⟩
 case round =>
  obtain ⟨j, hj, rfl, hown, hbx, hbel⟩ := hrel
  have c3 : wr.cell? ⟨w.heap.size, 3, none⟩ = some (.slice ad ps.length cap) := by rw [cell_of_row wr _ 3 _ _ _ hbx]; rfl
  have hzr : w.heap.size < wr.heap.size := (Array.getElem?_eq_some_iff.1 hbx).1
  have hob := hown.lt
  have HBX := hid hbx
  clear hbx
  obtain ⟨sa, sc, rfl⟩ := ag hown
  by_cases hlt : j < ps.length
  ·obtain ⟨bl, off, k', a', b', ad', n', cap', rfl, _, g0, g1, g2, g3, _, ge⟩ := (HS.out.2.below hbel nl).part (HS.out.1.below (by omega) hbel nl) j hlt
   have hdj := Ex.depths_ge ps j hlt
   have hsj := Ex.sizes_ge ps j hlt
   have PS := hid (Ex.sts_take ps j hlt)
   have hl0 := hstl.out j
   have hlp := Ex.st_length ps[j]
   obtain ⟨L, hL⟩ : ∃ L, L = HD ++ Ex.sts (ps.take j) := ⟨_, rfl⟩
   have hLl : L.length ≤ 31031 := by rw [hL]; simp; omega
   rw [← hL] at hown hob
   rw [← hL]
   have HLL := hid hL
   have HOWN := hid hown
   clear hL hl0 hown
   go_wp2_with fail
   refine (IH.out _ _ ps[j] _ _ (by omega) (by omega) (by omega) (Ex.okRs_get ps j hlt HOK.out) ge).mono ?_
   rintro e w1 ⟨v1, rfl, hown1, hb1⟩
   obtain ⟨sa1, sc1, rfl⟩ := ag hown1
   have hsz1 := hb1.size
   have HS1 := hid (Sl.of_owns hown1 (by omega))
   have HB1 := hid hb1
   clear hown1 hb1
   go_wp2_with (at_builtin; refine ai _ rfl (.tmp 47) (.tmp 53) _ rfl (w.heap.size + 1) 5 i0 _ 1 1 Tryz.underlying22 hi0 hz0 hz1 hz2 rfl (by omega) _ L.length (bytes L) rfl (ownsRow_below HOWN.out HB1.out nl) _ _ ps[j].st.length (bytes ps[j].st) _ rfl HS1.out (aO _) (by unfold maxLen; omega) (by omega) (by omega) ?_; intro v' w2 hown2 hgrow hat)
   have HP := hid (bq (hbel.trans (HB1.out.mono (by omega))) nl ((HB1.out.block _ hzr).trans HBX.out) (fun k hk => ⟨(hob k hk).1, by have := (hob k hk).2; omega⟩) hown2 hgrow)
   clear hown2 hgrow hat
   go_wp2_with fail
   go_roundw
   case rel =>
    refine ⟨j + 1, by omega, by go_num, ?_, HP.out.2⟩
    rw [PS.out, ← List.append_assoc, ← HLL.out]
    exact HP.out.1
   case measure => simp [intOf]; omega
  ·have hj2 : j = ps.length := by omega
   subst hj2
   rw [List.take_length] at hown ⊢
   go_wp2_with fail
   go_ret
   refine ⟨_, rfl, ?_, hbel⟩
   exact bF hown (by omega)
theorem rE (d : Nat) : ∀ (S : Nat → Prop) (own : Bool) (e : Ex) (v : Value) (w : World), e.depth ≤ d → d ≤ 1000 → e.size ≤ 1000 → e.okR = true → av w S own e v →
  Calls Tryz.prog 77 #[v] w (bJ 5 w e.st) := by
 induction d with
 | zero => intro S own e v w hd; cases e; simp [Ex.depth] at hd
 | succ d ih =>
  intro S own e v w hd hd2 hsz hok hrep
  obtain ⟨k, a, b, ps⟩ := e
  simp only [av] at hrep
  obtain ⟨s, xs, rfl, hk1, hk2, ha, hb, hs, hes⟩ := hrep
  obtain ⟨hxl, hlen, ad, cap, rfl, hcap⟩ := hs.shape
  simp only [Ex.depth, Ex.size, Ex.okR, Bool.and_eq_true] at hd hsz hok
  simp only [Ex.st]
  have hhl := gN k a b ps.length
  have HS := hid (And.intro hs hes)
  obtain ⟨hok1, hok2⟩ := hok
  have HOK := hid hok1
  rcases jA hok2 with rfl | rfl | rfl | ⟨rfl, hab⟩ | rfl | rfl | rfl
  ·exact vC d (hid ih) S own a b ps xs ad cap _ w (by omega) (by omega) hsz HOK ha hb HS hhl (hid (by simp [eX]))
  ·exact vD d (hid ih) S own a b ps xs ad cap _ w (by omega) (by omega) hsz HOK ha hb HS hhl (hid (by simp [eX]))
  ·exact vE d (hid ih) S own a b ps xs ad cap _ w (by omega) (by omega) hsz HOK ha hb HS hhl (hid (by simp [eX]))
  ·exact vF d (hid ih) S own a b ps xs ad cap _ w (by omega) (by omega) hsz HOK ha hb HS hhl (hid (by simp [eX]))
  ·exact vG d (hid ih) S own a b ps xs ad cap _ w (by omega) (by omega) hsz HOK ha hb HS hhl (hid (by simp [eX]))
  ·exact vH d (hid ih) S own a b ps xs ad cap _ w (by omega) (by omega) hsz HOK ha hb HS hhl (hid (by simp [eX]))
  ·exact vI d (hid ih) S own a b ps xs ad cap _ w (by omega) (by omega) hsz HOK ha hb HS hhl (hid (by simp [eX]))
theorem qb (S : Nat → Prop) (own : Bool) (e : Ex) (v : Value) (w : World) (hsz : e.size ≤ 900) (hrep : av w S own e v) :
  Calls Tryz.prog 46 #[v] w (bJ 5 w e.put) := by
 have hds := e.depth_le_size
 obtain ⟨c0, c1, c2, c3, rfl⟩ := hrep.four
 have hb0 : Below w.heap.size w (w.alloc (.cells #[c0, c1, c2, c3] 34)) := br.alloc nl _
 go_enter Tryz.func46, Tryz.ntmps46
 go_wp2_with fail
 refine (dV _ _ e _ _ hsz (hrep.below hb0 nl)).mono ?_
 rintro e1 w1 ⟨rfl, hb1⟩
 have hb2 : Below w.heap.size w w1 := hb0.trans (hb1.mono (by simp))
 have hbox : ∀ o, w1.cell? ⟨w.heap.size, o, none⟩ = (w.alloc (.cells #[c0, c1, c2, c3] 34)).cell? ⟨w.heap.size, o, none⟩ := fun o => hb1.cell (by simp)
 have hsz1 : w.heap.size + 1 ≤ w1.heap.size := by have := hb1.size; simpa using this
 cases h1 : e.right with
 | true =>
  have H1 := hid h1
  clear h1
  go_wp2_with fail
  refine (rE e.depth _ _ e _ _ nl (by omega) (by omega) (by have := H1.out; simp [Ex.right] at this; exact this.1.1) (hrep.below hb2 nl)).mono ?_
  rintro e2 w2 ⟨v2, rfl, hown2, hb3⟩
  obtain ⟨sa, sc, rfl⟩ := ag hown2
  go_wp2_with fail
  go_ret
  exact ⟨_, rfl, by simpa [Ex.put, H1.out] using bF hown2 (by omega), hb2.trans (hb3.mono (by omega))⟩
 | false =>
  have H1 := hid h1
  clear h1
  go_wp2_with fail
  go_ret
  exact ⟨_, rfl, by simpa [Ex.put, H1.out] using World.ownsRow_nil _ _ _ _, hb2⟩
end Go.Proofs.YtmgbhhmipmgcpaaGreatDoor
