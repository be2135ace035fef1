/- Walks: how a tree stands, the reference's. -/
import Derived.Test.YtohjkejdkhdjbaaGreatDoorQW03
import Derived.Test.YtohjkejdkhdjbaaGreatDoorQEx05
import Derived.Test.YtohjkejdkhdjbaaGreatDoorQW04i
namespace Go.Proofs.YtohjkejdkhdjbaaGreatDoor
open Go.RowKit Go
set_option linter.unusedVariables false
set_option linter.unusedSimpArgs false
theorem refPut_any (n : Nat) (w : World) (h64 : n < 18446744073709551616) : Calls Tryz.prog 68 #[.int .u64 n] w (GivesB 5 w (putV n)) := refPutV_any 9 n w (Nat.lt_of_lt_of_le h64 (by decide)) h64
theorem lit_below {w w1 : World} {B : Nat} (o : Obj) (q : Nat) (hq : q < 256) (hb1 : Below B ((w.alloc o).alloc (.cells #[.int .u8 (q : Int)] 5)) w1) (hB : w.heap.size + 2 ≤ B) :
    w1.ownsRow (w.heap.size + 1) 5 1 (.slice (some ⟨w.heap.size + 1, 0, none⟩) 1 1) [q.toUInt8].length (bytes [q.toUInt8]) ∧ w1.heap[w.heap.size]? = some o ∧ Below w.heap.size w w1 := by
  have h := ownsRow_below (ownsRow_lit (w.alloc o) (w.heap.size + 1) #[.int .u8 (q : Int)] 5 (by simp) (by simp)) hb1 (by simp; omega)
  refine ⟨by simpa [bytes, u8_toNat hq] using h, ?_, (((Below.refl _ _).alloc (Nat.le_refl _) _).alloc (by simp) _).trans (hb1.mono (by omega))⟩
  rw [hb1.block _ (by omega), Below.heap_alloc _ _ _ (by simp)]
  exact heap_alloc_at _ _ _ rfl
/-- An append of bytes onto a row of the call's own, behind a call. -/
theorem push_bytes {w w1 w2 : World} {o : Obj} {base : Nat} {sv v' : Value} {T : TypeId} {l m : List UInt8} (hb : Below w.heap.size w w1) (hbase : w.heap.size + 1 ≤ base) (hh : w1.heap[w.heap.size]? = some o)
    (hob : ∀ k, sv.ownBlock = some k → base ≤ k ∧ k < w1.heap.size) (hown : w2.ownsRow base T 1 v' (l.length + m.length) (bytes l ++ bytes m)) (hg : w1.grownBy w2 sv.ownBlock) :
    w2.ownsRow base T 1 v' (l ++ m).length (bytes (l ++ m)) ∧ w2.heap[w.heap.size]? = some o ∧ Below w.heap.size w w2 := by
  have hlt : w.heap.size < w1.heap.size := (Array.getElem?_eq_some_iff.1 hh).1
  refine ⟨by simpa [bytes] using hown, ?_, hb.grown hg (by omega) (fun k hk => by have := (hob k hk).1; omega)⟩
  rw [hg.block _ hlt (fun e => by have := (hob _ e.symm).1; omega)]; exact hh
set_option maxHeartbeats 1000000 in
set_option maxRecDepth 100000 in
theorem stands_1 (d : Nat) (IH : Hid (∀ (S : Nat → Prop) (own : Bool) (e : Ex) (v : Value) (w : World), e.depth ≤ d → d ≤ 1000 → e.size ≤ 1000 → e.okR = true → RepE w S own e v → Calls Tryz.prog 46 #[v] w (GivesB 5 w e.st)))
    (S : Nat → Prop) (own : Bool) (a b : Nat) (ps : List Ex) (xs : List Value) (ad : Option Addr) (cap : Nat) (HD : List UInt8) (w : World) (hd : Ex.depths ps ≤ d) (hd2 : d ≤ 1000) (hsz : Ex.sizes ps + 1 ≤ 1000) (HOK : Hid (Ex.okRs ps = true))
    (ha : a < 18446744073709551616) (hb : b < 18446744073709551616) (HS : Hid (Sl w S own 4 ps.length xs (.slice ad ps.length cap) ∧ RepEs w S own ps xs)) (hhl : HD.length ≤ 31) (HE : Hid (HD = [(1:Nat).toUInt8])) :
    Calls Tryz.prog 46 #[.agg #[.int .i64 1, .int .u64 a, .int .u64 b, .slice ad ps.length cap]] w (GivesB 5 w (HD ++ Ex.sts ps)) := by
  obtain ⟨i0, hi0, hz0, hz1, hz2⟩ := info_parts infoByte
  obtain ⟨hxl, hlen, _, _, _, hcap⟩ := HS.out.1.shape
  clear hxl
  have hpl := Ex.length_le_sizes ps
  have hstl := Lib.hid (Ex.sts_take_length ps)
  go_enter Tryz.func46, Tryz.ntmps46
  go_wp2_with fail
  have HL0 := lit_below (w := w) (.cells #[.int .i64 1, .int .u64 a, .int .u64 b, .slice ad ps.length cap] 32) 1 (by omega) (Below.refl (w.heap.size + 2) ((w.alloc (.cells #[.int .i64 1, .int .u64 a, .int .u64 b, .slice ad ps.length cap] 32)).alloc (.cells #[.int .u8 (1:Nat)] 5))) (Nat.le_refl _)
  rw [← HE.out] at HL0
  have HL := Lib.hid HL0
  clear HL0
  -- here: wl, sv, HD with HL : Hid (wl.ownsRow .. sv HD.length (bytes HD) ∧ wl.heap[w.heap.size]? = box ∧ Below w.heap.size w wl), hhd : HD.length ≤ 31
  go_loopw [3, 4] (fun o i wr => ∃ j : Nat, j ≤ ps.length ∧ i = .int .i64 j ∧ wr.ownsRow (w.heap.size + 1) 5 1 o (HD ++ Ex.sts (ps.take j)).length (bytes (HD ++ Ex.sts (ps.take j))) ∧ wr.heap[w.heap.size]? = some (.cells #[.int .i64 1, .int .u64 a, .int .u64 b, .slice ad ps.length cap] 32) ∧ Below w.heap.size w wr) (fun _ i _ => ps.length - (intOf i).toNat)
  case atStart => exact ⟨0, by omega, rfl, by simpa [Ex.sts] using HL.out.1, HL.out.2.1, HL.out.2.2⟩
  case round =>
    obtain ⟨j, hj, rfl, hown, hbx, hbel⟩ := hrel
    have c3 : wr.cell? ⟨w.heap.size, 3, none⟩ = some (.slice ad ps.length cap) := by rw [cell_of_row wr _ 3 _ _ _ hbx]; rfl
    have hzr : w.heap.size < wr.heap.size := (Array.getElem?_eq_some_iff.1 hbx).1
    have hob := hown.lt
    have HBX := Lib.hid hbx
    clear hbx
    obtain ⟨sa, sc, rfl⟩ := owns_slice hown
    by_cases hlt : j < ps.length
    · obtain ⟨bl, off, k', a', b', ad', n', cap', rfl, _, g0, g1, g2, g3, _, ge⟩ := (HS.out.2.below hbel (Nat.le_refl _)).part (HS.out.1.below (by omega) hbel (Nat.le_refl _)) j hlt
      have hdj := Ex.depths_ge ps j hlt
      have hsj := Ex.sizes_ge ps j hlt
      have PS := Lib.hid (Ex.sts_take ps j hlt)
      have hl0 := hstl.out j
      have hlp := Ex.st_length ps[j]
      obtain ⟨L, hL⟩ : ∃ L, L = HD ++ Ex.sts (ps.take j) := ⟨_, rfl⟩
      have hLl : L.length ≤ 31031 := by rw [hL]; simp; omega
      rw [← hL] at hown hob
      rw [← hL]
      have HLL := Lib.hid hL
      have HOWN := Lib.hid hown
      clear hL hl0 hown
      go_wp2_with fail
      refine (IH.out _ _ ps[j] _ _ (by omega) (by omega) (by omega) (Ex.okRs_get ps j hlt HOK.out) ge).mono ?_
      rintro e w1 ⟨v1, rfl, hown1, hb1⟩
      obtain ⟨sa1, sc1, rfl⟩ := owns_slice hown1
      have hsz1 := hb1.size
      have HS1 := Lib.hid (Sl.of_owns hown1 (by omega))
      have HB1 := Lib.hid hb1
      clear hown1 hb1
      go_wp2_with (at_builtin; refine wpList_append_sl _ rfl (.tmp 47) (.tmp 53) _ rfl (w.heap.size + 1) 5 i0 _ 1 1 Tryz.underlying39 hi0 hz0 hz1 hz2 rfl (by omega) _ L.length (bytes L) rfl (ownsRow_below HOWN.out HB1.out (Nat.le_refl _)) _ _ ps[j].st.length (bytes ps[j].st) _ rfl HS1.out (bytes_one _) (by unfold maxLen; omega) (by omega) (by omega) ?_; intro v' w2 hown2 hgrow hat)
      have HP := Lib.hid (push_bytes (hbel.trans (HB1.out.mono (by omega))) (Nat.le_refl _) ((HB1.out.block _ hzr).trans HBX.out) (fun k hk => ⟨(hob k hk).1, by have := (hob k hk).2; omega⟩) hown2 hgrow)
      clear hown2 hgrow hat
      go_wp2_with fail
      go_roundw
      case rel =>
        refine ⟨j + 1, by omega, by go_num, ?_, HP.out.2⟩
        rw [PS.out, ← List.append_assoc, ← HLL.out]
        exact HP.out.1
      case measure => simp [intOf]; omega
    · have hj2 : j = ps.length := by omega
      subst hj2
      rw [List.take_length] at hown ⊢
      go_wp2_with fail
      go_ret
      refine ⟨_, rfl, ?_, hbel⟩
      exact ownsRow_mono hown (by omega)
set_option maxHeartbeats 1000000 in
set_option maxRecDepth 100000 in
theorem stands_2 (d : Nat) (IH : Hid (∀ (S : Nat → Prop) (own : Bool) (e : Ex) (v : Value) (w : World), e.depth ≤ d → d ≤ 1000 → e.size ≤ 1000 → e.okR = true → RepE w S own e v → Calls Tryz.prog 46 #[v] w (GivesB 5 w e.st)))
    (S : Nat → Prop) (own : Bool) (a b : Nat) (ps : List Ex) (xs : List Value) (ad : Option Addr) (cap : Nat) (HD : List UInt8) (w : World) (hd : Ex.depths ps ≤ d) (hd2 : d ≤ 1000) (hsz : Ex.sizes ps + 1 ≤ 1000) (HOK : Hid (Ex.okRs ps = true))
    (ha : a < 18446744073709551616) (hb : b < 18446744073709551616) (HS : Hid (Sl w S own 4 ps.length xs (.slice ad ps.length cap) ∧ RepEs w S own ps xs)) (hhl : HD.length ≤ 31) (HE : Hid (HD = [(2:Nat).toUInt8] ++ putV a)) :
    Calls Tryz.prog 46 #[.agg #[.int .i64 2, .int .u64 a, .int .u64 b, .slice ad ps.length cap]] w (GivesB 5 w (HD ++ Ex.sts ps)) := by
  obtain ⟨i0, hi0, hz0, hz1, hz2⟩ := info_parts infoByte
  obtain ⟨hxl, hlen, _, _, _, hcap⟩ := HS.out.1.shape
  clear hxl
  have hpl := Ex.length_le_sizes ps
  have hstl := Lib.hid (Ex.sts_take_length ps)
  go_enter Tryz.func46, Tryz.ntmps46
  go_wp2_with fail
  refine (refPut_any a _ (by omega)).mono ?_
  rintro e w1 ⟨v1, rfl, hown1, hb1⟩
  obtain ⟨sa1, sc1, rfl⟩ := owns_slice hown1
  have hsz1 := hb1.size
  have hpl1 := putV_length a
  have HS1 := Lib.hid (Sl.of_owns hown1 (by omega))
  have HL1 := lit_below (w := w) _ 2 (by omega) hb1 (by simp)
  clear hown1
  have hbx1 : ∀ o, w1.cell? ⟨w.heap.size, o, none⟩ = (w.alloc (.cells #[.int .i64 2, .int .u64 a, .int .u64 b, .slice ad ps.length cap] 32)).cell? ⟨w.heap.size, o, none⟩ := fun o => by rw [hb1.cell (by simp; omega), World.cell?_alloc_past _ _ _ (by simp)]
  have hzz2 : w.heap.size < w1.heap.size := by simp at hsz1; omega
  have hzz3 : w.heap.size + 1 ≤ w1.heap.size := by omega
  have HL2 := Lib.hid HL1
  clear HL1 hb1
  go_wp2_with (at_builtin; go_loud (refine wpList_append_sl _ rfl (.tmp 17) (.tmp 20) _ rfl (w.heap.size + 1) 5 i0 _ 1 1 Tryz.underlying39 hi0 hz0 hz1 hz2 rfl (by omega) (.slice (some ⟨w.heap.size + 1, 0, none⟩) 1 1) [(2:Nat).toUInt8].length (bytes [(2:Nat).toUInt8]) rfl HL2.out.1 _ _ (putV a).length (bytes (putV a)) _ rfl HS1.out (bytes_one _) (by unfold maxLen; simp; omega) (by simp; omega) (by omega) ?_); intro v' w2 hown2 hgrow hat
               obtain ⟨va, vc, rfl⟩ := owns_slice hown2
               have hqx := push_bytes (sv := .slice (some ⟨w.heap.size + 1, 0, none⟩) 1 1) HL2.out.2.2 (Nat.le_refl _) HL2.out.2.1 HL2.out.1.lt hown2 hgrow
               have c0 : w2.cell? ⟨w.heap.size, 0, none⟩ = some (.int .i64 2) := (by rw [cell_of_row w2 _ 0 _ _ _ hqx.2.1]; rfl))
  rw [← HE.out] at hqx
  have HL := Lib.hid hqx
  clear hqx hown2 hgrow hat HL2
  -- here: wl, sv, HD with HL : Hid (wl.ownsRow .. sv HD.length (bytes HD) ∧ wl.heap[w.heap.size]? = box ∧ Below w.heap.size w wl), hhd : HD.length ≤ 31
  go_loopw [3, 4] (fun o i wr => ∃ j : Nat, j ≤ ps.length ∧ i = .int .i64 j ∧ wr.ownsRow (w.heap.size + 1) 5 1 o (HD ++ Ex.sts (ps.take j)).length (bytes (HD ++ Ex.sts (ps.take j))) ∧ wr.heap[w.heap.size]? = some (.cells #[.int .i64 2, .int .u64 a, .int .u64 b, .slice ad ps.length cap] 32) ∧ Below w.heap.size w wr) (fun _ i _ => ps.length - (intOf i).toNat)
  case atStart => exact ⟨0, by omega, rfl, by simpa [Ex.sts] using HL.out.1, HL.out.2.1, HL.out.2.2⟩
  case round =>
    obtain ⟨j, hj, rfl, hown, hbx, hbel⟩ := hrel
    have c3 : wr.cell? ⟨w.heap.size, 3, none⟩ = some (.slice ad ps.length cap) := by rw [cell_of_row wr _ 3 _ _ _ hbx]; rfl
    have hzr : w.heap.size < wr.heap.size := (Array.getElem?_eq_some_iff.1 hbx).1
    have hob := hown.lt
    have HBX := Lib.hid hbx
    clear hbx
    obtain ⟨sa, sc, rfl⟩ := owns_slice hown
    by_cases hlt : j < ps.length
    · obtain ⟨bl, off, k', a', b', ad', n', cap', rfl, _, g0, g1, g2, g3, _, ge⟩ := (HS.out.2.below hbel (Nat.le_refl _)).part (HS.out.1.below (by omega) hbel (Nat.le_refl _)) j hlt
      have hdj := Ex.depths_ge ps j hlt
      have hsj := Ex.sizes_ge ps j hlt
      have PS := Lib.hid (Ex.sts_take ps j hlt)
      have hl0 := hstl.out j
      have hlp := Ex.st_length ps[j]
      obtain ⟨L, hL⟩ : ∃ L, L = HD ++ Ex.sts (ps.take j) := ⟨_, rfl⟩
      have hLl : L.length ≤ 31031 := by rw [hL]; simp; omega
      rw [← hL] at hown hob
      rw [← hL]
      have HLL := Lib.hid hL
      have HOWN := Lib.hid hown
      clear hL hl0 hown
      go_wp2_with fail
      refine (IH.out _ _ ps[j] _ _ (by omega) (by omega) (by omega) (Ex.okRs_get ps j hlt HOK.out) ge).mono ?_
      rintro e w1 ⟨v1, rfl, hown1, hb1⟩
      obtain ⟨sa1, sc1, rfl⟩ := owns_slice hown1
      have hsz1 := hb1.size
      have HS1 := Lib.hid (Sl.of_owns hown1 (by omega))
      have HB1 := Lib.hid hb1
      clear hown1 hb1
      go_wp2_with (at_builtin; refine wpList_append_sl _ rfl (.tmp 47) (.tmp 53) _ rfl (w.heap.size + 1) 5 i0 _ 1 1 Tryz.underlying39 hi0 hz0 hz1 hz2 rfl (by omega) _ L.length (bytes L) rfl (ownsRow_below HOWN.out HB1.out (Nat.le_refl _)) _ _ ps[j].st.length (bytes ps[j].st) _ rfl HS1.out (bytes_one _) (by unfold maxLen; omega) (by omega) (by omega) ?_; intro v' w2 hown2 hgrow hat)
      have HP := Lib.hid (push_bytes (hbel.trans (HB1.out.mono (by omega))) (Nat.le_refl _) ((HB1.out.block _ hzr).trans HBX.out) (fun k hk => ⟨(hob k hk).1, by have := (hob k hk).2; omega⟩) hown2 hgrow)
      clear hown2 hgrow hat
      go_wp2_with fail
      go_roundw
      case rel =>
        refine ⟨j + 1, by omega, by go_num, ?_, HP.out.2⟩
        rw [PS.out, ← List.append_assoc, ← HLL.out]
        exact HP.out.1
      case measure => simp [intOf]; omega
    · have hj2 : j = ps.length := by omega
      subst hj2
      rw [List.take_length] at hown ⊢
      go_wp2_with fail
      go_ret
      refine ⟨_, rfl, ?_, hbel⟩
      exact ownsRow_mono hown (by omega)
set_option maxHeartbeats 1000000 in
set_option maxRecDepth 100000 in
theorem stands_3 (d : Nat) (IH : Hid (∀ (S : Nat → Prop) (own : Bool) (e : Ex) (v : Value) (w : World), e.depth ≤ d → d ≤ 1000 → e.size ≤ 1000 → e.okR = true → RepE w S own e v → Calls Tryz.prog 46 #[v] w (GivesB 5 w e.st)))
    (S : Nat → Prop) (own : Bool) (a b : Nat) (ps : List Ex) (xs : List Value) (ad : Option Addr) (cap : Nat) (HD : List UInt8) (w : World) (hd : Ex.depths ps ≤ d) (hd2 : d ≤ 1000) (hsz : Ex.sizes ps + 1 ≤ 1000) (HOK : Hid (Ex.okRs ps = true))
    (ha : a < 18446744073709551616) (hb : b < 18446744073709551616) (HS : Hid (Sl w S own 4 ps.length xs (.slice ad ps.length cap) ∧ RepEs w S own ps xs)) (hhl : HD.length ≤ 31) (HE : Hid (HD = [(3:Nat).toUInt8] ++ putV a)) :
    Calls Tryz.prog 46 #[.agg #[.int .i64 3, .int .u64 a, .int .u64 b, .slice ad ps.length cap]] w (GivesB 5 w (HD ++ Ex.sts ps)) := by
  obtain ⟨i0, hi0, hz0, hz1, hz2⟩ := info_parts infoByte
  obtain ⟨hxl, hlen, _, _, _, hcap⟩ := HS.out.1.shape
  clear hxl
  have hpl := Ex.length_le_sizes ps
  have hstl := Lib.hid (Ex.sts_take_length ps)
  go_enter Tryz.func46, Tryz.ntmps46
  go_wp2_with fail
  refine (refPut_any a _ (by omega)).mono ?_
  rintro e w1 ⟨v1, rfl, hown1, hb1⟩
  obtain ⟨sa1, sc1, rfl⟩ := owns_slice hown1
  have hsz1 := hb1.size
  have hpl1 := putV_length a
  have HS1 := Lib.hid (Sl.of_owns hown1 (by omega))
  have HL1 := lit_below (w := w) _ 3 (by omega) hb1 (by simp)
  clear hown1
  have hbx1 : ∀ o, w1.cell? ⟨w.heap.size, o, none⟩ = (w.alloc (.cells #[.int .i64 3, .int .u64 a, .int .u64 b, .slice ad ps.length cap] 32)).cell? ⟨w.heap.size, o, none⟩ := fun o => by rw [hb1.cell (by simp; omega), World.cell?_alloc_past _ _ _ (by simp)]
  have hzz2 : w.heap.size < w1.heap.size := by simp at hsz1; omega
  have hzz3 : w.heap.size + 1 ≤ w1.heap.size := by omega
  have HL2 := Lib.hid HL1
  clear HL1 hb1
  go_wp2_with (at_builtin; go_loud (refine wpList_append_sl _ rfl (.tmp 17) (.tmp 20) _ rfl (w.heap.size + 1) 5 i0 _ 1 1 Tryz.underlying39 hi0 hz0 hz1 hz2 rfl (by omega) (.slice (some ⟨w.heap.size + 1, 0, none⟩) 1 1) [(3:Nat).toUInt8].length (bytes [(3:Nat).toUInt8]) rfl HL2.out.1 _ _ (putV a).length (bytes (putV a)) _ rfl HS1.out (bytes_one _) (by unfold maxLen; simp; omega) (by simp; omega) (by omega) ?_); intro v' w2 hown2 hgrow hat
               obtain ⟨va, vc, rfl⟩ := owns_slice hown2
               have hqx := push_bytes (sv := .slice (some ⟨w.heap.size + 1, 0, none⟩) 1 1) HL2.out.2.2 (Nat.le_refl _) HL2.out.2.1 HL2.out.1.lt hown2 hgrow
               have c0 : w2.cell? ⟨w.heap.size, 0, none⟩ = some (.int .i64 3) := (by rw [cell_of_row w2 _ 0 _ _ _ hqx.2.1]; rfl))
  rw [← HE.out] at hqx
  have HL := Lib.hid hqx
  clear hqx hown2 hgrow hat HL2
  -- here: wl, sv, HD with HL : Hid (wl.ownsRow .. sv HD.length (bytes HD) ∧ wl.heap[w.heap.size]? = box ∧ Below w.heap.size w wl), hhd : HD.length ≤ 31
  go_loopw [3, 4] (fun o i wr => ∃ j : Nat, j ≤ ps.length ∧ i = .int .i64 j ∧ wr.ownsRow (w.heap.size + 1) 5 1 o (HD ++ Ex.sts (ps.take j)).length (bytes (HD ++ Ex.sts (ps.take j))) ∧ wr.heap[w.heap.size]? = some (.cells #[.int .i64 3, .int .u64 a, .int .u64 b, .slice ad ps.length cap] 32) ∧ Below w.heap.size w wr) (fun _ i _ => ps.length - (intOf i).toNat)
  case atStart => exact ⟨0, by omega, rfl, by simpa [Ex.sts] using HL.out.1, HL.out.2.1, HL.out.2.2⟩
  case round =>
    obtain ⟨j, hj, rfl, hown, hbx, hbel⟩ := hrel
    have c3 : wr.cell? ⟨w.heap.size, 3, none⟩ = some (.slice ad ps.length cap) := by rw [cell_of_row wr _ 3 _ _ _ hbx]; rfl
    have hzr : w.heap.size < wr.heap.size := (Array.getElem?_eq_some_iff.1 hbx).1
    have hob := hown.lt
    have HBX := Lib.hid hbx
    clear hbx
    obtain ⟨sa, sc, rfl⟩ := owns_slice hown
    by_cases hlt : j < ps.length
    · obtain ⟨bl, off, k', a', b', ad', n', cap', rfl, _, g0, g1, g2, g3, _, ge⟩ := (HS.out.2.below hbel (Nat.le_refl _)).part (HS.out.1.below (by omega) hbel (Nat.le_refl _)) j hlt
      have hdj := Ex.depths_ge ps j hlt
      have hsj := Ex.sizes_ge ps j hlt
      have PS := Lib.hid (Ex.sts_take ps j hlt)
      have hl0 := hstl.out j
      have hlp := Ex.st_length ps[j]
      obtain ⟨L, hL⟩ : ∃ L, L = HD ++ Ex.sts (ps.take j) := ⟨_, rfl⟩
      have hLl : L.length ≤ 31031 := by rw [hL]; simp; omega
      rw [← hL] at hown hob
      rw [← hL]
      have HLL := Lib.hid hL
      have HOWN := Lib.hid hown
      clear hL hl0 hown
      go_wp2_with fail
      refine (IH.out _ _ ps[j] _ _ (by omega) (by omega) (by omega) (Ex.okRs_get ps j hlt HOK.out) ge).mono ?_
      rintro e w1 ⟨v1, rfl, hown1, hb1⟩
      obtain ⟨sa1, sc1, rfl⟩ := owns_slice hown1
      have hsz1 := hb1.size
      have HS1 := Lib.hid (Sl.of_owns hown1 (by omega))
      have HB1 := Lib.hid hb1
      clear hown1 hb1
      go_wp2_with (at_builtin; refine wpList_append_sl _ rfl (.tmp 47) (.tmp 53) _ rfl (w.heap.size + 1) 5 i0 _ 1 1 Tryz.underlying39 hi0 hz0 hz1 hz2 rfl (by omega) _ L.length (bytes L) rfl (ownsRow_below HOWN.out HB1.out (Nat.le_refl _)) _ _ ps[j].st.length (bytes ps[j].st) _ rfl HS1.out (bytes_one _) (by unfold maxLen; omega) (by omega) (by omega) ?_; intro v' w2 hown2 hgrow hat)
      have HP := Lib.hid (push_bytes (hbel.trans (HB1.out.mono (by omega))) (Nat.le_refl _) ((HB1.out.block _ hzr).trans HBX.out) (fun k hk => ⟨(hob k hk).1, by have := (hob k hk).2; omega⟩) hown2 hgrow)
      clear hown2 hgrow hat
      go_wp2_with fail
      go_roundw
      case rel =>
        refine ⟨j + 1, by omega, by go_num, ?_, HP.out.2⟩
        rw [PS.out, ← List.append_assoc, ← HLL.out]
        exact HP.out.1
      case measure => simp [intOf]; omega
    · have hj2 : j = ps.length := by omega
      subst hj2
      rw [List.take_length] at hown ⊢
      go_wp2_with fail
      go_ret
      refine ⟨_, rfl, ?_, hbel⟩
      exact ownsRow_mono hown (by omega)
set_option maxHeartbeats 1000000 in
set_option maxRecDepth 100000 in
theorem stands_4 (d : Nat) (IH : Hid (∀ (S : Nat → Prop) (own : Bool) (e : Ex) (v : Value) (w : World), e.depth ≤ d → d ≤ 1000 → e.size ≤ 1000 → e.okR = true → RepE w S own e v → Calls Tryz.prog 46 #[v] w (GivesB 5 w e.st)))
    (S : Nat → Prop) (own : Bool) (a b : Nat) (ps : List Ex) (xs : List Value) (ad : Option Addr) (cap : Nat) (HD : List UInt8) (w : World) (hd : Ex.depths ps ≤ d) (hd2 : d ≤ 1000) (hsz : Ex.sizes ps + 1 ≤ 1000) (HOK : Hid (Ex.okRs ps = true))
    (ha : a < 18446744073709551616) (hb : b < 18446744073709551616) (HS : Hid (Sl w S own 4 ps.length xs (.slice ad ps.length cap) ∧ RepEs w S own ps xs)) (hhl : HD.length ≤ 31) (HE : Hid (HD = [(4:Nat).toUInt8] ++ putV a ++ putV b)) :
    Calls Tryz.prog 46 #[.agg #[.int .i64 4, .int .u64 a, .int .u64 b, .slice ad ps.length cap]] w (GivesB 5 w (HD ++ Ex.sts ps)) := by
  obtain ⟨i0, hi0, hz0, hz1, hz2⟩ := info_parts infoByte
  obtain ⟨hxl, hlen, _, _, _, hcap⟩ := HS.out.1.shape
  clear hxl
  have hpl := Ex.length_le_sizes ps
  have hstl := Lib.hid (Ex.sts_take_length ps)
  go_enter Tryz.func46, Tryz.ntmps46
  go_wp2_with fail
  refine (refPut_any a _ (by omega)).mono ?_
  rintro e w1 ⟨v1, rfl, hown1, hb1⟩
  obtain ⟨sa1, sc1, rfl⟩ := owns_slice hown1
  have hsz1 := hb1.size
  have hpl1 := putV_length a
  have HS1 := Lib.hid (Sl.of_owns hown1 (by omega))
  have HL1 := lit_below (w := w) _ 4 (by omega) hb1 (by simp)
  clear hown1
  have hbx1 : ∀ o, w1.cell? ⟨w.heap.size, o, none⟩ = (w.alloc (.cells #[.int .i64 4, .int .u64 a, .int .u64 b, .slice ad ps.length cap] 32)).cell? ⟨w.heap.size, o, none⟩ := fun o => by rw [hb1.cell (by simp; omega), World.cell?_alloc_past _ _ _ (by simp)]
  have hzz2 : w.heap.size < w1.heap.size := by simp at hsz1; omega
  have hzz3 : w.heap.size + 1 ≤ w1.heap.size := by omega
  have HL2 := Lib.hid HL1
  clear HL1 hb1
  go_wp2_with (at_builtin; go_loud (refine wpList_append_sl _ rfl (.tmp 17) (.tmp 20) _ rfl (w.heap.size + 1) 5 i0 _ 1 1 Tryz.underlying39 hi0 hz0 hz1 hz2 rfl (by omega) (.slice (some ⟨w.heap.size + 1, 0, none⟩) 1 1) [(4:Nat).toUInt8].length (bytes [(4:Nat).toUInt8]) rfl HL2.out.1 _ _ (putV a).length (bytes (putV a)) _ rfl HS1.out (bytes_one _) (by unfold maxLen; simp; omega) (by simp; omega) (by omega) ?_); intro v' w2 hown2 hgrow hat
               obtain ⟨va, vc, rfl⟩ := owns_slice hown2
               have hqx := push_bytes (sv := .slice (some ⟨w.heap.size + 1, 0, none⟩) 1 1) HL2.out.2.2 (Nat.le_refl _) HL2.out.2.1 HL2.out.1.lt hown2 hgrow
               have c0 : w2.cell? ⟨w.heap.size, 0, none⟩ = some (.int .i64 4) := (by rw [cell_of_row w2 _ 0 _ _ _ hqx.2.1]; rfl)
               have c2 : w2.cell? ⟨w.heap.size, 2, none⟩ = some (.int .u64 b) := (by rw [cell_of_row w2 _ 2 _ _ _ hqx.2.1]; rfl))
  have hqs : w.heap.size < w2.heap.size := (Array.getElem?_eq_some_iff.1 hqx.2.1).1
  have hMl : ([(4:Nat).toUInt8] ++ putV a).length = 1 + (putV a).length := by simp; omega
  rw [hMl] at hqx
  have HQ := Lib.hid hqx
  clear hqx hown2 hgrow hat HL2
  refine (refPut_any b _ hb).mono ?_
  rintro e w3 ⟨v3, rfl, hown3, hb3⟩
  obtain ⟨sa3, sc3, rfl⟩ := owns_slice hown3
  have hsz3 := hb3.size
  have hpl3 := putV_length b
  have HS3 := Lib.hid (Sl.of_owns hown3 (by omega))
  have c03 : w3.cell? ⟨w.heap.size, 0, none⟩ = some (.int .i64 4) := (hb3.cell hqs).trans c0
  have hob2 := HQ.out.1.lt
  have HB3 := Lib.hid hb3
  clear hown3 hb3
  have hzz4 : w.heap.size < w3.heap.size := by omega
  go_wp2_with (at_builtin; go_loud (refine wpList_append_sl _ rfl (.tmp 25) (.tmp 28) _ rfl (w.heap.size + 1) 5 i0 _ 1 1 Tryz.underlying39 hi0 hz0 hz1 hz2 rfl (by omega) (.slice va (1 + (putV a).length) vc) (1 + (putV a).length) (bytes ([(4:Nat).toUInt8] ++ putV a)) rfl (ownsRow_below HQ.out.1 HB3.out (Nat.le_refl _)) _ _ (putV b).length (bytes (putV b)) _ rfl HS3.out (bytes_one _) (by unfold maxLen; simp; omega) (by simp; omega) (by omega) ?_); intro v' w4 hown4 hgrow hat
               obtain ⟨vb, vd, rfl⟩ := owns_slice hown4
               go_loud (have hqx := push_bytes (l := [(4:Nat).toUInt8] ++ putV a) (m := putV b) (T := 5) (sv := .slice va (1 + (putV a).length) vc) (HQ.out.2.2.trans (HB3.out.mono (by omega))) (Nat.le_refl _) ((HB3.out.block _ hqs).trans HQ.out.2.1) (fun k hk => ⟨(hob2 k hk).1, by have := (hob2 k hk).2; omega⟩) (by rw [hMl]; exact hown4) hgrow)
               have c04 : w4.cell? ⟨w.heap.size, 0, none⟩ = some (.int .i64 4) := (by rw [cell_of_row w4 _ 0 _ _ _ hqx.2.1]; rfl))
  rw [← HE.out] at hqx
  have HL := Lib.hid hqx
  clear hqx hown4 hgrow hat HQ
  -- here: wl, sv, HD with HL : Hid (wl.ownsRow .. sv HD.length (bytes HD) ∧ wl.heap[w.heap.size]? = box ∧ Below w.heap.size w wl), hhd : HD.length ≤ 31
  go_loopw [3, 4] (fun o i wr => ∃ j : Nat, j ≤ ps.length ∧ i = .int .i64 j ∧ wr.ownsRow (w.heap.size + 1) 5 1 o (HD ++ Ex.sts (ps.take j)).length (bytes (HD ++ Ex.sts (ps.take j))) ∧ wr.heap[w.heap.size]? = some (.cells #[.int .i64 4, .int .u64 a, .int .u64 b, .slice ad ps.length cap] 32) ∧ Below w.heap.size w wr) (fun _ i _ => ps.length - (intOf i).toNat)
  case atStart => exact ⟨0, by omega, rfl, by simpa [Ex.sts] using HL.out.1, HL.out.2.1, HL.out.2.2⟩
  case round =>
    obtain ⟨j, hj, rfl, hown, hbx, hbel⟩ := hrel
    have c3 : wr.cell? ⟨w.heap.size, 3, none⟩ = some (.slice ad ps.length cap) := by rw [cell_of_row wr _ 3 _ _ _ hbx]; rfl
    have hzr : w.heap.size < wr.heap.size := (Array.getElem?_eq_some_iff.1 hbx).1
    have hob := hown.lt
    have HBX := Lib.hid hbx
    clear hbx
    obtain ⟨sa, sc, rfl⟩ := owns_slice hown
    by_cases hlt : j < ps.length
    · obtain ⟨bl, off, k', a', b', ad', n', cap', rfl, _, g0, g1, g2, g3, _, ge⟩ := (HS.out.2.below hbel (Nat.le_refl _)).part (HS.out.1.below (by omega) hbel (Nat.le_refl _)) j hlt
      have hdj := Ex.depths_ge ps j hlt
      have hsj := Ex.sizes_ge ps j hlt
      have PS := Lib.hid (Ex.sts_take ps j hlt)
      have hl0 := hstl.out j
      have hlp := Ex.st_length ps[j]
      obtain ⟨L, hL⟩ : ∃ L, L = HD ++ Ex.sts (ps.take j) := ⟨_, rfl⟩
      have hLl : L.length ≤ 31031 := by rw [hL]; simp; omega
      rw [← hL] at hown hob
      rw [← hL]
      have HLL := Lib.hid hL
      have HOWN := Lib.hid hown
      clear hL hl0 hown
      go_wp2_with fail
      refine (IH.out _ _ ps[j] _ _ (by omega) (by omega) (by omega) (Ex.okRs_get ps j hlt HOK.out) ge).mono ?_
      rintro e w1 ⟨v1, rfl, hown1, hb1⟩
      obtain ⟨sa1, sc1, rfl⟩ := owns_slice hown1
      have hsz1 := hb1.size
      have HS1 := Lib.hid (Sl.of_owns hown1 (by omega))
      have HB1 := Lib.hid hb1
      clear hown1 hb1
      go_wp2_with (at_builtin; refine wpList_append_sl _ rfl (.tmp 47) (.tmp 53) _ rfl (w.heap.size + 1) 5 i0 _ 1 1 Tryz.underlying39 hi0 hz0 hz1 hz2 rfl (by omega) _ L.length (bytes L) rfl (ownsRow_below HOWN.out HB1.out (Nat.le_refl _)) _ _ ps[j].st.length (bytes ps[j].st) _ rfl HS1.out (bytes_one _) (by unfold maxLen; omega) (by omega) (by omega) ?_; intro v' w2 hown2 hgrow hat)
      have HP := Lib.hid (push_bytes (hbel.trans (HB1.out.mono (by omega))) (Nat.le_refl _) ((HB1.out.block _ hzr).trans HBX.out) (fun k hk => ⟨(hob k hk).1, by have := (hob k hk).2; omega⟩) hown2 hgrow)
      clear hown2 hgrow hat
      go_wp2_with fail
      go_roundw
      case rel =>
        refine ⟨j + 1, by omega, by go_num, ?_, HP.out.2⟩
        rw [PS.out, ← List.append_assoc, ← HLL.out]
        exact HP.out.1
      case measure => simp [intOf]; omega
    · have hj2 : j = ps.length := by omega
      subst hj2
      rw [List.take_length] at hown ⊢
      go_wp2_with fail
      go_ret
      refine ⟨_, rfl, ?_, hbel⟩
      exact ownsRow_mono hown (by omega)
set_option maxHeartbeats 1000000 in
set_option maxRecDepth 100000 in
theorem stands_5 (d : Nat) (IH : Hid (∀ (S : Nat → Prop) (own : Bool) (e : Ex) (v : Value) (w : World), e.depth ≤ d → d ≤ 1000 → e.size ≤ 1000 → e.okR = true → RepE w S own e v → Calls Tryz.prog 46 #[v] w (GivesB 5 w e.st)))
    (S : Nat → Prop) (own : Bool) (a b : Nat) (ps : List Ex) (xs : List Value) (ad : Option Addr) (cap : Nat) (HD : List UInt8) (w : World) (hd : Ex.depths ps ≤ d) (hd2 : d ≤ 1000) (hsz : Ex.sizes ps + 1 ≤ 1000) (HOK : Hid (Ex.okRs ps = true))
    (ha : a < 18446744073709551616) (hb : b < 18446744073709551616) (HS : Hid (Sl w S own 4 ps.length xs (.slice ad ps.length cap) ∧ RepEs w S own ps xs)) (hhl : HD.length ≤ 31) (HE : Hid (HD = [(5:Nat).toUInt8])) :
    Calls Tryz.prog 46 #[.agg #[.int .i64 5, .int .u64 a, .int .u64 b, .slice ad ps.length cap]] w (GivesB 5 w (HD ++ Ex.sts ps)) := by
  obtain ⟨i0, hi0, hz0, hz1, hz2⟩ := info_parts infoByte
  obtain ⟨hxl, hlen, _, _, _, hcap⟩ := HS.out.1.shape
  clear hxl
  have hpl := Ex.length_le_sizes ps
  have hstl := Lib.hid (Ex.sts_take_length ps)
  go_enter Tryz.func46, Tryz.ntmps46
  go_wp2_with fail
  have HL0 := lit_below (w := w) (.cells #[.int .i64 5, .int .u64 a, .int .u64 b, .slice ad ps.length cap] 32) 5 (by omega) (Below.refl (w.heap.size + 2) ((w.alloc (.cells #[.int .i64 5, .int .u64 a, .int .u64 b, .slice ad ps.length cap] 32)).alloc (.cells #[.int .u8 (5:Nat)] 5))) (Nat.le_refl _)
  rw [← HE.out] at HL0
  have HL := Lib.hid HL0
  clear HL0
  -- here: wl, sv, HD with HL : Hid (wl.ownsRow .. sv HD.length (bytes HD) ∧ wl.heap[w.heap.size]? = box ∧ Below w.heap.size w wl), hhd : HD.length ≤ 31
  go_loopw [3, 4] (fun o i wr => ∃ j : Nat, j ≤ ps.length ∧ i = .int .i64 j ∧ wr.ownsRow (w.heap.size + 1) 5 1 o (HD ++ Ex.sts (ps.take j)).length (bytes (HD ++ Ex.sts (ps.take j))) ∧ wr.heap[w.heap.size]? = some (.cells #[.int .i64 5, .int .u64 a, .int .u64 b, .slice ad ps.length cap] 32) ∧ Below w.heap.size w wr) (fun _ i _ => ps.length - (intOf i).toNat)
  case atStart => exact ⟨0, by omega, rfl, by simpa [Ex.sts] using HL.out.1, HL.out.2.1, HL.out.2.2⟩
  case round =>
    obtain ⟨j, hj, rfl, hown, hbx, hbel⟩ := hrel
    have c3 : wr.cell? ⟨w.heap.size, 3, none⟩ = some (.slice ad ps.length cap) := by rw [cell_of_row wr _ 3 _ _ _ hbx]; rfl
    have hzr : w.heap.size < wr.heap.size := (Array.getElem?_eq_some_iff.1 hbx).1
    have hob := hown.lt
    have HBX := Lib.hid hbx
    clear hbx
    obtain ⟨sa, sc, rfl⟩ := owns_slice hown
    by_cases hlt : j < ps.length
    · obtain ⟨bl, off, k', a', b', ad', n', cap', rfl, _, g0, g1, g2, g3, _, ge⟩ := (HS.out.2.below hbel (Nat.le_refl _)).part (HS.out.1.below (by omega) hbel (Nat.le_refl _)) j hlt
      have hdj := Ex.depths_ge ps j hlt
      have hsj := Ex.sizes_ge ps j hlt
      have PS := Lib.hid (Ex.sts_take ps j hlt)
      have hl0 := hstl.out j
      have hlp := Ex.st_length ps[j]
      obtain ⟨L, hL⟩ : ∃ L, L = HD ++ Ex.sts (ps.take j) := ⟨_, rfl⟩
      have hLl : L.length ≤ 31031 := by rw [hL]; simp; omega
      rw [← hL] at hown hob
      rw [← hL]
      have HLL := Lib.hid hL
      have HOWN := Lib.hid hown
      clear hL hl0 hown
      go_wp2_with fail
      refine (IH.out _ _ ps[j] _ _ (by omega) (by omega) (by omega) (Ex.okRs_get ps j hlt HOK.out) ge).mono ?_
      rintro e w1 ⟨v1, rfl, hown1, hb1⟩
      obtain ⟨sa1, sc1, rfl⟩ := owns_slice hown1
      have hsz1 := hb1.size
      have HS1 := Lib.hid (Sl.of_owns hown1 (by omega))
      have HB1 := Lib.hid hb1
      clear hown1 hb1
      go_wp2_with (at_builtin; refine wpList_append_sl _ rfl (.tmp 47) (.tmp 53) _ rfl (w.heap.size + 1) 5 i0 _ 1 1 Tryz.underlying39 hi0 hz0 hz1 hz2 rfl (by omega) _ L.length (bytes L) rfl (ownsRow_below HOWN.out HB1.out (Nat.le_refl _)) _ _ ps[j].st.length (bytes ps[j].st) _ rfl HS1.out (bytes_one _) (by unfold maxLen; omega) (by omega) (by omega) ?_; intro v' w2 hown2 hgrow hat)
      have HP := Lib.hid (push_bytes (hbel.trans (HB1.out.mono (by omega))) (Nat.le_refl _) ((HB1.out.block _ hzr).trans HBX.out) (fun k hk => ⟨(hob k hk).1, by have := (hob k hk).2; omega⟩) hown2 hgrow)
      clear hown2 hgrow hat
      go_wp2_with fail
      go_roundw
      case rel =>
        refine ⟨j + 1, by omega, by go_num, ?_, HP.out.2⟩
        rw [PS.out, ← List.append_assoc, ← HLL.out]
        exact HP.out.1
      case measure => simp [intOf]; omega
    · have hj2 : j = ps.length := by omega
      subst hj2
      rw [List.take_length] at hown ⊢
      go_wp2_with fail
      go_ret
      refine ⟨_, rfl, ?_, hbel⟩
      exact ownsRow_mono hown (by omega)
set_option maxHeartbeats 1000000 in
set_option maxRecDepth 100000 in
theorem stands_6 (d : Nat) (IH : Hid (∀ (S : Nat → Prop) (own : Bool) (e : Ex) (v : Value) (w : World), e.depth ≤ d → d ≤ 1000 → e.size ≤ 1000 → e.okR = true → RepE w S own e v → Calls Tryz.prog 46 #[v] w (GivesB 5 w e.st)))
    (S : Nat → Prop) (own : Bool) (a b : Nat) (ps : List Ex) (xs : List Value) (ad : Option Addr) (cap : Nat) (HD : List UInt8) (w : World) (hd : Ex.depths ps ≤ d) (hd2 : d ≤ 1000) (hsz : Ex.sizes ps + 1 ≤ 1000) (HOK : Hid (Ex.okRs ps = true))
    (ha : a < 18446744073709551616) (hb : b < 18446744073709551616) (HS : Hid (Sl w S own 4 ps.length xs (.slice ad ps.length cap) ∧ RepEs w S own ps xs)) (hhl : HD.length ≤ 31) (HE : Hid (HD = [(6:Nat).toUInt8] ++ putV ps.length)) :
    Calls Tryz.prog 46 #[.agg #[.int .i64 6, .int .u64 a, .int .u64 b, .slice ad ps.length cap]] w (GivesB 5 w (HD ++ Ex.sts ps)) := by
  obtain ⟨i0, hi0, hz0, hz1, hz2⟩ := info_parts infoByte
  obtain ⟨hxl, hlen, _, _, _, hcap⟩ := HS.out.1.shape
  clear hxl
  have hpl := Ex.length_le_sizes ps
  have hstl := Lib.hid (Ex.sts_take_length ps)
  go_enter Tryz.func46, Tryz.ntmps46
  go_wp2_with fail
  refine (refPut_any ps.length _ (by omega)).mono ?_
  rintro e w1 ⟨v1, rfl, hown1, hb1⟩
  obtain ⟨sa1, sc1, rfl⟩ := owns_slice hown1
  have hsz1 := hb1.size
  have hpl1 := putV_length ps.length
  have HS1 := Lib.hid (Sl.of_owns hown1 (by omega))
  have HL1 := lit_below (w := w) _ 6 (by omega) hb1 (by simp)
  clear hown1
  have hbx1 : ∀ o, w1.cell? ⟨w.heap.size, o, none⟩ = (w.alloc (.cells #[.int .i64 6, .int .u64 a, .int .u64 b, .slice ad ps.length cap] 32)).cell? ⟨w.heap.size, o, none⟩ := fun o => by rw [hb1.cell (by simp; omega), World.cell?_alloc_past _ _ _ (by simp)]
  have hzz2 : w.heap.size < w1.heap.size := by simp at hsz1; omega
  have hzz3 : w.heap.size + 1 ≤ w1.heap.size := by omega
  have HL2 := Lib.hid HL1
  clear HL1 hb1
  go_wp2_with (at_builtin; go_loud (refine wpList_append_sl _ rfl (.tmp 33) (.tmp 38) _ rfl (w.heap.size + 1) 5 i0 _ 1 1 Tryz.underlying39 hi0 hz0 hz1 hz2 rfl (by omega) (.slice (some ⟨w.heap.size + 1, 0, none⟩) 1 1) [(6:Nat).toUInt8].length (bytes [(6:Nat).toUInt8]) rfl HL2.out.1 _ _ (putV ps.length).length (bytes (putV ps.length)) _ rfl HS1.out (bytes_one _) (by unfold maxLen; simp; omega) (by simp; omega) (by omega) ?_); intro v' w2 hown2 hgrow hat
               obtain ⟨va, vc, rfl⟩ := owns_slice hown2
               have hqx := push_bytes (sv := .slice (some ⟨w.heap.size + 1, 0, none⟩) 1 1) HL2.out.2.2 (Nat.le_refl _) HL2.out.2.1 HL2.out.1.lt hown2 hgrow
               have c0 : w2.cell? ⟨w.heap.size, 0, none⟩ = some (.int .i64 6) := (by rw [cell_of_row w2 _ 0 _ _ _ hqx.2.1]; rfl))
  rw [← HE.out] at hqx
  have HL := Lib.hid hqx
  clear hqx hown2 hgrow hat HL2
  -- here: wl, sv, HD with HL : Hid (wl.ownsRow .. sv HD.length (bytes HD) ∧ wl.heap[w.heap.size]? = box ∧ Below w.heap.size w wl), hhd : HD.length ≤ 31
  go_loopw [3, 4] (fun o i wr => ∃ j : Nat, j ≤ ps.length ∧ i = .int .i64 j ∧ wr.ownsRow (w.heap.size + 1) 5 1 o (HD ++ Ex.sts (ps.take j)).length (bytes (HD ++ Ex.sts (ps.take j))) ∧ wr.heap[w.heap.size]? = some (.cells #[.int .i64 6, .int .u64 a, .int .u64 b, .slice ad ps.length cap] 32) ∧ Below w.heap.size w wr) (fun _ i _ => ps.length - (intOf i).toNat)
  case atStart => exact ⟨0, by omega, rfl, by simpa [Ex.sts] using HL.out.1, HL.out.2.1, HL.out.2.2⟩
  case round =>
    obtain ⟨j, hj, rfl, hown, hbx, hbel⟩ := hrel
    have c3 : wr.cell? ⟨w.heap.size, 3, none⟩ = some (.slice ad ps.length cap) := by rw [cell_of_row wr _ 3 _ _ _ hbx]; rfl
    have hzr : w.heap.size < wr.heap.size := (Array.getElem?_eq_some_iff.1 hbx).1
    have hob := hown.lt
    have HBX := Lib.hid hbx
    clear hbx
    obtain ⟨sa, sc, rfl⟩ := owns_slice hown
    by_cases hlt : j < ps.length
    · obtain ⟨bl, off, k', a', b', ad', n', cap', rfl, _, g0, g1, g2, g3, _, ge⟩ := (HS.out.2.below hbel (Nat.le_refl _)).part (HS.out.1.below (by omega) hbel (Nat.le_refl _)) j hlt
      have hdj := Ex.depths_ge ps j hlt
      have hsj := Ex.sizes_ge ps j hlt
      have PS := Lib.hid (Ex.sts_take ps j hlt)
      have hl0 := hstl.out j
      have hlp := Ex.st_length ps[j]
      obtain ⟨L, hL⟩ : ∃ L, L = HD ++ Ex.sts (ps.take j) := ⟨_, rfl⟩
      have hLl : L.length ≤ 31031 := by rw [hL]; simp; omega
      rw [← hL] at hown hob
      rw [← hL]
      have HLL := Lib.hid hL
      have HOWN := Lib.hid hown
      clear hL hl0 hown
      go_wp2_with fail
      refine (IH.out _ _ ps[j] _ _ (by omega) (by omega) (by omega) (Ex.okRs_get ps j hlt HOK.out) ge).mono ?_
      rintro e w1 ⟨v1, rfl, hown1, hb1⟩
      obtain ⟨sa1, sc1, rfl⟩ := owns_slice hown1
      have hsz1 := hb1.size
      have HS1 := Lib.hid (Sl.of_owns hown1 (by omega))
      have HB1 := Lib.hid hb1
      clear hown1 hb1
      go_wp2_with (at_builtin; refine wpList_append_sl _ rfl (.tmp 47) (.tmp 53) _ rfl (w.heap.size + 1) 5 i0 _ 1 1 Tryz.underlying39 hi0 hz0 hz1 hz2 rfl (by omega) _ L.length (bytes L) rfl (ownsRow_below HOWN.out HB1.out (Nat.le_refl _)) _ _ ps[j].st.length (bytes ps[j].st) _ rfl HS1.out (bytes_one _) (by unfold maxLen; omega) (by omega) (by omega) ?_; intro v' w2 hown2 hgrow hat)
      have HP := Lib.hid (push_bytes (hbel.trans (HB1.out.mono (by omega))) (Nat.le_refl _) ((HB1.out.block _ hzr).trans HBX.out) (fun k hk => ⟨(hob k hk).1, by have := (hob k hk).2; omega⟩) hown2 hgrow)
      clear hown2 hgrow hat
      go_wp2_with fail
      go_roundw
      case rel =>
        refine ⟨j + 1, by omega, by go_num, ?_, HP.out.2⟩
        rw [PS.out, ← List.append_assoc, ← HLL.out]
        exact HP.out.1
      case measure => simp [intOf]; omega
    · have hj2 : j = ps.length := by omega
      subst hj2
      rw [List.take_length] at hown ⊢
      go_wp2_with fail
      go_ret
      refine ⟨_, rfl, ?_, hbel⟩
      exact ownsRow_mono hown (by omega)
set_option maxHeartbeats 1000000 in
set_option maxRecDepth 100000 in
theorem stands_7 (d : Nat) (IH : Hid (∀ (S : Nat → Prop) (own : Bool) (e : Ex) (v : Value) (w : World), e.depth ≤ d → d ≤ 1000 → e.size ≤ 1000 → e.okR = true → RepE w S own e v → Calls Tryz.prog 46 #[v] w (GivesB 5 w e.st)))
    (S : Nat → Prop) (own : Bool) (a b : Nat) (ps : List Ex) (xs : List Value) (ad : Option Addr) (cap : Nat) (HD : List UInt8) (w : World) (hd : Ex.depths ps ≤ d) (hd2 : d ≤ 1000) (hsz : Ex.sizes ps + 1 ≤ 1000) (HOK : Hid (Ex.okRs ps = true))
    (ha : a < 18446744073709551616) (hb : b < 18446744073709551616) (HS : Hid (Sl w S own 4 ps.length xs (.slice ad ps.length cap) ∧ RepEs w S own ps xs)) (hhl : HD.length ≤ 31) (HE : Hid (HD = [(7:Nat).toUInt8] ++ putV ps.length)) :
    Calls Tryz.prog 46 #[.agg #[.int .i64 7, .int .u64 a, .int .u64 b, .slice ad ps.length cap]] w (GivesB 5 w (HD ++ Ex.sts ps)) := by
  obtain ⟨i0, hi0, hz0, hz1, hz2⟩ := info_parts infoByte
  obtain ⟨hxl, hlen, _, _, _, hcap⟩ := HS.out.1.shape
  clear hxl
  have hpl := Ex.length_le_sizes ps
  have hstl := Lib.hid (Ex.sts_take_length ps)
  go_enter Tryz.func46, Tryz.ntmps46
  go_wp2_with fail
  refine (refPut_any ps.length _ (by omega)).mono ?_
  rintro e w1 ⟨v1, rfl, hown1, hb1⟩
  obtain ⟨sa1, sc1, rfl⟩ := owns_slice hown1
  have hsz1 := hb1.size
  have hpl1 := putV_length ps.length
  have HS1 := Lib.hid (Sl.of_owns hown1 (by omega))
  have HL1 := lit_below (w := w) _ 7 (by omega) hb1 (by simp)
  clear hown1
  have hbx1 : ∀ o, w1.cell? ⟨w.heap.size, o, none⟩ = (w.alloc (.cells #[.int .i64 7, .int .u64 a, .int .u64 b, .slice ad ps.length cap] 32)).cell? ⟨w.heap.size, o, none⟩ := fun o => by rw [hb1.cell (by simp; omega), World.cell?_alloc_past _ _ _ (by simp)]
  have hzz2 : w.heap.size < w1.heap.size := by simp at hsz1; omega
  have hzz3 : w.heap.size + 1 ≤ w1.heap.size := by omega
  have HL2 := Lib.hid HL1
  clear HL1 hb1
  go_wp2_with (at_builtin; go_loud (refine wpList_append_sl _ rfl (.tmp 33) (.tmp 38) _ rfl (w.heap.size + 1) 5 i0 _ 1 1 Tryz.underlying39 hi0 hz0 hz1 hz2 rfl (by omega) (.slice (some ⟨w.heap.size + 1, 0, none⟩) 1 1) [(7:Nat).toUInt8].length (bytes [(7:Nat).toUInt8]) rfl HL2.out.1 _ _ (putV ps.length).length (bytes (putV ps.length)) _ rfl HS1.out (bytes_one _) (by unfold maxLen; simp; omega) (by simp; omega) (by omega) ?_); intro v' w2 hown2 hgrow hat
               obtain ⟨va, vc, rfl⟩ := owns_slice hown2
               have hqx := push_bytes (sv := .slice (some ⟨w.heap.size + 1, 0, none⟩) 1 1) HL2.out.2.2 (Nat.le_refl _) HL2.out.2.1 HL2.out.1.lt hown2 hgrow
               have c0 : w2.cell? ⟨w.heap.size, 0, none⟩ = some (.int .i64 7) := (by rw [cell_of_row w2 _ 0 _ _ _ hqx.2.1]; rfl))
  rw [← HE.out] at hqx
  have HL := Lib.hid hqx
  clear hqx hown2 hgrow hat HL2
  -- here: wl, sv, HD with HL : Hid (wl.ownsRow .. sv HD.length (bytes HD) ∧ wl.heap[w.heap.size]? = box ∧ Below w.heap.size w wl), hhd : HD.length ≤ 31
  go_loopw [3, 4] (fun o i wr => ∃ j : Nat, j ≤ ps.length ∧ i = .int .i64 j ∧ wr.ownsRow (w.heap.size + 1) 5 1 o (HD ++ Ex.sts (ps.take j)).length (bytes (HD ++ Ex.sts (ps.take j))) ∧ wr.heap[w.heap.size]? = some (.cells #[.int .i64 7, .int .u64 a, .int .u64 b, .slice ad ps.length cap] 32) ∧ Below w.heap.size w wr) (fun _ i _ => ps.length - (intOf i).toNat)
  case atStart => exact ⟨0, by omega, rfl, by simpa [Ex.sts] using HL.out.1, HL.out.2.1, HL.out.2.2⟩
  case round =>
    obtain ⟨j, hj, rfl, hown, hbx, hbel⟩ := hrel
    have c3 : wr.cell? ⟨w.heap.size, 3, none⟩ = some (.slice ad ps.length cap) := by rw [cell_of_row wr _ 3 _ _ _ hbx]; rfl
    have hzr : w.heap.size < wr.heap.size := (Array.getElem?_eq_some_iff.1 hbx).1
    have hob := hown.lt
    have HBX := Lib.hid hbx
    clear hbx
    obtain ⟨sa, sc, rfl⟩ := owns_slice hown
    by_cases hlt : j < ps.length
    · obtain ⟨bl, off, k', a', b', ad', n', cap', rfl, _, g0, g1, g2, g3, _, ge⟩ := (HS.out.2.below hbel (Nat.le_refl _)).part (HS.out.1.below (by omega) hbel (Nat.le_refl _)) j hlt
      have hdj := Ex.depths_ge ps j hlt
      have hsj := Ex.sizes_ge ps j hlt
      have PS := Lib.hid (Ex.sts_take ps j hlt)
      have hl0 := hstl.out j
      have hlp := Ex.st_length ps[j]
      obtain ⟨L, hL⟩ : ∃ L, L = HD ++ Ex.sts (ps.take j) := ⟨_, rfl⟩
      have hLl : L.length ≤ 31031 := by rw [hL]; simp; omega
      rw [← hL] at hown hob
      rw [← hL]
      have HLL := Lib.hid hL
      have HOWN := Lib.hid hown
      clear hL hl0 hown
      go_wp2_with fail
      refine (IH.out _ _ ps[j] _ _ (by omega) (by omega) (by omega) (Ex.okRs_get ps j hlt HOK.out) ge).mono ?_
      rintro e w1 ⟨v1, rfl, hown1, hb1⟩
      obtain ⟨sa1, sc1, rfl⟩ := owns_slice hown1
      have hsz1 := hb1.size
      have HS1 := Lib.hid (Sl.of_owns hown1 (by omega))
      have HB1 := Lib.hid hb1
      clear hown1 hb1
      go_wp2_with (at_builtin; refine wpList_append_sl _ rfl (.tmp 47) (.tmp 53) _ rfl (w.heap.size + 1) 5 i0 _ 1 1 Tryz.underlying39 hi0 hz0 hz1 hz2 rfl (by omega) _ L.length (bytes L) rfl (ownsRow_below HOWN.out HB1.out (Nat.le_refl _)) _ _ ps[j].st.length (bytes ps[j].st) _ rfl HS1.out (bytes_one _) (by unfold maxLen; omega) (by omega) (by omega) ?_; intro v' w2 hown2 hgrow hat)
      have HP := Lib.hid (push_bytes (hbel.trans (HB1.out.mono (by omega))) (Nat.le_refl _) ((HB1.out.block _ hzr).trans HBX.out) (fun k hk => ⟨(hob k hk).1, by have := (hob k hk).2; omega⟩) hown2 hgrow)
      clear hown2 hgrow hat
      go_wp2_with fail
      go_roundw
      case rel =>
        refine ⟨j + 1, by omega, by go_num, ?_, HP.out.2⟩
        rw [PS.out, ← List.append_assoc, ← HLL.out]
        exact HP.out.1
      case measure => simp [intOf]; omega
    · have hj2 : j = ps.length := by omega
      subst hj2
      rw [List.take_length] at hown ⊢
      go_wp2_with fail
      go_ret
      refine ⟨_, rfl, ?_, hbel⟩
      exact ownsRow_mono hown (by omega)
theorem stands_any (d : Nat) : ∀ (S : Nat → Prop) (own : Bool) (e : Ex) (v : Value) (w : World), e.depth ≤ d → d ≤ 1000 → e.size ≤ 1000 → e.okR = true → RepE w S own e v →
    Calls Tryz.prog 46 #[v] w (GivesB 5 w e.st) := by
  induction d with
  | zero => intro S own e v w hd; cases e; simp [Ex.depth] at hd
  | succ d ih =>
    intro S own e v w hd hd2 hsz hok hrep
    obtain ⟨k, a, b, ps⟩ := e
    simp only [RepE] at hrep
    obtain ⟨s, xs, rfl, hk1, hk2, ha, hb, hs, hes⟩ := hrep
    obtain ⟨hxl, hlen, ad, cap, rfl, hcap⟩ := hs.shape
    simp only [Ex.depth, Ex.size, Ex.okR, Bool.and_eq_true] at hd hsz hok
    simp only [Ex.st]
    have hhl := headB_length k a b ps.length
    have HS := Lib.hid (And.intro hs hes)
    obtain ⟨hok1, hok2⟩ := hok
    have HOK := Lib.hid hok1
    rcases nodeOk_kinds hok2 with rfl | rfl | rfl | ⟨rfl, hab⟩ | rfl | rfl | rfl
    · exact stands_1 d (Lib.hid ih) S own a b ps xs ad cap _ w (by omega) (by omega) hsz HOK ha hb HS hhl (Lib.hid (by simp [headB]))
    · exact stands_2 d (Lib.hid ih) S own a b ps xs ad cap _ w (by omega) (by omega) hsz HOK ha hb HS hhl (Lib.hid (by simp [headB]))
    · exact stands_3 d (Lib.hid ih) S own a b ps xs ad cap _ w (by omega) (by omega) hsz HOK ha hb HS hhl (Lib.hid (by simp [headB]))
    · exact stands_4 d (Lib.hid ih) S own a b ps xs ad cap _ w (by omega) (by omega) hsz HOK ha hb HS hhl (Lib.hid (by simp [headB]))
    · exact stands_5 d (Lib.hid ih) S own a b ps xs ad cap _ w (by omega) (by omega) hsz HOK ha hb HS hhl (Lib.hid (by simp [headB]))
    · exact stands_6 d (Lib.hid ih) S own a b ps xs ad cap _ w (by omega) (by omega) hsz HOK ha hb HS hhl (Lib.hid (by simp [headB]))
    · exact stands_7 d (Lib.hid ih) S own a b ps xs ad cap _ w (by omega) (by omega) hsz HOK ha hb HS hhl (Lib.hid (by simp [headB]))
set_option maxHeartbeats 400000 in
theorem refPutE_any (S : Nat → Prop) (own : Bool) (e : Ex) (v : Value) (w : World) (hsz : e.size ≤ 900) (hrep : RepE w S own e v) :
    Calls Tryz.prog 18 #[v] w (GivesB 5 w e.put) := by
  have hds := e.depth_le_size
  obtain ⟨c0, c1, c2, c3, rfl⟩ := hrep.four
  have hb0 : Below w.heap.size w (w.alloc (.cells #[c0, c1, c2, c3] 32)) := (Below.refl _ _).alloc (Nat.le_refl _) _
  go_enter Tryz.func18, Tryz.ntmps18
  go_wp2_with fail
  refine (refRight_any _ _ e _ _ hsz (hrep.below hb0 (Nat.le_refl _))).mono ?_
  rintro e1 w1 ⟨rfl, hb1⟩
  have hb2 : Below w.heap.size w w1 := hb0.trans (hb1.mono (by simp))
  have hbox : ∀ o, w1.cell? ⟨w.heap.size, o, none⟩ = (w.alloc (.cells #[c0, c1, c2, c3] 32)).cell? ⟨w.heap.size, o, none⟩ := fun o => hb1.cell (by simp)
  have hsz1 : w.heap.size + 1 ≤ w1.heap.size := by have := hb1.size; simpa using this
  cases h1 : e.right with
  | true =>
    have H1 := Lib.hid h1
    clear h1
    go_wp2_with fail
    refine (stands_any e.depth _ _ e _ _ (Nat.le_refl _) (by omega) (by omega) (by have := H1.out; simp [Ex.right] at this; exact this.1.1) (hrep.below hb2 (Nat.le_refl _))).mono ?_
    rintro e2 w2 ⟨v2, rfl, hown2, hb3⟩
    obtain ⟨sa, sc, rfl⟩ := owns_slice hown2
    go_wp2_with fail
    go_ret
    exact ⟨_, rfl, by simpa [Ex.put, H1.out] using ownsRow_mono hown2 (by omega), hb2.trans (hb3.mono (by omega))⟩
  | false =>
    have H1 := Lib.hid h1
    clear h1
    go_wp2_with fail
    go_ret
    exact ⟨_, rfl, by simpa [Ex.put, H1.out] using World.ownsRow_nil _ _ _ _, hb2⟩
end Go.Proofs.YtohjkejdkhdjbaaGreatDoor
