/- Walks. -/
import Derived.Test.YtlpgokcapdjgjaaGreatDoorYW04n
import Derived.Test.YtlpgokcapdjgjaaGreatDoorYShelf
import Derived.Shelf.Strings.SlTrimAscii
import Derived.Lib.AppendIntMem
set_option maxHeartbeats 2000000
set_option maxRecDepth 100000
namespace Go.Proofs.YtlpgokcapdjgjaaGreatDoor
open Go.RowKit Go
set_option linter.unusedVariables false
set_option linter.unusedSimpArgs false
theorem af (s : ByteArray) : s.data.toList.length = s.size := (Lib.size_eq s).symm
theorem Bp {s t : ByteArray} (h : s.data.toList = t.data.toList) : s = t := by
 obtain ⟨⟨l⟩⟩ := s; obtain ⟨⟨m⟩⟩ := t; simp at h; simp [h]
theorem aT (s : ByteArray) (a b : Nat) : (s.extract a b).data.toList = (s.data.toList.drop a).take (b - a) := by
 have h := Lib.extract_toList s a b
 rwa [ByteArray.toList_eq] at h
theorem kY (s t : ByteArray) : (s.toList == t.toList) = (s.data.toList == t.data.toList) := by rw [ByteArray.toList_eq, ByteArray.toList_eq]
theorem Bq (s : ByteArray) (k : Nat) (h : k < s.size) : s.data.toList[k]'(by rw [af]; exact h) = s[k] := rfl
theorem nM (t l : List UInt8) : t.isPrefixOf l = (decide (t.length ≤ l.length) && (l.take t.length == t)) := by
 rw [Bool.eq_iff_iff, List.isPrefixOf_iff_prefix]
 simp only [Bool.and_eq_true, decide_eq_true_eq, beq_iff_eq]
 constructor
 ·intro h; exact ⟨h.length_le, (List.prefix_iff_eq_take.1 h).symm⟩
 ·rintro ⟨_, h⟩; exact List.prefix_iff_eq_take.2 h.symm
theorem bS (s t : ByteArray) (w : World) (hs : s.size ≤ 1000000) (ht : t.size ≤ 1000000) :
  Calls Tryz.prog 134 #[.string s, .string t] w fun e w' => e = .returned (.bool (t.data.toList.isPrefixOf s.data.toList)) ∧ w' = w := by
 by_cases h : t.size ≤ s.size
 ·go_enter Tryz.func134, Tryz.ntmps134
  go_wp2_with fail
  go_ret
  exact ⟨ah (by rw [kY, aT, nM, af, af, List.drop_zero, Nat.sub_zero]; simp [h]), rfl⟩
 ·go_enter Tryz.func134, Tryz.ntmps134
  go_wp2_with fail
  go_ret
  exact ⟨ah (by rw [nM, af, af]; simp [h]), rfl⟩
theorem ru (n : Nat) (h : n < 18446744073709551616) : (Lib.decDigits n).length ≤ 20 := by
 rw [Lib.decDigits_length]
 rcases Nat.eq_zero_or_pos n with rfl | h0
 ·rw [Lib.nDigits_small (by omega)]; omega
 ·have := Lib.numDigits_eq n h0 h; split at this <;> omega
theorem oZ (n : Nat) : (ByteArray.mk #[48, 49, 50, 51, 52, 53, 54, 55, 56, 57]).extract (n % 10) (n % 10 + 1) = ⟨#[UInt8.ofNat (48 + n % 10)]⟩ := by
 have h : ∀ k : Fin 10, (ByteArray.mk #[48, 49, 50, 51, 52, 53, 54, 55, 56, 57]).extract k.val (k.val + 1) = ⟨#[UInt8.ofNat (48 + k.val)]⟩ := by decide +kernel
 exact h ⟨n % 10, Nat.mod_lt _ (by omega)⟩
theorem ry (d : Nat) : ∀ (n : Nat) (w : World), n < 10 ^ (d + 1) → n < 18446744073709551616 →
  Calls Tryz.prog 80 #[.int .u64 n] w fun e w' => e = .returned (.string ⟨(Lib.decDigits n).toArray⟩) ∧ w' = w := by
 induction d with
 | zero =>
  intro n w hn _
  have hn' : n < 10 := by simpa using hn
  clear hn
  go_enter Tryz.func80, Tryz.ntmps80
  go_wp2_with fail
  go_ret
  refine ⟨?_, rfl⟩
  rw [oZ, Lib.decDigits, dif_pos hn', Nat.mod_eq_of_lt hn']; rfl
 | succ d ih =>
  intro n w hn h64
  have hdiv : n / 10 < 10 ^ (d + 1) := by rw [Nat.pow_succ] at hn; omega
  have h := ih (n / 10) w hdiv (by omega)
  rw [show ((n / 10 : Nat) : Int) = (n : Int) / 10 from by simp] at h
  have IH := hid h
  clear h ih hdiv hn
  by_cases hn' : n < 10
  ·go_enter Tryz.func80, Tryz.ntmps80
   go_wp2_with fail
   go_ret
   refine ⟨?_, rfl⟩
   rw [oZ, Lib.decDigits, dif_pos hn', Nat.mod_eq_of_lt hn']; rfl
  ·go_enter Tryz.func80, Tryz.ntmps80
   go_wp2_with fail
   refine IH.out.mono ?_
   rintro e w1 ⟨rfl, rfl⟩
   have hdl := ru (n / 10) (by omega)
   go_wp2_with fail
   go_ret
   refine ⟨?_, rfl⟩
   rw [oZ]
   conv => rhs; rw [Lib.decDigits, dif_neg hn']
   congr 2
theorem dB (n : Nat) (w : World) (h64 : n < 18446744073709551616) : Calls Tryz.prog 80 #[.int .u64 n] w fun e w' => e = .returned (.string ⟨(Lib.decDigits n).toArray⟩) ∧ w' = w :=
 ry 20 n w (Nat.lt_of_lt_of_le h64 (by decide)) h64
theorem xD (u : Nat) (w : World) (hu64 : u < 18446744073709551616) (htab : Lib.TabIs Tryz.prog w "internal/strconv.uint64pow10" .u64 Lib.pow10Tab) :
  Calls Tryz.prog 190 #[.int .u64 u, .int .i64 10] w fun e w' => e = .returned (.string ⟨(Lib.decDigits u).toArray⟩) ∧ Below w.heap.size w w' := by
 by_cases hs : u < 100
 ·go_enter Tryz.func190, Tryz.ntmps190
  go_wp2_with (go_at_call 214; refine (Tryz.internal_strconv_small u hs _).mono ?_; rintro e w' ⟨rfl, rfl⟩)
  go_ret
  exact ⟨rfl, br⟩
 ·have hu1 : 1 ≤ u := by omega
  have hnd20 : Lib.nDigits u ≤ 20 := by have := Lib.numDigits_eq u hu1 hu64; split at this <;> omega
  have hal : Tryz.prog.arrayLen 309 = 24 := by kernel_rfl
  have hel : ∃ e, Tryz.prog.underlying 309 = some (.array 24 e) ∧ Tryz.prog.cellsOf e = 1 := ⟨_, Tryz.underlying309, by kernel_rfl⟩
  have hsl1 : ∀ W, (Instr.sliceAt 309 (.pointer (some ⟨w.heap.size, 0, none⟩)) none (some (.int .i64 (Lib.nDigits u : Int))) none).run Tryz.prog W = .ok (.slice (some ⟨w.heap.size, 0, none⟩) (Lib.nDigits u) 24) W := fun W => by
   rw [run_sliceAt_array_h W 309 ⟨w.heap.size, 0, none⟩ (by kernel_rfl) .i64 (Lib.nDigits u : Int) (by omega) (by rw [hal]; omega)]
   go_simp
  have hH0 := Lib.holds_zero0 w 309 (Lib.nDigits u) (by omega)
  have hfmt := Tryz.internal_strconv_formatBase10 w.heap.size 0 24 u (Array.replicate (Lib.nDigits u) 0) (w.alloc (.cells Lib.zeros24 309)) hH0 (by rw [Array.size_replicate]; exact Lib.lt_pow_nDigits u) hu64 (by rw [Array.size_replicate]; omega)
  rw [Array.size_replicate] at hfmt
  have HH0 := hid hH0
  have HF := hid hfmt
  clear hH0 hal hel hfmt
  go_enter Tryz.func190, Tryz.ntmps190
  go_wp2_with (first
   | (go_at_call 215; refine (Tryz.internal_strconv_numDigits u hu1 hu64 _ (Lib.tabIs_alloc htab _)).mono ?_; rintro e w' ⟨rfl, rfl⟩))
  go_at_call 216
  refine HF.out.mono ?_
  rintro e w' ⟨rfl, k, v', dk, rfl, hF⟩
  have hcv : (convert 32 9 (.slice (some ⟨w.heap.size, 0, none⟩) (Lib.nDigits u) 24)).run Tryz.prog ((Sort.putRow (fun (b : UInt8) => Value.int .u8 (b.toNat : Int)) (w.alloc (.cells Lib.zeros24 309)) w.heap.size 0 dk).drewN k) = .ok (.string ⟨(Lib.decDigits u).toArray⟩) ((Sort.putRow (fun (b : UInt8) => Value.int .u8 (b.toNat : Int)) (w.alloc (.cells Lib.zeros24 309)) w.heap.size 0 dk).drewN k) := by
   have h := run_convert_bytes_back (P := Tryz.prog) ((Sort.putRow (fun (b : UInt8) => Value.int .u8 (b.toNat : Int)) (w.alloc (.cells Lib.zeros24 309)) w.heap.size 0 dk).drewN k) 32 9 5 ⟨w.heap.size, 0, none⟩ 24 (Lib.decDigits u) Tryz.underlying32 Tryz.underlying5 Tryz.underlying9 (fun j hj => by
    rw [Lib.row_is_numeral hF j hj, Lib.add_plain, World.cell?_drewN]
    exact Sort.cell?_putRow (fun (b : UInt8) => Value.int .u8 (b.toNat : Int)) _ w.heap.size 0 _ dk HH0.out (by rw [hF.size, Array.size_replicate]) j (by rw [hF.size]; rw [Lib.decDigits_length] at hj; exact hj))
   rw [Lib.decDigits_length] at h
   exact h
  have hsz : (Sort.putRow (fun (b : UInt8) => Value.int .u8 (b.toNat : Int)) (w.alloc (.cells Lib.zeros24 309)) w.heap.size 0 dk).heap.size = w.heap.size + 1 := by simp
  go_wp2_with fail
  go_ret
  obtain ⟨os, eo⟩ := Lib.fin_at w (.cells Lib.zeros24 309) dk k 0
  exact ⟨rfl, by rw [eo]; exact Lib.below_grow _ _ nl _ _⟩
theorem jK (u : Nat) (w : World) (hu64 : u < 18446744073709551616) (htab : Lib.TabIs Tryz.prog w "internal/strconv.uint64pow10" .u64 Lib.pow10Tab) :
  Calls Tryz.prog 133 #[.int .u64 u, .int .i64 10] w fun e w' => e = .returned (.string ⟨(Lib.decDigits u).toArray⟩) ∧ Below w.heap.size w w' := by
 go_enter Tryz.func133, Tryz.ntmps133
 go_wp2_with fail
 refine (xD u w hu64 htab).mono ?_
 rintro e w' ⟨rfl, hb⟩
 go_wp2_with fail
 go_ret
 exact ⟨rfl, hb⟩
theorem pg (u : Nat) (w : World) (hu64 : u < 18446744073709551616) (htab : Lib.TabIs Tryz.prog w "internal/strconv.uint64pow10" .u64 Lib.pow10Tab) :
  Calls Tryz.prog 224 #[.int .u64 u] w fun e w' => e = .returned (.string ⟨(Lib.decDigits u).toArray⟩) ∧ Below w.heap.size w w' := by
 go_enter Tryz.func224, Tryz.ntmps224
 go_wp2_with fail
 refine (jK u w hu64 htab).mono ?_
 rintro e w' ⟨rfl, hb⟩
 go_wp2_with fail
 go_ret
 exact ⟨rfl, hb⟩
theorem ES (l : List UInt8) (j : Nat) (h : ∀ c ∈ l.take j, isD c = true) (h1 : ∀ c, l[j]? = some c → isD c = false) : l.takeWhile isD = l.take j ∧ l.dropWhile isD = l.drop j := by
 have := gN (l.take j) (l.drop j) h (fun c hc => h1 c (by rw [List.head?_drop] at hc; exact hc))
 rwa [List.take_append_drop] at this
theorem ET (l : List UInt8) (j : Nat) (h : ∀ c ∈ l.take j, isD c = true) : numOf (l.take j) ≤ numOf (l.takeWhile isD) := by
 have h2 : l.takeWhile isD = l.take j ++ (l.drop j).takeWhile isD := by
  conv => lhs; rw [← List.take_append_drop j l]
  rw [List.takeWhile_append_of_pos h]
 rw [h2]
 have h3 := nK (l.take j) ((l.drop j).takeWhile isD) 0
 unfold numOf
 rw [h3]; exact zi _ _
theorem xE (l : List UInt8) (j : Nat) (h : ∀ c ∈ l.take j, isD c = true) (h1 : 18446744073709551616 ≤ numOf (l.take j)) : rdNum l = none := by
 have := ET l j h
 unfold rdNum
 rw [if_neg (by rintro ⟨_, _, h3⟩; omega)]
theorem vJ (l : List UInt8) (j : Nat) (h : ∀ c ∈ l.take j, isD c = true) (h1 : ∀ c, l[j]? = some c → isD c = false) (h2 : numOf (l.take j) < 18446744073709551616) :
  rdNum l = if l.take j ≠ [] ∧ Lib.decDigits (numOf (l.take j)) = l.take j then some (numOf (l.take j), l.drop j) else none := by
 obtain ⟨e1, e2⟩ := ES l j h h1
 unfold rdNum
 rw [e1, e2]
 simp only [h2, and_true]
theorem mR (l : List UInt8) (j : Nat) (hj : j < l.length) (h : ∀ c ∈ l.take j, isD c = true) (h1 : isD l[j] = true) : ∀ c ∈ l.take (j + 1), isD c = true := by
 rw [List.take_succ_eq_append_getElem hj]
 intro c hc
 simp only [List.mem_append, List.mem_singleton] at hc
 rcases hc with hc | rfl
 ·exact h c hc
 ·exact h1
theorem oz (l : List UInt8) (j : Nat) (hj : j < l.length) : numOf (l.take (j + 1)) = numOf (l.take j) * 10 + (l[j].toNat - 48) := by
 rw [List.take_succ_eq_append_getElem hj, oP]
def CP (l : List UInt8) (w : World) (e : Ending) (w' : World) : Prop :=
 ∃ (n : Nat) (r : ByteArray) (ok : Bool), e = .returned (.tuple #[.int .u64 n, .string r, .bool ok]) ∧ n < 18446744073709551616 ∧ (ok = true → rdNum l = some (n, r.data.toList)) ∧ (ok = false → rdNum l = none) ∧ r.size ≤ l.length ∧ Below w.heap.size w w'
theorem kI (s : ByteArray) (w : World) (hs : s.size ≤ 1000000) : Calls Tryz.prog 135 #[.string s] w (CP s.data.toList w) := by
 have hsl := af s
 go_enter Tryz.func135, Tryz.ntmps135
 go_wp2_with fail
 go_loopw [5, 6] (fun n i wr => ∃ j : Nat, j ≤ s.size ∧ i = .int .i64 j ∧ n = .int .u64 (numOf (s.data.toList.take j) : Nat) ∧ numOf (s.data.toList.take j) < 18446744073709551616 ∧ Hid (∀ c ∈ s.data.toList.take j, isD c = true) ∧ wr = w) (fun _ i _ => s.size - (intOf i).toNat)
 case atStart => exact ⟨0, by omega, rfl, by simp [numOf, lT], by simp [numOf, lT], hid (by simp), rfl⟩
 case round =>
  obtain ⟨j, hj, rfl, rfl, h64, hall, rfl⟩ := hrel
  have hmn : numOf (s.data.toList.take j) = numOf (s.data.toList.take j) := rfl
  by_cases hlt : j < s.size
  ·have hlt2 : j < s.data.toList.length := by omega
   have hg : s.data.toList[j] = s[j] := Bq s j hlt
   by_cases hd : isD s[j] = true
   ·have hd2 := hd
    simp only [isD, Bool.and_eq_true, decide_eq_true_eq] at hd2
    obtain ⟨d1, d2⟩ := hd2
    have HS := hid (oz s.data.toList j hlt2)
    have HD := hid (mR s.data.toList j hlt2 hall.out (by rw [hg]; exact hd))
    have HG := hid hg
    clear hg hd
    obtain ⟨m, hm⟩ : ∃ m, m = numOf (s.data.toList.take j) := ⟨_, rfl⟩
    rw [← hm] at h64 ⊢
    have HM := hid hm
    clear hm hmn
    by_cases hov : (18446744073709551615 - (s[j].toNat - 48)) / 10 < m
    ·have t1 : decide ((18446744073709551615 - ((s[j].toNat : Int) - 48)) / 10 < (m : Int)) = true := by simp; omega
     go_wp2_with fail
     refine bodyPost_ret (v := .tuple #[.int .u64 0, .string s, .bool false]) (by simp [results, Tryz.results135, go_sem]) rfl ⟨0, s, false, rfl, by omega, (fun h => by cases h), fun _ => xE _ (j + 1) HD.out ?_, by omega, br⟩
     rw [HS.out, ← HM.out, HG.out]; omega
    ·have t1 : decide ((18446744073709551615 - ((s[j].toNat : Int) - 48)) / 10 < (m : Int)) = false := by simp; omega
     go_wp2_with fail
     go_roundw
     case rel =>
      refine ⟨j + 1, by omega, by go_num, ?_, ?_, HD, by trivial⟩
      ·rw [HS.out, ← HM.out, HG.out]; congr 1; omega
      ·rw [HS.out, ← HM.out, HG.out]; omega
     case measure => simp [intOf]; omega
   ·have hex : ∀ c, s.data.toList[j]? = some c → isD c = false := by
     intro c hc
     rw [List.getElem?_eq_getElem hlt2, hg] at hc
     injection hc with hc
     subst hc
     simpa using hd
    have HR := hid (vJ _ j hall.out hex h64)
    have hd2 : (¬ 48 ≤ s[j].toNat) ∨ (48 ≤ s[j].toNat ∧ ¬ s[j].toNat ≤ 57) := by
     by_cases h48 : 48 ≤ s[j].toNat
     ·right
      refine ⟨h48, fun h57 => hd ?_⟩
      simp [isD, h48, h57]
     ·left; exact h48
    clear hex hg hd hmn
    rcases hd2 with hd2 | ⟨hd1, hd2⟩
    ·obtain ⟨m, hm, HM⟩ : ∃ m, m = numOf (s.data.toList.take j) ∧ Hid (m = numOf (s.data.toList.take j)) := ⟨_, rfl, hid rfl⟩; rw [← hm] at h64 ⊢; clear hm
     go_wp2_with fail
     have hlen : (s.data.toList.take j).length = j := by simp; omega
     by_cases h0 : 0 < j
     ·have h0b : decide ((0 : Int) < (j : Int)) = true := by simp; omega
      go_quiet ((go_at_call 80; exact Calls.quiet_of_same (dB m _ h64)))
      go_wp2_with fail
      refine bodyPost_ret (v := .tuple #[.int .u64 m, .string (s.extract j s.size), .bool ((ByteArray.mk (Lib.decDigits m).toArray).toList == (s.extract 0 j).toList)]) (by simp [results, Tryz.results135, go_sem]) rfl ⟨m, _, _, rfl, h64, ?_, ?_, ?_, below_drewN br _⟩
      ·intro hb
       rw [kY, aT] at hb
       simp only [List.drop_zero, Nat.sub_zero, beq_iff_eq] at hb
       rw [HR.out, ← HM.out, if_pos ⟨fun e => by rw [e] at hlen; simp at hlen; omega, hb⟩, aT]
       congr 3
       rw [List.take_of_length_le (by simp)]
      ·intro hb
       rw [kY, aT] at hb
       simp only [List.drop_zero, Nat.sub_zero, beq_eq_false_iff_ne, ne_eq] at hb
       rw [HR.out, ← HM.out, if_neg (fun h => hb h.2)]
      ·simp
     ·have h0b : decide ((0 : Int) < (j : Int)) = false := by simp; omega
      go_quiet (fail)
      go_wp2_with fail
      refine bodyPost_ret (v := .tuple #[.int .u64 m, .string (s.extract j s.size), .bool false]) (by simp [results, Tryz.results135, go_sem]) rfl ⟨m, _, _, rfl, h64, fun h => (by cases h), fun _ => ?_, ?_, below_drewN br _⟩
      ·rw [HR.out, if_neg (fun h => h.1 (List.eq_nil_of_length_eq_zero (by omega)))]
      ·simp
    ·obtain ⟨m, hm, HM⟩ : ∃ m, m = numOf (s.data.toList.take j) ∧ Hid (m = numOf (s.data.toList.take j)) := ⟨_, rfl, hid rfl⟩; rw [← hm] at h64 ⊢; clear hm
     go_wp2_with fail
     have hlen : (s.data.toList.take j).length = j := by simp; omega
     by_cases h0 : 0 < j
     ·have h0b : decide ((0 : Int) < (j : Int)) = true := by simp; omega
      go_quiet ((go_at_call 80; exact Calls.quiet_of_same (dB m _ h64)))
      go_wp2_with fail
      refine bodyPost_ret (v := .tuple #[.int .u64 m, .string (s.extract j s.size), .bool ((ByteArray.mk (Lib.decDigits m).toArray).toList == (s.extract 0 j).toList)]) (by simp [results, Tryz.results135, go_sem]) rfl ⟨m, _, _, rfl, h64, ?_, ?_, ?_, below_drewN br _⟩
      ·intro hb
       rw [kY, aT] at hb
       simp only [List.drop_zero, Nat.sub_zero, beq_iff_eq] at hb
       rw [HR.out, ← HM.out, if_pos ⟨fun e => by rw [e] at hlen; simp at hlen; omega, hb⟩, aT]
       congr 3
       rw [List.take_of_length_le (by simp)]
      ·intro hb
       rw [kY, aT] at hb
       simp only [List.drop_zero, Nat.sub_zero, beq_eq_false_iff_ne, ne_eq] at hb
       rw [HR.out, ← HM.out, if_neg (fun h => hb h.2)]
      ·simp
     ·have h0b : decide ((0 : Int) < (j : Int)) = false := by simp; omega
      go_quiet (fail)
      go_wp2_with fail
      refine bodyPost_ret (v := .tuple #[.int .u64 m, .string (s.extract j s.size), .bool false]) (by simp [results, Tryz.results135, go_sem]) rfl ⟨m, _, _, rfl, h64, fun h => (by cases h), fun _ => ?_, ?_, below_drewN br _⟩
      ·rw [HR.out, if_neg (fun h => h.1 (List.eq_nil_of_length_eq_zero (by omega)))]
      ·simp
  ·  have HR := hid (vJ s.data.toList j hall.out (fun c hc => by rw [List.getElem?_eq_none (by omega)] at hc; cases hc) h64)
     clear hmn
     obtain ⟨m, hm, HM⟩ : ∃ m, m = numOf (s.data.toList.take j) ∧ Hid (m = numOf (s.data.toList.take j)) := ⟨_, rfl, hid rfl⟩; rw [← hm] at h64 ⊢; clear hm
     go_wp2_with fail
     have hlen : (s.data.toList.take j).length = j := by simp; omega
     by_cases h0 : 0 < j
     ·have h0b : decide ((0 : Int) < (j : Int)) = true := by simp; omega
      go_quiet ((go_at_call 80; exact Calls.quiet_of_same (dB m _ h64)))
      go_wp2_with fail
      refine bodyPost_ret (v := .tuple #[.int .u64 m, .string (s.extract j s.size), .bool ((ByteArray.mk (Lib.decDigits m).toArray).toList == (s.extract 0 j).toList)]) (by simp [results, Tryz.results135, go_sem]) rfl ⟨m, _, _, rfl, h64, ?_, ?_, ?_, below_drewN br _⟩
      ·intro hb
       rw [kY, aT] at hb
       simp only [List.drop_zero, Nat.sub_zero, beq_iff_eq] at hb
       rw [HR.out, ← HM.out, if_pos ⟨fun e => by rw [e] at hlen; simp at hlen; omega, hb⟩, aT]
       congr 3
       rw [List.take_of_length_le (by simp)]
      ·intro hb
       rw [kY, aT] at hb
       simp only [List.drop_zero, Nat.sub_zero, beq_eq_false_iff_ne, ne_eq] at hb
       rw [HR.out, ← HM.out, if_neg (fun h => hb h.2)]
      ·simp
     ·have h0b : decide ((0 : Int) < (j : Int)) = false := by simp; omega
      go_quiet (fail)
      go_wp2_with fail
      refine bodyPost_ret (v := .tuple #[.int .u64 m, .string (s.extract j s.size), .bool false]) (by simp [results, Tryz.results135, go_sem]) rfl ⟨m, _, _, rfl, h64, fun h => (by cases h), fun _ => ?_, ?_, below_drewN br _⟩
      ·rw [HR.out, if_neg (fun h => h.1 (List.eq_nil_of_length_eq_zero (by omega)))]
      ·simp
end Go.Proofs.YtlpgokcapdjgjaaGreatDoor
