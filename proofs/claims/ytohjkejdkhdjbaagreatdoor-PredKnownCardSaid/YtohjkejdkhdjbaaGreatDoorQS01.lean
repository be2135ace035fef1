/- Walks: texts and numbers in them. -/
import Derived.Test.YtohjkejdkhdjbaaGreatDoorQW04n
import Derived.Test.YtohjkejdkhdjbaaGreatDoorQEx06
import Derived.Test.YtohjkejdkhdjbaaGreatDoorQShelf
import Derived.Shelf.Strings.SlTrimAscii
import Derived.Lib.AppendIntMem
namespace Go.Proofs.YtohjkejdkhdjbaaGreatDoor
open Go.RowKit Go
set_option linter.unusedVariables false
set_option linter.unusedSimpArgs false
theorem ba_size (s : ByteArray) : s.data.toList.length = s.size := (Lib.size_eq s).symm
theorem ba_ext {s t : ByteArray} (h : s.data.toList = t.data.toList) : s = t := by
  obtain ⟨⟨l⟩⟩ := s; obtain ⟨⟨m⟩⟩ := t; simp at h; simp [h]
theorem ba_extract (s : ByteArray) (a b : Nat) : (s.extract a b).data.toList = (s.data.toList.drop a).take (b - a) := by
  have h := Lib.extract_toList s a b
  rwa [ByteArray.toList_eq] at h
theorem ba_eqs (s t : ByteArray) : (s.toList == t.toList) = (s.data.toList == t.data.toList) := by rw [ByteArray.toList_eq, ByteArray.toList_eq]
theorem ba_get (s : ByteArray) (k : Nat) (h : k < s.size) : s.data.toList[k]'(by rw [ba_size]; exact h) = s[k] := rfl
theorem prefix_take (t l : List UInt8) : t.isPrefixOf l = (decide (t.length ≤ l.length) && (l.take t.length == t)) := by
  rw [Bool.eq_iff_iff, List.isPrefixOf_iff_prefix]
  simp only [Bool.and_eq_true, decide_eq_true_eq, beq_iff_eq]
  constructor
  · intro h; exact ⟨h.length_le, (List.prefix_iff_eq_take.1 h).symm⟩
  · rintro ⟨_, h⟩; exact List.prefix_iff_eq_take.2 h.symm
set_option maxRecDepth 10000 in
theorem begins_any (s t : ByteArray) (w : World) (hs : s.size ≤ 1000000) (ht : t.size ≤ 1000000) :
    Calls Tryz.prog 61 #[.string s, .string t] w fun e w' => e = .returned (.bool (t.data.toList.isPrefixOf s.data.toList)) ∧ w' = w := by
  by_cases h : t.size ≤ s.size
  · go_enter Tryz.func61, Tryz.ntmps61
    go_wp2_with fail
    go_ret
    exact ⟨ret_bool (by rw [ba_eqs, ba_extract, prefix_take, ba_size, ba_size, List.drop_zero, Nat.sub_zero]; simp [h]), rfl⟩
  · go_enter Tryz.func61, Tryz.ntmps61
    go_wp2_with fail
    go_ret
    exact ⟨ret_bool (by rw [prefix_take, ba_size, ba_size]; simp [h]), rfl⟩
theorem decDigits_len (n : Nat) (h : n < 18446744073709551616) : (Lib.decDigits n).length ≤ 20 := by
  rw [Lib.decDigits_length]
  rcases Nat.eq_zero_or_pos n with rfl | h0
  · rw [Lib.nDigits_small (by omega)]; omega
  · have := Lib.numDigits_eq n h0 h; split at this <;> omega
theorem digit_at (n : Nat) : (ByteArray.mk #[48, 49, 50, 51, 52, 53, 54, 55, 56, 57]).extract (n % 10) (n % 10 + 1) = ⟨#[UInt8.ofNat (48 + n % 10)]⟩ := by
  have h : ∀ k : Fin 10, (ByteArray.mk #[48, 49, 50, 51, 52, 53, 54, 55, 56, 57]).extract k.val (k.val + 1) = ⟨#[UInt8.ofNat (48 + k.val)]⟩ := by decide +kernel
  exact h ⟨n % 10, Nat.mod_lt _ (by omega)⟩
set_option maxRecDepth 10000 in
theorem refDigits_any (d : Nat) : ∀ (n : Nat) (w : World), n < 10 ^ (d + 1) → n < 18446744073709551616 →
    Calls Tryz.prog 74 #[.int .u64 n] w fun e w' => e = .returned (.string ⟨(Lib.decDigits n).toArray⟩) ∧ w' = w := by
  induction d with
  | zero =>
    intro n w hn _
    have hn' : n < 10 := by simpa using hn
    clear hn
    go_enter Tryz.func74, Tryz.ntmps74
    go_wp2_with fail
    go_ret
    refine ⟨?_, rfl⟩
    rw [digit_at, Lib.decDigits, dif_pos hn', Nat.mod_eq_of_lt hn']; rfl
  | succ d ih =>
    intro n w hn h64
    have hdiv : n / 10 < 10 ^ (d + 1) := by rw [Nat.pow_succ] at hn; omega
    have h := ih (n / 10) w hdiv (by omega)
    rw [show ((n / 10 : Nat) : Int) = (n : Int) / 10 from by simp] at h
    have IH := Lib.hid h
    clear h ih hdiv hn
    by_cases hn' : n < 10
    · go_enter Tryz.func74, Tryz.ntmps74
      go_wp2_with fail
      go_ret
      refine ⟨?_, rfl⟩
      rw [digit_at, Lib.decDigits, dif_pos hn', Nat.mod_eq_of_lt hn']; rfl
    · go_enter Tryz.func74, Tryz.ntmps74
      go_wp2_with fail
      refine IH.out.mono ?_
      rintro e w1 ⟨rfl, rfl⟩
      have hdl := decDigits_len (n / 10) (by omega)
      go_wp2_with fail
      go_ret
      refine ⟨?_, rfl⟩
      rw [digit_at]
      conv => rhs; rw [Lib.decDigits, dif_neg hn']
      congr 2
theorem refDigits (n : Nat) (w : World) (h64 : n < 18446744073709551616) : Calls Tryz.prog 74 #[.int .u64 n] w fun e w' => e = .returned (.string ⟨(Lib.decDigits n).toArray⟩) ∧ w' = w :=
  refDigits_any 20 n w (Nat.lt_of_lt_of_le h64 (by decide)) h64
set_option maxHeartbeats 1000000 in
set_option maxRecDepth 100000 in
theorem fmtUint_in (u : Nat) (w : World) (hu64 : u < 18446744073709551616) (htab : Lib.TabIs Tryz.prog w "internal/strconv.uint64pow10" .u64 Lib.pow10Tab) :
    Calls Tryz.prog 112 #[.int .u64 u, .int .i64 10] w fun e w' => e = .returned (.string ⟨(Lib.decDigits u).toArray⟩) ∧ Below w.heap.size w w' := by
  by_cases hs : u < 100
  · go_enter Tryz.func112, Tryz.ntmps112
    go_wp2_with (go_at_call 128; refine (Tryz.internal_strconv_small u hs _).mono ?_; rintro e w' ⟨rfl, rfl⟩)
    go_ret
    exact ⟨rfl, Below.refl _ _⟩
  · have hu1 : 1 ≤ u := by omega
    have hnd20 : Lib.nDigits u ≤ 20 := by have := Lib.numDigits_eq u hu1 hu64; split at this <;> omega
    have hal : Tryz.prog.arrayLen 167 = 24 := by kernel_rfl
    have hel : ∃ e, Tryz.prog.underlying 167 = some (.array 24 e) ∧ Tryz.prog.cellsOf e = 1 := ⟨_, Tryz.underlying167, by kernel_rfl⟩
    have hsl1 : ∀ W, (Instr.sliceAt 167 (.pointer (some ⟨w.heap.size, 0, none⟩)) none (some (.int .i64 (Lib.nDigits u : Int))) none).run Tryz.prog W = .ok (.slice (some ⟨w.heap.size, 0, none⟩) (Lib.nDigits u) 24) W := fun W => by
      rw [run_sliceAt_array_h W 167 ⟨w.heap.size, 0, none⟩ (by kernel_rfl) .i64 (Lib.nDigits u : Int) (by omega) (by rw [hal]; omega)]
      go_simp
    have hH0 := Lib.holds_zero0 w 167 (Lib.nDigits u) (by omega)
    have hfmt := Tryz.internal_strconv_formatBase10 w.heap.size 0 24 u (Array.replicate (Lib.nDigits u) 0) (w.alloc (.cells Lib.zeros24 167)) hH0 (by rw [Array.size_replicate]; exact Lib.lt_pow_nDigits u) hu64 (by rw [Array.size_replicate]; omega)
    rw [Array.size_replicate] at hfmt
    have HH0 := Lib.hid hH0
    have HF := Lib.hid hfmt
    clear hH0 hal hel hfmt
    go_enter Tryz.func112, Tryz.ntmps112
    go_wp2_with (first
      | (go_at_call 129; refine (Tryz.internal_strconv_numDigits u hu1 hu64 _ (Lib.tabIs_alloc htab _)).mono ?_; rintro e w' ⟨rfl, rfl⟩))
    go_at_call 130
    refine HF.out.mono ?_
    rintro e w' ⟨rfl, k, v', dk, rfl, hF⟩
    have hcv : (convert 39 9 (.slice (some ⟨w.heap.size, 0, none⟩) (Lib.nDigits u) 24)).run Tryz.prog ((Sort.putRow (fun (b : UInt8) => Value.int .u8 (b.toNat : Int)) (w.alloc (.cells Lib.zeros24 167)) w.heap.size 0 dk).drewN k) = .ok (.string ⟨(Lib.decDigits u).toArray⟩) ((Sort.putRow (fun (b : UInt8) => Value.int .u8 (b.toNat : Int)) (w.alloc (.cells Lib.zeros24 167)) w.heap.size 0 dk).drewN k) := by
      have h := run_convert_bytes_back (P := Tryz.prog) ((Sort.putRow (fun (b : UInt8) => Value.int .u8 (b.toNat : Int)) (w.alloc (.cells Lib.zeros24 167)) w.heap.size 0 dk).drewN k) 39 9 5 ⟨w.heap.size, 0, none⟩ 24 (Lib.decDigits u) Tryz.underlying39 Tryz.underlying5 Tryz.underlying9 (fun j hj => by
        rw [Lib.row_is_numeral hF j hj, Lib.add_plain, World.cell?_drewN]
        exact Sort.cell?_putRow (fun (b : UInt8) => Value.int .u8 (b.toNat : Int)) _ w.heap.size 0 _ dk HH0.out (by rw [hF.size, Array.size_replicate]) j (by rw [hF.size]; rw [Lib.decDigits_length] at hj; exact hj))
      rw [Lib.decDigits_length] at h
      exact h
    have hsz : (Sort.putRow (fun (b : UInt8) => Value.int .u8 (b.toNat : Int)) (w.alloc (.cells Lib.zeros24 167)) w.heap.size 0 dk).heap.size = w.heap.size + 1 := by simp
    go_wp2_with fail
    go_ret
    obtain ⟨os, eo⟩ := Lib.fin_at w (.cells Lib.zeros24 167) dk k 0
    exact ⟨rfl, by rw [eo]; exact Lib.below_grow _ _ (Nat.le_refl _) _ _⟩
theorem predDigits_any (u : Nat) (w : World) (hu64 : u < 18446744073709551616) (htab : Lib.TabIs Tryz.prog w "internal/strconv.uint64pow10" .u64 Lib.pow10Tab) :
    Calls Tryz.prog 73 #[.int .u64 u] w fun e w' => e = .returned (.string ⟨(Lib.decDigits u).toArray⟩) ∧ Below w.heap.size w w' := by
  have hf : Calls Tryz.prog 88 #[.int .u64 u, .int .i64 10] w fun e w' => e = .returned (.string ⟨(Lib.decDigits u).toArray⟩) ∧ Below w.heap.size w w' := by
    go_enter Tryz.func88, Tryz.ntmps88
    go_wp2_with fail
    refine (fmtUint_in u w hu64 htab).mono ?_
    rintro e w' ⟨rfl, hb⟩
    go_wp2_with fail
    go_ret
    exact ⟨rfl, hb⟩
  go_enter Tryz.func73, Tryz.ntmps73
  go_wp2_with fail
  refine hf.mono ?_
  rintro e w' ⟨rfl, hb⟩
  go_wp2_with fail
  go_ret
  exact ⟨rfl, hb⟩
end Go.Proofs.YtohjkejdkhdjbaaGreatDoor
