/- Walks: the reference's numbers in a text. Ahead of it: Walks: texts and numbers in them. -/
import Derived.Test.YtjedgiiplebofaaGreatDoorQW04n
import Derived.Test.YtjedgiiplebofaaGreatDoorQ35
import Derived.Test.YtjedgiiplebofaaGreatDoorQShelf
import Derived.Shelf.Strings.SlTrimAscii
import Derived.Lib.AppendIntMem
import Derived.BigQuiet
import Derived.Deep.QuietTactic
import Derived.WalkSmall
namespace Go.Proofs.YtjedgiiplebofaaGreatDoor
open Go.RowKit Go
set_option linter.unusedVariables false
set_option linter.unusedSimpArgs false
theorem ba_size (s : ByteArray) : s.data.toList.length = s.size := (Lib.size_eq s).symm
theorem ba_ext {s t : ByteArray} (h : s.data.toList = t.data.toList) : s = t := by
  obtain ⟨⟨l⟩⟩ := s; obtain ⟨⟨m⟩⟩ := t; simp at h; simp [h]
theorem ba_extract (s : ByteArray) (a b : Nat) : (s.extract a b).data.toList = (s.data.toList.drop a).take (b - a) := by
  have h := Lib.extract_toList s a b
  rwa [ByteArray.toList_eq] at h
theorem ba_eqs (s t : ByteArray) : (s.toList == t.toList) = (s.data.toList == t.data.toList) := by rw [ByteArray.toList_eq, ByteArray.toList_eq]
theorem ba_get (s : ByteArray) (k : Nat) (h : k < s.size) : s.data.toList[k]'(by rw [ba_size]; exact h) = s[k] := rfl
theorem prefix_take (t l : List UInt8) : t.isPrefixOf l = (decide (t.length ≤ l.length) && (l.take t.length == t)) := by
  rw [Bool.eq_iff_iff, List.isPrefixOf_iff_prefix]
  simp only [Bool.and_eq_true, decide_eq_true_eq, beq_iff_eq]
  constructor
  · intro h; exact ⟨h.length_le, (List.prefix_iff_eq_take.1 h).symm⟩
  · rintro ⟨_, h⟩; exact List.prefix_iff_eq_take.2 h.symm
set_option maxRecDepth 10000 in
theorem begins_any (s t : ByteArray) (w : World) (hs : s.size ≤ 1000000) (ht : t.size ≤ 1000000) :
    Calls Tryz.prog 246 #[.string s, .string t] w fun e w' => e = .returned (.bool (t.data.toList.isPrefixOf s.data.toList)) ∧ w' = w := by
  by_cases h : t.size ≤ s.size
  · go_enter Tryz.func246, Tryz.ntmps246
    go_wp2_with fail
    go_ret
    exact ⟨ret_bool (by rw [ba_eqs, ba_extract, prefix_take, ba_size, ba_size, List.drop_zero, Nat.sub_zero]; simp [h]), rfl⟩
  · go_enter Tryz.func246, Tryz.ntmps246
    go_wp2_with fail
    go_ret
    exact ⟨ret_bool (by rw [prefix_take, ba_size, ba_size]; simp [h]), rfl⟩
theorem decDigits_len (n : Nat) (h : n < 18446744073709551616) : (Lib.decDigits n).length ≤ 20 := by
  rw [Lib.decDigits_length]
  rcases Nat.eq_zero_or_pos n with rfl | h0
  · rw [Lib.nDigits_small (by omega)]; omega
  · have := Lib.numDigits_eq n h0 h; split at this <;> omega
theorem digit_at (n : Nat) : (ByteArray.mk #[48, 49, 50, 51, 52, 53, 54, 55, 56, 57]).extract (n % 10) (n % 10 + 1) = ⟨#[UInt8.ofNat (48 + n % 10)]⟩ := by
  have h : ∀ k : Fin 10, (ByteArray.mk #[48, 49, 50, 51, 52, 53, 54, 55, 56, 57]).extract k.val (k.val + 1) = ⟨#[UInt8.ofNat (48 + k.val)]⟩ := by decide +kernel
  exact h ⟨n % 10, Nat.mod_lt _ (by omega)⟩
set_option maxRecDepth 10000 in
theorem refDigits_any (d : Nat) : ∀ (n : Nat) (w : World), n < 10 ^ (d + 1) → n < 18446744073709551616 →
    Calls Tryz.prog 62 #[.int .u64 n] w fun e w' => e = .returned (.string ⟨(Lib.decDigits n).toArray⟩) ∧ w' = w := by
  induction d with
  | zero =>
    intro n w hn _
    have hn' : n < 10 := by simpa using hn
    clear hn
    go_enter Tryz.func62, Tryz.ntmps62
    go_wp2_with fail
    go_ret
    refine ⟨?_, rfl⟩
    rw [digit_at, Lib.decDigits, dif_pos hn', Nat.mod_eq_of_lt hn']; rfl
  | succ d ih =>
    intro n w hn h64
    have hdiv : n / 10 < 10 ^ (d + 1) := by rw [Nat.pow_succ] at hn; omega
    have h := ih (n / 10) w hdiv (by omega)
    rw [show ((n / 10 : Nat) : Int) = (n : Int) / 10 from by simp] at h
    have IH := Lib.hid h
    clear h ih hdiv hn
    by_cases hn' : n < 10
    · go_enter Tryz.func62, Tryz.ntmps62
      go_wp2_with fail
      go_ret
      refine ⟨?_, rfl⟩
      rw [digit_at, Lib.decDigits, dif_pos hn', Nat.mod_eq_of_lt hn']; rfl
    · go_enter Tryz.func62, Tryz.ntmps62
      go_wp2_with fail
      refine IH.out.mono ?_
      rintro e w1 ⟨rfl, rfl⟩
      have hdl := decDigits_len (n / 10) (by omega)
      go_wp2_with fail
      go_ret
      refine ⟨?_, rfl⟩
      rw [digit_at]
      conv => rhs; rw [Lib.decDigits, dif_neg hn']
      congr 2
theorem refDigits (n : Nat) (w : World) (h64 : n < 18446744073709551616) : Calls Tryz.prog 62 #[.int .u64 n] w fun e w' => e = .returned (.string ⟨(Lib.decDigits n).toArray⟩) ∧ w' = w :=
  refDigits_any 20 n w (Nat.lt_of_lt_of_le h64 (by decide)) h64
set_option maxHeartbeats 1000000 in
set_option maxRecDepth 100000 in
theorem fmtUint_in (u : Nat) (w : World) (hu64 : u < 18446744073709551616) (htab : Lib.TabIs Tryz.prog w "internal/strconv.uint64pow10" .u64 Lib.pow10Tab) :
    Calls Tryz.prog 255 #[.int .u64 u, .int .i64 10] w fun e w' => e = .returned (.string ⟨(Lib.decDigits u).toArray⟩) ∧ Below w.heap.size w w' := by
  by_cases hs : u < 100
  · go_enter Tryz.func255, Tryz.ntmps255
    go_wp2_with (go_at_call 288; refine (Tryz.internal_strconv_small u hs _).mono ?_; rintro e w' ⟨rfl, rfl⟩)
    go_ret
    exact ⟨rfl, Below.refl _ _⟩
  · have hu1 : 1 ≤ u := by omega
    have hnd20 : Lib.nDigits u ≤ 20 := by have := Lib.numDigits_eq u hu1 hu64; split at this <;> omega
    have hal : Tryz.prog.arrayLen 388 = 24 := by kernel_rfl
    have hel : ∃ e, Tryz.prog.underlying 388 = some (.array 24 e) ∧ Tryz.prog.cellsOf e = 1 := ⟨_, Tryz.underlying388, by kernel_rfl⟩
    have hsl1 : ∀ W, (Instr.sliceAt 388 (.pointer (some ⟨w.heap.size, 0, none⟩)) none (some (.int .i64 (Lib.nDigits u : Int))) none).run Tryz.prog W = .ok (.slice (some ⟨w.heap.size, 0, none⟩) (Lib.nDigits u) 24) W := fun W => by
      rw [run_sliceAt_array_h W 388 ⟨w.heap.size, 0, none⟩ (by kernel_rfl) .i64 (Lib.nDigits u : Int) (by omega) (by rw [hal]; omega)]
      go_simp
    have hH0 := Lib.holds_zero0 w 388 (Lib.nDigits u) (by omega)
    have hfmt := Tryz.internal_strconv_formatBase10 w.heap.size 0 24 u (Array.replicate (Lib.nDigits u) 0) (w.alloc (.cells Lib.zeros24 388)) hH0 (by rw [Array.size_replicate]; exact Lib.lt_pow_nDigits u) hu64 (by rw [Array.size_replicate]; omega)
    rw [Array.size_replicate] at hfmt
    have HH0 := Lib.hid hH0
    have HF := Lib.hid hfmt
    clear hH0 hal hel hfmt
    go_enter Tryz.func255, Tryz.ntmps255
    go_wp2_with (first
      | (go_at_call 289; refine (Tryz.internal_strconv_numDigits u hu1 hu64 _ (Lib.tabIs_alloc htab _)).mono ?_; rintro e w' ⟨rfl, rfl⟩))
    go_at_call 290
    refine HF.out.mono ?_
    rintro e w' ⟨rfl, k, v', dk, rfl, hF⟩
    have hcv : (convert 47 9 (.slice (some ⟨w.heap.size, 0, none⟩) (Lib.nDigits u) 24)).run Tryz.prog ((Sort.putRow (fun (b : UInt8) => Value.int .u8 (b.toNat : Int)) (w.alloc (.cells Lib.zeros24 388)) w.heap.size 0 dk).drewN k) = .ok (.string ⟨(Lib.decDigits u).toArray⟩) ((Sort.putRow (fun (b : UInt8) => Value.int .u8 (b.toNat : Int)) (w.alloc (.cells Lib.zeros24 388)) w.heap.size 0 dk).drewN k) := by
      have h := run_convert_bytes_back (P := Tryz.prog) ((Sort.putRow (fun (b : UInt8) => Value.int .u8 (b.toNat : Int)) (w.alloc (.cells Lib.zeros24 388)) w.heap.size 0 dk).drewN k) 47 9 5 ⟨w.heap.size, 0, none⟩ 24 (Lib.decDigits u) Tryz.underlying47 Tryz.underlying5 Tryz.underlying9 (fun j hj => by
        rw [Lib.row_is_numeral hF j hj, Lib.add_plain, World.cell?_drewN]
        exact Sort.cell?_putRow (fun (b : UInt8) => Value.int .u8 (b.toNat : Int)) _ w.heap.size 0 _ dk HH0.out (by rw [hF.size, Array.size_replicate]) j (by rw [hF.size]; rw [Lib.decDigits_length] at hj; exact hj))
      rw [Lib.decDigits_length] at h
      exact h
    have hsz : (Sort.putRow (fun (b : UInt8) => Value.int .u8 (b.toNat : Int)) (w.alloc (.cells Lib.zeros24 388)) w.heap.size 0 dk).heap.size = w.heap.size + 1 := by simp
    go_wp2_with fail
    go_ret
    obtain ⟨os, eo⟩ := Lib.fin_at w (.cells Lib.zeros24 388) dk k 0
    exact ⟨rfl, by rw [eo]; exact Lib.below_grow _ _ (Nat.le_refl _) _ _⟩
theorem formatUint_any (u : Nat) (w : World) (hu64 : u < 18446744073709551616) (htab : Lib.TabIs Tryz.prog w "internal/strconv.uint64pow10" .u64 Lib.pow10Tab) :
    Calls Tryz.prog 175 #[.int .u64 u, .int .i64 10] w fun e w' => e = .returned (.string ⟨(Lib.decDigits u).toArray⟩) ∧ Below w.heap.size w w' := by
  go_enter Tryz.func175, Tryz.ntmps175
  go_wp2_with fail
  refine (fmtUint_in u w hu64 htab).mono ?_
  rintro e w' ⟨rfl, hb⟩
  go_wp2_with fail
  go_ret
  exact ⟨rfl, hb⟩
theorem predDigits_any (u : Nat) (w : World) (hu64 : u < 18446744073709551616) (htab : Lib.TabIs Tryz.prog w "internal/strconv.uint64pow10" .u64 Lib.pow10Tab) :
    Calls Tryz.prog 304 #[.int .u64 u] w fun e w' => e = .returned (.string ⟨(Lib.decDigits u).toArray⟩) ∧ Below w.heap.size w w' := by
  go_enter Tryz.func304, Tryz.ntmps304
  go_wp2_with fail
  refine (formatUint_any u w hu64 htab).mono ?_
  rintro e w' ⟨rfl, hb⟩
  go_wp2_with fail
  go_ret
  exact ⟨rfl, hb⟩
end Go.Proofs.YtjedgiiplebofaaGreatDoor
namespace Go.Proofs.YtjedgiiplebofaaGreatDoor
open Go.RowKit Go
set_option linter.unusedVariables false
set_option linter.unusedSimpArgs false
theorem tw_at (l : List UInt8) (j : Nat) (h : ∀ c ∈ l.take j, isD c = true) (h1 : ∀ c, l[j]? = some c → isD c = false) : l.takeWhile isD = l.take j ∧ l.dropWhile isD = l.drop j := by
  have := takeWhile_append_of (l.take j) (l.drop j) h (fun c hc => h1 c (by rw [List.head?_drop] at hc; exact hc))
  rwa [List.take_append_drop] at this
theorem tw_ge (l : List UInt8) (j : Nat) (h : ∀ c ∈ l.take j, isD c = true) : numOf (l.take j) ≤ numOf (l.takeWhile isD) := by
  have h2 : l.takeWhile isD = l.take j ++ (l.drop j).takeWhile isD := by
    conv => lhs; rw [← List.take_append_drop j l]
    rw [List.takeWhile_append_of_pos h]
  rw [h2]
  have h3 := numF_append (l.take j) ((l.drop j).takeWhile isD) 0
  unfold numOf
  rw [h3]; exact numF_ge _ _
theorem rdNum_over (l : List UInt8) (j : Nat) (h : ∀ c ∈ l.take j, isD c = true) (h1 : 18446744073709551616 ≤ numOf (l.take j)) : rdNum l = none := by
  have := tw_ge l j h
  unfold rdNum
  rw [if_neg (by rintro ⟨_, _, h3⟩; omega)]
theorem rdNum_at (l : List UInt8) (j : Nat) (h : ∀ c ∈ l.take j, isD c = true) (h1 : ∀ c, l[j]? = some c → isD c = false) (h2 : numOf (l.take j) < 18446744073709551616) :
    rdNum l = if l.take j ≠ [] ∧ Lib.decDigits (numOf (l.take j)) = l.take j then some (numOf (l.take j), l.drop j) else none := by
  obtain ⟨e1, e2⟩ := tw_at l j h h1
  unfold rdNum
  rw [e1, e2]
  simp only [h2, and_true]
theorem take_digits_snoc (l : List UInt8) (j : Nat) (hj : j < l.length) (h : ∀ c ∈ l.take j, isD c = true) (h1 : isD l[j] = true) : ∀ c ∈ l.take (j + 1), isD c = true := by
  rw [List.take_succ_eq_append_getElem hj]
  intro c hc
  simp only [List.mem_append, List.mem_singleton] at hc
  rcases hc with hc | rfl
  · exact h c hc
  · exact h1
theorem numOf_take_snoc (l : List UInt8) (j : Nat) (hj : j < l.length) : numOf (l.take (j + 1)) = numOf (l.take j) * 10 + (l[j].toNat - 48) := by
  rw [List.take_succ_eq_append_getElem hj, numOf_snoc]
/-- What a reader of a number answers: the number and the rest, or that there is none. -/
def NumEnds (l : List UInt8) (w : World) (e : Ending) (w' : World) : Prop :=
  ∃ (n : Nat) (r : ByteArray) (ok : Bool), e = .returned (.tuple #[.int .u64 n, .string r, .bool ok]) ∧ n < 18446744073709551616 ∧ (ok = true → rdNum l = some (n, r.data.toList)) ∧ (ok = false → rdNum l = none) ∧ r.size ≤ l.length ∧ Below w.heap.size w w'
set_option maxHeartbeats 2000000 in
set_option maxRecDepth 10000 in
theorem value_any (s : ByteArray) (w : World) (hs : s.size ≤ 1000000) : Calls Tryz.prog 247 #[.string s] w (NumEnds s.data.toList w) := by
  have hsl := ba_size s
  go_enter Tryz.func247, Tryz.ntmps247
  go_wp2_with fail
  go_loopw [5, 6] (fun n i wr => ∃ j : Nat, j ≤ s.size ∧ i = .int .i64 j ∧ n = .int .u64 (numOf (s.data.toList.take j) : Nat) ∧ numOf (s.data.toList.take j) < 18446744073709551616 ∧ Hid (∀ c ∈ s.data.toList.take j, isD c = true) ∧ wr = w) (fun _ i _ => s.size - (intOf i).toNat)
  case atStart => exact ⟨0, by omega, rfl, by simp [numOf, numF], by simp [numOf, numF], Lib.hid (by simp), rfl⟩
  case round =>
    obtain ⟨j, hj, rfl, rfl, h64, hall, rfl⟩ := hrel
    have hmn : numOf (s.data.toList.take j) = numOf (s.data.toList.take j) := rfl
    by_cases hlt : j < s.size
    · have hlt2 : j < s.data.toList.length := by omega
      have hg : s.data.toList[j] = s[j] := ba_get s j hlt
      by_cases hd : isD s[j] = true
      · have hd2 := hd
        simp only [isD, Bool.and_eq_true, decide_eq_true_eq] at hd2
        obtain ⟨d1, d2⟩ := hd2
        have HS := Lib.hid (numOf_take_snoc s.data.toList j hlt2)
        have HD := Lib.hid (take_digits_snoc s.data.toList j hlt2 hall.out (by rw [hg]; exact hd))
        have HG := Lib.hid hg
        clear hg hd
        obtain ⟨m, hm⟩ : ∃ m, m = numOf (s.data.toList.take j) := ⟨_, rfl⟩
        rw [← hm] at h64 ⊢
        have HM := Lib.hid hm
        clear hm hmn
        by_cases hov : (18446744073709551615 - (s[j].toNat - 48)) / 10 < m
        · have t1 : decide ((18446744073709551615 - ((s[j].toNat : Int) - 48)) / 10 < (m : Int)) = true := by simp; omega
          go_wp2_with fail
          refine bodyPost_ret (v := .tuple #[.int .u64 0, .string s, .bool false]) (by simp [results, Tryz.results247, go_sem]) rfl ⟨0, s, false, rfl, by omega, (fun h => by cases h), fun _ => rdNum_over _ (j + 1) HD.out ?_, by omega, Below.refl _ _⟩
          rw [HS.out, ← HM.out, HG.out]; omega
        · have t1 : decide ((18446744073709551615 - ((s[j].toNat : Int) - 48)) / 10 < (m : Int)) = false := by simp; omega
          go_wp2_with fail
          go_roundw
          case rel =>
            refine ⟨j + 1, by omega, by go_num, ?_, ?_, HD, by trivial⟩
            · rw [HS.out, ← HM.out, HG.out]; congr 1; omega
            · rw [HS.out, ← HM.out, HG.out]; omega
          case measure => simp [intOf]; omega
      · have hex : ∀ c, s.data.toList[j]? = some c → isD c = false := by
          intro c hc
          rw [List.getElem?_eq_getElem hlt2, hg] at hc
          injection hc with hc
          subst hc
          simpa using hd
        have HR := Lib.hid (rdNum_at _ j hall.out hex h64)
        have hd2 : (¬ 48 ≤ s[j].toNat) ∨ (48 ≤ s[j].toNat ∧ ¬ s[j].toNat ≤ 57) := by
          by_cases h48 : 48 ≤ s[j].toNat
          · right
            refine ⟨h48, fun h57 => hd ?_⟩
            simp [isD, h48, h57]
          · left; exact h48
        clear hex hg hd hmn
        rcases hd2 with hd2 | ⟨hd1, hd2⟩
        · obtain ⟨m, hm, HM⟩ : ∃ m, m = numOf (s.data.toList.take j) ∧ Hid (m = numOf (s.data.toList.take j)) := ⟨_, rfl, Lib.hid rfl⟩; rw [← hm] at h64 ⊢; clear hm
          go_wp2_with fail
          have hlen : (s.data.toList.take j).length = j := by simp; omega
          by_cases h0 : 0 < j
          · have h0b : decide ((0 : Int) < (j : Int)) = true := by simp; omega
            go_quiet ((go_at_call 62; exact Calls.quiet_of_same (refDigits m _ h64)))
            go_wp2_with fail
            refine bodyPost_ret (v := .tuple #[.int .u64 m, .string (s.extract j s.size), .bool ((ByteArray.mk (Lib.decDigits m).toArray).toList == (s.extract 0 j).toList)]) (by simp [results, Tryz.results247, go_sem]) rfl ⟨m, _, _, rfl, h64, ?_, ?_, ?_, below_drewN (Below.refl _ _) _⟩
            · intro hb
              rw [ba_eqs, ba_extract] at hb
              simp only [List.drop_zero, Nat.sub_zero, beq_iff_eq] at hb
              rw [HR.out, ← HM.out, if_pos ⟨fun e => by rw [e] at hlen; simp at hlen; omega, hb⟩, ba_extract]
              congr 3
              rw [List.take_of_length_le (by simp)]
            · intro hb
              rw [ba_eqs, ba_extract] at hb
              simp only [List.drop_zero, Nat.sub_zero, beq_eq_false_iff_ne, ne_eq] at hb
              rw [HR.out, ← HM.out, if_neg (fun h => hb h.2)]
            · simp
          · have h0b : decide ((0 : Int) < (j : Int)) = false := by simp; omega
            go_quiet (fail)
            go_wp2_with fail
            refine bodyPost_ret (v := .tuple #[.int .u64 m, .string (s.extract j s.size), .bool false]) (by simp [results, Tryz.results247, go_sem]) rfl ⟨m, _, _, rfl, h64, fun h => (by cases h), fun _ => ?_, ?_, below_drewN (Below.refl _ _) _⟩
            · rw [HR.out, if_neg (fun h => h.1 (List.eq_nil_of_length_eq_zero (by omega)))]
            · simp
        · obtain ⟨m, hm, HM⟩ : ∃ m, m = numOf (s.data.toList.take j) ∧ Hid (m = numOf (s.data.toList.take j)) := ⟨_, rfl, Lib.hid rfl⟩; rw [← hm] at h64 ⊢; clear hm
          go_wp2_with fail
          have hlen : (s.data.toList.take j).length = j := by simp; omega
          by_cases h0 : 0 < j
          · have h0b : decide ((0 : Int) < (j : Int)) = true := by simp; omega
            go_quiet ((go_at_call 62; exact Calls.quiet_of_same (refDigits m _ h64)))
            go_wp2_with fail
            refine bodyPost_ret (v := .tuple #[.int .u64 m, .string (s.extract j s.size), .bool ((ByteArray.mk (Lib.decDigits m).toArray).toList == (s.extract 0 j).toList)]) (by simp [results, Tryz.results247, go_sem]) rfl ⟨m, _, _, rfl, h64, ?_, ?_, ?_, below_drewN (Below.refl _ _) _⟩
            · intro hb
              rw [ba_eqs, ba_extract] at hb
              simp only [List.drop_zero, Nat.sub_zero, beq_iff_eq] at hb
              rw [HR.out, ← HM.out, if_pos ⟨fun e => by rw [e] at hlen; simp at hlen; omega, hb⟩, ba_extract]
              congr 3
              rw [List.take_of_length_le (by simp)]
            · intro hb
              rw [ba_eqs, ba_extract] at hb
              simp only [List.drop_zero, Nat.sub_zero, beq_eq_false_iff_ne, ne_eq] at hb
              rw [HR.out, ← HM.out, if_neg (fun h => hb h.2)]
            · simp
          · have h0b : decide ((0 : Int) < (j : Int)) = false := by simp; omega
            go_quiet (fail)
            go_wp2_with fail
            refine bodyPost_ret (v := .tuple #[.int .u64 m, .string (s.extract j s.size), .bool false]) (by simp [results, Tryz.results247, go_sem]) rfl ⟨m, _, _, rfl, h64, fun h => (by cases h), fun _ => ?_, ?_, below_drewN (Below.refl _ _) _⟩
            · rw [HR.out, if_neg (fun h => h.1 (List.eq_nil_of_length_eq_zero (by omega)))]
            · simp
    ·     have HR := Lib.hid (rdNum_at s.data.toList j hall.out (fun c hc => by rw [List.getElem?_eq_none (by omega)] at hc; cases hc) h64)
          clear hmn
          obtain ⟨m, hm, HM⟩ : ∃ m, m = numOf (s.data.toList.take j) ∧ Hid (m = numOf (s.data.toList.take j)) := ⟨_, rfl, Lib.hid rfl⟩; rw [← hm] at h64 ⊢; clear hm
          go_wp2_with fail
          have hlen : (s.data.toList.take j).length = j := by simp; omega
          by_cases h0 : 0 < j
          · have h0b : decide ((0 : Int) < (j : Int)) = true := by simp; omega
            go_quiet ((go_at_call 62; exact Calls.quiet_of_same (refDigits m _ h64)))
            go_wp2_with fail
            refine bodyPost_ret (v := .tuple #[.int .u64 m, .string (s.extract j s.size), .bool ((ByteArray.mk (Lib.decDigits m).toArray).toList == (s.extract 0 j).toList)]) (by simp [results, Tryz.results247, go_sem]) rfl ⟨m, _, _, rfl, h64, ?_, ?_, ?_, below_drewN (Below.refl _ _) _⟩
            · intro hb
              rw [ba_eqs, ba_extract] at hb
              simp only [List.drop_zero, Nat.sub_zero, beq_iff_eq] at hb
              rw [HR.out, ← HM.out, if_pos ⟨fun e => by rw [e] at hlen; simp at hlen; omega, hb⟩, ba_extract]
              congr 3
              rw [List.take_of_length_le (by simp)]
            · intro hb
              rw [ba_eqs, ba_extract] at hb
              simp only [List.drop_zero, Nat.sub_zero, beq_eq_false_iff_ne, ne_eq] at hb
              rw [HR.out, ← HM.out, if_neg (fun h => hb h.2)]
            · simp
          · have h0b : decide ((0 : Int) < (j : Int)) = false := by simp; omega
            go_quiet (fail)
            go_wp2_with fail
            refine bodyPost_ret (v := .tuple #[.int .u64 m, .string (s.extract j s.size), .bool false]) (by simp [results, Tryz.results247, go_sem]) rfl ⟨m, _, _, rfl, h64, fun h => (by cases h), fun _ => ?_, ?_, below_drewN (Below.refl _ _) _⟩
            · rw [HR.out, if_neg (fun h => h.1 (List.eq_nil_of_length_eq_zero (by omega)))]
            · simp
end Go.Proofs.YtjedgiiplebofaaGreatDoor
