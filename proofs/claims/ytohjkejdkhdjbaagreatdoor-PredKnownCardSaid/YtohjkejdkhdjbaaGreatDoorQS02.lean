/- Walks: the reference's numbers in a text. -/
import Derived.Test.YtohjkejdkhdjbaaGreatDoorQS01
import Derived.BigQuiet
import Derived.Deep.QuietTactic
import Derived.WalkSmall
namespace Go.Proofs.YtohjkejdkhdjbaaGreatDoor
open Go.RowKit Go
set_option linter.unusedVariables false
set_option linter.unusedSimpArgs false
theorem tw_at (l : List UInt8) (j : Nat) (h : ∀ c ∈ l.take j, isD c = true) (h1 : ∀ c, l[j]? = some c → isD c = false) : l.takeWhile isD = l.take j ∧ l.dropWhile isD = l.drop j := by
  have := takeWhile_append_of (l.take j) (l.drop j) h (fun c hc => h1 c (by rw [List.head?_drop] at hc; exact hc))
  rwa [List.take_append_drop] at this
theorem tw_ge (l : List UInt8) (j : Nat) (h : ∀ c ∈ l.take j, isD c = true) : numOf (l.take j) ≤ numOf (l.takeWhile isD) := by
  have h2 : l.takeWhile isD = l.take j ++ (l.drop j).takeWhile isD := by
    conv => lhs; rw [← List.take_append_drop j l]
    rw [List.takeWhile_append_of_pos h]
  rw [h2]
  have h3 := numF_append (l.take j) ((l.drop j).takeWhile isD) 0
  unfold numOf
  rw [h3]; exact numF_ge _ _
theorem rdNum_over (l : List UInt8) (j : Nat) (h : ∀ c ∈ l.take j, isD c = true) (h1 : 18446744073709551616 ≤ numOf (l.take j)) : rdNum l = none := by
  have := tw_ge l j h
  unfold rdNum
  rw [if_neg (by rintro ⟨_, _, h3⟩; omega)]
theorem rdNum_at (l : List UInt8) (j : Nat) (h : ∀ c ∈ l.take j, isD c = true) (h1 : ∀ c, l[j]? = some c → isD c = false) (h2 : numOf (l.take j) < 18446744073709551616) :
    rdNum l = if l.take j ≠ [] ∧ Lib.decDigits (numOf (l.take j)) = l.take j then some (numOf (l.take j), l.drop j) else none := by
  obtain ⟨e1, e2⟩ := tw_at l j h h1
  unfold rdNum
  rw [e1, e2]
  simp only [h2, and_true]
theorem take_digits_snoc (l : List UInt8) (j : Nat) (hj : j < l.length) (h : ∀ c ∈ l.take j, isD c = true) (h1 : isD l[j] = true) : ∀ c ∈ l.take (j + 1), isD c = true := by
  rw [List.take_succ_eq_append_getElem hj]
  intro c hc
  simp only [List.mem_append, List.mem_singleton] at hc
  rcases hc with hc | rfl
  · exact h c hc
  · exact h1
theorem numOf_take_snoc (l : List UInt8) (j : Nat) (hj : j < l.length) : numOf (l.take (j + 1)) = numOf (l.take j) * 10 + (l[j].toNat - 48) := by
  rw [List.take_succ_eq_append_getElem hj, numOf_snoc]
/-- What a reader of a number answers: the number and the rest, or that there is none. -/
def NumEnds (l : List UInt8) (w : World) (e : Ending) (w' : World) : Prop :=
  ∃ (n : Nat) (r : ByteArray) (ok : Bool), e = .returned (.tuple #[.int .u64 n, .string r, .bool ok]) ∧ n < 18446744073709551616 ∧ (ok = true → rdNum l = some (n, r.data.toList)) ∧ (ok = false → rdNum l = none) ∧ r.size ≤ l.length ∧ Below w.heap.size w w'
set_option maxHeartbeats 2000000 in
set_option maxRecDepth 10000 in
theorem value_any (s : ByteArray) (w : World) (hs : s.size ≤ 1000000) : Calls Tryz.prog 62 #[.string s] w (NumEnds s.data.toList w) := by
  have hsl := ba_size s
  go_enter Tryz.func62, Tryz.ntmps62
  go_wp2_with fail
  go_loopw [5, 6] (fun n i wr => ∃ j : Nat, j ≤ s.size ∧ i = .int .i64 j ∧ n = .int .u64 (numOf (s.data.toList.take j) : Nat) ∧ numOf (s.data.toList.take j) < 18446744073709551616 ∧ Hid (∀ c ∈ s.data.toList.take j, isD c = true) ∧ wr = w) (fun _ i _ => s.size - (intOf i).toNat)
  case atStart => exact ⟨0, by omega, rfl, by simp [numOf, numF], by simp [numOf, numF], Lib.hid (by simp), rfl⟩
  case round =>
    obtain ⟨j, hj, rfl, rfl, h64, hall, rfl⟩ := hrel
    have hmn : numOf (s.data.toList.take j) = numOf (s.data.toList.take j) := rfl
    by_cases hlt : j < s.size
    · have hlt2 : j < s.data.toList.length := by omega
      have hg : s.data.toList[j] = s[j] := ba_get s j hlt
      by_cases hd : isD s[j] = true
      · have hd2 := hd
        simp only [isD, Bool.and_eq_true, decide_eq_true_eq] at hd2
        obtain ⟨d1, d2⟩ := hd2
        have HS := Lib.hid (numOf_take_snoc s.data.toList j hlt2)
        have HD := Lib.hid (take_digits_snoc s.data.toList j hlt2 hall.out (by rw [hg]; exact hd))
        have HG := Lib.hid hg
        clear hg hd
        obtain ⟨m, hm⟩ : ∃ m, m = numOf (s.data.toList.take j) := ⟨_, rfl⟩
        rw [← hm] at h64 ⊢
        have HM := Lib.hid hm
        clear hm hmn
        by_cases hov : (18446744073709551615 - (s[j].toNat - 48)) / 10 < m
        · have t1 : decide ((18446744073709551615 - ((s[j].toNat : Int) - 48)) / 10 < (m : Int)) = true := by simp; omega
          go_wp2_with fail
          refine bodyPost_ret (v := .tuple #[.int .u64 0, .string s, .bool false]) (by simp [results, Tryz.results62, go_sem]) rfl ⟨0, s, false, rfl, by omega, (fun h => by cases h), fun _ => rdNum_over _ (j + 1) HD.out ?_, by omega, Below.refl _ _⟩
          rw [HS.out, ← HM.out, HG.out]; omega
        · have t1 : decide ((18446744073709551615 - ((s[j].toNat : Int) - 48)) / 10 < (m : Int)) = false := by simp; omega
          go_wp2_with fail
          go_roundw
          case rel =>
            refine ⟨j + 1, by omega, by go_num, ?_, ?_, HD, by trivial⟩
            · rw [HS.out, ← HM.out, HG.out]; congr 1; omega
            · rw [HS.out, ← HM.out, HG.out]; omega
          case measure => simp [intOf]; omega
      · have hex : ∀ c, s.data.toList[j]? = some c → isD c = false := by
          intro c hc
          rw [List.getElem?_eq_getElem hlt2, hg] at hc
          injection hc with hc
          subst hc
          simpa using hd
        have HR := Lib.hid (rdNum_at _ j hall.out hex h64)
        have hd2 : (¬ 48 ≤ s[j].toNat) ∨ (48 ≤ s[j].toNat ∧ ¬ s[j].toNat ≤ 57) := by
          by_cases h48 : 48 ≤ s[j].toNat
          · right
            refine ⟨h48, fun h57 => hd ?_⟩
            simp [isD, h48, h57]
          · left; exact h48
        clear hex hg hd hmn
        rcases hd2 with hd2 | ⟨hd1, hd2⟩
        · obtain ⟨m, hm, HM⟩ : ∃ m, m = numOf (s.data.toList.take j) ∧ Hid (m = numOf (s.data.toList.take j)) := ⟨_, rfl, Lib.hid rfl⟩; rw [← hm] at h64 ⊢; clear hm
          go_wp2_with fail
          have hlen : (s.data.toList.take j).length = j := by simp; omega
          by_cases h0 : 0 < j
          · have h0b : decide ((0 : Int) < (j : Int)) = true := by simp; omega
            go_quiet ((go_at_call 74; exact Calls.quiet_of_same (refDigits m _ h64)))
            go_wp2_with fail
            refine bodyPost_ret (v := .tuple #[.int .u64 m, .string (s.extract j s.size), .bool ((ByteArray.mk (Lib.decDigits m).toArray).toList == (s.extract 0 j).toList)]) (by simp [results, Tryz.results62, go_sem]) rfl ⟨m, _, _, rfl, h64, ?_, ?_, ?_, below_drewN (Below.refl _ _) _⟩
            · intro hb
              rw [ba_eqs, ba_extract] at hb
              simp only [List.drop_zero, Nat.sub_zero, beq_iff_eq] at hb
              rw [HR.out, ← HM.out, if_pos ⟨fun e => by rw [e] at hlen; simp at hlen; omega, hb⟩, ba_extract]
              congr 3
              rw [List.take_of_length_le (by simp)]
            · intro hb
              rw [ba_eqs, ba_extract] at hb
              simp only [List.drop_zero, Nat.sub_zero, beq_eq_false_iff_ne, ne_eq] at hb
              rw [HR.out, ← HM.out, if_neg (fun h => hb h.2)]
            · simp
          · have h0b : decide ((0 : Int) < (j : Int)) = false := by simp; omega
            go_quiet (fail)
            go_wp2_with fail
            refine bodyPost_ret (v := .tuple #[.int .u64 m, .string (s.extract j s.size), .bool false]) (by simp [results, Tryz.results62, go_sem]) rfl ⟨m, _, _, rfl, h64, fun h => (by cases h), fun _ => ?_, ?_, below_drewN (Below.refl _ _) _⟩
            · rw [HR.out, if_neg (fun h => h.1 (List.eq_nil_of_length_eq_zero (by omega)))]
            · simp
        · obtain ⟨m, hm, HM⟩ : ∃ m, m = numOf (s.data.toList.take j) ∧ Hid (m = numOf (s.data.toList.take j)) := ⟨_, rfl, Lib.hid rfl⟩; rw [← hm] at h64 ⊢; clear hm
          go_wp2_with fail
          have hlen : (s.data.toList.take j).length = j := by simp; omega
          by_cases h0 : 0 < j
          · have h0b : decide ((0 : Int) < (j : Int)) = true := by simp; omega
            go_quiet ((go_at_call 74; exact Calls.quiet_of_same (refDigits m _ h64)))
            go_wp2_with fail
            refine bodyPost_ret (v := .tuple #[.int .u64 m, .string (s.extract j s.size), .bool ((ByteArray.mk (Lib.decDigits m).toArray).toList == (s.extract 0 j).toList)]) (by simp [results, Tryz.results62, go_sem]) rfl ⟨m, _, _, rfl, h64, ?_, ?_, ?_, below_drewN (Below.refl _ _) _⟩
            · intro hb
              rw [ba_eqs, ba_extract] at hb
              simp only [List.drop_zero, Nat.sub_zero, beq_iff_eq] at hb
              rw [HR.out, ← HM.out, if_pos ⟨fun e => by rw [e] at hlen; simp at hlen; omega, hb⟩, ba_extract]
              congr 3
              rw [List.take_of_length_le (by simp)]
            · intro hb
              rw [ba_eqs, ba_extract] at hb
              simp only [List.drop_zero, Nat.sub_zero, beq_eq_false_iff_ne, ne_eq] at hb
              rw [HR.out, ← HM.out, if_neg (fun h => hb h.2)]
            · simp
          · have h0b : decide ((0 : Int) < (j : Int)) = false := by simp; omega
            go_quiet (fail)
            go_wp2_with fail
            refine bodyPost_ret (v := .tuple #[.int .u64 m, .string (s.extract j s.size), .bool false]) (by simp [results, Tryz.results62, go_sem]) rfl ⟨m, _, _, rfl, h64, fun h => (by cases h), fun _ => ?_, ?_, below_drewN (Below.refl _ _) _⟩
            · rw [HR.out, if_neg (fun h => h.1 (List.eq_nil_of_length_eq_zero (by omega)))]
            · simp
    ·     have HR := Lib.hid (rdNum_at s.data.toList j hall.out (fun c hc => by rw [List.getElem?_eq_none (by omega)] at hc; cases hc) h64)
          clear hmn
          obtain ⟨m, hm, HM⟩ : ∃ m, m = numOf (s.data.toList.take j) ∧ Hid (m = numOf (s.data.toList.take j)) := ⟨_, rfl, Lib.hid rfl⟩; rw [← hm] at h64 ⊢; clear hm
          go_wp2_with fail
          have hlen : (s.data.toList.take j).length = j := by simp; omega
          by_cases h0 : 0 < j
          · have h0b : decide ((0 : Int) < (j : Int)) = true := by simp; omega
            go_quiet ((go_at_call 74; exact Calls.quiet_of_same (refDigits m _ h64)))
            go_wp2_with fail
            refine bodyPost_ret (v := .tuple #[.int .u64 m, .string (s.extract j s.size), .bool ((ByteArray.mk (Lib.decDigits m).toArray).toList == (s.extract 0 j).toList)]) (by simp [results, Tryz.results62, go_sem]) rfl ⟨m, _, _, rfl, h64, ?_, ?_, ?_, below_drewN (Below.refl _ _) _⟩
            · intro hb
              rw [ba_eqs, ba_extract] at hb
              simp only [List.drop_zero, Nat.sub_zero, beq_iff_eq] at hb
              rw [HR.out, ← HM.out, if_pos ⟨fun e => by rw [e] at hlen; simp at hlen; omega, hb⟩, ba_extract]
              congr 3
              rw [List.take_of_length_le (by simp)]
            · intro hb
              rw [ba_eqs, ba_extract] at hb
              simp only [List.drop_zero, Nat.sub_zero, beq_eq_false_iff_ne, ne_eq] at hb
              rw [HR.out, ← HM.out, if_neg (fun h => hb h.2)]
            · simp
          · have h0b : decide ((0 : Int) < (j : Int)) = false := by simp; omega
            go_quiet (fail)
            go_wp2_with fail
            refine bodyPost_ret (v := .tuple #[.int .u64 m, .string (s.extract j s.size), .bool false]) (by simp [results, Tryz.results62, go_sem]) rfl ⟨m, _, _, rfl, h64, fun h => (by cases h), fun _ => ?_, ?_, below_drewN (Below.refl _ _) _⟩
            · rw [HR.out, if_neg (fun h => h.1 (List.eq_nil_of_length_eq_zero (by omega)))]
            · simp
end Go.Proofs.YtohjkejdkhdjbaaGreatDoor
