/- Steps of taking a number from bytes: plain Lean. Ahead of it: The number that bytes begin with: plain Lean. The tree that bytes begin with: plain Lean. -/
import Derived.Test.YtagnalfkmdjajaaGreatDoorV1
import Derived.Test.YtagnalfkmdjajaaGreatDoorV33
namespace Go.Proofs.YtagnalfkmdjajaaGreatDoor
open Go.RowKit Go
set_option linter.unusedVariables false
set_option linter.unusedSimpArgs false
def isMore (c : UInt8) : Bool := decide (128 ≤ c.toNat)
/-- How many bytes ahead say that another one comes; at most ten are looked at. -/
def moreN (l : List UInt8) : Nat := ((l.take 10).takeWhile isMore).length
/-- The number of digits to the base 128, the lowest first, as the machine reckons it. -/
def valOf : List UInt8 → Nat
  | [] => 0
  | c :: l => (valOf l * 128 + c.toNat % 128) % 18446744073709551616
/-- The number that bytes begin with, as it is put, and the rest. -/
def getV (l : List UInt8) : Option (Nat × List UInt8) :=
  if moreN l < 10 ∧ moreN l < l.length ∧ putV (valOf (l.take (moreN l + 1))) = l.take (moreN l + 1) then some (valOf (l.take (moreN l + 1)), l.drop (moreN l + 1)) else none
theorem valOf_lt (l : List UInt8) : valOf l < 18446744073709551616 := by
  cases l with
  | nil => simp [valOf]
  | cons c l => rw [valOf]; exact Nat.mod_lt _ (by omega)
theorem putF_bytes (f : Nat) : ∀ n, n < 128 ^ (f + 1) → ∃ a z, putF f n = a ++ [z] ∧ (∀ c ∈ a, isMore c = true) ∧ isMore z = false := by
  induction f with
  | zero => intro n h; refine ⟨[], n.toUInt8, by simp [putF], by simp, ?_⟩; simp at h; simp [isMore]; omega
  | succ f ih =>
    intro n h
    rw [putF]
    split
    · rename_i hn; refine ⟨[], n.toUInt8, by simp, by simp, ?_⟩; simp [isMore]; omega
    · obtain ⟨a, z, h1, h2, h3⟩ := ih (n / 128) (by rw [Nat.pow_succ] at h; omega)
      refine ⟨(n % 128 + 128).toUInt8 :: a, z, by rw [h1]; simp, ?_, h3⟩
      intro c hc
      rcases List.mem_cons.1 hc with rfl | hc
      · simp [isMore]; omega
      · exact h2 c hc
theorem putV_bytes (n : Nat) (h : n < 18446744073709551616) : ∃ a z, putV n = a ++ [z] ∧ (∀ c ∈ a, isMore c = true) ∧ isMore z = false := putF_bytes 9 n (Nat.lt_of_lt_of_le h (by decide))
theorem valOf_putF (f : Nat) : ∀ n, n < 128 ^ (f + 1) → n < 18446744073709551616 → valOf (putF f n) = n := by
  induction f with
  | zero => intro n h h64; simp at h; simp [putF, valOf]; omega
  | succ f ih =>
    intro n h h64
    rw [putF]
    split
    · rename_i hn; simp [valOf]; omega
    · rw [valOf, ih (n / 128) (by rw [Nat.pow_succ] at h; omega) (by omega)]
      simp; omega
theorem valOf_putV (n : Nat) (h : n < 18446744073709551616) : valOf (putV n) = n := valOf_putF 9 n (Nat.lt_of_lt_of_le h (by decide)) h
theorem takeWhile_more (a : List UInt8) (z : UInt8) (r : List UInt8) (ha : ∀ c ∈ a, isMore c = true) (hz : isMore z = false) : (a ++ z :: r).takeWhile isMore = a := by
  induction a with
  | nil => simp [hz]
  | cons c a ih => simp [ha c (by simp), ih (fun d hd => ha d (by simp [hd]))]
theorem getV_put (n : Nat) (r : List UInt8) (h : n < 18446744073709551616) : getV (putV n ++ r) = some (n, r) := by
  obtain ⟨a, z, h1, h2, h3⟩ := putV_bytes n h
  have hl := (putV_length n).1
  rw [h1] at hl
  simp at hl
  have hm : moreN (putV n ++ r) = a.length := by
    unfold moreN
    rw [h1, List.append_assoc, List.singleton_append, List.take_append]
    rw [List.take_of_length_le (by omega), show 10 - a.length = (9 - a.length) + 1 from by omega, List.take_succ_cons, takeWhile_more a z _ h2 h3]
  have ht : (putV n ++ r).take (a.length + 1) = putV n := by rw [List.take_append_of_le_length (by rw [h1]; simp), List.take_of_length_le (by rw [h1]; simp)]
  have hd : (putV n ++ r).drop (a.length + 1) = r := by
    have : (putV n).length = a.length + 1 := by rw [h1]; simp
    rw [← this, List.drop_left]
  unfold getV
  rw [hm, ht, hd, valOf_putV n h, if_pos ⟨by omega, by rw [h1]; simp, rfl⟩]
theorem getV_some {l r : List UInt8} {n : Nat} (h : getV l = some (n, r)) : l = putV n ++ r ∧ n < 18446744073709551616 := by
  unfold getV at h
  split at h
  · rename_i hc
    injection h with h
    injection h with h1 h2
    subst h1 h2
    exact ⟨by rw [hc.2.2, List.take_append_drop], valOf_lt _⟩
  · cases h
end Go.Proofs.YtagnalfkmdjajaaGreatDoor
namespace Go.Proofs.YtagnalfkmdjajaaGreatDoor
open Go.RowKit Go
set_option linter.unusedVariables false
set_option linter.unusedSimpArgs false
theorem putV_pos (n : Nat) : 0 < (putV n).length := (putV_length n).2
theorem getV_len {l r : List UInt8} {n : Nat} (h : getV l = some (n, r)) : r.length < l.length := by
  obtain ⟨h1, _⟩ := getV_some h
  have := putV_pos n
  rw [h1]; simp; omega
theorem getV_lt {l r : List UInt8} {n : Nat} (h : getV l = some (n, r)) : n < 18446744073709551616 := (getV_some h).2
/-- What is taken is a beginning of the bytes. -/
theorem getV_suffix {l r : List UInt8} {n : Nat} (h : getV l = some (n, r)) : r <:+ l := by
  obtain ⟨h1, _⟩ := getV_some h
  exact ⟨_, h1.symm⟩
/-- The code of what a number's bytes are. -/
def getC (l : List UInt8) : Int := if moreN l = 10 then 10 else if l.length ≤ moreN l then 4 else if (getV l).isSome then 0 else 10
theorem moreN_le (l : List UInt8) : moreN l ≤ 10 ∧ moreN l ≤ l.length := by
  unfold moreN
  have h := (List.takeWhile_prefix (p := isMore) (l := l.take 10)).length_le
  simp at h; omega
theorem getC_zero (l : List UInt8) : (getC l = 0) ↔ (getV l).isSome = true := by
  unfold getC
  have := moreN_le l
  constructor
  · intro h
    split at h
    · omega
    · split at h
      · omega
      · split at h
        · assumption
        · omega
  · intro h
    have h2 : moreN l < 10 ∧ moreN l < l.length := by
      unfold getV at h
      split at h
      · rename_i hc; exact ⟨hc.1, hc.2.1⟩
      · cases h
    rw [if_neg (by omega), if_neg (by omega), if_pos h]
end Go.Proofs.YtagnalfkmdjajaaGreatDoor
namespace Go.Proofs.YtagnalfkmdjajaaGreatDoor
open Go.RowKit Go
set_option linter.unusedVariables false
set_option linter.unusedSimpArgs false
theorem takeWhile_at {p : UInt8 → Bool} : ∀ (l : List UInt8) (j : Nat) (h : j < (l.takeWhile p).length) (hl : j < l.length), p l[j] = true
  | [], j, h, hl => by simp at hl
  | c :: l, j, h, hl => by
    rw [List.takeWhile_cons] at h
    split at h
    · cases j with
      | zero => simpa
      | succ j => simp at h hl ⊢; exact takeWhile_at l j h hl
    · simp at h
theorem takeWhile_stop {p : UInt8 → Bool} : ∀ (l : List UInt8) (hl : (l.takeWhile p).length < l.length), p (l[(l.takeWhile p).length]'hl) = false
  | [], hl => by simp at hl
  | c :: l, hl => by
    by_cases hp : p c = true
    · have h : ((c :: l).takeWhile p).length = (l.takeWhile p).length + 1 := by rw [List.takeWhile_cons, if_pos hp]; simp
      have hl' : (l.takeWhile p).length < l.length := by rw [h] at hl; simpa using hl
      have := takeWhile_stop l hl'
      simp only [h, List.getElem_cons_succ]
      exact this
    · have h : ((c :: l).takeWhile p).length = 0 := by rw [List.takeWhile_cons, if_neg hp]; rfl
      simp only [h, List.getElem_cons_zero]
      exact Bool.eq_false_iff.2 hp
theorem valOf_drop (l : List UInt8) (k : Nat) (h : k < l.length) : valOf (l.drop k) = (valOf (l.drop (k + 1)) * 128 + l[k].toNat % 128) % 18446744073709551616 := by
  rw [List.drop_eq_getElem_cons h, valOf]
def getN (l : List UInt8) : Nat := match getV l with
  | some x => x.1
  | none => 0
def getAt (a : Nat) (l : List UInt8) : Nat := match getV l with
  | some x => a + (l.length - x.2.length)
  | none => 0
/-- The number is there, and its bytes are its own. -/
theorem getV_yes {l : List UInt8} (h1 : moreN l < 10) (h2 : moreN l < l.length) (h3 : putV (valOf (l.take (moreN l + 1))) = l.take (moreN l + 1)) :
    getV l = some (valOf (l.take (moreN l + 1)), l.drop (moreN l + 1)) := by unfold getV; rw [if_pos ⟨h1, h2, h3⟩]
theorem getV_no {l : List UInt8} (h : ¬ (moreN l < 10 ∧ moreN l < l.length ∧ putV (valOf (l.take (moreN l + 1))) = l.take (moreN l + 1))) : getV l = none := by unfold getV; rw [if_neg h]
theorem get_yes {l : List UInt8} (a : Nat) (h1 : moreN l < 10) (h2 : moreN l < l.length) (h3 : putV (valOf (l.take (moreN l + 1))) = l.take (moreN l + 1)) :
    getN l = valOf (l.take (moreN l + 1)) ∧ getAt a l = a + moreN l + 1 ∧ getC l = 0 := by
  have h := getV_yes h1 h2 h3
  refine ⟨by unfold getN; rw [h], by unfold getAt; rw [h]; simp; omega, ?_⟩
  unfold getC
  rw [h, if_neg (by omega), if_neg (by omega)]; rfl
theorem get_no {l : List UInt8} (a : Nat) (h : getV l = none) : getN l = 0 ∧ getAt a l = 0 := ⟨by unfold getN; rw [h], by unfold getAt; rw [h]⟩
theorem getC_ten {l : List UInt8} (h : moreN l = 10) : getC l = 10 ∧ getV l = none := ⟨by unfold getC; rw [if_pos h], getV_no (fun hh => by omega)⟩
theorem getC_short {l : List UInt8} (h : moreN l < 10) (h2 : l.length ≤ moreN l) : getC l = 4 ∧ getV l = none := ⟨by unfold getC; rw [if_neg (by omega), if_pos h2], getV_no (fun hh => by omega)⟩
theorem getC_odd {l : List UInt8} (h : moreN l < 10) (h2 : moreN l < l.length) (h3 : putV (valOf (l.take (moreN l + 1))) ≠ l.take (moreN l + 1)) : getC l = 10 ∧ getV l = none := by
  have hn : getV l = none := getV_no (fun hh => h3 hh.2.2)
  refine ⟨?_, hn⟩
  unfold getC
  rw [if_neg (by omega), if_neg (by omega), hn]; rfl
/-- Byte j, as a number. -/
def at8 (l : List UInt8) (j : Nat) : Nat := ((l[j]?).getD 0).toNat
theorem at8_lt (l : List UInt8) (j : Nat) : at8 l j < 256 := UInt8.toNat_lt _
theorem at8_eq (l : List UInt8) (j : Nat) (h : j < l.length) : at8 l j = l[j].toNat := by unfold at8; rw [List.getElem?_eq_getElem h]; rfl
theorem at8_take (l : List UInt8) (n j : Nat) (h : j < n) : at8 (l.take n) j = at8 l j := by unfold at8; rw [List.getElem?_take, if_pos h]
theorem at8_ext {p q : List UInt8} (n : Nat) (hp : n < p.length) (hq : n < q.length) (h : p.take n = q.take n) (h1 : at8 p n = at8 q n) : p.take (n + 1) = q.take (n + 1) := by
  rw [at8_eq p n hp, at8_eq q n hq] at h1
  rw [List.take_succ_eq_append_getElem hp, List.take_succ_eq_append_getElem hq, h, UInt8.toNat_inj.1 h1]
theorem at8_ne {p q : List UInt8} (n : Nat) (hp : n < p.length) (hq : n < q.length) (h1 : at8 p n ≠ at8 q n) : p ≠ q := by
  intro e; subst e; exact h1 rfl
theorem valOf_drop8 (l : List UInt8) (k : Nat) (h : k < l.length) : valOf (l.drop k) = (valOf (l.drop (k + 1)) * 128 + at8 l k % 128) % 18446744073709551616 := by rw [at8_eq l k h]; exact valOf_drop l k h
theorem RepB.at8 {w : World} {S : Nat → Prop} {own : Bool} {l : List UInt8} {ad : Option Addr} {cap j : Nat} (h : RepB w S own l (.slice ad l.length cap)) (hj : j < l.length) :
    ∃ bl off, ad = some ⟨bl, off, none⟩ ∧ S bl ∧ w.cell? ⟨bl, off + j, none⟩ = some (.int .u8 (at8 l j : Nat)) := by
  obtain ⟨bl, off, h1, h2, h3⟩ := RepB.cell h (by omega)
  exact ⟨bl, off, h1, h2, by rw [(h3 j hj).1, at8_eq l j hj]⟩
/-- A part of a slice of bytes. -/
theorem RepB.cut {w : World} {S : Nat → Prop} {own : Bool} {l : List UInt8} {ad : Option Addr} {cap : Nat} (h : RepB w S own l (.slice ad l.length cap)) (a m cap' : Nat) (ham : a + m ≤ l.length) (hcap : m ≤ cap') :
    RepB w S own ((l.drop a).take m) (.slice (ad.map fun x => x.add a) m cap') := by
  have h63 := h.2.1
  have hlen : ((l.drop a).take m).length = m := by simp; omega
  refine ⟨by simp, by omega, _, cap', by rw [hlen], by omega, fun hn => ?_⟩
  obtain ⟨bl, off, h1, h2, h3⟩ := RepB.cell h (by omega)
  refine ⟨bl, off + a, ?_, h2, fun j hj => ?_⟩
  · rw [h1]; simp [Addr.add]
  · have hj' : j < m := by rw [bytes_length, hlen] at hj; exact hj
    obtain ⟨c1, c2⟩ := h3 (a + j) (by omega)
    rw [Nat.add_assoc]
    refine ⟨?_, c2⟩
    rw [c1]; simp [bytes]
theorem RepB.head {w : World} {S : Nat → Prop} {own : Bool} {l : List UInt8} {ad : Option Addr} {cap : Nat} (h : RepB w S own l (.slice ad l.length cap)) (m cap' : Nat) (ham : m ≤ l.length) (hcap : m ≤ cap') :
    RepB w S own (l.take m) (.slice ad m cap') := by
  have h63 := h.2.1
  have hlen : (l.take m).length = m := by simp; omega
  refine ⟨by simp, by omega, _, cap', by rw [hlen], by omega, fun hn => ?_⟩
  obtain ⟨bl, off, h1, h2, h3⟩ := RepB.cell h (by omega)
  refine ⟨bl, off, h1, h2, fun j hj => ?_⟩
  have hj' : j < m := by rw [bytes_length, hlen] at hj; exact hj
  obtain ⟨c1, c2⟩ := h3 j (by omega)
  exact ⟨by rw [c1]; simp [bytes], c2⟩
theorem RepB.none {w : World} {S : Nat → Prop} {own : Bool} {ad : Option Addr} {cap : Nat} : RepB w S own [] (.slice ad 0 cap) :=
  ⟨by simp, by simp, ad, cap, rfl, by simp, fun h => by simp at h⟩
end Go.Proofs.YtagnalfkmdjajaaGreatDoor
