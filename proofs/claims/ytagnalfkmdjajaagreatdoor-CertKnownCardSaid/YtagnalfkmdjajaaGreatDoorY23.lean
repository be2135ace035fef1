/- Steps of taking a number from bytes. -/
import Derived.Test.YtagnalfkmdjajaaGreatDoorY33
namespace Go.Proofs.YtagnalfkmdjajaaGreatDoor
open Go.RowKit Go
set_option linter.unusedVariables false
set_option linter.unusedSimpArgs false
def bR (c : UInt8) : Bool := decide (128 ≤ c.toNat)
def aW (l : List UInt8) : Nat := ((l.take 10).takeWhile bR).length
def valOf : List UInt8 → Nat
 | [] => 0
 | c :: l => (valOf l * 128 + c.toNat % 128) % 18446744073709551616
def bX (l : List UInt8) : Option (Nat × List UInt8) :=
 if aW l < 10 ∧ aW l < l.length ∧ bi (valOf (l.take (aW l + 1))) = l.take (aW l + 1) then some (valOf (l.take (aW l + 1)), l.drop (aW l + 1)) else none
theorem qL (l : List UInt8) : valOf l < 18446744073709551616 := by
 cases l with
 | nil => simp [valOf]
 | cons c l => rw [valOf]; exact Nat.mod_lt _ (by omega)
theorem yS (f : Nat) : ∀ n, n < 128 ^ (f + 1) → ∃ a z, gK f n = a ++ [z] ∧ (∀ c ∈ a, bR c = true) ∧ bR z = false := by
 induction f with
 | zero => intro n h; refine ⟨[], n.toUInt8, by simp [gK], by simp, ?_⟩; simp at h; simp [bR]; omega
 | succ f ih =>
  intro n h
  rw [gK]
  split
  ·rename_i hn; refine ⟨[], n.toUInt8, by simp, by simp, ?_⟩; simp [bR]; omega
  ·obtain ⟨a, z, h1, h2, h3⟩ := ih (n / 128) (by rw [Nat.pow_succ] at h; omega)
   refine ⟨(n % 128 + 128).toUInt8 :: a, z, by rw [h1]; simp, ?_, h3⟩
   intro c hc
   rcases List.mem_cons.1 hc with rfl | hc
   ·simp [bR]; omega
   ·exact h2 c hc
theorem yT (n : Nat) (h : n < 18446744073709551616) : ∃ a z, bi n = a ++ [z] ∧ (∀ c ∈ a, bR c = true) ∧ bR z = false := yS 9 n (Nat.lt_of_lt_of_le h (by decide))
theorem yU (f : Nat) : ∀ n, n < 128 ^ (f + 1) → n < 18446744073709551616 → valOf (gK f n) = n := by
 induction f with
 | zero => intro n h h64; simp at h; simp [gK, valOf]; omega
 | succ f ih =>
  intro n h h64
  rw [gK]
  split
  ·rename_i hn; simp [valOf]; omega
  ·rw [valOf, ih (n / 128) (by rw [Nat.pow_succ] at h; omega) (by omega)]
   simp; omega
theorem yV (n : Nat) (h : n < 18446744073709551616) : valOf (bi n) = n := yU 9 n (Nat.lt_of_lt_of_le h (by decide)) h
theorem qM (a : List UInt8) (z : UInt8) (r : List UInt8) (ha : ∀ c ∈ a, bR c = true) (hz : bR z = false) : (a ++ z :: r).takeWhile bR = a := by
 induction a with
 | nil => simp [hz]
 | cons c a ih => simp [ha c (by simp), ih (fun d hd => ha d (by simp [hd]))]
theorem eU (n : Nat) (r : List UInt8) (h : n < 18446744073709551616) : bX (bi n ++ r) = some (n, r) := by
 obtain ⟨a, z, h1, h2, h3⟩ := yT n h
 have hl := (bO n).1
 rw [h1] at hl
 simp at hl
 have hm : aW (bi n ++ r) = a.length := by
  unfold aW
  rw [h1, List.append_assoc, List.singleton_append, List.take_append]
  rw [List.take_of_length_le (by omega), show 10 - a.length = (9 - a.length) + 1 from by omega, List.take_succ_cons, qM a z _ h2 h3]
 have ht : (bi n ++ r).take (a.length + 1) = bi n := by rw [List.take_append_of_le_length (by rw [h1]; simp), List.take_of_length_le (by rw [h1]; simp)]
 have hd : (bi n ++ r).drop (a.length + 1) = r := by
  have : (bi n).length = a.length + 1 := by rw [h1]; simp
  rw [← this, List.drop_left]
 unfold bX
 rw [hm, ht, hd, yV n h, if_pos ⟨by omega, by rw [h1]; simp, rfl⟩]
theorem iy {l r : List UInt8} {n : Nat} (h : bX l = some (n, r)) : l = bi n ++ r ∧ n < 18446744073709551616 := by
 unfold bX at h
 split at h
 ·rename_i hc
  injection h with h
  injection h with h1 h2
  subst h1 h2
  exact ⟨by rw [hc.2.2, List.take_append_drop], qL _⟩
 ·cases h
theorem CF (n : Nat) : 0 < (bi n).length := (bO n).2
theorem ko {l r : List UInt8} {n : Nat} (h : bX l = some (n, r)) : r.length < l.length := by
 obtain ⟨h1, _⟩ := iy h
 have := CF n
 rw [h1]; simp; omega
theorem mP {l r : List UInt8} {n : Nat} (h : bX l = some (n, r)) : n < 18446744073709551616 := (iy h).2
theorem xn {l r : List UInt8} {n : Nat} (h : bX l = some (n, r)) : r <:+ l := by
 obtain ⟨h1, _⟩ := iy h
 exact ⟨_, h1.symm⟩
def dn (l : List UInt8) : Int := if aW l = 10 then 10 else if l.length ≤ aW l then 4 else if (bX l).isSome then 0 else 10
theorem kr (l : List UInt8) : aW l ≤ 10 ∧ aW l ≤ l.length := by
 unfold aW
 have h := (List.takeWhile_prefix (p := bR) (l := l.take 10)).length_le
 simp at h; omega
theorem dA (l : List UInt8) : (dn l = 0) ↔ (bX l).isSome = true := by
 unfold dn
 have := kr l
 constructor
 ·intro h
  split at h
  ·omega
  ·split at h
   ·omega
   ·split at h
    ·assumption
    ·omega
 ·intro h
  have h2 : aW l < 10 ∧ aW l < l.length := by
   unfold bX at h
   split at h
   ·rename_i hc; exact ⟨hc.1, hc.2.1⟩
   ·cases h
  rw [if_neg (by omega), if_neg (by omega), if_pos h]
theorem jE {p : UInt8 → Bool} : ∀ (l : List UInt8) (j : Nat) (h : j < (l.takeWhile p).length) (hl : j < l.length), p l[j] = true
 | [], j, h, hl => by simp at hl
 | c :: l, j, h, hl => by
  rw [List.takeWhile_cons] at h
  split at h
  ·cases j with
   | zero => simpa
   | succ j => simp at h hl ⊢; exact jE l j h hl
  ·simp at h
theorem iK {p : UInt8 → Bool} : ∀ (l : List UInt8) (hl : (l.takeWhile p).length < l.length), p (l[(l.takeWhile p).length]'hl) = false
 | [], hl => by simp at hl
 | c :: l, hl => by
  by_cases hp : p c = true
  ·have h : ((c :: l).takeWhile p).length = (l.takeWhile p).length + 1 := by rw [List.takeWhile_cons, if_pos hp]; simp
   have hl' : (l.takeWhile p).length < l.length := by rw [h] at hl; simpa using hl
   have := iK l hl'
   simp only [h, List.getElem_cons_succ]
   exact this
  ·have h : ((c :: l).takeWhile p).length = 0 := by rw [List.takeWhile_cons, if_neg hp]; rfl
   simp only [h, List.getElem_cons_zero]
   exact Bool.eq_false_iff.2 hp
theorem CG (l : List UInt8) (j : Nat) (h : j < aW l) (hl : j < l.length) : 128 ≤ l[j].toNat := by
 have hm := kr l
 have hj : j < (l.take 10).length := by simp; omega
 have := jE (l.take 10) j h hj
 simpa [bR] using this
theorem yX (l : List UInt8) (h : aW l < 10) (hl : aW l < l.length) : l[aW l].toNat < 128 := by
 have hj : ((l.take 10).takeWhile bR).length < (l.take 10).length := by unfold aW at h hl; simp; omega
 have := iK (l.take 10) hj
 simp only [List.getElem_take] at this
 have h2 : bR (l[aW l]) = false := this
 simpa [bR] using h2
theorem yY (l : List UInt8) (k : Nat) (h : k < l.length) : valOf (l.drop k) = (valOf (l.drop (k + 1)) * 128 + l[k].toNat % 128) % 18446744073709551616 := by
 rw [List.drop_eq_getElem_cons h, valOf]
def mQ (l : List UInt8) : Nat := match bX l with
 | some x => x.1
 | none => 0
def dP (a : Nat) (l : List UInt8) : Nat := match bX l with
 | some x => a + (l.length - x.2.length)
 | none => 0
theorem CJ {l : List UInt8} (h1 : aW l < 10) (h2 : aW l < l.length) (h3 : bi (valOf (l.take (aW l + 1))) = l.take (aW l + 1)) :
  bX l = some (valOf (l.take (aW l + 1)), l.drop (aW l + 1)) := by unfold bX; rw [if_pos ⟨h1, h2, h3⟩]
theorem vD {l : List UInt8} (h : ¬ (aW l < 10 ∧ aW l < l.length ∧ bi (valOf (l.take (aW l + 1))) = l.take (aW l + 1))) : bX l = none := by unfold bX; rw [if_neg h]
theorem DW {l : List UInt8} (a : Nat) (h1 : aW l < 10) (h2 : aW l < l.length) (h3 : bi (valOf (l.take (aW l + 1))) = l.take (aW l + 1)) :
  mQ l = valOf (l.take (aW l + 1)) ∧ dP a l = a + aW l + 1 ∧ dn l = 0 := by
 have h := CJ h1 h2 h3
 refine ⟨by unfold mQ; rw [h], by unfold dP; rw [h]; simp; omega, ?_⟩
 unfold dn
 rw [h, if_neg (by omega), if_neg (by omega)]; rfl
theorem EK {l : List UInt8} (a : Nat) (h : bX l = none) : mQ l = 0 ∧ dP a l = 0 := ⟨by unfold mQ; rw [h], by unfold dP; rw [h]⟩
theorem xq {l : List UInt8} (h : aW l = 10) : dn l = 10 ∧ bX l = none := ⟨by unfold dn; rw [if_pos h], vD (fun hh => by omega)⟩
theorem qO {l : List UInt8} (h : aW l < 10) (h2 : l.length ≤ aW l) : dn l = 4 ∧ bX l = none := ⟨by unfold dn; rw [if_neg (by omega), if_pos h2], vD (fun hh => by omega)⟩
theorem qP {l : List UInt8} (h : aW l < 10) (h2 : aW l < l.length) (h3 : bi (valOf (l.take (aW l + 1))) ≠ l.take (aW l + 1)) : dn l = 10 ∧ bX l = none := by
 have hn : bX l = none := vD (fun hh => h3 hh.2.2)
 refine ⟨?_, hn⟩
 unfold dn
 rw [if_neg (by omega), if_neg (by omega), hn]; rfl
def at8 (l : List UInt8) (j : Nat) : Nat := ((l[j]?).getD 0).toNat
theorem CK (l : List UInt8) (j : Nat) : at8 l j < 256 := UInt8.toNat_lt _
theorem gM (l : List UInt8) (j : Nat) (h : j < l.length) : at8 l j = l[j].toNat := by unfold at8; rw [List.getElem?_eq_getElem h]; rfl
theorem xu (l : List UInt8) (a j : Nat) : at8 (l.drop a) j = at8 l (a + j) := by unfold at8; rw [List.getElem?_drop]
theorem ku (l : List UInt8) (n j : Nat) (h : j < n) : at8 (l.take n) j = at8 l j := by unfold at8; rw [List.getElem?_take, if_pos h]
theorem Am {p q : List UInt8} (n : Nat) (hp : n < p.length) (hq : n < q.length) (h : p.take n = q.take n) (h1 : at8 p n = at8 q n) : p.take (n + 1) = q.take (n + 1) := by
 rw [gM p n hp, gM q n hq] at h1
 rw [List.take_succ_eq_append_getElem hp, List.take_succ_eq_append_getElem hq, h, UInt8.toNat_inj.1 h1]
theorem CL {p q : List UInt8} (n : Nat) (hp : n < p.length) (hq : n < q.length) (h1 : at8 p n ≠ at8 q n) : p ≠ q := by
 intro e; subst e; exact h1 rfl
theorem Bj (l : List UInt8) (j : Nat) (h : j < aW l) : 128 ≤ at8 l j := by
 have := kr l
 rw [gM l j (by omega)]; exact CG l j h (by omega)
theorem xw (l : List UInt8) (h : aW l < 10) (hl : aW l < l.length) : at8 l (aW l) < 128 := by rw [gM l _ hl]; exact yX l h hl
theorem oD (l : List UInt8) (k : Nat) (h : k < l.length) : valOf (l.drop k) = (valOf (l.drop (k + 1)) * 128 + at8 l k % 128) % 18446744073709551616 := by rw [gM l k h]; exact yY l k h
theorem au.at8 {w : World} {S : Nat → Prop} {own : Bool} {l : List UInt8} {ad : Option Addr} {cap j : Nat} (h : au w S own l (.slice ad l.length cap)) (hj : j < l.length) :
  ∃ bl off, ad = some ⟨bl, off, none⟩ ∧ S bl ∧ w.cell? ⟨bl, off + j, none⟩ = some (.int .u8 (at8 l j : Nat)) := by
 obtain ⟨bl, off, h1, h2, h3⟩ := au.cell h (by omega)
 exact ⟨bl, off, h1, h2, by rw [(h3 j hj).1, gM l j hj]⟩
theorem CP (V c n : Nat) (h : n = (V * 128 + c % 128) % 18446744073709551616) : Value.int .u64 (IntKind.u64.wrap (IntKind.u64.wrap ((V : Int) * 128) + (c : Int) % 128)) = .int .u64 (n : Int) := by
 subst h
 congr 1
 simp only [IntKind.wrap, IntKind.signed, IntKind.bits]
 simp
theorem au.cut {w : World} {S : Nat → Prop} {own : Bool} {l : List UInt8} {ad : Option Addr} {cap : Nat} (h : au w S own l (.slice ad l.length cap)) (a m cap' : Nat) (ham : a + m ≤ l.length) (hcap : m ≤ cap') :
  au w S own ((l.drop a).take m) (.slice (ad.map fun x => x.add a) m cap') := by
 have h63 := h.2.1
 have hlen : ((l.drop a).take m).length = m := by simp; omega
 refine ⟨by simp, by omega, _, cap', by rw [hlen], by omega, fun hn => ?_⟩
 obtain ⟨bl, off, h1, h2, h3⟩ := au.cell h (by omega)
 refine ⟨bl, off + a, ?_, h2, fun j hj => ?_⟩
 ·rw [h1]; simp [Addr.add]
 ·have hj' : j < m := by rw [bytes_length, hlen] at hj; exact hj
  obtain ⟨c1, c2⟩ := h3 (a + j) (by omega)
  rw [Nat.add_assoc]
  refine ⟨?_, c2⟩
  rw [c1]; simp [bytes]
theorem au.head {w : World} {S : Nat → Prop} {own : Bool} {l : List UInt8} {ad : Option Addr} {cap : Nat} (h : au w S own l (.slice ad l.length cap)) (m cap' : Nat) (ham : m ≤ l.length) (hcap : m ≤ cap') :
  au w S own (l.take m) (.slice ad m cap') := by
 have h63 := h.2.1
 have hlen : (l.take m).length = m := by simp; omega
 refine ⟨by simp, by omega, _, cap', by rw [hlen], by omega, fun hn => ?_⟩
 obtain ⟨bl, off, h1, h2, h3⟩ := au.cell h (by omega)
 refine ⟨bl, off, h1, h2, fun j hj => ?_⟩
 have hj' : j < m := by rw [bytes_length, hlen] at hj; exact hj
 obtain ⟨c1, c2⟩ := h3 j (by omega)
 exact ⟨by rw [c1]; simp [bytes], c2⟩
theorem au.none {w : World} {S : Nat → Prop} {own : Bool} {ad : Option Addr} {cap : Nat} : au w S own [] (.slice ad 0 cap) :=
 ⟨by simp, by simp, ad, cap, rfl, by simp, fun h => by simp at h⟩
end Go.Proofs.YtagnalfkmdjajaaGreatDoor
