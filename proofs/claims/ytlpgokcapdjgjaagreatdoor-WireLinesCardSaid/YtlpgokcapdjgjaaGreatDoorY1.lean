/- A part put behind the others. -/
import Derived.Test.YtlpgokcapdjgjaaGreatDoorY35
import Derived.Test.YtlpgokcapdjgjaaGreatDoorY18
import Derived.Laws.OwnMore
namespace Go.Proofs.YtlpgokcapdjgjaaGreatDoor
open Go.RowKit Go
set_option linter.unusedVariables false
set_option linter.unusedSimpArgs false
def iB (c : UInt8) : Bool := decide (128 ≤ c.toNat)
def bz (l : List UInt8) : Nat := ((l.take 10).takeWhile iB).length
def valOf : List UInt8 → Nat
 | [] => 0
 | c :: l => (valOf l * 128 + c.toNat % 128) % 18446744073709551616
def bB (l : List UInt8) : Option (Nat × List UInt8) :=
 if bz l < 10 ∧ bz l < l.length ∧ dA (valOf (l.take (bz l + 1))) = l.take (bz l + 1) then some (valOf (l.take (bz l + 1)), l.drop (bz l + 1)) else none
theorem vN (l : List UInt8) : valOf l < 18446744073709551616 := by
 cases l with
 | nil => simp [valOf]
 | cons c l => rw [valOf]; exact Nat.mod_lt _ (by omega)
theorem bi {l r : List UInt8} {n : Nat} (h : bB l = some (n, r)) : l = dA n ++ r ∧ n < 18446744073709551616 := by
 unfold bB at h
 split at h
 ·rename_i hc
  injection h with h
  injection h with h1 h2
  subst h1 h2
  exact ⟨by rw [hc.2.2, List.take_append_drop], vN _⟩
 ·cases h
def pE (tk : List UInt8 → Option (Ex × List UInt8)) : Nat → List UInt8 → Option (List Ex × List UInt8)
 | 0, l => some ([], l)
 | n + 1, l => match tk l with
  | none => none
  | some (e, r) => (pE tk n r).map fun x => (e :: x.1, x.2)
def lY (o : Option (List UInt8)) : Nat := match o.bind bB with
 | some x => x.1
 | none => 0
def lZ (o : Option (List UInt8)) : Option (List UInt8) := (o.bind bB).map fun x => x.2
def fM (c : Nat) (l : List UInt8) : Nat × Nat × Nat × Option (List UInt8) :=
 if c = 2 ∨ c = 3 then (lY (some l), 0, 0, lZ (some l))
 else if c = 4 then (lY (some l), lY (lZ (some l)), 0, lZ (lZ (some l)))
 else if c = 5 then (0, 0, 1, some l)
 else if c = 6 ∨ c = 7 then (0, 0, lY (some l), lZ (some l))
 else (0, 0, 0, some l)
def BA (tk : List UInt8 → Option (Ex × List UInt8)) (h : Nat × Nat × Nat × Option (List UInt8)) : Option (List Ex × List UInt8) := h.2.2.2.bind (pE tk h.2.2.1)
def tkE : Nat → List UInt8 → Option (Ex × List UInt8)
 | 0, _ => none
 | _ + 1, [] => none
 | d + 1, c :: l =>
  if 1 ≤ c.toNat ∧ c.toNat ≤ 7 then (BA (tkE d) (fM c.toNat l)).map fun x => (.mk c.toNat (fM c.toNat l).1 (fM c.toNat l).2.1 x.1, x.2)
  else none
theorem BB (n : Nat) : 0 < (dA n).length := (dF n).2
theorem pF {l r : List UInt8} {n : Nat} (h : bB l = some (n, r)) : r.length < l.length := by
 obtain ⟨h1, _⟩ := bi h
 have := BB n
 rw [h1]; simp; omega
theorem ui {l r : List UInt8} {n : Nat} (h : bB l = some (n, r)) : n < 18446744073709551616 := (bi h).2
theorem nQ {l r : List UInt8} {n : Nat} (h : bB l = some (n, r)) : r <:+ l := by
 obtain ⟨h1, _⟩ := bi h
 exact ⟨_, h1.symm⟩
theorem BC (o : Option (List UInt8)) : lY o < 18446744073709551616 := by
 unfold lY
 split
 ·rename_i x hx
  obtain ⟨l, h1, h2⟩ := Option.bind_eq_some_iff.1 hx
  exact ui (n := x.1) (r := x.2) h2
 ·omega
theorem CQ (o : Option (List UInt8)) (r : List UInt8) (h : lZ o = some r) : ∃ l, o = some l ∧ r <:+ l ∧ r.length < l.length := by
 unfold lZ at h
 obtain ⟨x, h1, h2⟩ := Option.map_eq_some_iff.1 h
 obtain ⟨l, h3, h4⟩ := Option.bind_eq_some_iff.1 h1
 subst h2
 exact ⟨l, h3, nQ (n := x.1) h4, pF (n := x.1) h4⟩
theorem Ab (c : Nat) (l : List UInt8) : (fM c l).1 < 18446744073709551616 ∧ (fM c l).2.1 < 18446744073709551616 ∧ (fM c l).2.2.1 < 18446744073709551616 := by
 unfold fM
 repeat' split
 all_goals (simp only; refine ⟨?_, ?_, ?_⟩ <;> first | exact BC _ | omega)
def fO (l : List UInt8) : Int := if bz l = 10 then 10 else if l.length ≤ bz l then 4 else if (bB l).isSome then 0 else 10
theorem vO (l : List UInt8) : bz l ≤ 10 ∧ bz l ≤ l.length := by
 unfold bz
 have h := (List.takeWhile_prefix (p := iB) (l := l.take 10)).length_le
 simp at h; omega
theorem ib (l : List UInt8) : (fO l = 0) ↔ (bB l).isSome = true := by
 unfold fO
 have := vO l
 constructor
 ·intro h
  split at h
  ·omega
  ·split at h
   ·omega
   ·split at h
    ·assumption
    ·omega
 ·intro h
  have h2 : bz l < 10 ∧ bz l < l.length := by
   unfold bB at h
   split at h
   ·rename_i hc; exact ⟨hc.1, hc.2.1⟩
   ·cases h
  rw [if_neg (by omega), if_neg (by omega), if_pos h]
theorem ma {p : UInt8 → Bool} : ∀ (l : List UInt8) (j : Nat) (h : j < (l.takeWhile p).length) (hl : j < l.length), p l[j] = true
 | [], j, h, hl => by simp at hl
 | c :: l, j, h, hl => by
  rw [List.takeWhile_cons] at h
  split at h
  ·cases j with
   | zero => simpa
   | succ j => simp at h hl ⊢; exact ma l j h hl
  ·simp at h
theorem jL {p : UInt8 → Bool} : ∀ (l : List UInt8) (hl : (l.takeWhile p).length < l.length), p (l[(l.takeWhile p).length]'hl) = false
 | [], hl => by simp at hl
 | c :: l, hl => by
  by_cases hp : p c = true
  ·have h : ((c :: l).takeWhile p).length = (l.takeWhile p).length + 1 := by rw [List.takeWhile_cons, if_pos hp]; simp
   have hl' : (l.takeWhile p).length < l.length := by rw [h] at hl; simpa using hl
   have := jL l hl'
   simp only [h, List.getElem_cons_succ]
   exact this
  ·have h : ((c :: l).takeWhile p).length = 0 := by rw [List.takeWhile_cons, if_neg hp]; rfl
   simp only [h, List.getElem_cons_zero]
   exact Bool.eq_false_iff.2 hp
theorem xI (l : List UInt8) (k : Nat) (h : k < l.length) : valOf (l.drop k) = (valOf (l.drop (k + 1)) * 128 + l[k].toNat % 128) % 18446744073709551616 := by
 rw [List.drop_eq_getElem_cons h, valOf]
def uj (l : List UInt8) : Nat := match bB l with
 | some x => x.1
 | none => 0
def iQ (a : Nat) (l : List UInt8) : Nat := match bB l with
 | some x => a + (l.length - x.2.length)
 | none => 0
theorem BD {l : List UInt8} (h1 : bz l < 10) (h2 : bz l < l.length) (h3 : dA (valOf (l.take (bz l + 1))) = l.take (bz l + 1)) :
  bB l = some (valOf (l.take (bz l + 1)), l.drop (bz l + 1)) := by unfold bB; rw [if_pos ⟨h1, h2, h3⟩]
theorem uk {l : List UInt8} (h : ¬ (bz l < 10 ∧ bz l < l.length ∧ dA (valOf (l.take (bz l + 1))) = l.take (bz l + 1))) : bB l = none := by unfold bB; rw [if_neg h]
theorem CR {l : List UInt8} (a : Nat) (h1 : bz l < 10) (h2 : bz l < l.length) (h3 : dA (valOf (l.take (bz l + 1))) = l.take (bz l + 1)) :
  uj l = valOf (l.take (bz l + 1)) ∧ iQ a l = a + bz l + 1 ∧ fO l = 0 := by
 have h := BD h1 h2 h3
 refine ⟨by unfold uj; rw [h], by unfold iQ; rw [h]; simp; omega, ?_⟩
 unfold fO
 rw [h, if_neg (by omega), if_neg (by omega)]; rfl
theorem El {l : List UInt8} (a : Nat) (h : bB l = none) : uj l = 0 ∧ iQ a l = 0 := ⟨by unfold uj; rw [h], by unfold iQ; rw [h]⟩
theorem BF {l : List UInt8} (h : bz l = 10) : fO l = 10 ∧ bB l = none := ⟨by unfold fO; rw [if_pos h], uk (fun hh => by omega)⟩
theorem xJ {l : List UInt8} (h : bz l < 10) (h2 : l.length ≤ bz l) : fO l = 4 ∧ bB l = none := ⟨by unfold fO; rw [if_neg (by omega), if_pos h2], uk (fun hh => by omega)⟩
theorem BG {l : List UInt8} (h : bz l < 10) (h2 : bz l < l.length) (h3 : dA (valOf (l.take (bz l + 1))) ≠ l.take (bz l + 1)) : fO l = 10 ∧ bB l = none := by
 have hn : bB l = none := uk (fun hh => h3 hh.2.2)
 refine ⟨?_, hn⟩
 unfold fO
 rw [if_neg (by omega), if_neg (by omega), hn]; rfl
def at8 (l : List UInt8) (j : Nat) : Nat := ((l[j]?).getD 0).toNat
theorem Em (l : List UInt8) (j : Nat) : at8 l j < 256 := UInt8.toNat_lt _
theorem kZ (l : List UInt8) (j : Nat) (h : j < l.length) : at8 l j = l[j].toNat := by unfold at8; rw [List.getElem?_eq_getElem h]; rfl
theorem vP (l : List UInt8) (n j : Nat) (h : j < n) : at8 (l.take n) j = at8 l j := by unfold at8; rw [List.getElem?_take, if_pos h]
theorem CU {p q : List UInt8} (n : Nat) (hp : n < p.length) (hq : n < q.length) (h : p.take n = q.take n) (h1 : at8 p n = at8 q n) : p.take (n + 1) = q.take (n + 1) := by
 rw [kZ p n hp, kZ q n hq] at h1
 rw [List.take_succ_eq_append_getElem hp, List.take_succ_eq_append_getElem hq, h, UInt8.toNat_inj.1 h1]
theorem En {p q : List UInt8} (n : Nat) (hp : n < p.length) (hq : n < q.length) (h1 : at8 p n ≠ at8 q n) : p ≠ q := by
 intro e; subst e; exact h1 rfl
theorem vQ (l : List UInt8) (k : Nat) (h : k < l.length) : valOf (l.drop k) = (valOf (l.drop (k + 1)) * 128 + at8 l k % 128) % 18446744073709551616 := by rw [kZ l k h]; exact xI l k h
theorem aF.at8 {w : World} {S : Nat → Prop} {own : Bool} {l : List UInt8} {ad : Option Addr} {cap j : Nat} (h : aF w S own l (.slice ad l.length cap)) (hj : j < l.length) :
  ∃ bl off, ad = some ⟨bl, off, none⟩ ∧ S bl ∧ w.cell? ⟨bl, off + j, none⟩ = some (.int .u8 (at8 l j : Nat)) := by
 obtain ⟨bl, off, h1, h2, h3⟩ := aF.cell h (by omega)
 exact ⟨bl, off, h1, h2, by rw [(h3 j hj).1, kZ l j hj]⟩
theorem aF.cut {w : World} {S : Nat → Prop} {own : Bool} {l : List UInt8} {ad : Option Addr} {cap : Nat} (h : aF w S own l (.slice ad l.length cap)) (a m cap' : Nat) (ham : a + m ≤ l.length) (hcap : m ≤ cap') :
  aF w S own ((l.drop a).take m) (.slice (ad.map fun x => x.add a) m cap') := by
 have h63 := h.2.1
 have hlen : ((l.drop a).take m).length = m := by simp; omega
 refine ⟨by simp, by omega, _, cap', by rw [hlen], by omega, fun hn => ?_⟩
 obtain ⟨bl, off, h1, h2, h3⟩ := aF.cell h (by omega)
 refine ⟨bl, off + a, ?_, h2, fun j hj => ?_⟩
 ·rw [h1]; simp [Addr.add]
 ·have hj' : j < m := by rw [bytes_length, hlen] at hj; exact hj
  obtain ⟨c1, c2⟩ := h3 (a + j) (by omega)
  rw [Nat.add_assoc]
  refine ⟨?_, c2⟩
  rw [c1]; simp [bytes]
theorem aF.head {w : World} {S : Nat → Prop} {own : Bool} {l : List UInt8} {ad : Option Addr} {cap : Nat} (h : aF w S own l (.slice ad l.length cap)) (m cap' : Nat) (ham : m ≤ l.length) (hcap : m ≤ cap') :
  aF w S own (l.take m) (.slice ad m cap') := by
 have h63 := h.2.1
 have hlen : (l.take m).length = m := by simp; omega
 refine ⟨by simp, by omega, _, cap', by rw [hlen], by omega, fun hn => ?_⟩
 obtain ⟨bl, off, h1, h2, h3⟩ := aF.cell h (by omega)
 refine ⟨bl, off, h1, h2, fun j hj => ?_⟩
 have hj' : j < m := by rw [bytes_length, hlen] at hj; exact hj
 obtain ⟨c1, c2⟩ := h3 j (by omega)
 exact ⟨by rw [c1]; simp [bytes], c2⟩
theorem aF.none {w : World} {S : Nat → Prop} {own : Bool} {ad : Option Addr} {cap : Nat} : aF w S own [] (.slice ad 0 cap) :=
 ⟨by simp, by simp, ad, cap, rfl, by simp, fun h => by simp at h⟩
def EU (b : List UInt8) (i : Int) : Option (Ex × Nat) :=
 if 0 ≤ i ∧ i ≤ b.length then
  match tkE 8 (b.drop i.toNat) with
  | some (e, r) => if e.right then some (e, b.length - r.length) else none
  | none => none
 else none
def si (b : List UInt8) : Option Ex := match EU b 0 with
 | some (e, n) => if n = b.length then some e else none
 | none => none
structure Rk (P : Nat → Prop) (w w' : World) : Prop where
 os : w'.os = w.os
 tape : w'.tape = w.tape
 output : w'.output = w.output
 size : w.heap.size ≤ w'.heap.size
 keep : ∀ b, b < w.heap.size → ¬ P b → w'.heap[b]? = w.heap[b]?
theorem Rk.refl (P : Nat → Prop) (w : World) : Rk P w w := ⟨rfl, rfl, rfl, Nat.le_refl _, fun _ _ _ => rfl⟩
theorem Rk.below {P : Nat → Prop} {w w' : World} {B : Nat} (h : Rk P w w') (hB : B ≤ w.heap.size) (hP : ∀ b, P b → B ≤ b) : Below B w w' :=
 ⟨h.os, h.tape, h.output, h.size, fun b hb => h.keep b (by omega) (fun p => by have := hP b p; omega)⟩
end Go.Proofs.YtlpgokcapdjgjaaGreatDoor
