/- Walks. -/
import Derived.Test.YtagnalfkmdjajaaGreatDoorY4
import Derived.Test.YtagnalfkmdjajaaGreatDoorY3
import Derived.Test.YtagnalfkmdjajaaGreatDoorYShelf
import Derived.Test.YtagnalfkmdjajaaGreatDoorChecked
import Derived.Lib.AppendIntMem
import Derived.WalkSpells
import Derived.BigQuiet
import Derived.Deep.QuietTactic
import Derived.Deep.RegionHeld3
import Derived.Deep.RegionLaw
import Derived.Deep.DeepFit
import Derived.IntWalk
import Derived.WalkSmall
set_option maxHeartbeats 1000000
set_option maxRecDepth 100000
namespace Go.Proofs.YtagnalfkmdjajaaGreatDoor
open Go.RowKit Go
set_option linter.unusedVariables false
set_option linter.unusedSimpArgs false
theorem ay (s : ByteArray) : s.data.toList.length = s.size := (Lib.size_eq s).symm
theorem jT {s t : ByteArray} (h : s.data.toList = t.data.toList) : s = t := by
 obtain ⟨⟨l⟩⟩ := s; obtain ⟨⟨m⟩⟩ := t; simp at h; simp [h]
theorem yo (s : ByteArray) (a b : Nat) : (s.extract a b).data.toList = (s.data.toList.drop a).take (b - a) := by
 have h := Lib.extract_toList s a b
 rwa [ByteArray.toList_eq] at h
theorem EA (s : ByteArray) (k : Nat) (h : k < s.size) : s.data.toList[k]'(by rw [ay]; exact h) = s[k] := rfl
theorem sH (n : Nat) (h : n < 18446744073709551616) : (Lib.decDigits n).length ≤ 20 := by
 rw [Lib.decDigits_length]
 rcases Nat.eq_zero_or_pos n with rfl | h0
 ·rw [Lib.nDigits_small (by omega)]; omega
 ·have := Lib.numDigits_eq n h0 h; split at this <;> omega
theorem yt (u : Nat) (w : World) (hu64 : u < 18446744073709551616) (htab : Lib.TabIs Tryz.prog w "internal/strconv.uint64pow10" .u64 Lib.pow10Tab) :
  Calls Tryz.prog 92 #[.int .u64 u, .int .i64 10] w fun e w' => e = .returned (.string ⟨(Lib.decDigits u).toArray⟩) ∧ Below w.heap.size w w' := by
 by_cases hs : u < 100
 ·go_enter Tryz.func92, Tryz.ntmps92
  go_wp2_with (go_at_call 116; refine (Tryz.internal_strconv_small u hs _).mono ?_; rintro e w' ⟨rfl, rfl⟩)
  go_ret
  exact ⟨rfl, br⟩
 ·have hu1 : 1 ≤ u := by omega
  have hnd20 : Lib.nDigits u ≤ 20 := by have := Lib.numDigits_eq u hu1 hu64; split at this <;> omega
  have hal : Tryz.prog.arrayLen 185 = 24 := by kernel_rfl
  have hel : ∃ e, Tryz.prog.underlying 185 = some (.array 24 e) ∧ Tryz.prog.cellsOf e = 1 := ⟨_, Tryz.underlying185, by kernel_rfl⟩
  have hsl1 : ∀ W, (Instr.sliceAt 185 (.pointer (some ⟨w.heap.size, 0, none⟩)) none (some (.int .i64 (Lib.nDigits u : Int))) none).run Tryz.prog W = .ok (.slice (some ⟨w.heap.size, 0, none⟩) (Lib.nDigits u) 24) W := fun W => by
   rw [run_sliceAt_array_h W 185 ⟨w.heap.size, 0, none⟩ (by kernel_rfl) .i64 (Lib.nDigits u : Int) (by omega) (by rw [hal]; omega)]
   go_simp
  have hH0 := Lib.holds_zero0 w 185 (Lib.nDigits u) (by omega)
  have hfmt := Tryz.internal_strconv_formatBase10 w.heap.size 0 24 u (Array.replicate (Lib.nDigits u) 0) (w.alloc (.cells Lib.zeros24 185)) hH0 (by rw [Array.size_replicate]; exact Lib.lt_pow_nDigits u) hu64 (by rw [Array.size_replicate]; omega)
  rw [Array.size_replicate] at hfmt
  have HH0 := hid hH0
  have HF := hid hfmt
  clear hH0 hal hel hfmt
  go_enter Tryz.func92, Tryz.ntmps92
  go_wp2_with (first
   | (go_at_call 117; refine (Tryz.internal_strconv_numDigits u hu1 hu64 _ (Lib.tabIs_alloc htab _)).mono ?_; rintro e w' ⟨rfl, rfl⟩))
  go_at_call 118
  refine HF.out.mono ?_
  rintro e w' ⟨rfl, k, v', dk, rfl, hF⟩
  have hcv : (convert 29 9 (.slice (some ⟨w.heap.size, 0, none⟩) (Lib.nDigits u) 24)).run Tryz.prog ((Sort.putRow (fun (b : UInt8) => Value.int .u8 (b.toNat : Int)) (w.alloc (.cells Lib.zeros24 185)) w.heap.size 0 dk).drewN k) = .ok (.string ⟨(Lib.decDigits u).toArray⟩) ((Sort.putRow (fun (b : UInt8) => Value.int .u8 (b.toNat : Int)) (w.alloc (.cells Lib.zeros24 185)) w.heap.size 0 dk).drewN k) := by
   have h := run_convert_bytes_back (P := Tryz.prog) ((Sort.putRow (fun (b : UInt8) => Value.int .u8 (b.toNat : Int)) (w.alloc (.cells Lib.zeros24 185)) w.heap.size 0 dk).drewN k) 29 9 5 ⟨w.heap.size, 0, none⟩ 24 (Lib.decDigits u) Tryz.underlying29 Tryz.underlying5 Tryz.underlying9 (fun j hj => by
    rw [Lib.row_is_numeral hF j hj, Lib.add_plain, World.cell?_drewN]
    exact Sort.cell?_putRow (fun (b : UInt8) => Value.int .u8 (b.toNat : Int)) _ w.heap.size 0 _ dk HH0.out (by rw [hF.size, Array.size_replicate]) j (by rw [hF.size]; rw [Lib.decDigits_length] at hj; exact hj))
   rw [Lib.decDigits_length] at h
   exact h
  have hsz : (Sort.putRow (fun (b : UInt8) => Value.int .u8 (b.toNat : Int)) (w.alloc (.cells Lib.zeros24 185)) w.heap.size 0 dk).heap.size = w.heap.size + 1 := by simp
  go_wp2_with fail
  go_ret
  obtain ⟨os, eo⟩ := Lib.fin_at w (.cells Lib.zeros24 185) dk k 0
  exact ⟨rfl, by rw [eo]; exact Lib.below_grow _ _ nl _ _⟩
theorem jU (u : Nat) (w : World) (hu64 : u < 18446744073709551616) (htab : Lib.TabIs Tryz.prog w "internal/strconv.uint64pow10" .u64 Lib.pow10Tab) :
  Calls Tryz.prog 63 #[.int .u64 u, .int .i64 10] w fun e w' => e = .returned (.string ⟨(Lib.decDigits u).toArray⟩) ∧ Below w.heap.size w w' := by
 go_enter Tryz.func63, Tryz.ntmps63
 go_wp2_with fail
 refine (yt u w hu64 htab).mono ?_
 rintro e w' ⟨rfl, hb⟩
 go_wp2_with fail
 go_ret
 exact ⟨rfl, hb⟩
theorem DC {a b : ByteArray} (h : a.data.toList = b.data.toList) : Ending.returned (.string a) = .returned (.string b) := by rw [jT h]
def strs (l : List (List UInt8)) : List Value := l.map fun x => .string ⟨x.toArray⟩
theorem gD (l : List (List UInt8)) : (strs l).length = l.length := by simp [strs]
theorem dF (a b : List (List UInt8)) : strs (a ++ b) = strs a ++ strs b := by simp [strs]
theorem zZ : (Tryz.prog.info? 9).map (fun i => (i.zero, i.size, i.bytes)) = some (some (.string ⟨#[]⟩), 1, 16) := by kernel_rfl
structure Lv (B : Nat) (w : World) : Prop where
 tab : Lib.TabIs Tryz.prog w "internal/strconv.uint64pow10" .u64 Lib.pow10Tab
 syn : ∃ tp p, w.var? Tryz.prog "strconv.ErrSyntax" = some #[.iface tp p]
 rng : ∃ tp p, w.var? Tryz.prog "strconv.ErrRange" = some #[.iface tp p]
 lo : 1 < B ∧ 2 < B ∧ 3 < B
theorem EB : Tryz.prog.globalNamed "internal/strconv.uint64pow10" = some 1 := by kernel_rfl
theorem EC : Tryz.prog.globalNamed "strconv.ErrSyntax" = some 2 := by kernel_rfl
theorem ED : Tryz.prog.globalNamed "strconv.ErrRange" = some 3 := by kernel_rfl
theorem Lv.below {B : Nat} {w w' : World} (h : Lv B w) (hb : Below B w w') : Lv B w' := by
 obtain ⟨h1, ⟨a, b, h2⟩, ⟨c, d, h3⟩, h4⟩ := h
 exact ⟨var?_below hb EB h4.1 h1, ⟨a, b, var?_below hb EC h4.2.1 h2⟩, ⟨c, d, var?_below hb ED h4.2.2 h3⟩, h4⟩
theorem Lv.mono {B B' : Nat} {w : World} (h : Lv B w) (hB : B ≤ B') : Lv B' w := ⟨h.tab, h.syn, h.rng, by have := h.lo; omega⟩
structure Lq (B : Nat) (w : World) : Prop where
 lv : Lv B w
 mx : ∃ m, w.cell? ⟨0, 0, none⟩ = some (.int .i64 m)
 ml : 0 < B
theorem Lq.below {B : Nat} {w w' : World} (h : Lq B w) (hb : Below B w w') : Lq B w' := ⟨h.lv.below hb, by obtain ⟨m, hm⟩ := h.mx; exact ⟨m, (hb.cell h.ml).trans hm⟩, h.ml⟩
theorem Lq.mono {B B' : Nat} {w : World} (h : Lq B w) (hB : B ≤ B') : Lq B' w := ⟨h.lv.mono hB, h.mx, by have := h.ml; omega⟩
theorem Aa (c : UInt8) (s : ByteArray) (w : World) (hs : s.size ≤ 1000000) (hL : Lq w.heap.size w) :
  Calls Tryz.prog 39 #[.string s, .string ⟨#[c]⟩] w fun e w' => e = .returned (.tuple #[.string ⟨(Lib.cut s.data.toList [c]).1.toArray⟩, .string ⟨(Lib.cut s.data.toList [c]).2.1.toArray⟩, .bool (Lib.cut s.data.toList [c]).2.2]) ∧ Below w.heap.size w w' := by
 obtain ⟨m, hm⟩ := hL.mx
 refine (Tryz.strings_Cut s ⟨#[c]⟩ m w (by omega) hm).mono ?_
 rintro e w' ⟨rfl, n, rfl⟩
 exact ⟨rfl, below_drewN br _⟩
theorem tT (c : UInt8) (s : ByteArray) (w : World) (hs : s.size ≤ 1000000) (hL : Lq w.heap.size w) :
  Calls Tryz.prog 40 #[.string s, .string ⟨#[c]⟩] w fun e w' => e = .returned (.slice (some ⟨w.heap.size, 0, none⟩) (cuts c s.data.toList).length (cuts c s.data.toList).length) ∧ w' = w.alloc (.cells (strs (cuts c s.data.toList)).toArray 9) := by
 obtain ⟨m, hm⟩ := hL.mx
 refine (Tryz.strings_Split s ⟨#[c]⟩ m w (by omega) hm (by simp [ByteArray.size])).mono ?_
 rintro e w' ⟨rfl, rfl⟩
 rw [yn, ← oh]
 refine ⟨rfl, ?_⟩
 congr 3
 simp only [strs, List.map_map]
 apply List.map_congr_left
 intro b _
 simp
def gV (w : World) (S : Nat → Prop) (l : List (List UInt8)) (v : Value) : Prop := Sl w S true 1 l.length (strs l) v
theorem gV.at {w : World} {S : Nat → Prop} {l : List (List UInt8)} {ad : Option Addr} {cap : Nat} (h : gV w S l (.slice ad l.length cap)) (hn : 0 < l.length) :
  ∃ bl off, ad = some ⟨bl, off, none⟩ ∧ S bl ∧ ∀ j (hj : j < l.length), w.cell? ⟨bl, off + j, none⟩ = some (.string ⟨l[j].toArray⟩) := by
 obtain ⟨bl, off, h1, h2, h3⟩ := Sl.cells h hn
 refine ⟨bl, off, h1, h2, fun j hj => ?_⟩
 have := (h3 j (by rw [gD]; exact hj)).1
 rw [this]; simp [strs]
theorem BZ (u : Nat) (h : u < 18446744073709551616) : (⟨(Lib.decDigits u).toArray⟩ : ByteArray).size ≤ 20 := by rw [← ay]; simpa using aH u h
theorem tV (S : Nat → Prop) (l : List (List UInt8)) (v : Value) (sep : List UInt8) (w : World) (h : gV w S l v) (hl : l.length ≤ 1000000) (hlen : (Lib.join l sep).length ≤ 140737488355328) :
  Calls Tryz.prog 34 #[v, .string ⟨sep.toArray⟩] w fun e w' => e = .returned (.string ⟨(Lib.join l sep).toArray⟩) ∧ Below w.heap.size w w' := by
 obtain ⟨_, _, ad, cap, rfl, hcap⟩ := h.shape
 cases l with
 | nil =>
  refine (Tryz.strings_Join_none ad cap _ w).mono ?_
  rintro e w' ⟨rfl, rfl⟩
  exact ⟨rfl, br⟩
 | cons x r =>
  obtain ⟨bl, off, rfl, _, hc⟩ := h.at (by simp)
  have hm : ((x :: r).map fun x => (⟨x.toArray⟩ : ByteArray)).map (·.data.toList) = x :: r := by simp [Function.comp_def]
  have hs : (⟨sep.toArray⟩ : ByteArray).data.toList = sep := by simp
  have hj := Tryz.strings_Join bl off cap ((x :: r).map fun x => (⟨x.toArray⟩ : ByteArray)) ⟨sep.toArray⟩ w (fun j y hy => by
   have hjl : j < (x :: r).length := by have := (List.getElem?_eq_some_iff.1 hy).1; simpa using this
   rw [hc j hjl]
   simp only [List.getElem?_map, Option.map_eq_some_iff] at hy
   obtain ⟨z, hz, rfl⟩ := hy
   rw [(List.getElem?_eq_some_iff.1 hz).2]) (World.block_lt_of_cell? w _ (hc 0 (by simp))) (by rw [List.length_map]; omega) (by rw [List.length_map]; exact hcap) (by rw [hm, hs]; exact hlen)
  rw [hm, hs, List.length_map] at hj
  exact hj
end Go.Proofs.YtagnalfkmdjajaaGreatDoor
