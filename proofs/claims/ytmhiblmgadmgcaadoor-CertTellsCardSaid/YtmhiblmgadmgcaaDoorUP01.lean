/- Walks: the library's numbers of texts, texts of numbers, cuts and joins. (Parts of S01, S07, W20, W21, T02, W50, for seats without chapter 4's readers.) -/
import Derived.Test.YtmhiblmgadmgcaaDoorU4
import Derived.Test.YtmhiblmgadmgcaaDoorU3
import Derived.Test.YtmhiblmgadmgcaaDoorUShelf
import Derived.Test.YtmhiblmgadmgcaaDoorChecked
import Derived.Lib.AppendIntMem
import Derived.WalkSpells
import Derived.BigQuiet
import Derived.Deep.QuietTactic
import Derived.Deep.RegionHeld3
import Derived.Deep.RegionLaw
import Derived.Deep.DeepFit
import Derived.IntWalk
import Derived.WalkSmall
namespace Go.Proofs.YtmhiblmgadmgcaaDoor
open Go.RowKit Go
set_option linter.unusedVariables false
set_option linter.unusedSimpArgs false
theorem ba_size (s : ByteArray) : s.data.toList.length = s.size := (Lib.size_eq s).symm
theorem ba_ext {s t : ByteArray} (h : s.data.toList = t.data.toList) : s = t := by
  obtain ⟨⟨l⟩⟩ := s; obtain ⟨⟨m⟩⟩ := t; simp at h; simp [h]
theorem decDigits_len (n : Nat) (h : n < 18446744073709551616) : (Lib.decDigits n).length ≤ 20 := by
  rw [Lib.decDigits_length]
  rcases Nat.eq_zero_or_pos n with rfl | h0
  · rw [Lib.nDigits_small (by omega)]; omega
  · have := Lib.numDigits_eq n h0 h; split at this <;> omega
set_option maxHeartbeats 1000000 in
set_option maxRecDepth 100000 in
theorem fmtUint_in (u : Nat) (w : World) (hu64 : u < 18446744073709551616) (htab : Lib.TabIs Tryd.prog w "internal/strconv.uint64pow10" .u64 Lib.pow10Tab) :
    Calls Tryd.prog 65 #[.int .u64 u, .int .i64 10] w fun e w' => e = .returned (.string ⟨(Lib.decDigits u).toArray⟩) ∧ Below w.heap.size w w' := by
  by_cases hs : u < 100
  · go_enter Tryd.func65, Tryd.ntmps65
    go_wp2_with (go_at_call 73; refine (Tryd.internal_strconv_small u hs _).mono ?_; rintro e w' ⟨rfl, rfl⟩)
    go_ret
    exact ⟨rfl, Below.refl _ _⟩
  · have hu1 : 1 ≤ u := by omega
    have hnd20 : Lib.nDigits u ≤ 20 := by have := Lib.numDigits_eq u hu1 hu64; split at this <;> omega
    have hal : Tryd.prog.arrayLen 140 = 24 := by kernel_rfl
    have hel : ∃ e, Tryd.prog.underlying 140 = some (.array 24 e) ∧ Tryd.prog.cellsOf e = 1 := ⟨_, Tryd.underlying140, by kernel_rfl⟩
    have hsl1 : ∀ W, (Instr.sliceAt 140 (.pointer (some ⟨w.heap.size, 0, none⟩)) none (some (.int .i64 (Lib.nDigits u : Int))) none).run Tryd.prog W = .ok (.slice (some ⟨w.heap.size, 0, none⟩) (Lib.nDigits u) 24) W := fun W => by
      rw [run_sliceAt_array_h W 140 ⟨w.heap.size, 0, none⟩ (by kernel_rfl) .i64 (Lib.nDigits u : Int) (by omega) (by rw [hal]; omega)]
      go_simp
    have hH0 := Lib.holds_zero0 w 140 (Lib.nDigits u) (by omega)
    have hfmt := Tryd.internal_strconv_formatBase10 w.heap.size 0 24 u (Array.replicate (Lib.nDigits u) 0) (w.alloc (.cells Lib.zeros24 140)) hH0 (by rw [Array.size_replicate]; exact Lib.lt_pow_nDigits u) hu64 (by rw [Array.size_replicate]; omega)
    rw [Array.size_replicate] at hfmt
    have HH0 := Lib.hid hH0
    have HF := Lib.hid hfmt
    clear hH0 hal hel hfmt
    go_enter Tryd.func65, Tryd.ntmps65
    go_wp2_with (first
      | (go_at_call 74; refine (Tryd.internal_strconv_numDigits u hu1 hu64 _ (Lib.tabIs_alloc htab _)).mono ?_; rintro e w' ⟨rfl, rfl⟩))
    go_at_call 75
    refine HF.out.mono ?_
    rintro e w' ⟨rfl, k, v', dk, rfl, hF⟩
    have hcv : (convert 32 9 (.slice (some ⟨w.heap.size, 0, none⟩) (Lib.nDigits u) 24)).run Tryd.prog ((Sort.putRow (fun (b : UInt8) => Value.int .u8 (b.toNat : Int)) (w.alloc (.cells Lib.zeros24 140)) w.heap.size 0 dk).drewN k) = .ok (.string ⟨(Lib.decDigits u).toArray⟩) ((Sort.putRow (fun (b : UInt8) => Value.int .u8 (b.toNat : Int)) (w.alloc (.cells Lib.zeros24 140)) w.heap.size 0 dk).drewN k) := by
      have h := run_convert_bytes_back (P := Tryd.prog) ((Sort.putRow (fun (b : UInt8) => Value.int .u8 (b.toNat : Int)) (w.alloc (.cells Lib.zeros24 140)) w.heap.size 0 dk).drewN k) 32 9 5 ⟨w.heap.size, 0, none⟩ 24 (Lib.decDigits u) Tryd.underlying32 Tryd.underlying5 Tryd.underlying9 (fun j hj => by
        rw [Lib.row_is_numeral hF j hj, Lib.add_plain, World.cell?_drewN]
        exact Sort.cell?_putRow (fun (b : UInt8) => Value.int .u8 (b.toNat : Int)) _ w.heap.size 0 _ dk HH0.out (by rw [hF.size, Array.size_replicate]) j (by rw [hF.size]; rw [Lib.decDigits_length] at hj; exact hj))
      rw [Lib.decDigits_length] at h
      exact h
    have hsz : (Sort.putRow (fun (b : UInt8) => Value.int .u8 (b.toNat : Int)) (w.alloc (.cells Lib.zeros24 140)) w.heap.size 0 dk).heap.size = w.heap.size + 1 := by simp
    go_wp2_with fail
    go_ret
    obtain ⟨os, eo⟩ := Lib.fin_at w (.cells Lib.zeros24 140) dk k 0
    exact ⟨rfl, by rw [eo]; exact Lib.below_grow _ _ (Nat.le_refl _) _ _⟩
theorem formatUint_any (u : Nat) (w : World) (hu64 : u < 18446744073709551616) (htab : Lib.TabIs Tryd.prog w "internal/strconv.uint64pow10" .u64 Lib.pow10Tab) :
    Calls Tryd.prog 51 #[.int .u64 u, .int .i64 10] w fun e w' => e = .returned (.string ⟨(Lib.decDigits u).toArray⟩) ∧ Below w.heap.size w w' := by
  go_enter Tryd.func51, Tryd.ntmps51
  go_wp2_with fail
  refine (fmtUint_in u w hu64 htab).mono ?_
  rintro e w' ⟨rfl, hb⟩
  go_wp2_with fail
  go_ret
  exact ⟨rfl, hb⟩
theorem str_ext {a b : ByteArray} (h : a.data.toList = b.data.toList) : Ending.returned (.string a) = .returned (.string b) := by rw [ba_ext h]
theorem str_ext' {a b : ByteArray} (h : a.data.toList = b.data.toList) : Value.string a = .string b := by rw [ba_ext h]
def strs (l : List (List UInt8)) : List Value := l.map fun x => .string ⟨x.toArray⟩
theorem strs_length (l : List (List UInt8)) : (strs l).length = l.length := by simp [strs]
theorem strs_append (a b : List (List UInt8)) : strs (a ++ b) = strs a ++ strs b := by simp [strs]
theorem infoStr : (Tryd.prog.info? 9).map (fun i => (i.zero, i.size, i.bytes)) = some (some (.string ⟨#[]⟩), 1, 16) := by kernel_rfl
/-- What the library's variables hold. -/
structure Lv (B : Nat) (w : World) : Prop where
  tab : Lib.TabIs Tryd.prog w "internal/strconv.uint64pow10" .u64 Lib.pow10Tab
  lo : 0 < B
theorem gTab : Tryd.prog.globalNamed "internal/strconv.uint64pow10" = some 0 := by kernel_rfl
theorem Lv.below {B : Nat} {w w' : World} (h : Lv B w) (hb : Below B w w') : Lv B w' := ⟨var?_below hb gTab h.lo h.tab, h.lo⟩
theorem Lv.mono {B B' : Nat} {w : World} (h : Lv B w) (hB : B ≤ B') : Lv B' w := ⟨h.tab, by have := h.lo; omega⟩
structure Lq (B : Nat) (w : World) : Prop where
  lv : Lv B w
theorem Lq.below {B : Nat} {w w' : World} (h : Lq B w) (hb : Below B w w') : Lq B w' := ⟨h.lv.below hb⟩
theorem Lq.mono {B B' : Nat} {w : World} (h : Lq B w) (hB : B ≤ B') : Lq B' w := ⟨h.lv.mono hB⟩
/-- A row of texts in memory, at its first cell. -/
def RepS (w : World) (S : Nat → Prop) (l : List (List UInt8)) (v : Value) : Prop := Sl w S true 1 l.length (strs l) v
theorem RepS.at {w : World} {S : Nat → Prop} {l : List (List UInt8)} {ad : Option Addr} {cap : Nat} (h : RepS w S l (.slice ad l.length cap)) (hn : 0 < l.length) :
    ∃ bl off, ad = some ⟨bl, off, none⟩ ∧ S bl ∧ ∀ j (hj : j < l.length), w.cell? ⟨bl, off + j, none⟩ = some (.string ⟨l[j].toArray⟩) := by
  obtain ⟨bl, off, h1, h2, h3⟩ := Sl.cells h hn
  refine ⟨bl, off, h1, h2, fun j hj => ?_⟩
  have := (h3 j (by rw [strs_length]; exact hj)).1
  rw [this]; simp [strs]
theorem RepS.alloc (w : World) (l : List (List UInt8)) (T : TypeId) (hl : l.length ≤ 9223372036854775807) : RepS (w.alloc (.cells (strs l).toArray T)) (fun b => b = w.heap.size) l (.slice (some ⟨w.heap.size, 0, none⟩) l.length l.length) := by
  refine ⟨by rw [strs_length]; omega, hl, _, _, rfl, Nat.le_refl _, fun _ => ⟨_, _, rfl, rfl, fun j hj => ⟨?_, fun _ => ?_⟩⟩⟩
  · rw [cell_of_row _ _ _ _ _ _ (heap_alloc_at w _ _ rfl), Nat.zero_add, List.getElem?_toArray, List.getElem?_eq_getElem hj]
  · rw [frozen_of_row _ _ _ _ _ (heap_alloc_at w _ _ rfl)]
theorem dd20 (u : Nat) (h : u < 18446744073709551616) : (⟨(Lib.decDigits u).toArray⟩ : ByteArray).size ≤ 20 := by rw [← ba_size]; simpa using decDigits_le20 u h
theorem joinS_any (S : Nat → Prop) (l : List (List UInt8)) (v : Value) (sep : List UInt8) (w : World) (h : RepS w S l v) (hl : l.length ≤ 1000000) (hlen : (Lib.join l sep).length ≤ 140737488355328) :
    Calls Tryd.prog 37 #[v, .string ⟨sep.toArray⟩] w fun e w' => e = .returned (.string ⟨(Lib.join l sep).toArray⟩) ∧ Below w.heap.size w w' := by
  obtain ⟨_, _, ad, cap, rfl, hcap⟩ := h.shape
  cases l with
  | nil =>
    refine (Tryd.strings_Join_none ad cap _ w).mono ?_
    rintro e w' ⟨rfl, rfl⟩
    exact ⟨rfl, Below.refl _ _⟩
  | cons x r =>
    obtain ⟨bl, off, rfl, _, hc⟩ := h.at (by simp)
    have hm : ((x :: r).map fun x => (⟨x.toArray⟩ : ByteArray)).map (·.data.toList) = x :: r := by simp [Function.comp_def]
    have hs : (⟨sep.toArray⟩ : ByteArray).data.toList = sep := by simp
    have hj := Tryd.strings_Join bl off cap ((x :: r).map fun x => (⟨x.toArray⟩ : ByteArray)) ⟨sep.toArray⟩ w (fun j y hy => by
      have hjl : j < (x :: r).length := by have := (List.getElem?_eq_some_iff.1 hy).1; simpa using this
      rw [hc j hjl]
      simp only [List.getElem?_map, Option.map_eq_some_iff] at hy
      obtain ⟨z, hz, rfl⟩ := hy
      rw [(List.getElem?_eq_some_iff.1 hz).2]) (World.block_lt_of_cell? w _ (hc 0 (by simp))) (by rw [List.length_map]; omega) (by rw [List.length_map]; exact hcap) (by rw [hm, hs]; exact hlen)
    rw [hm, hs, List.length_map] at hj
    exact hj
end Go.Proofs.YtmhiblmgadmgcaaDoor
