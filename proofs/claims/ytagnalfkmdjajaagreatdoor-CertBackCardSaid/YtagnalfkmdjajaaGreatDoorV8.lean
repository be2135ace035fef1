/- Walks: the document's frame, put. Ahead of it: Walks: the check of bytes. Walks: a frame's check. Walks: the document's check of bytes: digits. Walks: the document's check of bytes: the division. Walks: a frame, put. Walks: the document's frame: two rows joined. -/
import Derived.Test.YtagnalfkmdjajaaGreatDoorChecked
import Derived.Test.YtagnalfkmdjajaaGreatDoorV1
import Derived.Test.YtagnalfkmdjajaaGreatDoorV18
import Derived.Test.YtagnalfkmdjajaaGreatDoorV21
import Derived.Test.YtagnalfkmdjajaaGreatDoorVW03
import Derived.Test.YtagnalfkmdjajaaGreatDoorV3
import Derived.Laws.Rows
import Derived.Deep.CutRange
import Derived.Lib.ConvBytes
import Derived.Lib.AppendIntMem
import Derived.Lib.Strings
import Derived.Lib.AtoiErrMem
namespace Go.Proofs.YtagnalfkmdjajaaGreatDoor
open Go.RowKit Go
set_option linter.unusedVariables false
set_option linter.unusedSimpArgs false
theorem wrap_u32 (n : Int) : IntKind.u32.wrap n = n % 4294967296 := by simp [IntKind.wrap, IntKind.bits, IntKind.signed]
theorem ofInt32 (a : Nat) (ha : a < 4294967296) : (BitVec.ofInt 32 (a : Int)).toNat = a := by
  rw [BitVec.ofInt_natCast, BitVec.toNat_ofNat]; exact Nat.mod_eq_of_lt (by omega)
theorem bits_xor_u32_nat (a b : Nat) (ha : a < 4294967296) (hb : b < 4294967296) : bits .xor .u32 (a : Int) (b : Int) = ((a ^^^ b : Nat) : Int) := by
  have hx : a ^^^ b < 2 ^ 32 := Nat.xor_lt_two_pow (by omega) (by omega)
  show IntKind.u32.wrap ((BitVec.ofInt 32 (a : Int) ^^^ BitVec.ofInt 32 (b : Int)).toNat : Int) = _
  rw [BitVec.toNat_xor, ofInt32 a ha, ofInt32 b hb, wrap_u32]
  omega
theorem bits_and_u32_nat (a b : Nat) (ha : a < 4294967296) (hb : b < 4294967296) : bits .and .u32 (a : Int) (b : Int) = ((a &&& b : Nat) : Int) := by
  have hx : a &&& b < 2 ^ 32 := Nat.and_lt_two_pow _ (by omega)
  show IntKind.u32.wrap ((BitVec.ofInt 32 (a : Int) &&& BitVec.ofInt 32 (b : Int)).toNat : Int) = _
  rw [BitVec.toNat_and, ofInt32 a ha, ofInt32 b hb, wrap_u32]
  omega
theorem u32_max : IntKind.u32.max = ((4294967295 : Nat) : Int) := by simp [IntKind.max, IntKind.signed, IntKind.bits]
theorem xor_ones (r : Nat) : 4294967295 ^^^ (4294967295 ^^^ r) = r := by rw [← Nat.xor_assoc, Nat.xor_self, Nat.zero_xor]
theorem not_not (r : Nat) (hr : r < 4294967296) : bits .xor .u32 IntKind.u32.max ((4294967295 ^^^ r : Nat) : Int) = (r : Int) := by
  rw [u32_max, bits_xor_u32_nat _ _ (by decide) (Nat.xor_lt_two_pow (n := 32) (by decide) hr), xor_ones]
theorem not_u32 (r : Nat) (hr : r < 4294967296) : bits .xor .u32 IntKind.u32.max (r : Int) = ((4294967295 ^^^ r : Nat) : Int) := by
  rw [u32_max, bits_xor_u32_nat _ _ (by decide) hr]
theorem turn_u32 (x : Nat) (hx : x < 4294967296) : bits .xor .u32 ((x : Int) / 2) (bits .and .u32 3988292384 (-(bits .and .u32 (x : Int) 1) % 4294967296)) = ((Crc.bitS x : Nat) : Int) := by
  have e1 : bits .and .u32 (x : Int) 1 = ((x % 2 : Nat) : Int) := by
    rw [show (1 : Int) = ((1 : Nat) : Int) from rfl, bits_and_u32_nat x 1 hx (by decide), Nat.and_one_is_mod]
  have e2 : (x : Int) / 2 = ((x / 2 : Nat) : Int) := by omega
  rw [e1, e2]
  unfold Crc.bitS Crc.poly
  rcases Nat.mod_two_eq_zero_or_one x with h | h
  · rw [h, if_neg (by decide)]
    rw [show (-((0 : Nat) : Int)) % 4294967296 = ((0 : Nat) : Int) from rfl, show (3988292384 : Int) = ((3988292384 : Nat) : Int) from rfl, bits_and_u32_nat _ _ (by decide) (by decide), bits_xor_u32_nat _ _ (by omega) (by decide)]
    rfl
  · rw [h, if_pos rfl]
    rw [show (-((1 : Nat) : Int)) % 4294967296 = ((4294967295 : Nat) : Int) from rfl, show (3988292384 : Int) = ((3988292384 : Nat) : Int) from rfl, bits_and_u32_nat _ _ (by decide) (by decide), bits_xor_u32_nat _ _ (by omega) (by decide)]
    rfl
set_option maxHeartbeats 1000000 in
set_option maxRecDepth 100000 in
theorem crcByte_any (b c r m : Nat) (w : World) (hc : c < 256) (hr : r < 4294967296) (hm : m ≤ 1000000000) (hw : w.heap[b]? = some (.cells #[.int .u32 ((4294967295 ^^^ r : Nat) : Int), .int .i64 m] 193 (0, 0))) :
    Calls Tryz.prog 144 #[.pointer (some ⟨b, 0, none⟩), .int .u8 c] w fun e w' => e = .returned (.tuple #[]) ∧ w' = (w.setCell ⟨b, 0, none⟩ (.int .u32 ((4294967295 ^^^ Crc.byteS r c : Nat) : Int))).setCell ⟨b, 1, none⟩ (.int .i64 ((m + 1 : Nat) : Int)) := by
  have c0 : w.cell? ⟨b, 0, none⟩ = some (.int .u32 ((4294967295 ^^^ r : Nat) : Int)) := by simp [World.cell?, hw]
  have c1 : w.cell? ⟨b, 1, none⟩ = some (.int .i64 m) := by simp [World.cell?, hw]
  have f0 : w.frozen? ⟨b, 0, none⟩ = false := by simp [World.frozen?, hw]
  have f1 : w.frozen? ⟨b, 1, none⟩ = false := by simp [World.frozen?, hw]
  have hsg : IntKind.u32.signed = false := rfl
  have H := Lib.hid hw
  have HC := Lib.hid hc
  have HR := Lib.hid hr
  clear hw hc hr
  go_enter Tryz.func144, Tryz.ntmps144
  go_wp2_with fail
  go_loop [4, 13] (fun x i => ∃ j : Nat, j ≤ 8 ∧ i = .int .i64 j ∧ x = .int .u32 ((Crc.bits j (r ^^^ c) : Nat) : Int)) (fun _ i => 8 - (intOf i).toNat)
  case atStart => exact ⟨0, by omega, rfl, by rw [not_not r HR.out, show ((c : Int) % 4294967296) = (c : Int) by have := HC.out; omega, bits_xor_u32_nat r c HR.out (by have := HC.out; omega)]; rfl⟩
  case round =>
    obtain ⟨j, hj, rfl, rfl⟩ := hrel
    have hX : Crc.bits j (r ^^^ c) < 4294967296 := Crc.bits_lt j (Nat.xor_lt_two_pow (n := 32) HR.out (by have := HC.out; show c < 4294967296; omega))
    have HX := Lib.hid hX
    clear hX
    by_cases h8 : j < 8
    · go_wp2_with fail
      go_round
      case rel => exact ⟨j + 1, by omega, by go_num, by rw [turn_u32 _ HX.out, ← Crc.bits_snoc]⟩
      case measure => simp [intOf]; omega
    · have : j = 8 := by omega
      subst this
      go_wp2_with fail
      go_end0
      rw [not_u32 _ HX.out]
      exact ⟨rfl, rfl⟩
theorem regS_take (l : List UInt8) (s j : Nat) (h : j < l.length) : Crc.regS (l.take (j + 1)) s = Crc.byteS (Crc.regS (l.take j) s) (l[j]).toNat := by
  rw [List.take_succ_eq_append_getElem h]
  have : ∀ (a : List UInt8) (c : UInt8) (s : Nat), Crc.regS (a ++ [c]) s = Crc.byteS (Crc.regS a s) c.toNat := by
    intro a
    induction a with
    | nil => intro c s; rfl
    | cons x a ih => intro c s; exact ih c _
  exact this _ _ _
set_option maxHeartbeats 1000000 in
set_option maxRecDepth 100000 in
theorem crcAdd_any (b B r : Nat) (l : List UInt8) (v : Value) (w : World) (hl : l.length ≤ 1000000) (hr : r < 4294967296) (hB : B ≤ b) (hv : RepB w (fun k => k < B) false l v) (hw : w.heap[b]? = some (.cells #[.int .u32 ((4294967295 ^^^ r : Nat) : Int), .int .i64 ((0 : Nat) : Int)] 193 (0, 0))) :
    Calls Tryz.prog 120 #[.pointer (some ⟨b, 0, none⟩), v] w fun e w' => e = .returned (.tuple #[]) ∧ w'.heap[b]? = some (.cells #[.int .u32 ((4294967295 ^^^ Crc.regS l r : Nat) : Int), .int .i64 ((l.length : Nat) : Int)] 193 (0, 0)) ∧ Below B w w' := by
  obtain ⟨hl1, ad, cap, rfl, hcap⟩ := hv.shape
  have HW := Lib.hid hw
  have HV := Lib.hid hv
  have HR := Lib.hid hr
  clear hw hv hr
  go_enter Tryz.func120, Tryz.ntmps120
  go_wp2_with fail
  go_loopw [10] (fun i wr => ∃ j : Nat, j ≤ l.length ∧ i = .int .i64 j ∧ wr.heap[b]? = some (.cells #[.int .u32 ((4294967295 ^^^ Crc.regS (l.take j) r : Nat) : Int), .int .i64 ((j : Nat) : Int)] 193 (0, 0)) ∧ Below B w wr) (fun i _ => l.length - (intOf i).toNat)
  case atStart => exact ⟨0, Nat.zero_le _, rfl, HW.out, Below.refl _ _⟩
  case round =>
    obtain ⟨j, hj, rfl, hwr, hbel⟩ := hrel
    by_cases hlt : j < l.length
    · obtain ⟨bl, off, rfl, hbl, hcell⟩ := HV.out.cell (by omega)
      have hc := (hbel.cell (p := ⟨bl, off + j, none⟩) hbl).trans (hcell j hlt).1
      have HB := Lib.hid (crcByte_any b (l[j]).toNat (Crc.regS (l.take j) r) j wr (by have := (l[j]).toNat_lt; omega) (Crc.regS_lt _ HR.out) (by omega) hwr)
      have HWR := Lib.hid hwr
      clear hwr
      go_wp2_with (go_at_call 144; refine HB.out.mono ?_; rintro e w1 ⟨rfl, rfl⟩)
      go_roundw
      case rel =>
        refine ⟨j + 1, hlt, by go_num, ?_, ?_⟩
        · rw [regS_take l r j hlt, show ((j + 1 : Nat) : Int) = (j : Int) + 1 by simp]
          exact heap_set_at (heap_set_at HWR.out rfl) rfl
        · exact (hbel.setCell (p := ⟨b, 0, none⟩) hB _).setCell (p := ⟨b, 1, none⟩) hB _
      case measure => simp [intOf]; omega
    · have hj2 : j = l.length := by omega
      subst hj2
      rw [List.take_of_length_le (Nat.le_refl _)] at hwr
      have HWR := Lib.hid hwr
      clear hwr
      go_wp2_with fail
      go_end0
      exact ⟨rfl, HWR.out, hbel⟩
theorem crcValue_any (b : Nat) (x : Int) (w : World) (c0 : w.cell? ⟨b, 0, none⟩ = some (.int .u32 x)) : Calls Tryz.prog 121 #[.pointer (some ⟨b, 0, none⟩)] w fun e w' => e = .returned (.int .u32 x) ∧ w' = w := by
  go_enter Tryz.func121, Tryz.ntmps121
  go_wp2_with fail
  go_ret
  exact ⟨rfl, rfl⟩
set_option maxHeartbeats 1000000 in
set_option maxRecDepth 100000 in
theorem crcSum_any (l : List UInt8) (v : Value) (q cap : Nat) (w : World) (hl : l.length ≤ 1000000) (hcp : 1 ≤ cap) (hq : w.cell? ⟨q, 0, none⟩ = some v) (hqs : q < w.heap.size) (hv : RepB w (fun k => k < w.heap.size) false l v) :
    Calls Tryz.prog 95 #[.slice (some ⟨q, 0, none⟩) 1 cap] w fun e w' => e = .returned (.int .u32 (Crc.crcS l : Nat)) ∧ Below w.heap.size w w' := by
  have HV := Lib.hid hv
  have HQ := Lib.hid hq
  clear hv hq
  go_enter Tryz.func95, Tryz.ntmps95
  go_wp2_with fail
  go_loopw [8] (fun i wr => ∃ j : Nat, j ≤ 1 ∧ i = .int .i64 j ∧ wr.heap[w.heap.size]? = some (.cells #[.int .u32 ((4294967295 ^^^ Crc.regS (if j = 0 then [] else l) 4294967295 : Nat) : Int), .int .i64 (((if j = 0 then 0 else l.length : Nat) : Nat) : Int)] 193 (0, 0)) ∧ Below w.heap.size w wr) (fun i _ => 1 - (intOf i).toNat)
  case atStart => exact ⟨0, by omega, rfl, (by simpa [Crc.regS] using heap_alloc_new w (.cells #[.int .u32 0, .int .i64 0] 193)), (Below.refl _ _).alloc (Nat.le_refl _) _⟩
  case round =>
    obtain ⟨j, hj, rfl, hwr, hbel⟩ := hrel
    by_cases h0 : j = 0
    · subst h0
      have hc := (hbel.cell (p := ⟨q, 0, none⟩) hqs).trans HQ.out
      have HB := Lib.hid (crcAdd_any w.heap.size w.heap.size 4294967295 l v wr hl (by decide) (Nat.le_refl _) (HV.out.below hbel (Nat.le_refl _)) hwr)
      clear hwr
      go_wp2_with (go_at_call 120; refine HB.out.mono ?_; rintro e w1 ⟨rfl, hw1, hb1⟩; have HW1 := Lib.hid (And.intro hw1 hb1); clear hw1 hb1)
      go_roundw
      case rel => exact ⟨1, by omega, rfl, HW1.out.1, hbel.trans HW1.out.2⟩
      case measure => simp [intOf]
    · have : j = 1 := by omega
      subst this
      have c0 : wr.cell? ⟨w.heap.size, 0, none⟩ = some (.int .u32 ((4294967295 ^^^ Crc.regS l 4294967295 : Nat) : Int)) := by simp [World.cell?, hwr]
      have HB := Lib.hid (crcValue_any w.heap.size _ wr c0)
      clear hwr c0
      go_wp2_with (go_at_call 121; refine HB.out.mono ?_; rintro e w1 ⟨rfl, rfl⟩)
      go_ret
      exact ⟨rfl, hbel⟩
end Go.Proofs.YtagnalfkmdjajaaGreatDoor
namespace Go.Proofs.YtagnalfkmdjajaaGreatDoor
open Go.RowKit Go
set_option linter.unusedVariables false
set_option linter.unusedSimpArgs false
theorem infoByteC : (Tryz.prog.info? 5).map (fun i => (i.zero, i.size, i.bytes)) = some (some (.int .u8 0), 1, 1) := by kernel_rfl
theorem ownsRow_litC (w : World) (base : Nat) (cs : Array Value) (T : TypeId) (hb : base ≤ w.heap.size) (hm : cs.size ≤ 1000) : (w.alloc (.cells cs T)).ownsRow base T 1 (.slice (some ⟨w.heap.size, 0, none⟩) cs.size cs.size) cs.size cs.toList :=
  ⟨by simp, Or.inr ⟨w.heap.size, cs.size, cs, rfl, hb, heap_alloc_new w _, Nat.le_refl _, by unfold maxLen; omega, by omega, by simp [List.take_of_length_le]⟩⟩
/-- The check, as it stands: its first bytes. -/
def sumK (x j : Nat) : List UInt8 := (List.range j).map fun i => (x / 256 ^ i % 256).toUInt8
theorem sumK_succ (x j : Nat) : sumK x (j + 1) = sumK x j ++ [(x / 256 ^ j % 256).toUInt8] := by unfold sumK; rw [List.range_succ, List.map_append]; rfl
theorem sumK_len (x j : Nat) : (sumK x j).length = j := by unfold sumK; simp
def sumN (x : Nat) : List UInt8 := sumK x 4
set_option maxHeartbeats 1000000 in
set_option maxRecDepth 100000 in
theorem check_any (l : List UInt8) (v : Value) (w : World) (hl : l.length ≤ 1000000) (hv : RepB w (fun k => k < w.heap.size) false l v) :
    Calls Tryz.prog 67 #[v] w (GivesB 5 w (sumN (Crc.crcS l))) := by
  obtain ⟨hl1, ad, cp, rfl, hcp⟩ := hv.shape
  obtain ⟨i0, hi0, hz0, hz1, hz2⟩ := info_parts infoByteC
  have hb1 : Below w.heap.size w (w.alloc (.cells #[.slice ad l.length cp] 29)) := (Below.refl _ _).alloc (Nat.le_refl _) _
  have hcell : (w.alloc (.cells #[.slice ad l.length cp] 29)).cell? ⟨w.heap.size, 0, none⟩ = some (.slice ad l.length cp) := by
    have e := heap_alloc_new w (.cells #[.slice ad l.length cp] 29)
    unfold World.cell?
    rw [e]; rfl
  have hcs := crcSum_any l (.slice ad l.length cp) w.heap.size 1 (w.alloc (.cells #[.slice ad l.length cp] 29)) hl (Nat.le_refl _) hcell (by simp) (Sl.keep (hv.below hb1 (Nat.le_refl _)) (by omega) (fun b _ _ => rfl) (fun b hb _ => hb))
  have HCS := Lib.hid hcs
  have HB1 := Lib.hid hb1
  clear hcs hb1 hv
  go_enter Tryz.func67, Tryz.ntmps67
  go_wp2_with (go_at_call 95; refine HCS.out.mono ?_; rintro e w1 ⟨rfl, hb2⟩)
  have HB2 := Lib.hid (HB1.out.trans (hb2.mono (by simp)))
  clear hb2
  go_loopw [2, 3, 7] (fun sv c i wr => ∃ j : Nat, j ≤ 4 ∧ i = .int .i64 j ∧ c = .int .u32 ((Crc.crcS l / 256 ^ j : Nat) : Int) ∧ wr.ownsRow w.heap.size 5 1 sv j (bytes (sumK (Crc.crcS l) j)) ∧ Below w.heap.size w wr) (fun _ _ i _ => 4 - (intOf i).toNat)
  case atStart => exact ⟨0, by omega, rfl, by simp, World.ownsRow_nil _ _ _ _, HB2.out⟩
  case round =>
    obtain ⟨j, hj, rfl, rfl, hown, hbel⟩ := hrel
    have hsz := hbel.size
    have hob := hown.lt
    have HOWN := Lib.hid hown
    clear hown
    by_cases h4 : j < 4
    · have hx : Crc.crcS l < 4294967296 := by unfold Crc.crcS; exact Nat.xor_lt_two_pow (n := 32) (by decide) (Crc.regS_lt l (by decide))
      have hd : Crc.crcS l / 256 ^ j < 4294967296 := Nat.lt_of_le_of_lt (Nat.div_le_self _ _) hx
      generalize hX : Crc.crcS l / 256 ^ j = X at hd ⊢
      have HX := Lib.hid hX
      clear hX hx
      go_wp2_with (at_builtin; go_loud (refine wpList_append_sl _ rfl (.tmp 9) (.tmp 12) _ rfl w.heap.size 5 i0 _ 1 1 Tryz.underlying29 hi0 hz0 hz1 hz2 rfl (by omega) _ j (bytes (sumK (Crc.crcS l) j)) rfl (HOWN.out.alloc _) _ _ 1 [.int .u8 ((X : Int) % 256)] _ rfl (Sl.of_owns (ownsRow_litC wr 0 #[.int .u8 ((X : Int) % 256)] 5 (Nat.zero_le _) (by simp)) (by omega)) (by simp [Value.oneCell']) (by unfold maxLen; omega) (by omega) (by simp; omega) ?_); intro v' w2 hown2 hgrow hat)
      have HO2 := Lib.hid (And.intro hown2 (And.intro hgrow hat))
      clear hown2 hgrow hat
      go_wp2_with fail
      go_roundw
      case rel =>
        obtain ⟨hown2, hgrow, hat⟩ := HO2.out
        refine ⟨j + 1, by omega, by go_num, ?_, ?_, ?_⟩
        · rw [Nat.pow_succ, ← Nat.div_div_eq_div_mul, HX.out]; simp
        · rw [sumK_succ, HX.out]
          have hu : ((X % 256).toUInt8.toNat : Int) = (X : Int) % 256 := by rw [u8_toNat (by omega)]; simp
          simpa [bytes, hu] using hown2
        · exact (hbel.alloc (by omega) _).grown hgrow (by simp; omega) (fun k hk => (hob k hk).1)
      case measure => simp [intOf]; omega
    · have : j = 4 := by omega
      subst this
      go_wp2_with fail
      go_ret
      exact ⟨_, rfl, by rw [show sumN (Crc.crcS l) = sumK (Crc.crcS l) 4 from rfl, sumK_len]; exact HOWN.out, hbel⟩
end Go.Proofs.YtagnalfkmdjajaaGreatDoor
namespace Go.Proofs.YtagnalfkmdjajaaGreatDoor
open Go.RowKit Go
set_option linter.unusedVariables false
set_option linter.unusedSimpArgs false
end Go.Proofs.YtagnalfkmdjajaaGreatDoor
namespace Go.Proofs.YtagnalfkmdjajaaGreatDoor
open Go.RowKit Go
set_option linter.unusedVariables false
set_option linter.unusedSimpArgs false
end Go.Proofs.YtagnalfkmdjajaaGreatDoor
namespace Go.Proofs.YtagnalfkmdjajaaGreatDoor
open Go.RowKit Go
set_option linter.unusedVariables false
set_option linter.unusedSimpArgs false
theorem sl_litC (w : World) (S : Nat → Prop) (cs : Array Value) (T : TypeId) (n cap : Nat) (hn : n ≤ cs.size) (hm : n ≤ cap) (hS : S w.heap.size) (h63 : n ≤ 1000) : Sl (w.alloc (.cells cs T)) S true 1 n (cs.toList.take n) (.slice (some ⟨w.heap.size, 0, none⟩) n cap) := by
  refine ⟨by simp; omega, by omega, _, _, rfl, hm, fun _ => ⟨_, _, rfl, hS, fun j hj => ?_⟩⟩
  have hj2 : j < cs.size := by simp at hj; omega
  rw [cell_of_row _ _ (0 + j) cs T (0, 0) (heap_alloc_new w _), frozen_of_row _ _ (0 + j) cs T (heap_alloc_new w _)]
  simp [hj2]
theorem repB_litC (w : World) (q : Nat) (hq : q < 256) (T : TypeId) : RepB (w.alloc (.cells #[.int .u8 (q : Int)] T)) (fun _ => True) true [q.toUInt8] (.slice (some ⟨w.heap.size, 0, none⟩) 1 1) := by
  have h := sl_litC w (fun _ => True) #[.int .u8 (q : Int)] T 1 1 (by simp) (by omega) trivial (by omega)
  unfold RepB
  simpa [bytes, u8_toNat hq] using h
set_option maxHeartbeats 1000000 in
set_option maxRecDepth 100000 in
theorem wrTextC_any (own : Bool) (wb : Nat) (sv : Value) (l m : List UInt8) (v : Value) (w : World) (hw : Wr 65 5 w wb sv l) (hr : RepB w (fun b => b ≠ wb ∧ sv.ownBlock ≠ some b) own m v) (h1 : l.length + m.length ≤ 900000) :
    Calls Tryz.prog 66 #[.pointer (some ⟨wb, 0, none⟩), v] w (Wg 65 5 w wb sv (l ++ (putVs [m.length] ++ m)) (.int .i64 0)) := by
  obtain ⟨hl, ad, cap, rfl, hc⟩ := hr.shape
  have hlt := hw.lt
  have hb0 : Below w.heap.size w (w.alloc (.cells #[.int .u64 (m.length : Nat)] 50)) := (Below.refl _ _).alloc (Nat.le_refl _) _
  have q1 : IntKind.u64.wrap (m.length : Int) = (m.length : Int) := by unfold IntKind.wrap; simp [IntKind.signed, IntKind.bits]; omega
  have HN := Lib.hid (wrNumber_any true wb sv l [m.length] (.slice (some ⟨w.heap.size, 0, none⟩) 1 1) _ (hw.below hb0) (by simpa [nums] using sl_litC w _ #[.int .u64 (m.length : Nat)] 50 1 1 (by simp) (by omega) ⟨by omega, fun e => by have := (hlt.2 _ e).2; omega⟩ (by omega)) (by intro n hn; simp at hn; omega) (by simp; omega))
  have HR := Lib.hid (And.intro (hr.below hb0 (Nat.le_refl _)) (And.intro (hw.below hb0) (Wrote.of_below (wb := wb) (sv := sv) hb0)))
  clear hr hw
  go_enter Tryz.func66, Tryz.ntmps66
  go_wp2_with fail
  refine HN.out.mono ?_
  rintro e w1 ⟨rfl, sv1, hw1, ht1⟩
  have hr1 : RepB w1 (fun b => b ≠ wb ∧ sv.ownBlock ≠ some b) own m (.slice ad m.length cap) := Sl.keep HR.out.1 (by omega) (fun b hb hl => ht1.keep b hl hb.1 hb.2) (fun _ _ h => h)
  have HQ := Lib.hid (And.intro hr1 (And.intro hw1 (HR.out.2.2.trans ht1)))
  clear hr1 hw1 ht1
  go_wp2_with fail
  refine (wrRaw_any _ own wb sv1 (l ++ putVs [m.length]) m _ w1 HQ.out.2.1 HQ.out.1 (by have := putVs_length [m.length]; simp at this ⊢; omega)).mono ?_
  rintro e w2 ⟨rfl, sv2, hw2, ht2⟩
  have HZ := Lib.hid (And.intro hw2 (HQ.out.2.2.trans ht2))
  clear hw2 ht2
  go_wp2_with fail
  go_ret
  exact ⟨rfl, sv2, by rw [← List.append_assoc]; exact HZ.out.1, HZ.out.2⟩
/-- How a frame stands, but for its check. -/
def frameH (k : Nat) (l : List UInt8) : List UInt8 := k.toUInt8 :: (putVs [l.length] ++ l)
def frameB (k : Nat) (l : List UInt8) : List UInt8 := frameH k l ++ sumN (Crc.crcS (frameH k l))
theorem frameB_len (k : Nat) (l : List UInt8) : (frameB k l).length ≤ l.length + 15 := by
  have := putVs_length [l.length]
  unfold frameB frameH sumN
  rw [List.length_append, sumK_len]
  simp at this ⊢; omega
set_option maxHeartbeats 2000000 in
set_option maxRecDepth 100000 in
theorem frPut_any (k : Nat) (l : List UInt8) (v : Value) (q cap : Nat) (w : World) (hk : k < 256) (hl : l.length ≤ 800000) (hcp : 1 ≤ cap) (hq0 : w.cell? ⟨q, 0, none⟩ = some (.int .u8 k)) (hq1 : w.cell? ⟨q, 1, none⟩ = some v) (hqs : q < w.heap.size) (hv : RepB w (fun b => b < w.heap.size) false l v) :
    Calls Tryz.prog 30 #[.slice (some ⟨q, 0, none⟩) 1 cap] w (GivesB 5 w (frameB k l)) := by
  obtain ⟨i0, hi0, hz0, hz1, hz2⟩ := info_parts infoByteC
  obtain ⟨hl1, ad, cp, rfl, hcp'⟩ := hv.shape
  have HV := Lib.hid hv
  have HQ := Lib.hid (And.intro hq0 hq1)
  clear hv hq0 hq1
  go_enter Tryz.func30, Tryz.ntmps30
  go_wp2_with fail
  go_loopw [3, 10] (fun sv i wr => ∃ j : Nat, j ≤ 1 ∧ i = .int .i64 j ∧ (j = 0 → sv = .slice none 0 0) ∧ (j = 1 → wr.ownsRow w.heap.size 5 1 sv (frameB k l).length (bytes (frameB k l))) ∧ Below w.heap.size w wr) (fun _ i _ => 1 - (intOf i).toNat)
  case atStart => exact ⟨0, by omega, rfl, fun _ => rfl, (fun h => by cases h), Below.refl _ _⟩
  case round =>
    obtain ⟨j, hj, rfl, hnil, hown, hbel⟩ := hrel
    by_cases h0 : j = 0
    · subst h0
      obtain rfl := hnil rfl
      clear hnil
      have c0 := (hbel.cell (p := ⟨q, 0, none⟩) hqs).trans HQ.out.1
      have c1 := (hbel.cell (p := ⟨q, 1, none⟩) hqs).trans HQ.out.2
      have HV1 := Lib.hid (HV.out.below hbel (Nat.le_refl _))
      clear hown
      go_upto_region 6 with fail
      have hb1 : Below wr.heap.size wr (wr.alloc (.cells #[.int .u8 k, .slice ad l.length cp] 72)) := (Below.refl _ _).alloc (Nat.le_refl _) _
      have hb2 : Below wr.heap.size wr ((wr.alloc (.cells #[.int .u8 k, .slice ad l.length cp] 72)).alloc (.cells #[.slice none 0 0] 65)) := hb1.alloc (by simp) _
      have g0 : ((wr.alloc (.cells #[.int .u8 k, .slice ad l.length cp] 72)).alloc (.cells #[.slice none 0 0] 65)).heap[wr.heap.size]? = some (.cells #[.int .u8 k, .slice ad l.length cp] 72 (0, 0)) :=
        (Below.heap_alloc _ _ _ (by simp)).trans (heap_alloc_new wr _)
      have g1 : Wr 65 5 ((wr.alloc (.cells #[.int .u8 k, .slice ad l.length cp] 72)).alloc (.cells #[.slice none 0 0] 65)) (wr.heap.size + 1) (.slice none 0 0) [] :=
        ⟨by have := heap_alloc_new (wr.alloc (.cells #[.int .u8 k, .slice ad l.length cp] 72)) (.cells #[.slice none 0 0] 65); rw [World.size_alloc] at this; exact this, World.ownsRow_nil _ _ _ _⟩
      have g2 : ((wr.alloc (.cells #[.int .u8 k, .slice ad l.length cp] 72)).alloc (.cells #[.slice none 0 0] 65)).heap.size = wr.heap.size + 2 := by rw [World.size_alloc, World.size_alloc]
      generalize (wr.alloc (.cells #[.int .u8 k, .slice ad l.length cp] 72)).alloc (.cells #[.slice none 0 0] 65) = X at hb2 g0 g1 g2 ⊢
      clear hb1
      have d0 : X.cell? ⟨wr.heap.size, 0, none⟩ = some (.int .u8 k) := by unfold World.cell?; rw [g0]; rfl
      have d1 : X.cell? ⟨wr.heap.size, 1, none⟩ = some (.slice ad l.length cp) := by unfold World.cell?; rw [g0]; rfl
      have hbA : Below X.heap.size X (X.alloc (.cells #[.int .u8 k] 5)) := (Below.refl _ _).alloc (Nat.le_refl _) _
      have HRAW := Lib.hid (wrRaw_any (fun _ => True) true (wr.heap.size + 1) (.slice none 0 0) [] [k.toUInt8] (.slice (some ⟨X.heap.size, 0, none⟩) 1 1) _ (g1.below hbA) (repB_litC X k hk 5) (by simp))
      have HX := Lib.hid (And.intro hb2 (And.intro (g1.below hbA) (And.intro g2 (And.intro hbA d1))))
      clear g0 g1 g2 hb2 hbA d1
      go_wp2_with fail
      refine HRAW.out.mono ?_
      rintro e w1 ⟨rfl, sv1, hw1, ht1⟩
      obtain ⟨hb2, g1, g2, hbA, d1⟩ := HX.out
      have hB1 : Below (wr.heap.size + 1) X w1 := (hbA.mono (by omega)).trans (ht1.below g1)
      have d2 : w1.cell? ⟨wr.heap.size, 1, none⟩ = some (.slice ad l.length cp) := (hB1.cell (p := ⟨wr.heap.size, 1, none⟩) (by simp)).trans d1
      have hsz := hbel.size
      have hBw1 : Below w.heap.size w w1 := hbel.trans ((hb2.mono hsz).trans (hB1.mono (by omega)))
      have hlt1 := hw1.lt
      have hrep1 : RepB w1 (fun b => b ≠ wr.heap.size + 1 ∧ sv1.ownBlock ≠ some b) false l (.slice ad l.length cp) :=
        Sl.keep (HV.out.below hBw1 (Nat.le_refl _)) (by omega) (fun b _ _ => rfl) (fun b _ hb => ⟨(by have hb : b < w.heap.size := hb; omega), fun e => (by have hb : b < w.heap.size := hb; have := (hlt1.2 b e).1; omega)⟩)
      have HT := Lib.hid (wrTextC_any false (wr.heap.size + 1) sv1 ([] ++ [k.toUInt8]) l _ w1 hw1 hrep1 (by simp; omega))
      have HW1 := Lib.hid (And.intro hw1 (And.intro hBw1 hsz))
      clear hw1 ht1 hB1 hb2 g1 g2 hbA d1 hBw1 hrep1 hlt1 d0 hsz
      go_wp2_with fail
      refine HT.out.mono ?_
      rintro e w2 ⟨rfl, sv2, hw2, ht2⟩
      obtain ⟨hw1, hBw1, hsz⟩ := HW1.out
      have hBw2 : Below w.heap.size w w2 := hBw1.trans ((ht2.below hw1).mono (by omega))
      have hH : [] ++ [k.toUInt8] ++ (putVs [l.length] ++ l) = frameH k l := rfl
      rw [hH] at hw2
      have hHl : (frameH k l).length ≤ 800011 := by have := putVs_length [l.length]; unfold frameH; simp at this ⊢; omega
      have HBY := Lib.hid (wrBytes_any (wr.heap.size + 1) sv2 (frameH k l) w2 hw2 (by omega))
      have HW2 := Lib.hid hBw2
      clear hw1 hBw1 hw2 ht2 hBw2 d2 hH hsz
      go_wp2_with fail
      refine HBY.out.mono ?_
      rintro e w3 ⟨v3, rfl, hown3, hb3⟩
      have hsw := HW2.out.size
      have hb3s := hb3.size
      have HB3 := Lib.hid (HW2.out.trans (hb3.mono hsw))
      have HS3 := Lib.hid (Sl.of_owns hown3 (by omega))
      have hlt3 := hown3.lt
      have H3 := Lib.hid hown3
      obtain ⟨va3, vc3, rfl⟩ := owns_slice hown3
      clear hown3 hb3
      go_wp2_with (at_builtin; go_loud (refine wpList_append_sl _ rfl (.tmp 22) (.tmp 23) _ rfl w.heap.size 5 i0 _ 1 1 Tryz.underlying29 hi0 hz0 hz1 hz2 rfl (by omega) _ 0 [] rfl (World.ownsRow_nil _ _ _ _) _ _ (frameH k l).length (bytes (frameH k l)) _ rfl HS3.out (bytes_one _) (by unfold maxLen; omega) (by omega) (by omega) ?_); intro v4 w4 hown4 hgrow4 hat4)
      have hsz4 := hgrow4.size
      have hrep4 : RepB w4 (fun b => b < w4.heap.size) false (frameH k l) (.slice va3 (frameH k l).length vc3) := Sl.keep (Sl.unown HS3.out) (by omega) (keeps_grown hgrow4 (fun b hb e => by cases e)) (fun b hb _ => by omega)
      have HO4 := Lib.hid (And.intro hown4 hgrow4)
      have HCK := Lib.hid (check_any (frameH k l) _ w4 (by omega) hrep4)
      clear hown4 hgrow4 hat4 hrep4
      refine HCK.out.mono ?_
      rintro e w5 ⟨v5, rfl, hown5, hb5⟩
      have hsz5 := hb5.size
      have HO5 := Lib.hid (And.intro hown5 hb5)
      clear hown5 hb5
      go_wp2_with (at_builtin; go_loud (refine wpList_append_sl _ rfl (.tmp 24) (.tmp 26) _ rfl w.heap.size 5 i0 _ 1 1 Tryz.underlying29 hi0 hz0 hz1 hz2 rfl (by omega) _ _ _ rfl (ownsRow_below HO4.out.1 HO5.out.2 (Nat.le_refl _)) _ _ _ _ _ rfl (Sl.of_owns HO5.out.1 (by omega)) (bytes_one _) (by unfold maxLen sumN; rw [sumK_len]; omega) (by unfold sumN; rw [sumK_len]; omega) (by omega) ?_); intro v6 w6 hown6 hgrow6 hat6)
      have HO6 := Lib.hid (And.intro hown6 hgrow6)
      clear hown6 hgrow6 hat6
      go_wp2_with fail
      go_roundw
      case rel =>
        refine ⟨1, by omega, rfl, (fun h => by cases h), fun _ => ?_, ?_⟩
        · have h := HO6.out.1
          have e1 : ([] ++ bytes (frameH k l)) ++ bytes (sumN (Crc.crcS (frameH k l))) = bytes (frameB k l) := by unfold frameB; simp [bytes]
          have e2 : (0 + (frameH k l).length) + (sumN (Crc.crcS (frameH k l))).length = (frameB k l).length := by unfold frameB; simp
          rw [e1, e2] at h
          exact h
        · have hlo := HO4.out.1.lt
          exact (((HB3.out).grown HO4.out.2 (by omega) (fun k hk => by cases hk)).trans (HO5.out.2.mono (by omega))).grown HO6.out.2 (by omega) (fun k hk => (hlo k hk).1)
      case measure => simp [intOf]
    · have : j = 1 := by omega
      subst this
      have HOWN := Lib.hid (hown rfl)
      clear hown hnil
      go_wp2_with fail
      go_ret
      exact ⟨_, rfl, HOWN.out, hbel⟩
end Go.Proofs.YtagnalfkmdjajaaGreatDoor
namespace Go.Proofs.YtagnalfkmdjajaaGreatDoor
open Go.RowKit Go
set_option linter.unusedVariables false
set_option linter.unusedSimpArgs false
end Go.Proofs.YtagnalfkmdjajaaGreatDoor
namespace Go.Proofs.YtagnalfkmdjajaaGreatDoor
open Go.RowKit Go
set_option linter.unusedVariables false
set_option linter.unusedSimpArgs false
end Go.Proofs.YtagnalfkmdjajaaGreatDoor
