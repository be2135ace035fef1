/- Walks. -/
import Derived.Test.YtagnalfkmdjajaaGreatDoorY21
import Derived.Test.YtagnalfkmdjajaaGreatDoorYW03
import Derived.Deep.CutRange
import Derived.Lib.ConvBytes
import Derived.Lib.AppendIntMem
import Derived.Lib.Strings
import Derived.Lib.AtoiErrMem
set_option maxHeartbeats 2000000
set_option maxRecDepth 100000
namespace Go.Proofs.YtagnalfkmdjajaaGreatDoor
open Go.RowKit Go
set_option linter.unusedVariables false
set_option linter.unusedSimpArgs false
theorem wrap_u32 (n : Int) : IntKind.u32.wrap n = n % 4294967296 := by simp [IntKind.wrap, IntKind.bits, IntKind.signed]
theorem ofInt32 (a : Nat) (ha : a < 4294967296) : (BitVec.ofInt 32 (a : Int)).toNat = a := by
 rw [BitVec.ofInt_natCast, BitVec.toNat_ofNat]; exact Nat.mod_eq_of_lt (by omega)
theorem dx (a b : Nat) (ha : a < 4294967296) (hb : b < 4294967296) : bits .xor .u32 (a : Int) (b : Int) = ((a ^^^ b : Nat) : Int) := by
 have hx : a ^^^ b < 2 ^ 32 := Nat.xor_lt_two_pow (by omega) (by omega)
 show IntKind.u32.wrap ((BitVec.ofInt 32 (a : Int) ^^^ BitVec.ofInt 32 (b : Int)).toNat : Int) = _
 rw [BitVec.toNat_xor, ofInt32 a ha, ofInt32 b hb, wrap_u32]
 omega
theorem bits_and_u32_nat (a b : Nat) (ha : a < 4294967296) (hb : b < 4294967296) : bits .and .u32 (a : Int) (b : Int) = ((a &&& b : Nat) : Int) := by
 have hx : a &&& b < 2 ^ 32 := Nat.and_lt_two_pow _ (by omega)
 show IntKind.u32.wrap ((BitVec.ofInt 32 (a : Int) &&& BitVec.ofInt 32 (b : Int)).toNat : Int) = _
 rw [BitVec.toNat_and, ofInt32 a ha, ofInt32 b hb, wrap_u32]
 omega
theorem Af : IntKind.u32.max = ((4294967295 : Nat) : Int) := by simp [IntKind.max, IntKind.signed, IntKind.bits]
theorem Cf (r : Nat) : 4294967295 ^^^ (4294967295 ^^^ r) = r := by rw [← Nat.xor_assoc, Nat.xor_self, Nat.zero_xor]
theorem not_not (r : Nat) (hr : r < 4294967296) : bits .xor .u32 IntKind.u32.max ((4294967295 ^^^ r : Nat) : Int) = (r : Int) := by
 rw [Af, dx _ _ (by decide) (Nat.xor_lt_two_pow (n := 32) (by decide) hr), Cf]
theorem DJ (r : Nat) (hr : r < 4294967296) : bits .xor .u32 IntKind.u32.max (r : Int) = ((4294967295 ^^^ r : Nat) : Int) := by
 rw [Af, dx _ _ (by decide) hr]
theorem Cg (x : Nat) (hx : x < 4294967296) : bits .xor .u32 ((x : Int) / 2) (bits .and .u32 3988292384 (-(bits .and .u32 (x : Int) 1) % 4294967296)) = ((Crc.lT x : Nat) : Int) := by
 have e1 : bits .and .u32 (x : Int) 1 = ((x % 2 : Nat) : Int) := by
  rw [show (1 : Int) = ((1 : Nat) : Int) from rfl, bits_and_u32_nat x 1 hx (by decide), Nat.and_one_is_mod]
 have e2 : (x : Int) / 2 = ((x / 2 : Nat) : Int) := by omega
 rw [e1, e2]
 unfold Crc.lT Crc.poly
 rcases Nat.mod_two_eq_zero_or_one x with h | h
 ·rw [h, if_neg (by decide)]
  rw [show (-((0 : Nat) : Int)) % 4294967296 = ((0 : Nat) : Int) from rfl, show (3988292384 : Int) = ((3988292384 : Nat) : Int) from rfl, bits_and_u32_nat _ _ (by decide) (by decide), dx _ _ (by omega) (by decide)]
  rfl
 ·rw [h, if_pos rfl]
  rw [show (-((1 : Nat) : Int)) % 4294967296 = ((4294967295 : Nat) : Int) from rfl, show (3988292384 : Int) = ((3988292384 : Nat) : Int) from rfl, bits_and_u32_nat _ _ (by decide) (by decide), dx _ _ (by omega) (by decide)]
  rfl
theorem wH (b c r m : Nat) (w : World) (hc : c < 256) (hr : r < 4294967296) (hm : m ≤ 1000000000) (hw : w.heap[b]? = some (.cells #[.int .u32 ((4294967295 ^^^ r : Nat) : Int), .int .i64 m] 193 (0, 0))) :
  Calls Tryz.prog 144 #[.pointer (some ⟨b, 0, none⟩), .int .u8 c] w fun e w' => e = .returned (.tuple #[]) ∧ w' = (w.setCell ⟨b, 0, none⟩ (.int .u32 ((4294967295 ^^^ Crc.qh r c : Nat) : Int))).setCell ⟨b, 1, none⟩ (.int .i64 ((m + 1 : Nat) : Int)) := by
 have c0 : w.cell? ⟨b, 0, none⟩ = some (.int .u32 ((4294967295 ^^^ r : Nat) : Int)) := by simp [World.cell?, hw]
 have c1 : w.cell? ⟨b, 1, none⟩ = some (.int .i64 m) := by simp [World.cell?, hw]
 have f0 : w.frozen? ⟨b, 0, none⟩ = false := by simp [World.frozen?, hw]
 have f1 : w.frozen? ⟨b, 1, none⟩ = false := by simp [World.frozen?, hw]
 have hsg : IntKind.u32.signed = false := rfl
 have H := hid hw
 have HC := hid hc
 have HR := hid hr
 clear hw hc hr
 go_enter Tryz.func144, Tryz.ntmps144
 go_wp2_with fail
 go_loop [4, 13] (fun x i => ∃ j : Nat, j ≤ 8 ∧ i = .int .i64 j ∧ x = .int .u32 ((Crc.bits j (r ^^^ c) : Nat) : Int)) (fun _ i => 8 - (intOf i).toNat)
 case atStart => exact ⟨0, by omega, rfl, by rw [not_not r HR.out, show ((c : Int) % 4294967296) = (c : Int) by have := HC.out; omega, dx r c HR.out (by have := HC.out; omega)]; rfl⟩
 case round =>
  obtain ⟨j, hj, rfl, rfl⟩ := hrel
  have hX : Crc.bits j (r ^^^ c) < 4294967296 := Crc.uS j (Nat.xor_lt_two_pow (n := 32) HR.out (by have := HC.out; show c < 4294967296; omega))
  have HX := hid hX
  clear hX
  by_cases h8 : j < 8
  ·go_wp2_with fail
   go_round
   case rel => exact ⟨j + 1, by omega, by go_num, by rw [Cg _ HX.out, ← Crc.tX]⟩
   case measure => simp [intOf]; omega
  ·have : j = 8 := by omega
   subst this
   go_wp2_with fail
   go_end0
   rw [DJ _ HX.out]
   exact ⟨rfl, rfl⟩
theorem AP (l : List UInt8) (s j : Nat) (h : j < l.length) : Crc.ll (l.take (j + 1)) s = Crc.qh (Crc.ll (l.take j) s) (l[j]).toNat := by
 rw [List.take_succ_eq_append_getElem h]
 have : ∀ (a : List UInt8) (c : UInt8) (s : Nat), Crc.ll (a ++ [c]) s = Crc.qh (Crc.ll a s) c.toNat := by
  intro a
  induction a with
  | nil => intro c s; rfl
  | cons x a ih => intro c s; exact ih c _
 exact this _ _ _
theorem yB (b B r : Nat) (l : List UInt8) (v : Value) (w : World) (hl : l.length ≤ 1000000) (hr : r < 4294967296) (hB : B ≤ b) (hv : au w (fun k => k < B) false l v) (hw : w.heap[b]? = some (.cells #[.int .u32 ((4294967295 ^^^ r : Nat) : Int), .int .i64 ((0 : Nat) : Int)] 193 (0, 0))) :
  Calls Tryz.prog 120 #[.pointer (some ⟨b, 0, none⟩), v] w fun e w' => e = .returned (.tuple #[]) ∧ w'.heap[b]? = some (.cells #[.int .u32 ((4294967295 ^^^ Crc.ll l r : Nat) : Int), .int .i64 ((l.length : Nat) : Int)] 193 (0, 0)) ∧ Below B w w' := by
 obtain ⟨hl1, ad, cap, rfl, hcap⟩ := hv.shape
 have HW := hid hw
 have HV := hid hv
 have HR := hid hr
 clear hw hv hr
 go_enter Tryz.func120, Tryz.ntmps120
 go_wp2_with fail
 go_loopw [10] (fun i wr => ∃ j : Nat, j ≤ l.length ∧ i = .int .i64 j ∧ wr.heap[b]? = some (.cells #[.int .u32 ((4294967295 ^^^ Crc.ll (l.take j) r : Nat) : Int), .int .i64 ((j : Nat) : Int)] 193 (0, 0)) ∧ Below B w wr) (fun i _ => l.length - (intOf i).toNat)
 case atStart => exact ⟨0, Nat.zero_le _, rfl, HW.out, br⟩
 case round =>
  obtain ⟨j, hj, rfl, hwr, hbel⟩ := hrel
  by_cases hlt : j < l.length
  ·obtain ⟨bl, off, rfl, hbl, hcell⟩ := HV.out.cell (by omega)
   have hc := (hbel.cell (p := ⟨bl, off + j, none⟩) hbl).trans (hcell j hlt).1
   have HB := hid (wH b (l[j]).toNat (Crc.ll (l.take j) r) j wr (by have := (l[j]).toNat_lt; omega) (Crc.mi _ HR.out) (by omega) hwr)
   have HWR := hid hwr
   clear hwr
   go_wp2_with (go_at_call 144; refine HB.out.mono ?_; rintro e w1 ⟨rfl, rfl⟩)
   go_roundw
   case rel =>
    refine ⟨j + 1, hlt, by go_num, ?_, ?_⟩
    ·rw [AP l r j hlt, show ((j + 1 : Nat) : Int) = (j : Int) + 1 by simp]
     exact aQ (aQ HWR.out rfl) rfl
    ·exact (hbel.setCell (p := ⟨b, 0, none⟩) hB _).setCell (p := ⟨b, 1, none⟩) hB _
   case measure => simp [intOf]; omega
  ·have hj2 : j = l.length := by omega
   subst hj2
   rw [List.take_of_length_le nl] at hwr
   have HWR := hid hwr
   clear hwr
   go_wp2_with fail
   go_end0
   exact ⟨rfl, HWR.out, hbel⟩
theorem uW (b : Nat) (x : Int) (w : World) (c0 : w.cell? ⟨b, 0, none⟩ = some (.int .u32 x)) : Calls Tryz.prog 121 #[.pointer (some ⟨b, 0, none⟩)] w fun e w' => e = .returned (.int .u32 x) ∧ w' = w := by
 go_enter Tryz.func121, Tryz.ntmps121
 go_wp2_with fail
 go_ret
 exact ⟨rfl, rfl⟩
theorem yC (l : List UInt8) (v : Value) (q cap : Nat) (w : World) (hl : l.length ≤ 1000000) (hcp : 1 ≤ cap) (hq : w.cell? ⟨q, 0, none⟩ = some v) (hqs : q < w.heap.size) (hv : au w (fun k => k < w.heap.size) false l v) :
  Calls Tryz.prog 95 #[.slice (some ⟨q, 0, none⟩) 1 cap] w fun e w' => e = .returned (.int .u32 (Crc.fw l : Nat)) ∧ Below w.heap.size w w' := by
 have HV := hid hv
 have HQ := hid hq
 clear hv hq
 go_enter Tryz.func95, Tryz.ntmps95
 go_wp2_with fail
 go_loopw [8] (fun i wr => ∃ j : Nat, j ≤ 1 ∧ i = .int .i64 j ∧ wr.heap[w.heap.size]? = some (.cells #[.int .u32 ((4294967295 ^^^ Crc.ll (if j = 0 then [] else l) 4294967295 : Nat) : Int), .int .i64 (((if j = 0 then 0 else l.length : Nat) : Nat) : Int)] 193 (0, 0)) ∧ Below w.heap.size w wr) (fun i _ => 1 - (intOf i).toNat)
 case atStart => exact ⟨0, by omega, rfl, (by simpa [Crc.ll] using heap_alloc_new w (.cells #[.int .u32 0, .int .i64 0] 193)), br.alloc nl _⟩
 case round =>
  obtain ⟨j, hj, rfl, hwr, hbel⟩ := hrel
  by_cases h0 : j = 0
  ·subst h0
   have hc := (hbel.cell (p := ⟨q, 0, none⟩) hqs).trans HQ.out
   have HB := hid (yB w.heap.size w.heap.size 4294967295 l v wr hl (by decide) nl (HV.out.below hbel nl) hwr)
   clear hwr
   go_wp2_with (go_at_call 120; refine HB.out.mono ?_; rintro e w1 ⟨rfl, hw1, hb1⟩; have HW1 := hid (And.intro hw1 hb1); clear hw1 hb1)
   go_roundw
   case rel => exact ⟨1, by omega, rfl, HW1.out.1, hbel.trans HW1.out.2⟩
   case measure => simp [intOf]
  ·have : j = 1 := by omega
   subst this
   have c0 : wr.cell? ⟨w.heap.size, 0, none⟩ = some (.int .u32 ((4294967295 ^^^ Crc.ll l 4294967295 : Nat) : Int)) := by simp [World.cell?, hwr]
   have HB := hid (uW w.heap.size _ wr c0)
   clear hwr c0
   go_wp2_with (go_at_call 121; refine HB.out.mono ?_; rintro e w1 ⟨rfl, rfl⟩)
   go_ret
   exact ⟨rfl, hbel⟩
theorem ji : (Tryz.prog.info? 5).map (fun i => (i.zero, i.size, i.bytes)) = some (some (.int .u8 0), 1, 1) := by kernel_rfl
theorem jA (w : World) (base : Nat) (cs : Array Value) (T : TypeId) (hb : base ≤ w.heap.size) (hm : cs.size ≤ 1000) : (w.alloc (.cells cs T)).ownsRow base T 1 (.slice (some ⟨w.heap.size, 0, none⟩) cs.size cs.size) cs.size cs.toList :=
 ⟨by simp, Or.inr ⟨w.heap.size, cs.size, cs, rfl, hb, heap_alloc_new w _, Nat.le_refl _, by unfold maxLen; omega, by omega, by simp [List.take_of_length_le]⟩⟩
def sI (x j : Nat) : List UInt8 := (List.range j).map fun i => (x / 256 ^ i % 256).toUInt8
theorem AQ (x j : Nat) : sI x (j + 1) = sI x j ++ [(x / 256 ^ j % 256).toUInt8] := by unfold sI; rw [List.range_succ, List.map_append]; rfl
theorem gF (x j : Nat) : (sI x j).length = j := by unfold sI; simp
def gL (x : Nat) : List UInt8 := sI x 4
theorem uk (l : List UInt8) (v : Value) (w : World) (hl : l.length ≤ 1000000) (hv : au w (fun k => k < w.heap.size) false l v) :
  Calls Tryz.prog 67 #[v] w (jo 5 w (gL (Crc.fw l))) := by
 obtain ⟨hl1, ad, cp, rfl, hcp⟩ := hv.shape
 obtain ⟨i0, hi0, hz0, hz1, hz2⟩ := info_parts ji
 have hb1 : Below w.heap.size w (w.alloc (.cells #[.slice ad l.length cp] 29)) := br.alloc nl _
 have hcell : (w.alloc (.cells #[.slice ad l.length cp] 29)).cell? ⟨w.heap.size, 0, none⟩ = some (.slice ad l.length cp) := by
  have e := heap_alloc_new w (.cells #[.slice ad l.length cp] 29)
  unfold World.cell?
  rw [e]; rfl
 have hcs := yC l (.slice ad l.length cp) w.heap.size 1 (w.alloc (.cells #[.slice ad l.length cp] 29)) hl nl hcell (by simp) (Sl.keep (hv.below hb1 nl) (by omega) (fun b _ _ => rfl) (fun b hb _ => hb))
 have HCS := hid hcs
 have HB1 := hid hb1
 clear hcs hb1 hv
 go_enter Tryz.func67, Tryz.ntmps67
 go_wp2_with (go_at_call 95; refine HCS.out.mono ?_; rintro e w1 ⟨rfl, hb2⟩)
 have HB2 := hid (HB1.out.trans (hb2.mono (by simp)))
 clear hb2
 go_loopw [2, 3, 7] (fun sv c i wr => ∃ j : Nat, j ≤ 4 ∧ i = .int .i64 j ∧ c = .int .u32 ((Crc.fw l / 256 ^ j : Nat) : Int) ∧ wr.ownsRow w.heap.size 5 1 sv j (bytes (sI (Crc.fw l) j)) ∧ Below w.heap.size w wr) (fun _ _ i _ => 4 - (intOf i).toNat)
 case atStart => exact ⟨0, by omega, rfl, by simp, World.ownsRow_nil _ _ _ _, HB2.out⟩
 case round =>
  obtain ⟨j, hj, rfl, rfl, hown, hbel⟩ := hrel
  have hsz := hbel.size
  have hob := hown.lt
  have HOWN := hid hown
  clear hown
  by_cases h4 : j < 4
  ·have hx : Crc.fw l < 4294967296 := by unfold Crc.fw; exact Nat.xor_lt_two_pow (n := 32) (by decide) (Crc.mi l (by decide))
   have hd : Crc.fw l / 256 ^ j < 4294967296 := Nat.lt_of_le_of_lt (Nat.div_le_self _ _) hx
   generalize hX : Crc.fw l / 256 ^ j = X at hd ⊢
   have HX := hid hX
   clear hX hx
   go_wp2_with (at_builtin; go_loud (refine af _ rfl (.tmp 9) (.tmp 12) _ rfl w.heap.size 5 i0 _ 1 1 Tryz.underlying29 hi0 hz0 hz1 hz2 rfl (by omega) _ j (bytes (sI (Crc.fw l) j)) rfl (HOWN.out.alloc _) _ _ 1 [.int .u8 ((X : Int) % 256)] _ rfl (Sl.of_owns (jA wr 0 #[.int .u8 ((X : Int) % 256)] 5 (Nat.zero_le _) (by simp)) (by omega)) (by simp [Value.oneCell']) (by unfold maxLen; omega) (by omega) (by simp; omega) ?_); intro v' w2 hown2 hgrow hat)
   have HO2 := hid (And.intro hown2 (And.intro hgrow hat))
   clear hown2 hgrow hat
   go_wp2_with fail
   go_roundw
   case rel =>
    obtain ⟨hown2, hgrow, hat⟩ := HO2.out
    refine ⟨j + 1, by omega, by go_num, ?_, ?_, ?_⟩
    ·rw [Nat.pow_succ, ← Nat.div_div_eq_div_mul, HX.out]; simp
    ·rw [AQ, HX.out]
     have hu : ((X % 256).toUInt8.toNat : Int) = (X : Int) % 256 := by rw [cZ (by omega)]; simp
     simpa [bytes, hu] using hown2
    ·exact (hbel.alloc (by omega) _).grown hgrow (by simp; omega) (fun k hk => (hob k hk).1)
   case measure => simp [intOf]; omega
  ·have : j = 4 := by omega
   subst this
   go_wp2_with fail
   go_ret
   exact ⟨_, rfl, by rw [show gL (Crc.fw l) = sI (Crc.fw l) 4 from rfl, gF]; exact HOWN.out, hbel⟩
theorem ul : (Tryz.prog.info? 4).map (fun i => (i.zero, i.size, i.bytes)) = some (some (.bool false), 1, 1) := by kernel_rfl
def bools (l : List Bool) : List Value := l.map Value.bool
theorem Ag : ∀ (n c k : Nat), k < n → (Crc.jh n c)[k]? = some ((c / 2 ^ k) % 2 == 1)
 | 0, c, k, h => by omega
 | n + 1, c, 0, _ => by rw [Crc.kK]; simp
 | n + 1, c, k + 1, h => by
  rw [Crc.kK, List.getElem?_cons_succ, Ag n (c / 2) k (by omega), Nat.div_div_eq_div_mul, Nat.pow_succ, Nat.mul_comm]
theorem AR (n c k : Nat) (h : k < n) : (Crc.jh n c).take (k + 1) = (Crc.jh n c).take k ++ [((c / 2 ^ k) % 2 == 1)] := by
 rw [List.take_add_one, Ag n c k h]; rfl
theorem uX (l : List UInt8) (j : Nat) (h : j < l.length) : Crc.aD (l.take (j + 1)) = Crc.aD (l.take j) ++ Crc.jh 8 (l[j]).toNat := by
 rw [List.take_succ_eq_append_getElem h]
 have : ∀ (a : List UInt8) (c : UInt8), Crc.aD (a ++ [c]) = Crc.aD a ++ Crc.jh 8 c.toNat := by
  intro a
  induction a with
  | nil => intro c; show Crc.jh 8 c.toNat ++ [] = _; rw [List.append_nil]; rfl
  | cons x a ih => intro c; show Crc.jh 8 x.toNat ++ Crc.aD (a ++ [c]) = _; rw [ih, ← List.append_assoc]; rfl
 exact this _ _
theorem yD (l : List UInt8) (v : Value) (w : World) (hl : l.length ≤ 1000000) (hv : au w (fun k => k < w.heap.size) false l v) :
  Calls Tryz.prog 110 #[v] w fun e w' => ∃ v', e = .returned v' ∧ w'.ownsRow w.heap.size 4 1 v' (Crc.aD l).length (bools (Crc.aD l)) ∧ Below w.heap.size w w' := by
 obtain ⟨i0, hi0, hz0, hz1, hz2⟩ := info_parts ul
 obtain ⟨hl1, ad, cap, rfl, hcap⟩ := hv.shape
 have HV := hid hv
 clear hv
 go_enter Tryz.func110, Tryz.ntmps110
 go_wp2_with fail
 go_loopw [3, 4] (fun sv i wr => ∃ j : Nat, j ≤ l.length ∧ i = .int .i64 j ∧ wr.ownsRow w.heap.size 4 1 sv (8 * j) (bools (Crc.aD (l.take j))) ∧ Below w.heap.size w wr) (fun _ i _ => l.length - (intOf i).toNat)
 case atStart => exact ⟨0, Nat.zero_le _, rfl, World.ownsRow_nil _ _ _ _, br⟩
 case round =>
  obtain ⟨j, hj, rfl, hown, hbel⟩ := hrel
  by_cases hlt : j < l.length
  ·obtain ⟨bl, off, rfl, hbl, hcell⟩ := HV.out.cell (by omega)
   have hc := (hbel.cell (p := ⟨bl, off + j, none⟩) hbl).trans (hcell j hlt).1
   have hc8 := (l[j]).toNat_lt
   have HJ := hid (uX l j hlt)
   generalize l[j] = c at hc hc8 HJ
   have HOWN := hid hown
   have HB := hid hbel
   clear hown hbel hcell
   go_wp2_with fail
   go_loopw [3, 5, 6] (fun sv x i wx => ∃ k : Nat, k ≤ 8 ∧ i = .int .i64 k ∧ x = .int .u8 ((c.toNat / 2 ^ k : Nat) : Int) ∧ wx.ownsRow w.heap.size 4 1 sv (8 * j + k) (bools (Crc.aD (l.take j) ++ (Crc.jh 8 c.toNat).take k)) ∧ Below w.heap.size w wx) (fun _ _ i _ => 8 - (intOf i).toNat)
   case atStart => exact ⟨0, by omega, rfl, by simp, by simpa using HOWN.out, HB.out⟩
   case round =>
    obtain ⟨k, hk, rfl, rfl, hown, hbel⟩ := hrel
    have hsz := hbel.size
    have hob := hown.lt
    have HO := hid hown
    clear hown
    by_cases h8 : k < 8
    ·have hX : c.toNat / 2 ^ k < 256 := Nat.lt_of_le_of_lt (Nat.div_le_self _ _) hc8
     have HK := hid (AR 8 c.toNat k h8)
     have HD : Hid (c.toNat / 2 ^ (k + 1) = (c.toNat / 2 ^ k) / 2) := hid (by rw [Nat.pow_succ, Nat.div_div_eq_div_mul])
     generalize c.toNat / 2 ^ k = X at hX HK HD ⊢
     have hb1 : bools (Crc.aD (l.take j) ++ (Crc.jh 8 c.toNat).take k) ++ [Value.bool ((X : Int) % 2 == 1)] = bools (Crc.aD (l.take j) ++ (Crc.jh 8 c.toNat).take (k + 1)) := by
      have e : ((X : Int) % 2 == 1) = (X % 2 == 1) := by rw [Bool.eq_iff_iff]; simp; omega
      rw [HK.out, e]; simp [bools]
     have HB1 := hid hb1
     clear hb1
     go_wp2_with (at_builtin; go_loud (refine af _ rfl (.tmp 21) (.tmp 25) _ rfl w.heap.size 4 i0 _ 1 1 Tryz.underlying177 hi0 hz0 hz1 hz2 rfl (by omega) _ (8 * j + k) _ rfl (HO.out.alloc _) _ _ 1 [.bool ((X : Int) % 2 == 1)] _ rfl (Sl.of_owns (jA wr 0 #[.bool ((X : Int) % 2 == 1)] 4 (Nat.zero_le _) (by simp)) (by omega)) (by simp [Value.oneCell']) (by unfold maxLen; omega) (by omega) (by simp; omega) ?_); intro v' w2 hown2 hgrow hat)
     have HO2 := hid (And.intro hown2 hgrow)
     clear hown2 hgrow hat
     go_wp2_with fail
     go_roundw
     case rel =>
      have h := HO2.out.1
      rw [HB1.out] at h
      exact ⟨k + 1, by omega, by go_num, by rw [HD.out]; simp, h, (hbel.alloc (by omega) _).grown HO2.out.2 (by simp; omega) (fun k hk => (hob k hk).1)⟩
     case measure => simp [intOf]; omega
    ·have : k = 8 := by omega
     subst this
     go_wp2_with fail
     go_roundw
     case rel =>
      refine ⟨j + 1, hlt, by go_num, ?_, hbel⟩
      rw [HJ.out]
      have h := HO.out
      rw [show (Crc.jh 8 c.toNat).take 8 = Crc.jh 8 c.toNat from List.take_of_length_le (by rw [Crc.qj]; exact Nat.le_refl _)] at h
      exact h
     case measure => simp [intOf]; omega
  ·have hj2 : j = l.length := by omega
   subst hj2
   have HOWN := hid hown
   clear hown
   go_wp2_with fail
   go_ret
   refine ⟨_, rfl, ?_, hbel⟩
   have h := HOWN.out
   rw [List.take_of_length_le nl] at h
   rw [Crc.fE]
   exact h
def gG (M : Nat) (f : Nat → Bool) : List Value := bools (fK M f)
theorem qz (M : Nat) (f : Nat → Bool) (i : Nat) (b : Bool) : (gG M f).set i (.bool b) = gG M (fun p => if p = i then b else f p) := by
 unfold gG bools
 rw [← wF, List.map_set]
theorem kL {w : World} {base g M cap : Nat} {T : TypeId} {f : Nat → Bool} (h : w.ownsRow base T 1 (.slice (some ⟨g, 0, none⟩) M cap) M (gG M f)) (i : Nat) (hi : i < M) : w.cell? ⟨g, i, none⟩ = some (.bool (f i)) ∧ w.frozen? ⟨g, i, none⟩ = false := by
 obtain ⟨hl, h⟩ := h
 rcases h with ⟨h, _⟩ | ⟨g', cap', cur, hv, hb, hg, hn, hm, hs, ht⟩
 ·cases h
 ·simp only [Value.slice.injEq, Option.some.injEq, Addr.mk.injEq, and_true, true_and] at hv
  obtain ⟨rfl, rfl⟩ := hv
  refine ⟨?_, frozen_of_row w g i _ _ hg⟩
  rw [cell_of_row w g i _ _ _ hg, ← Array.getElem?_toList]
  have : (cur.toList.take (M * 1))[i]? = (gG M f)[i]? := by rw [ht]
  rw [List.getElem?_take, if_pos (by omega)] at this
  rw [this]
  unfold gG bools
  rw [List.getElem?_map, uU M f i hi]; rfl
def uY (D : List Bool) (j p : Nat) : Bool := (D.getD p false) ^^ decide (p < j)
theorem AU (D : List Bool) : bools D ++ List.replicate 32 (Value.bool false) = gG (D.length + 32) (uY D 0) := by
 apply List.ext_getElem?
 intro p
 unfold gG bools fK uY
 by_cases h : p < D.length
 ·rw [List.getElem?_append_left (by simpa using h)]
  simp [h, show p < D.length + 32 by omega]
 ·rw [List.getElem?_append_right (by simp; omega)]
  by_cases h2 : p < D.length + 32
  ·rw [List.getElem?_replicate, if_pos (by simp; omega)]
   simp [h2, List.getElem?_eq_none (show D.length ≤ p by omega)]
  ·rw [List.getElem?_replicate, if_neg (by simp; omega)]
   simp [h2]
theorem AV (D : List Bool) (j M : Nat) : gG M (fun p => if p = j then !(uY D j j) else uY D j p) = gG M (uY D (j + 1)) := by
 unfold gG
 congr 1
 refine eH _ _ _ fun p _ => ?_
 by_cases h : p = j
 ·subst h; simp [uY]
 ·rw [if_neg h]
  unfold uY
  congr 1
  exact decide_eq_decide.2 (by omega)
def pw : List Nat := [26, 23, 22, 16, 12, 11, 10, 8, 7, 5, 4, 2, 1, 0]
def pwC : Array Value := #[.int .i64 26, .int .i64 23, .int .i64 22, .int .i64 16, .int .i64 12, .int .i64 11, .int .i64 10, .int .i64 8, .int .i64 7, .int .i64 5, .int .i64 4, .int .i64 2, .int .i64 1, .int .i64 0]
theorem Ch : ∀ k, k < 14 → pwC[k]? = some (.int .i64 ((pw.getD k 0 : Nat) : Int)) ∧ pw.getD k 0 ≤ 26 ∧ (pw.take k).all (fun q => q != pw.getD k 0) = true ∧ pw.take (k + 1) = pw.take k ++ [pw.getD k 0] := by
 intro k hk
 match k, hk with
 | 0, _ => exact ⟨rfl, by decide, by decide, rfl⟩
 | 1, _ => exact ⟨rfl, by decide, by decide, rfl⟩
 | 2, _ => exact ⟨rfl, by decide, by decide, rfl⟩
 | 3, _ => exact ⟨rfl, by decide, by decide, rfl⟩
 | 4, _ => exact ⟨rfl, by decide, by decide, rfl⟩
 | 5, _ => exact ⟨rfl, by decide, by decide, rfl⟩
 | 6, _ => exact ⟨rfl, by decide, by decide, rfl⟩
 | 7, _ => exact ⟨rfl, by decide, by decide, rfl⟩
 | 8, _ => exact ⟨rfl, by decide, by decide, rfl⟩
 | 9, _ => exact ⟨rfl, by decide, by decide, rfl⟩
 | 10, _ => exact ⟨rfl, by decide, by decide, rfl⟩
 | 11, _ => exact ⟨rfl, by decide, by decide, rfl⟩
 | 12, _ => exact ⟨rfl, by decide, by decide, rfl⟩
 | 13, _ => exact ⟨rfl, by decide, by decide, rfl⟩
def lH (base : Nat → Bool) (i k p : Nat) : Bool := if p = i then false else (base p ^^ (pw.take k).any (fun q => p == i + 32 - q))
theorem Ci : ∀ q ∈ pw, q ≤ 26 := by decide
theorem AX (base : Nat → Bool) (i k M : Nat) (hk : k < 14) : gG M (fun p => if p = i + 32 - pw.getD k 0 then !(lH base i k (i + 32 - pw.getD k 0)) else lH base i k p) = gG M (lH base i (k + 1)) := by
 obtain ⟨_, h26, hd, ht⟩ := Ch k hk
 unfold gG
 congr 1
 refine eH _ _ _ fun p _ => ?_
 unfold lH
 rw [ht]
 simp only [List.any_append, List.any_cons, List.any_nil, Bool.or_false]
 by_cases h : p = i + 32 - pw.getD k 0
 ·have hne : ¬ (i + 32 - pw.getD k 0 = i) := by omega
  have hf : (pw.take k).any (fun q => i + 32 - pw.getD k 0 == i + 32 - q) = false := by
   rw [List.any_eq_false]
   intro q hq e
   have h1 := List.all_eq_true.1 hd q hq
   have h2 := Ci q (List.mem_of_mem_take hq)
   simp at h1 e
   omega
  rw [if_pos h, h, if_neg hne, if_neg hne, hf]
  cases base (i + 32 - pw.getD k 0) <;> simp
 ·rw [if_neg h]
  have : (p == i + 32 - pw.getD k 0) = false := beq_eq_false_iff_ne.2 h
  rw [this, Bool.or_false]
theorem qA : ∀ (l : List Nat) (f g : Nat → Bool), (∀ q ∈ l, f q = g q) → l.any f = l.any g
 | [], _, _, _ => rfl
 | x :: l, f, g, h => by simp only [List.any_cons]; rw [h x (by simp), qA l f g (fun q hq => h q (by simp [hq]))]
theorem Cj (d : Nat) : Crc.turns d = pw.any (fun q => d == 32 - q) := by
 unfold Crc.turns pw
 simp only [List.contains_cons, List.contains_nil, List.any_cons, List.any_nil]
theorem Ck (base : Nat → Bool) (i M : Nat) (hb : base i = true) : gG M (lH base i 14) = gG M (Crc.wu base i) := by
 unfold gG
 congr 1
 refine eH _ _ _ fun p _ => ?_
 unfold lH Crc.wu
 by_cases h : p = i
 ·rw [if_pos h, if_pos h]
 ·rw [if_neg h, if_neg h]
  have ht : pw.take 14 = pw := rfl
  rw [ht]
  by_cases hp : i < p
  ·rw [if_pos ⟨hb, hp⟩]
   congr 1
   rw [qA pw _ (fun q => p - i == 32 - q) (fun q hq => by
    have := Ci q hq
    rw [Bool.eq_iff_iff, beq_iff_eq, beq_iff_eq]
    omega)]
   exact (Cj (p - i)).symm
  ·rw [if_neg (fun e => hp e.2)]
   have : pw.any (fun q => p == i + 32 - q) = false := by
    rw [List.any_eq_false]
    intro q hq e
    have h2 := Ci q hq
    simp at e
    omega
   rw [this, Bool.xor_false]
theorem Cm (base : Nat → Bool) (i M : Nat) (hb : base i = false) : gG M base = gG M (Crc.wu base i) := by
 unfold gG
 congr 1
 refine eH _ _ _ fun p _ => ?_
 unfold Crc.wu
 by_cases h : p = i
 ·rw [if_pos h, h, hb]
 ·rw [if_neg h, if_neg (fun e => by rw [hb] at e; cases e.1)]
theorem yE (base : Nat → Bool) (i M : Nat) : gG M (fun p => if p = i then false else base p) = gG M (lH base i 0) := by
 unfold gG
 congr 1
 refine eH _ _ _ fun p _ => ?_
 unfold lH
 simp
theorem yF (w : World) : Calls Tryz.prog 111 #[] w fun e w' => e = .returned (.slice (some ⟨w.heap.size, 0, none⟩) 14 14) ∧ w' = w.alloc (.cells pwC 3) := by
 go_enter Tryz.func111, Tryz.ntmps111
 go_wp2_with fail
 go_ret
 exact ⟨rfl, rfl⟩
theorem Ah : ∀ (f : Nat → Bool) (k : Nat), Crc.jV f k < 2 ^ k
 | _, 0 => by show 0 < 1; omega
 | f, k + 1 => by
  have := Ah (fun i => f (i + 1)) k
  show 2 * Crc.jV (fun i => f (i + 1)) k + (if f 0 = true then 1 else 0) < 2 ^ (k + 1)
  rw [Nat.pow_succ]
  split <;> omega
theorem Cn (F : Nat → Bool) (t : Nat) (h : t < 32) : Crc.jV (fun q => F (t + q)) (32 - t) = 2 * Crc.jV (fun q => F (t + 1 + q)) (32 - (t + 1)) + (if F t = true then 1 else 0) := by
 have e : 32 - t = (32 - (t + 1)) + 1 := by omega
 rw [e]
 show 2 * Crc.jV (fun i => F (t + (i + 1))) _ + (if F (t + 0) = true then 1 else 0) = _
 have e2 : (fun i => F (t + (i + 1))) = fun q => F (t + 1 + q) := by funext q; congr 1; omega
 rw [e2, Nat.add_zero]
 rfl
theorem yG (l : List UInt8) (v : Value) (w : World) (hl : l.length ≤ 1000000) (hv : au w (fun k => k < w.heap.size) false l v) :
  Calls Tryz.prog 81 #[v] w fun e w' => e = .returned (.int .u32 (Crc.fw l : Nat)) ∧ Below w.heap.size w w' := by
 obtain ⟨i0, hi0, hz0, hz1, hz2⟩ := info_parts ul
 have HD := hid (yD l v w hl hv)
 have hdl : (Crc.aD l).length = 8 * l.length := Crc.fE l
 obtain ⟨hl1, ad, cap, rfl, hcap⟩ := hv.shape
 clear hv
 go_enter Tryz.func81, Tryz.ntmps81
 go_wp2_with fail
 refine HD.out.mono ?_
 rintro e w1 ⟨v1, rfl, hown1, hb1⟩
 have hs1 := hb1.size
 have hlt1 := hown1.lt
 have HO1 := hid (And.intro hown1 hb1)
 clear hown1 hb1
 go_wp2_with (at_builtin; go_loud (refine lm _ rfl (.tmp 12) (.const (.int .i64 32)) _ _ rfl w.heap.size 4 i0 _ 1 .i64 Tryz.underlying177 Tryz.underlying3 hi0 hz0 hz1 hz2 rfl rfl _ (Crc.aD l).length _ rfl HO1.out.1 32 rfl (by unfold maxLen; omega) (by omega) (by omega) (by omega) ?_); intro v2 w2 hown2 hgrow2 hat2)
 have hb2 : Below w.heap.size w w2 := HO1.out.2.grown hgrow2 hs1 (fun k hk => (hlt1 k hk).1)
 rw [AU] at hown2
 generalize hM : (Crc.aD l).length + 32 = M at hown2
 have hg : ∃ g cp, v2 = .slice (some ⟨g, 0, none⟩) M cp ∧ w.heap.size ≤ g := by
  rcases hown2.2 with ⟨_, h0⟩ | ⟨g, cp, cur, rfl, hb, _⟩
  ·omega
  ·exact ⟨g, cp, rfl, hb⟩
 obtain ⟨g, cp, rfl, hgb⟩ := hg
 have HO2 := hid (And.intro hown2 hb2)
 clear hown2 hgrow2 hat2 hb2 hlt1
 go_wp2_with fail
 go_loopw [4] (fun i wr => ∃ j : Nat, j ≤ 32 ∧ i = .int .i64 j ∧ wr.ownsRow w.heap.size 4 1 (.slice (some ⟨g, 0, none⟩) M cp) M (gG M (uY (Crc.aD l) j)) ∧ Below w.heap.size w wr) (fun i _ => 32 - (intOf i).toNat)
 case atStart => exact ⟨0, by omega, rfl, HO2.out.1, HO2.out.2⟩
 case round =>
  obtain ⟨j, hj, rfl, hown, hbel⟩ := hrel
  by_cases h32 : j < 32
  ·obtain ⟨c0, f0⟩ := kL hown j (by omega)
   have HO := hid (And.intro hown hbel)
   clear hown hbel
   go_wp2_with fail
   go_roundw
   case rel =>
    have h := qp j (.bool (!(uY (Crc.aD l) j j))) HO.out.1
    rw [qz, AV] at h
    exact ⟨j + 1, by omega, by go_num, h, HO.out.2.setCell hgb _⟩
   case measure => simp [intOf]; omega
  ·have : j = 32 := by omega
   subst this
   have HO := hid (And.intro hown hbel)
   clear hown hbel
   go_wp2_with fail
   have hbw := HO.out.2.size
   refine (yF wr).mono ?_
   rintro e w3 ⟨rfl, rfl⟩
   have HP : Hid ((wr.alloc (.cells pwC 3)).heap[wr.heap.size]? = some (.cells pwC 3 (0, 0))) := hid (heap_alloc_new wr _)
   have HO3 := hid (And.intro (HO.out.1.alloc (.cells pwC 3)) (HO.out.2.alloc hbw (.cells pwC 3)))
   have hpg : wr.heap.size ≠ g := by
    have := HO.out.1.lt g rfl
    omega
   generalize wr.heap.size = pb at HP hpg hbw ⊢
   generalize wr.alloc (.cells pwC 3) = X at HP HO3 ⊢
   clear HO
   go_wp2_with fail
   go_loopw [7] (fun i wx => ∃ j : Nat, j ≤ (Crc.aD l).length ∧ i = .int .i64 j ∧ wx.ownsRow w.heap.size 4 1 (.slice (some ⟨g, 0, none⟩) M cp) M (gG M (Crc.divN (Crc.row0 (Crc.aD l)) j)) ∧ wx.heap[pb]? = some (.cells pwC 3 (0, 0)) ∧ Below w.heap.size w wx) (fun i _ => (Crc.aD l).length - (intOf i).toNat)
   case atStart => exact ⟨0, by omega, rfl, HO3.out.1, HP.out, HO3.out.2⟩
   case round =>
    obtain ⟨j, hj, rfl, hown, hpw, hbel⟩ := hrel
    by_cases hlt : j < (Crc.aD l).length
    ·obtain ⟨c0, f0⟩ := kL hown j (by omega)
     obtain ⟨base, hbase⟩ : ∃ b, b = Crc.divN (Crc.row0 (Crc.aD l)) j := ⟨_, rfl⟩
     have HBS : Hid (Crc.divN (Crc.row0 (Crc.aD l)) (j + 1) = Crc.wu base j) := hid (by rw [hbase]; rfl)
     rw [← hbase] at hown c0
     clear hbase
     have HO4 := hid (And.intro hown (And.intro hpw hbel))
     clear hown hpw hbel
     cases hb : base j with
     | false =>
      rw [hb] at c0
      go_wp2_with fail
      go_roundw
      case rel =>
       have h := HO4.out.1
       rw [Cm base j M hb] at h
       exact ⟨j + 1, hlt, by go_num, by rw [HBS.out]; exact h, HO4.out.2.1, HO4.out.2.2⟩
      case measure => simp [intOf]; omega
     | true =>
      rw [hb] at c0
      go_wp2_with fail
      go_loopw [8] (fun i wy => ∃ k : Nat, k ≤ 14 ∧ i = .int .i64 k ∧ wy.ownsRow w.heap.size 4 1 (.slice (some ⟨g, 0, none⟩) M cp) M (gG M (lH base j k)) ∧ wy.heap[pb]? = some (.cells pwC 3 (0, 0)) ∧ Below w.heap.size w wy) (fun i _ => 14 - (intOf i).toNat)
      case atStart =>
       have h := qp j (.bool false) HO4.out.1
       rw [qz, yE] at h
       exact ⟨0, by omega, rfl, h, (heap_setCell_other _ _ _ _ hpg).trans HO4.out.2.1, HO4.out.2.2.setCell hgb _⟩
      case round =>
       obtain ⟨k, hk, rfl, hown, hpw, hbel⟩ := hrel
       by_cases h14 : k < 14
       ·obtain ⟨q1, q2, _, _⟩ := Ch k h14
        have HFS := hid (AX base j k M h14)
        generalize pw.getD k 0 = q at q1 q2 HFS
        obtain ⟨c1, f1⟩ := kL hown (j + 32 - q) (by omega)
        have c2 := (cell_of_row _ pb k _ _ _ hpw).trans q1
        have HO5 := hid (And.intro hown (And.intro hpw hbel))
        clear hown hpw hbel
        have hidx : ((j : Int) + 32 - (q : Int)) = ((j + 32 - q : Nat) : Int) := by omega
        have hltM : j + 32 - q < M := by omega
        generalize j + 32 - q = p0 at hidx hltM c1 f1 HFS
        go_wp2_with fail
        go_region
        all_goals go_wp2_with fail
        go_roundw
        case rel =>
         have h := qp p0 (.bool (!(lH base j k p0))) HO5.out.1
         rw [qz, HFS.out] at h
         exact ⟨k + 1, by omega, by go_num, h, (heap_setCell_other _ _ _ _ hpg).trans HO5.out.2.1, (HO5.out.2.2.setCell (p := ⟨g, p0, none⟩) hgb _).drew⟩
        case measure => simp [intOf]; omega
       ·have : k = 14 := by omega
        subst this
        have HO5 := hid (And.intro hown (And.intro hpw hbel))
        clear hown hpw hbel
        go_wp2_with fail
        go_roundw
        case rel =>
         have h := HO5.out.1
         rw [Ck base j M hb] at h
         exact ⟨j + 1, hlt, by go_num, by rw [HBS.out]; exact h, HO5.out.2.1, HO5.out.2.2⟩
        case measure => simp [intOf]; omega
    ·have hj2 : j = (Crc.aD l).length := by omega
     have HO4 := hid (And.intro hown (And.intro hpw hbel))
     clear hown hpw hbel
     subst hj2
     generalize hF : Crc.divN (Crc.row0 (Crc.aD l)) (Crc.aD l).length = f at HO4
     go_wp2_with fail
     go_loop [9, 10] (fun sm i => ∃ t : Nat, t ≤ 32 ∧ i = .int .i64 ((t : Int) - 1) ∧ sm = .int .u32 ((Crc.jV (fun q => !(f ((Crc.aD l).length + (t + q)))) (32 - t) : Nat) : Int)) (fun _ i => (intOf i + 1).toNat)
     case atStart => exact ⟨32, by omega, rfl, rfl⟩
     case round =>
      obtain ⟨t, ht, rfl, rfl⟩ := hrel
      cases t with
      | zero =>
       go_wp2_with fail
       go_ret
       refine ⟨?_, HO4.out.2.2⟩
       have h := Crc.EE l
       have hF' : Crc.divN (Crc.row0 (Crc.aD l)) (8 * l.length) = f := by rw [← hdl]; exact hF
       rw [hF'] at h
       rw [← h]
       simp
      | succ t =>
       obtain ⟨c0, f0⟩ := kL HO4.out.1 ((Crc.aD l).length + t) (by omega)
       have hst : Crc.jV (fun q => !(f ((Crc.aD l).length + (t + q)))) (32 - t) = 2 * Crc.jV (fun q => !(f ((Crc.aD l).length + (t + 1 + q)))) (32 - (t + 1)) + (if (!(f ((Crc.aD l).length + t))) = true then 1 else 0) := Cn (fun q => !(f ((Crc.aD l).length + q))) t (by omega)
       have hlt2 := Ah (fun q => !(f ((Crc.aD l).length + (t + 1 + q)))) (32 - (t + 1))
       have hp2 : 2 ^ (32 - (t + 1)) ≤ 2 ^ 31 := Nat.pow_le_pow_right (by omega) (by omega)
       have HST := hid hst
       clear hst
       generalize Crc.jV (fun q => !(f ((Crc.aD l).length + (t + 1 + q)))) (32 - (t + 1)) = S at hlt2 HST ⊢
       have hS : S < 2147483648 := by omega
       clear hlt2 hp2
       have hidx : ((M : Int) - 32) + (((t + 1 : Nat) : Int) - 1) = (((Crc.aD l).length + t : Nat) : Int) := by omega
       have hi2 : ((t + 1 : Nat) : Int) - 1 = (t : Int) := by omega
       rw [hi2] at hidx ⊢
       clear hi2
       have hlM : (Crc.aD l).length + t < M := by omega
       generalize hp0 : (Crc.aD l).length + t = p0 at hidx hlM c0 f0 HST
       cases hb : f p0 with
       | false =>
        rw [hb] at c0
        go_wp2_with fail
        go_round
        case rel => exact ⟨t, by omega, by go_num, by rw [HST.out, hb]; simp; omega⟩
        case measure => simp [intOf]
       | true =>
        rw [hb] at c0
        go_wp2_with fail
        go_round
        case rel => exact ⟨t, by omega, by go_num, by rw [HST.out, hb]; simp; omega⟩
        case measure => simp [intOf]
theorem kM (w : World) (S : Nat → Prop) (cs : Array Value) (T : TypeId) (n cap : Nat) (hn : n ≤ cs.size) (hm : n ≤ cap) (hS : S w.heap.size) (h63 : n ≤ 1000) : Sl (w.alloc (.cells cs T)) S true 1 n (cs.toList.take n) (.slice (some ⟨w.heap.size, 0, none⟩) n cap) := by
 refine ⟨by simp; omega, by omega, _, _, rfl, hm, fun _ => ⟨_, _, rfl, hS, fun j hj => ?_⟩⟩
 have hj2 : j < cs.size := by simp at hj; omega
 rw [cell_of_row _ _ (0 + j) cs T (0, 0) (heap_alloc_new w _), frozen_of_row _ _ (0 + j) cs T (heap_alloc_new w _)]
 simp [hj2]
theorem um (w : World) (q : Nat) (hq : q < 256) (T : TypeId) : au (w.alloc (.cells #[.int .u8 (q : Int)] T)) (fun _ => True) true [q.toUInt8] (.slice (some ⟨w.heap.size, 0, none⟩) 1 1) := by
 have h := kM w (fun _ => True) #[.int .u8 (q : Int)] T 1 1 (by simp) (by omega) trivial (by omega)
 unfold au
 simpa [bytes, cZ hq] using h
theorem wI (own : Bool) (wb : Nat) (sv : Value) (l m : List UInt8) (v : Value) (w : World) (hw : Wr 65 5 w wb sv l) (hr : au w (fun b => b ≠ wb ∧ sv.ownBlock ≠ some b) own m v) (h1 : l.length + m.length ≤ 900000) :
  Calls Tryz.prog 66 #[.pointer (some ⟨wb, 0, none⟩), v] w (Wg 65 5 w wb sv (l ++ (ae [m.length] ++ m)) (.int .i64 0)) := by
 obtain ⟨hl, ad, cap, rfl, hc⟩ := hr.shape
 have hlt := hw.lt
 have hb0 : Below w.heap.size w (w.alloc (.cells #[.int .u64 (m.length : Nat)] 50)) := br.alloc nl _
 have q1 : IntKind.u64.wrap (m.length : Int) = (m.length : Int) := by unfold IntKind.wrap; simp [IntKind.signed, IntKind.bits]; omega
 have HN := hid (gZ true wb sv l [m.length] (.slice (some ⟨w.heap.size, 0, none⟩) 1 1) _ (hw.below hb0) (by simpa [nums] using kM w _ #[.int .u64 (m.length : Nat)] 50 1 1 (by simp) (by omega) ⟨by omega, fun e => by have := (hlt.2 _ e).2; omega⟩ (by omega)) (by intro n hn; simp at hn; omega) (by simp; omega))
 have HR := hid (And.intro (hr.below hb0 nl) (And.intro (hw.below hb0) (Wrote.of_below (wb := wb) (sv := sv) hb0)))
 clear hr hw
 go_enter Tryz.func66, Tryz.ntmps66
 go_wp2_with fail
 refine HN.out.mono ?_
 rintro e w1 ⟨rfl, sv1, hw1, ht1⟩
 have hr1 : au w1 (fun b => b ≠ wb ∧ sv.ownBlock ≠ some b) own m (.slice ad m.length cap) := Sl.keep HR.out.1 (by omega) (fun b hb hl => ht1.keep b hl hb.1 hb.2) (fun _ _ h => h)
 have HQ := hid (And.intro hr1 (And.intro hw1 (HR.out.2.2.trans ht1)))
 clear hr1 hw1 ht1
 go_wp2_with fail
 refine (uj _ own wb sv1 (l ++ ae [m.length]) m _ w1 HQ.out.2.1 HQ.out.1 (by have := aJ [m.length]; simp at this ⊢; omega)).mono ?_
 rintro e w2 ⟨rfl, sv2, hw2, ht2⟩
 have HZ := hid (And.intro hw2 (HQ.out.2.2.trans ht2))
 clear hw2 ht2
 go_wp2_with fail
 go_ret
 exact ⟨rfl, sv2, by rw [← List.append_assoc]; exact HZ.out.1, HZ.out.2⟩
def aM (k : Nat) (l : List UInt8) : List UInt8 := k.toUInt8 :: (ae [l.length] ++ l)
def aS (k : Nat) (l : List UInt8) : List UInt8 := aM k l ++ gL (Crc.fw (aM k l))
theorem yH (k : Nat) (l : List UInt8) : (aS k l).length ≤ l.length + 15 := by
 have := aJ [l.length]
 unfold aS aM gL
 rw [List.length_append, gF]
 simp at this ⊢; omega
theorem AY (k : Nat) (l : List UInt8) (v : Value) (q cap : Nat) (w : World) (hk : k < 256) (hl : l.length ≤ 800000) (hcp : 1 ≤ cap) (hq0 : w.cell? ⟨q, 0, none⟩ = some (.int .u8 k)) (hq1 : w.cell? ⟨q, 1, none⟩ = some v) (hqs : q < w.heap.size) (hv : au w (fun b => b < w.heap.size) false l v) :
  Calls Tryz.prog 30 #[.slice (some ⟨q, 0, none⟩) 1 cap] w (jo 5 w (aS k l)) := by
 obtain ⟨i0, hi0, hz0, hz1, hz2⟩ := info_parts ji
 obtain ⟨hl1, ad, cp, rfl, hcp'⟩ := hv.shape
 have HV := hid hv
 have HQ := hid (And.intro hq0 hq1)
 clear hv hq0 hq1
 go_enter Tryz.func30, Tryz.ntmps30
 go_wp2_with fail
 go_loopw [3, 10] (fun sv i wr => ∃ j : Nat, j ≤ 1 ∧ i = .int .i64 j ∧ (j = 0 → sv = .slice none 0 0) ∧ (j = 1 → wr.ownsRow w.heap.size 5 1 sv (aS k l).length (bytes (aS k l))) ∧ Below w.heap.size w wr) (fun _ i _ => 1 - (intOf i).toNat)
 case atStart => exact ⟨0, by omega, rfl, fun _ => rfl, (fun h => by cases h), br⟩
 case round =>
  obtain ⟨j, hj, rfl, hnil, hown, hbel⟩ := hrel
  by_cases h0 : j = 0
  ·subst h0
   obtain rfl := hnil rfl
   clear hnil
   have c0 := (hbel.cell (p := ⟨q, 0, none⟩) hqs).trans HQ.out.1
   have c1 := (hbel.cell (p := ⟨q, 1, none⟩) hqs).trans HQ.out.2
   have HV1 := hid (HV.out.below hbel nl)
   clear hown
   go_upto_region 6 with fail
   have hb1 : Below wr.heap.size wr (wr.alloc (.cells #[.int .u8 k, .slice ad l.length cp] 72)) := br.alloc nl _
   have hb2 : Below wr.heap.size wr ((wr.alloc (.cells #[.int .u8 k, .slice ad l.length cp] 72)).alloc (.cells #[.slice none 0 0] 65)) := hb1.alloc (by simp) _
   have g0 : ((wr.alloc (.cells #[.int .u8 k, .slice ad l.length cp] 72)).alloc (.cells #[.slice none 0 0] 65)).heap[wr.heap.size]? = some (.cells #[.int .u8 k, .slice ad l.length cp] 72 (0, 0)) :=
    (Below.heap_alloc _ _ _ (by simp)).trans (heap_alloc_new wr _)
   have g1 : Wr 65 5 ((wr.alloc (.cells #[.int .u8 k, .slice ad l.length cp] 72)).alloc (.cells #[.slice none 0 0] 65)) (wr.heap.size + 1) (.slice none 0 0) [] :=
    ⟨by have := heap_alloc_new (wr.alloc (.cells #[.int .u8 k, .slice ad l.length cp] 72)) (.cells #[.slice none 0 0] 65); rw [World.size_alloc] at this; exact this, World.ownsRow_nil _ _ _ _⟩
   have g2 : ((wr.alloc (.cells #[.int .u8 k, .slice ad l.length cp] 72)).alloc (.cells #[.slice none 0 0] 65)).heap.size = wr.heap.size + 2 := by rw [World.size_alloc, World.size_alloc]
   generalize (wr.alloc (.cells #[.int .u8 k, .slice ad l.length cp] 72)).alloc (.cells #[.slice none 0 0] 65) = X at hb2 g0 g1 g2 ⊢
   clear hb1
   have d0 : X.cell? ⟨wr.heap.size, 0, none⟩ = some (.int .u8 k) := by unfold World.cell?; rw [g0]; rfl
   have d1 : X.cell? ⟨wr.heap.size, 1, none⟩ = some (.slice ad l.length cp) := by unfold World.cell?; rw [g0]; rfl
   have hbA : Below X.heap.size X (X.alloc (.cells #[.int .u8 k] 5)) := br.alloc nl _
   have HRAW := hid (uj (fun _ => True) true (wr.heap.size + 1) (.slice none 0 0) [] [k.toUInt8] (.slice (some ⟨X.heap.size, 0, none⟩) 1 1) _ (g1.below hbA) (um X k hk 5) (by simp))
   have HX := hid (And.intro hb2 (And.intro (g1.below hbA) (And.intro g2 (And.intro hbA d1))))
   clear g0 g1 g2 hb2 hbA d1
   go_wp2_with fail
   refine HRAW.out.mono ?_
   rintro e w1 ⟨rfl, sv1, hw1, ht1⟩
   obtain ⟨hb2, g1, g2, hbA, d1⟩ := HX.out
   have hB1 : Below (wr.heap.size + 1) X w1 := (hbA.mono (by omega)).trans (ht1.below g1)
   have d2 : w1.cell? ⟨wr.heap.size, 1, none⟩ = some (.slice ad l.length cp) := (hB1.cell (p := ⟨wr.heap.size, 1, none⟩) (by simp)).trans d1
   have hsz := hbel.size
   have hBw1 : Below w.heap.size w w1 := hbel.trans ((hb2.mono hsz).trans (hB1.mono (by omega)))
   have hlt1 := hw1.lt
   have hrep1 : au w1 (fun b => b ≠ wr.heap.size + 1 ∧ sv1.ownBlock ≠ some b) false l (.slice ad l.length cp) :=
    Sl.keep (HV.out.below hBw1 nl) (by omega) (fun b _ _ => rfl) (fun b _ hb => ⟨(by have hb : b < w.heap.size := hb; omega), fun e => (by have hb : b < w.heap.size := hb; have := (hlt1.2 b e).1; omega)⟩)
   have HT := hid (wI false (wr.heap.size + 1) sv1 ([] ++ [k.toUInt8]) l _ w1 hw1 hrep1 (by simp; omega))
   have HW1 := hid (And.intro hw1 (And.intro hBw1 hsz))
   clear hw1 ht1 hB1 hb2 g1 g2 hbA d1 hBw1 hrep1 hlt1 d0 hsz
   go_wp2_with fail
   refine HT.out.mono ?_
   rintro e w2 ⟨rfl, sv2, hw2, ht2⟩
   obtain ⟨hw1, hBw1, hsz⟩ := HW1.out
   have hBw2 : Below w.heap.size w w2 := hBw1.trans ((ht2.below hw1).mono (by omega))
   have hH : [] ++ [k.toUInt8] ++ (ae [l.length] ++ l) = aM k l := rfl
   rw [hH] at hw2
   have hHl : (aM k l).length ≤ 800011 := by have := aJ [l.length]; unfold aM; simp at this ⊢; omega
   have HBY := hid (oq (wr.heap.size + 1) sv2 (aM k l) w2 hw2 (by omega))
   have HW2 := hid hBw2
   clear hw1 hBw1 hw2 ht2 hBw2 d2 hH hsz
   go_wp2_with fail
   refine HBY.out.mono ?_
   rintro e w3 ⟨v3, rfl, hown3, hb3⟩
   have hsw := HW2.out.size
   have hb3s := hb3.size
   have HB3 := hid (HW2.out.trans (hb3.mono hsw))
   have HS3 := hid (Sl.of_owns hown3 (by omega))
   have hlt3 := hown3.lt
   have H3 := hid hown3
   obtain ⟨va3, vc3, rfl⟩ := ag hown3
   clear hown3 hb3
   go_wp2_with (at_builtin; go_loud (refine af _ rfl (.tmp 22) (.tmp 23) _ rfl w.heap.size 5 i0 _ 1 1 Tryz.underlying29 hi0 hz0 hz1 hz2 rfl (by omega) _ 0 [] rfl (World.ownsRow_nil _ _ _ _) _ _ (aM k l).length (bytes (aM k l)) _ rfl HS3.out (dU _) (by unfold maxLen; omega) (by omega) (by omega) ?_); intro v4 w4 hown4 hgrow4 hat4)
   have hsz4 := hgrow4.size
   have hrep4 : au w4 (fun b => b < w4.heap.size) false (aM k l) (.slice va3 (aM k l).length vc3) := Sl.keep (Sl.unown HS3.out) (by omega) (nZ hgrow4 (fun b hb e => by cases e)) (fun b hb _ => by omega)
   have HO4 := hid (And.intro hown4 hgrow4)
   have HCK := hid (uk (aM k l) _ w4 (by omega) hrep4)
   clear hown4 hgrow4 hat4 hrep4
   refine HCK.out.mono ?_
   rintro e w5 ⟨v5, rfl, hown5, hb5⟩
   have hsz5 := hb5.size
   have HO5 := hid (And.intro hown5 hb5)
   clear hown5 hb5
   go_wp2_with (at_builtin; go_loud (refine af _ rfl (.tmp 24) (.tmp 26) _ rfl w.heap.size 5 i0 _ 1 1 Tryz.underlying29 hi0 hz0 hz1 hz2 rfl (by omega) _ _ _ rfl (ownsRow_below HO4.out.1 HO5.out.2 nl) _ _ _ _ _ rfl (Sl.of_owns HO5.out.1 (by omega)) (dU _) (by unfold maxLen gL; rw [gF]; omega) (by unfold gL; rw [gF]; omega) (by omega) ?_); intro v6 w6 hown6 hgrow6 hat6)
   have HO6 := hid (And.intro hown6 hgrow6)
   clear hown6 hgrow6 hat6
   go_wp2_with fail
   go_roundw
   case rel =>
    refine ⟨1, by omega, rfl, (fun h => by cases h), fun _ => ?_, ?_⟩
    ·have h := HO6.out.1
     have e1 : ([] ++ bytes (aM k l)) ++ bytes (gL (Crc.fw (aM k l))) = bytes (aS k l) := by unfold aS; simp [bytes]
     have e2 : (0 + (aM k l).length) + (gL (Crc.fw (aM k l))).length = (aS k l).length := by unfold aS; simp
     rw [e1, e2] at h
     exact h
    ·have hlo := HO4.out.1.lt
     exact (((HB3.out).grown HO4.out.2 (by omega) (fun k hk => by cases hk)).trans (HO5.out.2.mono (by omega))).grown HO6.out.2 (by omega) (fun k hk => (hlo k hk).1)
   case measure => simp [intOf]
  ·have : j = 1 := by omega
   subst this
   have HOWN := hid (hown rfl)
   clear hown hnil
   go_wp2_with fail
   go_ret
   exact ⟨_, rfl, HOWN.out, hbel⟩
theorem ou (S S' : Nat → Prop) (own own' : Bool) (l m : List UInt8) (v v' : Value) (w : World) (hr : au w S own l v) (hr' : au w S' own' m v') (h1 : l.length + m.length ≤ 2000000) :
  Calls Tryz.prog 80 #[v, v'] w (jo 5 w (l ++ m)) := by
 obtain ⟨i0, hi0, hz0, hz1, hz2⟩ := info_parts ji
 obtain ⟨hl, ad, cap, rfl, hc⟩ := hr.shape
 obtain ⟨hm, ad', cap', rfl, hc'⟩ := hr'.shape
 have hbl : ∀ x : List UInt8, (bytes x).length = x.length := bytes_length
 have HR := hid (And.intro hr hr')
 clear hr hr'
 go_enter Tryz.func80, Tryz.ntmps80
 go_upto_region 3 with (at_builtin; go_loud (refine af _ rfl (.tmp 6) (.tmp 7) _ rfl w.heap.size 5 i0 _ 1 1 Tryz.underlying29 hi0 hz0 hz1 hz2 rfl (by omega) _ 0 [] rfl (World.ownsRow_nil _ _ _ _) _ _ l.length (bytes l) _ rfl HR.out.1 (dU _) (by unfold maxLen; omega) (by omega) (by omega) ?_); intro v1 w1 hown1 hgrow1 hat1)
 have hsz1 := hgrow1.size
 have hrm : au w1 (fun _ => True) false m (.slice ad' m.length cap') := (Sl.keep (Sl.unown HR.out.2) (by omega) (nZ hgrow1 (fun b hb e => by cases e)) (fun b hb _ => trivial))
 have H1 := hid (And.intro hown1 (And.intro hgrow1 hrm))
 clear hown1 hgrow1 hat1 hrm
 go_wp2_with (at_builtin; go_loud (refine af _ rfl (.tmp 9) (.tmp 10) _ rfl w.heap.size 5 i0 _ 1 1 Tryz.underlying29 hi0 hz0 hz1 hz2 rfl (by omega) _ _ _ rfl H1.out.1 _ _ m.length (bytes m) _ rfl H1.out.2.2 (dU _) (by unfold maxLen; omega) (by omega) (by omega) ?_); intro v2 w2 hown2 hgrow2 hat2)
 go_ret
 have hlo := H1.out.1.lt
 refine ⟨v2, rfl, ?_, ((Below.refl w.heap.size w).grown H1.out.2.1 nl (fun k hk => by cases hk)).grown hgrow2 hsz1 (fun k hk => (hlo k hk).1)⟩
 have e : [] ++ bytes l ++ bytes m = bytes (l ++ m) := by simp [bytes]
 rw [e] at hown2
 have e2 : 0 + l.length + m.length = (l ++ m).length := by simp
 rw [e2] at hown2
 exact hown2
theorem EG {w : World} {S : Nat → Prop} {T : TypeId} {k : Nat} (hk : k < 256) (hS : S w.heap.size) : au (w.alloc (.cells #[.int .u8 (k : Int)] T)) S true [k.toUInt8] (.slice (some ⟨w.heap.size, 0, none⟩) 1 1) := by
 have h := kM w S #[.int .u8 (k : Int)] T 1 1 (by simp) (by omega) hS (by omega)
 unfold au
 simpa [bytes, cZ hk] using h
theorem DL (l : List UInt8) : Crc.fw l < 4294967296 := by
 unfold Crc.fw
 exact Nat.xor_lt_two_pow (n := 32) (by decide) (Crc.mi l (by decide))
theorem qB (w : World) (T : TypeId) (s : ByteArray) (hs : s.size ≤ 900000) : au (Lib.bytesWorld w T s) (fun b => w.heap.size ≤ b) false s.data.toList (.slice (some ⟨w.heap.size, 0, none⟩) s.size (grownCap w s.size 0 T)) := by
 have hl : s.data.toList.length = s.size := (Lib.size_eq s).symm
 refine ⟨by simp, by omega, _, _, by rw [hl], by rw [hl]; exact grownCap_ge _ _ _ _, fun _ => ⟨w.heap.size, 0, rfl, Nat.le_refl _, fun j hj => ⟨?_, fun h => by cases h⟩⟩⟩
 have hj' : j < s.size := by rw [bytes_length, hl] at hj; exact hj
 rw [Nat.zero_add, Lib.bytesWorld_cell w T s j hj']
 have hjl : j < s.data.toList.length := by omega
 simp [bytes, List.getD, List.getElem?_eq_getElem hjl]
theorem ow (k : Nat) (s : ByteArray) (w : World) (hk : k < 256) (hs : s.size ≤ 800000) :
  Calls Tryz.prog 49 #[.agg #[.int .u8 k, .string s]] w (jo 5 w (aS k s.data.toList)) := by
 obtain ⟨i0, hi0, hz0, hz1, hz2⟩ := info_parts ji
 have g0 := heap_alloc_new w (.cells #[.int .u8 k, .string s] 102)
 go_enter Tryz.func49, Tryz.ntmps49
 go_upto_region 1 with fail
 have hW : Below w.heap.size w (w.alloc (.cells #[.int .u8 k, .string s] 102)) := br.alloc nl _
 have hz : w.heap.size < (w.alloc (.cells #[.int .u8 k, .string s] 102)).heap.size := by rw [World.size_alloc]; omega
 have d0 : (w.alloc (.cells #[.int .u8 k, .string s] 102)).cell? ⟨w.heap.size, 0, none⟩ = some (.int .u8 k) := by unfold World.cell?; rw [g0]; rfl
 have d1 : (w.alloc (.cells #[.int .u8 k, .string s] 102)).cell? ⟨w.heap.size, 1, none⟩ = some (.string s) := by unfold World.cell?; rw [g0]; rfl
 generalize w.alloc (.cells #[.int .u8 k, .string s] 102) = X at hW hz d0 d1 ⊢
 have hsl : s.data.toList.length = s.size := (Lib.size_eq s).symm
 generalize hfb : w.heap.size = fb at hz d0 d1 ⊢
 clear g0
 have hp : s.size < 128 ^ (9 + 1) := by omega
 have h64 : s.size < 18446744073709551616 := by omega
 have hpv := bO s.size
 refine aK (w0 := X) rfl [.eq (.pointer (some ⟨fb, 0, none⟩)), .eq (.int .u8 k), .of (jw [k.toUInt8]), .eq (.pointer (some ⟨fb, 1, none⟩)), .eq (.string s), .eq (.int .i64 (s.size : Nat)), .eq (.int .u64 (s.size : Nat)), .of (jw (bi s.size)), .of (jw ((k.toUInt8) :: bi s.size)), .of (jw ((k.toUInt8) :: bi s.size))] (by kernel_rfl) ⟨?_, ?_, ?_, ?_, ?_, ?_, ?_, ?_, ?_, ?_, ?_, ?_, ?_, ?_, trivial⟩ (fun vs => [(5, (.pointer (some ⟨fb, 0, none⟩))), (6, (.int .u8 k)), (7, vs 2), (8, (.pointer (some ⟨fb, 1, none⟩))), (9, (.string s)), (10, (.int .i64 (s.size : Nat))), (11, (.int .u64 (s.size : Nat))), (12, vs 7), (13, vs 8), (3, vs 9)]) (fun _ => rfl) ?_
 ·refine rs fun S a wx K Q hR hK => ?_
  have t1 : a.tmps[1]? = some (.pointer (some ⟨fb, 0, none⟩)) := hR.o 1
  go_simp
  exact hK _ _ br rfl
 ·refine rs fun S a wx K Q hR hK => ?_
  have t5 := hR.q 0
  have y0 := (hR.bel.cell (p := ⟨fb, 0, none⟩) hz).trans d0
  go_simp
  exact hK _ _ br rfl
 ·exact dE _
 ·refine rs fun S a wx K Q hR hK => ?_
  have t6 := hR.q 1
  go_simp
  have hq := um wx k hk 5
  refine hK _ _ (br.alloc nl _) ?_
  exact EG hk (hR.new _ nl)
 ·refine rs fun S a wx K Q hR hK => ?_
  have t1 : a.tmps[1]? = some (.pointer (some ⟨fb, 0, none⟩)) := hR.o 1
  go_simp
  exact hK _ _ br rfl
 ·refine rs fun S a wx K Q hR hK => ?_
  have t8 := hR.q 3
  have y0 := (hR.bel.cell (p := ⟨fb, 1, none⟩) hz).trans d1
  go_simp
  exact hK _ _ br rfl
 ·refine rs fun S a wx K Q hR hK => ?_
  have t9 := hR.q 4
  go_simp
  exact hK _ _ br rfl
 ·refine rs fun S a wx K Q hR hK => ?_
  have t10 := hR.q 5
  go_simp
  (try go_ints)
  exact hK _ _ br rfl
 ·exact dE _
 ·refine rs fun S a wx K Q hR hK => ?_
  have t11 := hR.q 6
  go_simp
  go_at_call 48
  refine (jY 9 s.size _ hp h64).mono ?_
  rintro e w' ⟨v1, rfl, hown1, hb1⟩
  exact hK _ _ hb1 (Sl.keep (au.of_owns hown1) (by omega) (fun _ _ _ => rfl) (fun b _ hb => hR.new b hb.2))
 ·exact dE _
 ·refine rs fun S a wx K Q hR hK => ?_
  obtain ⟨u7, t7, f7⟩ := hR.f 2
  obtain ⟨u12, t12, f12⟩ := hR.f 7
  go_simp
  go_at_call 80
  refine (ou _ _ _ _ _ _ _ _ _ f7 f12 (by simp; omega)).mono ?_
  rintro e w' ⟨v1, rfl, hown1, hb1⟩
  exact hK _ _ hb1 (Sl.keep (au.of_owns hown1) (by omega) (fun _ _ _ => rfl) (fun b _ hb => hR.new b hb.2))
 ·exact dE _
 ·refine rs fun S a wx K Q hR hK => ?_
  obtain ⟨u13, t13, f13⟩ := hR.f 8
  go_simp
  exact hK _ _ br f13
 intro S13 vs wd hD
 have r3 : au wd S13 true (k.toUInt8 :: bi s.size) (vs 9) := hD.ofs 9 _ rfl
 have HB := hid (hW.trans (hD.bel.mono (by have := hW.size; omega)))
 have HX := hid (And.intro ((hD.bel.cell (p := ⟨fb, 1, none⟩) hz).trans d1) (show fb < wd.heap.size by have := hD.bel.size; omega))
 simp only [aP, List.foldl_cons, List.foldl_nil]
 clear hD hW hz d0 d1
 generalize hv3 : vs 9 = v3 at r3 ⊢
 generalize vs 2 = v7
 generalize vs 7 = v12
 generalize vs 8 = v13
 have hF : ∀ l : List UInt8, l = s.data.toList → (k.toUInt8 :: bi s.size) ++ l = aM k l := by intro l hl; subst hl; unfold aM ae; simp
 have HR3 := hid r3
 clear r3
 obtain ⟨e1, h1⟩ := HX.out
 have HRP := hid (qB wd 5 s (by omega))
 have HRQ := hid ((HR3.out).below (Lib.bytesWorld_below wd 5 s) nl)
 go_simp
 go_wp2_with (first | rw [Lib.run_convert_string_bytes (P := Tryz.prog) _ 9 29 5 s Tryz.underlying9 Tryz.underlying29 Tryz.underlying5] | fail)
 refine (ou _ _ _ _ _ _ _ _ _ HRQ.out HRP.out (by simp; omega)).mono ?_
 rintro e w1 ⟨v1, rfl, hown1, hb1⟩
 rw [hF _ rfl] at hown1
 have hfl : (aM k s.data.toList).length ≤ 800011 := by have := aJ [s.data.toList.length]; unfold aM; simp at this ⊢; omega
 have HS1 := hid (au.of_owns hown1)
 have HB1 := hid (HB.out.trans ((Lib.bytesWorld_below wd 5 s).trans (hb1.mono (Lib.bytesWorld_below wd 5 s).size) |>.mono HB.out.size))
 have H1 := hid (bH hown1 (base' := w.heap.size) (by have := HB.out.size; have := (Lib.bytesWorld_below wd 5 s).size; omega))
 obtain ⟨va1, vc1, rfl⟩ := ag hown1
 have HQ1 := hid (yG (aM k s.data.toList) _ w1 (by omega) (Sl.keep (Sl.unown HS1.out) (by omega) (fun _ _ _ => rfl) (fun b hl _ => hl)))
 clear hown1 hb1 HR3 HRP HRQ
 go_wp2_with fail
 refine HQ1.out.mono ?_
 rintro e w2 ⟨rfl, hb2⟩
 have HB2 := hid (HB1.out.trans (hb2.mono HB1.out.size))
 have H2 := hid (ownsRow_below H1.out hb2 nl)
 have hcl := DL (aM k s.data.toList)
 generalize hcr : Crc.fw (aM k s.data.toList) = c at hcl ⊢
 clear hb2 HQ1 H1 HB1
 have hlit : Hid ([.int .u8 ((c : Int) % 256), .int .u8 ((c : Int) / 256 % 256), .int .u8 ((c : Int) / 65536 % 256), .int .u8 ((c : Int) / 16777216)] = bytes (gL c)) := hid (by unfold gL sI bytes; simp [List.range_succ]; omega)
 go_wp2_with (at_builtin; go_loud (refine af _ rfl (.tmp 21) (.tmp 36) _ rfl w.heap.size 5 i0 _ 1 1 Tryz.underlying29 hi0 hz0 hz1 hz2 rfl (by omega) _ _ (bytes (aM k s.data.toList)) rfl (H2.out.alloc _) _ _ 4 [.int .u8 ((c : Int) % 256), .int .u8 ((c : Int) / 256 % 256), .int .u8 ((c : Int) / 65536 % 256), .int .u8 ((c : Int) / 16777216)] _ rfl (Sl.of_owns (jA w2 0 #[.int .u8 ((c : Int) % 256), .int .u8 ((c : Int) / 256 % 256), .int .u8 ((c : Int) / 65536 % 256), .int .u8 ((c : Int) / 16777216)] 5 (Nat.zero_le _) (by simp)) (by omega)) (by simp [Value.oneCell']) (by unfold maxLen; omega) (by omega) (by have := HB2.out.size; simp; omega) ?_); intro v' w3 hown3 hgrow hat)
 go_ret
 have hlo := H2.out.lt
 refine ⟨v', rfl, ?_, ((HB2.out.alloc HB2.out.size _).grown hgrow (by have := HB2.out.size; simp; omega) (fun k hk => (hlo k hk).1))⟩
 rw [hlit.out, ← bytes_append] at hown3
 unfold aS
 rw [hcr]
 have e2 : (aM k s.data.toList).length + 4 = (aM k s.data.toList ++ gL c).length := by unfold gL; simp [gF]
 rw [e2] at hown3
 exact hown3
end Go.Proofs.YtagnalfkmdjajaaGreatDoor
