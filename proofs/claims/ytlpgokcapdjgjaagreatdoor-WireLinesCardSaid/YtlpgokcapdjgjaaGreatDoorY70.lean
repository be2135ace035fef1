/- Walks. -/
import Derived.Test.YtlpgokcapdjgjaaGreatDoorY47
import Derived.Laws.Sem
import Derived.Laws.Rows
import Derived.Deep.CutRange
set_option maxHeartbeats 1000000
set_option maxRecDepth 100000
namespace Go.Crc
def poly : Nat := 0xedb88320
def wo (r : Nat) : Nat := (r / 2) ^^^ (if r % 2 = 1 then poly else 0)
def bits (k : Nat) (r : Nat) : Nat := Nat.rec (motive := fun _ => Nat → Nat) (fun r => r) (fun _ ih r => ih (wo r)) k r
def wu (s c : Nat) : Nat := bits 8 (s ^^^ c)
def mZ : List UInt8 → Nat → Nat
 | [], s => s
 | c :: l, s => mZ l (wu s c.toNat)
def jh (l : List UInt8) : Nat := 4294967295 ^^^ mZ l 4294967295
theorem sM (k r : Nat) : bits (k + 1) r = bits k (wo r) := rfl
theorem sN : ∀ (k r : Nat), bits (k + 1) r = wo (bits k r)
 | 0, _ => rfl
 | k + 1, r => by rw [sM, sN k (wo r), ← sM]
theorem De {r : Nat} (h : r < 4294967296) : wo r < 4294967296 := by
 unfold wo
 apply Nat.xor_lt_two_pow (n := 32)
 ·show r / 2 < 4294967296; omega
 ·split
  ·decide
  ·decide
theorem uz : ∀ (k : Nat) {r : Nat}, r < 4294967296 → bits k r < 4294967296
 | 0, _, h => h
 | k + 1, _, h => uz k (De h)
theorem BQ {s : Nat} (c : UInt8) (h : s < 4294967296) : wu s c.toNat < 4294967296 :=
 uz 8 (Nat.xor_lt_two_pow (n := 32) h (by have := c.toNat_lt; show c.toNat < 4294967296; omega))
theorem uA : ∀ (l : List UInt8) {s : Nat}, s < 4294967296 → mZ l s < 4294967296
 | [], _, h => h
 | c :: l, _, h => uA l (BQ c h)
end Go.Crc
namespace Go.Proofs.YtlpgokcapdjgjaaGreatDoor
open Go.RowKit Go
set_option linter.unusedVariables false
set_option linter.unusedSimpArgs false
theorem wrap_u32 (n : Int) : IntKind.u32.wrap n = n % 4294967296 := by simp [IntKind.wrap, IntKind.bits, IntKind.signed]
theorem ofInt32 (a : Nat) (ha : a < 4294967296) : (BitVec.ofInt 32 (a : Int)).toNat = a := by
 rw [BitVec.ofInt_natCast, BitVec.toNat_ofNat]; exact Nat.mod_eq_of_lt (by omega)
theorem dD (a b : Nat) (ha : a < 4294967296) (hb : b < 4294967296) : bits .xor .u32 (a : Int) (b : Int) = ((a ^^^ b : Nat) : Int) := by
 have hx : a ^^^ b < 2 ^ 32 := Nat.xor_lt_two_pow (by omega) (by omega)
 show IntKind.u32.wrap ((BitVec.ofInt 32 (a : Int) ^^^ BitVec.ofInt 32 (b : Int)).toNat : Int) = _
 rw [BitVec.toNat_xor, ofInt32 a ha, ofInt32 b hb, wrap_u32]
 omega
theorem bits_and_u32_nat (a b : Nat) (ha : a < 4294967296) (hb : b < 4294967296) : bits .and .u32 (a : Int) (b : Int) = ((a &&& b : Nat) : Int) := by
 have hx : a &&& b < 2 ^ 32 := Nat.and_lt_two_pow _ (by omega)
 show IntKind.u32.wrap ((BitVec.ofInt 32 (a : Int) &&& BitVec.ofInt 32 (b : Int)).toNat : Int) = _
 rw [BitVec.toNat_and, ofInt32 a ha, ofInt32 b hb, wrap_u32]
 omega
theorem zt : IntKind.u32.max = ((4294967295 : Nat) : Int) := by simp [IntKind.max, IntKind.signed, IntKind.bits]
theorem BR (r : Nat) : 4294967295 ^^^ (4294967295 ^^^ r) = r := by rw [← Nat.xor_assoc, Nat.xor_self, Nat.zero_xor]
theorem not_not (r : Nat) (hr : r < 4294967296) : bits .xor .u32 IntKind.u32.max ((4294967295 ^^^ r : Nat) : Int) = (r : Int) := by
 rw [zt, dD _ _ (by decide) (Nat.xor_lt_two_pow (n := 32) (by decide) hr), BR]
theorem Df (r : Nat) (hr : r < 4294967296) : bits .xor .u32 IntKind.u32.max (r : Int) = ((4294967295 ^^^ r : Nat) : Int) := by
 rw [zt, dD _ _ (by decide) hr]
theorem BS (x : Nat) (hx : x < 4294967296) : bits .xor .u32 ((x : Int) / 2) (bits .and .u32 3988292384 (-(bits .and .u32 (x : Int) 1) % 4294967296)) = ((Crc.wo x : Nat) : Int) := by
 have e1 : bits .and .u32 (x : Int) 1 = ((x % 2 : Nat) : Int) := by
  rw [show (1 : Int) = ((1 : Nat) : Int) from rfl, bits_and_u32_nat x 1 hx (by decide), Nat.and_one_is_mod]
 have e2 : (x : Int) / 2 = ((x / 2 : Nat) : Int) := by omega
 rw [e1, e2]
 unfold Crc.wo Crc.poly
 rcases Nat.mod_two_eq_zero_or_one x with h | h
 ·rw [h, if_neg (by decide)]
  rw [show (-((0 : Nat) : Int)) % 4294967296 = ((0 : Nat) : Int) from rfl, show (3988292384 : Int) = ((3988292384 : Nat) : Int) from rfl, bits_and_u32_nat _ _ (by decide) (by decide), dD _ _ (by omega) (by decide)]
  rfl
 ·rw [h, if_pos rfl]
  rw [show (-((1 : Nat) : Int)) % 4294967296 = ((4294967295 : Nat) : Int) from rfl, show (3988292384 : Int) = ((3988292384 : Nat) : Int) from rfl, bits_and_u32_nat _ _ (by decide) (by decide), dD _ _ (by omega) (by decide)]
  rfl
theorem ww (b c r m : Nat) (w : World) (hc : c < 256) (hr : r < 4294967296) (hm : m ≤ 1000000000) (hw : w.heap[b]? = some (.cells #[.int .u32 ((4294967295 ^^^ r : Nat) : Int), .int .i64 m] 274 (0, 0))) :
  Calls Tryz.prog 210 #[.pointer (some ⟨b, 0, none⟩), .int .u8 c] w fun e w' => e = .returned (.tuple #[]) ∧ w' = (w.setCell ⟨b, 0, none⟩ (.int .u32 ((4294967295 ^^^ Crc.wu r c : Nat) : Int))).setCell ⟨b, 1, none⟩ (.int .i64 ((m + 1 : Nat) : Int)) := by
 have c0 : w.cell? ⟨b, 0, none⟩ = some (.int .u32 ((4294967295 ^^^ r : Nat) : Int)) := by simp [World.cell?, hw]
 have c1 : w.cell? ⟨b, 1, none⟩ = some (.int .i64 m) := by simp [World.cell?, hw]
 have f0 : w.frozen? ⟨b, 0, none⟩ = false := by simp [World.frozen?, hw]
 have f1 : w.frozen? ⟨b, 1, none⟩ = false := by simp [World.frozen?, hw]
 have hsg : IntKind.u32.signed = false := rfl
 have H := hid hw
 have HC := hid hc
 have HR := hid hr
 clear hw hc hr
 go_enter Tryz.func210, Tryz.ntmps210
 go_wp2_with fail
 go_loop [4, 13] (fun x i => ∃ j : Nat, j ≤ 8 ∧ i = .int .i64 j ∧ x = .int .u32 ((Crc.bits j (r ^^^ c) : Nat) : Int)) (fun _ i => 8 - (intOf i).toNat)
 case atStart => exact ⟨0, by omega, rfl, by rw [not_not r HR.out, show ((c : Int) % 4294967296) = (c : Int) by have := HC.out; omega, dD r c HR.out (by have := HC.out; omega)]; rfl⟩
 case round =>
  obtain ⟨j, hj, rfl, rfl⟩ := hrel
  have hX : Crc.bits j (r ^^^ c) < 4294967296 := Crc.uz j (Nat.xor_lt_two_pow (n := 32) HR.out (by have := HC.out; show c < 4294967296; omega))
  have HX := hid hX
  clear hX
  by_cases h8 : j < 8
  ·go_wp2_with fail
   go_round
   case rel => exact ⟨j + 1, by omega, by go_num, by rw [BS _ HX.out, ← Crc.sN]⟩
   case measure => simp [intOf]; omega
  ·have : j = 8 := by omega
   subst this
   go_wp2_with fail
   go_end0
   rw [Df _ HX.out]
   exact ⟨rfl, rfl⟩
theorem Aj (l : List UInt8) (s j : Nat) (h : j < l.length) : Crc.mZ (l.take (j + 1)) s = Crc.wu (Crc.mZ (l.take j) s) (l[j]).toNat := by
 rw [List.take_succ_eq_append_getElem h]
 have : ∀ (a : List UInt8) (c : UInt8) (s : Nat), Crc.mZ (a ++ [c]) s = Crc.wu (Crc.mZ a s) c.toNat := by
  intro a
  induction a with
  | nil => intro c s; rfl
  | cons x a ih => intro c s; exact ih c _
 exact this _ _ _
theorem xZ (b B r : Nat) (l : List UInt8) (v : Value) (w : World) (hl : l.length ≤ 1000000) (hr : r < 4294967296) (hB : B ≤ b) (hv : aF w (fun k => k < B) false l v) (hw : w.heap[b]? = some (.cells #[.int .u32 ((4294967295 ^^^ r : Nat) : Int), .int .i64 ((0 : Nat) : Int)] 274 (0, 0))) :
  Calls Tryz.prog 183 #[.pointer (some ⟨b, 0, none⟩), v] w fun e w' => e = .returned (.tuple #[]) ∧ w'.heap[b]? = some (.cells #[.int .u32 ((4294967295 ^^^ Crc.mZ l r : Nat) : Int), .int .i64 ((l.length : Nat) : Int)] 274 (0, 0)) ∧ Below B w w' := by
 obtain ⟨hl1, ad, cap, rfl, hcap⟩ := hv.shape
 have HW := hid hw
 have HV := hid hv
 have HR := hid hr
 clear hw hv hr
 go_enter Tryz.func183, Tryz.ntmps183
 go_wp2_with fail
 go_loopw [10] (fun i wr => ∃ j : Nat, j ≤ l.length ∧ i = .int .i64 j ∧ wr.heap[b]? = some (.cells #[.int .u32 ((4294967295 ^^^ Crc.mZ (l.take j) r : Nat) : Int), .int .i64 ((j : Nat) : Int)] 274 (0, 0)) ∧ Below B w wr) (fun i _ => l.length - (intOf i).toNat)
 case atStart => exact ⟨0, Nat.zero_le _, rfl, HW.out, br⟩
 case round =>
  obtain ⟨j, hj, rfl, hwr, hbel⟩ := hrel
  by_cases hlt : j < l.length
  ·obtain ⟨bl, off, rfl, hbl, hcell⟩ := HV.out.cell (by omega)
   have hc := (hbel.cell (p := ⟨bl, off + j, none⟩) hbl).trans (hcell j hlt).1
   have HB := hid (ww b (l[j]).toNat (Crc.mZ (l.take j) r) j wr (by have := (l[j]).toNat_lt; omega) (Crc.uA _ HR.out) (by omega) hwr)
   have HWR := hid hwr
   clear hwr
   go_wp2_with (go_at_call 210; refine HB.out.mono ?_; rintro e w1 ⟨rfl, rfl⟩)
   go_roundw
   case rel =>
    refine ⟨j + 1, hlt, by go_num, ?_, ?_⟩
    ·rw [Aj l r j hlt, show ((j + 1 : Nat) : Int) = (j : Int) + 1 by simp]
     exact ae (ae HWR.out rfl) rfl
    ·exact (hbel.setCell (p := ⟨b, 0, none⟩) hB _).setCell (p := ⟨b, 1, none⟩) hB _
   case measure => simp [intOf]; omega
  ·have hj2 : j = l.length := by omega
   subst hj2
   rw [List.take_of_length_le nl] at hwr
   have HWR := hid hwr
   clear hwr
   go_wp2_with fail
   go_end0
   exact ⟨rfl, HWR.out, hbel⟩
theorem uB (b : Nat) (x : Int) (w : World) (c0 : w.cell? ⟨b, 0, none⟩ = some (.int .u32 x)) : Calls Tryz.prog 184 #[.pointer (some ⟨b, 0, none⟩)] w fun e w' => e = .returned (.int .u32 x) ∧ w' = w := by
 go_enter Tryz.func184, Tryz.ntmps184
 go_wp2_with fail
 go_ret
 exact ⟨rfl, rfl⟩
theorem yc (l : List UInt8) (v : Value) (q cap : Nat) (w : World) (hl : l.length ≤ 1000000) (hcp : 1 ≤ cap) (hq : w.cell? ⟨q, 0, none⟩ = some v) (hqs : q < w.heap.size) (hv : aF w (fun k => k < w.heap.size) false l v) :
  Calls Tryz.prog 125 #[.slice (some ⟨q, 0, none⟩) 1 cap] w fun e w' => e = .returned (.int .u32 (Crc.jh l : Nat)) ∧ Below w.heap.size w w' := by
 have HV := hid hv
 have HQ := hid hq
 clear hv hq
 go_enter Tryz.func125, Tryz.ntmps125
 go_wp2_with fail
 go_loopw [8] (fun i wr => ∃ j : Nat, j ≤ 1 ∧ i = .int .i64 j ∧ wr.heap[w.heap.size]? = some (.cells #[.int .u32 ((4294967295 ^^^ Crc.mZ (if j = 0 then [] else l) 4294967295 : Nat) : Int), .int .i64 (((if j = 0 then 0 else l.length : Nat) : Nat) : Int)] 274 (0, 0)) ∧ Below w.heap.size w wr) (fun i _ => 1 - (intOf i).toNat)
 case atStart => exact ⟨0, by omega, rfl, (by simpa [Crc.mZ] using heap_alloc_new w (.cells #[.int .u32 0, .int .i64 0] 274)), br.alloc nl _⟩
 case round =>
  obtain ⟨j, hj, rfl, hwr, hbel⟩ := hrel
  by_cases h0 : j = 0
  ·subst h0
   have hc := (hbel.cell (p := ⟨q, 0, none⟩) hqs).trans HQ.out
   have HB := hid (xZ w.heap.size w.heap.size 4294967295 l v wr hl (by decide) nl (HV.out.below hbel nl) hwr)
   clear hwr
   go_wp2_with (go_at_call 183; refine HB.out.mono ?_; rintro e w1 ⟨rfl, hw1, hb1⟩; have HW1 := hid (And.intro hw1 hb1); clear hw1 hb1)
   go_roundw
   case rel => exact ⟨1, by omega, rfl, HW1.out.1, hbel.trans HW1.out.2⟩
   case measure => simp [intOf]
  ·have : j = 1 := by omega
   subst this
   have c0 : wr.cell? ⟨w.heap.size, 0, none⟩ = some (.int .u32 ((4294967295 ^^^ Crc.mZ l 4294967295 : Nat) : Int)) := by simp [World.cell?, hwr]
   have HB := hid (uB w.heap.size _ wr c0)
   clear hwr c0
   go_wp2_with (go_at_call 184; refine HB.out.mono ?_; rintro e w1 ⟨rfl, rfl⟩)
   go_ret
   exact ⟨rfl, hbel⟩
theorem sO : (Tryz.prog.info? 5).map (fun i => (i.zero, i.size, i.bytes)) = some (some (.int .u8 0), 1, 1) := by kernel_rfl
theorem uC (w : World) (base : Nat) (cs : Array Value) (T : TypeId) (hb : base ≤ w.heap.size) (hm : cs.size ≤ 1000) : (w.alloc (.cells cs T)).ownsRow base T 1 (.slice (some ⟨w.heap.size, 0, none⟩) cs.size cs.size) cs.size cs.toList :=
 ⟨by simp, Or.inr ⟨w.heap.size, cs.size, cs, rfl, hb, heap_alloc_new w _, Nat.le_refl _, by unfold maxLen; omega, by omega, by simp [List.take_of_length_le]⟩⟩
def uD (x j : Nat) : List UInt8 := (List.range j).map fun i => (x / 256 ^ i % 256).toUInt8
theorem Ak (x j : Nat) : uD x (j + 1) = uD x j ++ [(x / 256 ^ j % 256).toUInt8] := by unfold uD; rw [List.range_succ, List.map_append]; rfl
theorem jT (x j : Nat) : (uD x j).length = j := by unfold uD; simp
def mD (x : Nat) : List UInt8 := uD x 4
theorem sP (l : List UInt8) (v : Value) (w : World) (hl : l.length ≤ 1000000) (hv : aF w (fun k => k < w.heap.size) false l v) :
  Calls Tryz.prog 87 #[v] w (oN 5 w (mD (Crc.jh l))) := by
 obtain ⟨hl1, ad, cp, rfl, hcp⟩ := hv.shape
 obtain ⟨i0, hi0, hz0, hz1, hz2⟩ := info_parts sO
 have hb1 : Below w.heap.size w (w.alloc (.cells #[.slice ad l.length cp] 32)) := br.alloc nl _
 have hcell : (w.alloc (.cells #[.slice ad l.length cp] 32)).cell? ⟨w.heap.size, 0, none⟩ = some (.slice ad l.length cp) := by
  have e := heap_alloc_new w (.cells #[.slice ad l.length cp] 32)
  unfold World.cell?
  rw [e]; rfl
 have hcs := yc l (.slice ad l.length cp) w.heap.size 1 (w.alloc (.cells #[.slice ad l.length cp] 32)) hl nl hcell (by simp) (Sl.keep (hv.below hb1 nl) (by omega) (fun b _ _ => rfl) (fun b hb _ => hb))
 have HCS := hid hcs
 have HB1 := hid hb1
 clear hcs hb1 hv
 go_enter Tryz.func87, Tryz.ntmps87
 go_wp2_with (go_at_call 125; refine HCS.out.mono ?_; rintro e w1 ⟨rfl, hb2⟩)
 have HB2 := hid (HB1.out.trans (hb2.mono (by simp)))
 clear hb2
 go_loopw [2, 3, 7] (fun sv c i wr => ∃ j : Nat, j ≤ 4 ∧ i = .int .i64 j ∧ c = .int .u32 ((Crc.jh l / 256 ^ j : Nat) : Int) ∧ wr.ownsRow w.heap.size 5 1 sv j (bytes (uD (Crc.jh l) j)) ∧ Below w.heap.size w wr) (fun _ _ i _ => 4 - (intOf i).toNat)
 case atStart => exact ⟨0, by omega, rfl, by simp, World.ownsRow_nil _ _ _ _, HB2.out⟩
 case round =>
  obtain ⟨j, hj, rfl, rfl, hown, hbel⟩ := hrel
  have hsz := hbel.size
  have hob := hown.lt
  have HOWN := hid hown
  clear hown
  by_cases h4 : j < 4
  ·have hx : Crc.jh l < 4294967296 := by unfold Crc.jh; exact Nat.xor_lt_two_pow (n := 32) (by decide) (Crc.uA l (by decide))
   have hd : Crc.jh l / 256 ^ j < 4294967296 := Nat.lt_of_le_of_lt (Nat.div_le_self _ _) hx
   generalize hX : Crc.jh l / 256 ^ j = X at hd ⊢
   have HX := hid hX
   clear hX hx
   go_wp2_with (at_builtin; go_loud (refine bL _ rfl (.tmp 9) (.tmp 12) _ rfl w.heap.size 5 i0 _ 1 1 Tryz.underlying32 hi0 hz0 hz1 hz2 rfl (by omega) _ j (bytes (uD (Crc.jh l) j)) rfl (HOWN.out.alloc _) _ _ 1 [.int .u8 ((X : Int) % 256)] _ rfl (Sl.of_owns (uC wr 0 #[.int .u8 ((X : Int) % 256)] 5 (Nat.zero_le _) (by simp)) (by omega)) (by simp [Value.oneCell']) (by unfold maxLen; omega) (by omega) (by simp; omega) ?_); intro v' w2 hown2 hgrow hat)
   have HO2 := hid (And.intro hown2 (And.intro hgrow hat))
   clear hown2 hgrow hat
   go_wp2_with fail
   go_roundw
   case rel =>
    obtain ⟨hown2, hgrow, hat⟩ := HO2.out
    refine ⟨j + 1, by omega, by go_num, ?_, ?_, ?_⟩
    ·rw [Nat.pow_succ, ← Nat.div_div_eq_div_mul, HX.out]; simp
    ·rw [Ak, HX.out]
     have hu : ((X % 256).toUInt8.toNat : Int) = (X : Int) % 256 := by rw [lQ (by omega)]; simp
     simpa [bytes, hu] using hown2
    ·exact (hbel.alloc (by omega) _).grown hgrow (by simp; omega) (fun k hk => (hob k hk).1)
   case measure => simp [intOf]; omega
  ·have : j = 4 := by omega
   subst this
   go_wp2_with fail
   go_ret
   exact ⟨_, rfl, by rw [show mD (Crc.jh l) = uD (Crc.jh l) 4 from rfl, jT]; exact HOWN.out, hbel⟩
theorem zu (w : World) (S : Nat → Prop) (cs : Array Value) (T : TypeId) (n cap : Nat) (hn : n ≤ cs.size) (hm : n ≤ cap) (hS : S w.heap.size) (h63 : n ≤ 1000) : Sl (w.alloc (.cells cs T)) S true 1 n (cs.toList.take n) (.slice (some ⟨w.heap.size, 0, none⟩) n cap) := by
 refine ⟨by simp; omega, by omega, _, _, rfl, hm, fun _ => ⟨_, _, rfl, hS, fun j hj => ?_⟩⟩
 have hj2 : j < cs.size := by simp at hj; omega
 rw [cell_of_row _ _ (0 + j) cs T (0, 0) (heap_alloc_new w _), frozen_of_row _ _ (0 + j) cs T (heap_alloc_new w _)]
 simp [hj2]
theorem Al (w : World) (q : Nat) (hq : q < 256) (T : TypeId) : aF (w.alloc (.cells #[.int .u8 (q : Int)] T)) (fun _ => True) true [q.toUInt8] (.slice (some ⟨w.heap.size, 0, none⟩) 1 1) := by
 have h := zu w (fun _ => True) #[.int .u8 (q : Int)] T 1 1 (by simp) (by omega) trivial (by omega)
 unfold aF
 simpa [bytes, lQ hq] using h
theorem wy (own : Bool) (wb : Nat) (sv : Value) (l m : List UInt8) (v : Value) (w : World) (hw : Wr 192 5 w wb sv l) (hr : aF w (fun b => b ≠ wb ∧ sv.ownBlock ≠ some b) own m v) (h1 : l.length + m.length ≤ 900000) :
  Calls Tryz.prog 86 #[.pointer (some ⟨wb, 0, none⟩), v] w (Wg 192 5 w wb sv (l ++ (bC [m.length] ++ m)) (.int .i64 0)) := by
 obtain ⟨hl, ad, cap, rfl, hc⟩ := hr.shape
 have hlt := hw.lt
 have hb0 : Below w.heap.size w (w.alloc (.cells #[.int .u64 (m.length : Nat)] 57)) := br.alloc nl _
 have q1 : IntKind.u64.wrap (m.length : Int) = (m.length : Int) := by unfold IntKind.wrap; simp [IntKind.signed, IntKind.bits]; omega
 have HN := hid (lS true wb sv l [m.length] (.slice (some ⟨w.heap.size, 0, none⟩) 1 1) _ (hw.below hb0) (by simpa [nums] using zu w _ #[.int .u64 (m.length : Nat)] 57 1 1 (by simp) (by omega) ⟨by omega, fun e => by have := (hlt.2 _ e).2; omega⟩ (by omega)) (by intro n hn; simp at hn; omega) (by simp; omega))
 have HR := hid (And.intro (hr.below hb0 nl) (And.intro (hw.below hb0) (Wrote.of_below (wb := wb) (sv := sv) hb0)))
 clear hr hw
 go_enter Tryz.func86, Tryz.ntmps86
 go_wp2_with fail
 refine HN.out.mono ?_
 rintro e w1 ⟨rfl, sv1, hw1, ht1⟩
 have hr1 : aF w1 (fun b => b ≠ wb ∧ sv.ownBlock ≠ some b) own m (.slice ad m.length cap) := Sl.keep HR.out.1 (by omega) (fun b hb hl => ht1.keep b hl hb.1 hb.2) (fun _ _ h => h)
 have HQ := hid (And.intro hr1 (And.intro hw1 (HR.out.2.2.trans ht1)))
 clear hr1 hw1 ht1
 go_wp2_with fail
 refine (rY _ own wb sv1 (l ++ bC [m.length]) m _ w1 HQ.out.2.1 HQ.out.1 (by have := bA [m.length]; simp at this ⊢; omega)).mono ?_
 rintro e w2 ⟨rfl, sv2, hw2, ht2⟩
 have HZ := hid (And.intro hw2 (HQ.out.2.2.trans ht2))
 clear hw2 ht2
 go_wp2_with fail
 go_ret
 exact ⟨rfl, sv2, by rw [← List.append_assoc]; exact HZ.out.1, HZ.out.2⟩
def bF (k : Nat) (l : List UInt8) : List UInt8 := k.toUInt8 :: (bC [l.length] ++ l)
def dY (k : Nat) (l : List UInt8) : List UInt8 := bF k l ++ mD (Crc.jh (bF k l))
theorem yf (k : Nat) (l : List UInt8) : (dY k l).length ≤ l.length + 15 := by
 have := bA [l.length]
 unfold dY bF mD
 rw [List.length_append, jT]
 simp at this ⊢; omega
end Go.Proofs.YtlpgokcapdjgjaaGreatDoor
