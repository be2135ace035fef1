/- Walks. -/
import Derived.Test.YtlpgokcapdjgjaaGreatDoorY18
import Derived.Laws.Sem
import Derived.Deep.CutRange
set_option maxHeartbeats 1000000
set_option maxRecDepth 100000
namespace Go.Crc
def poly : Nat := 0xedb88320
def mY (r : Nat) : Nat := (r / 2) ^^^ (if r % 2 = 1 then poly else 0)
def bits (k : Nat) (r : Nat) : Nat := Nat.rec (motive := fun _ => Nat → Nat) (fun r => r) (fun _ ih r => ih (mY r)) k r
def rM (s c : Nat) : Nat := bits 8 (s ^^^ c)
def mg : List UInt8 → Nat → Nat
 | [], s => s
 | c :: l, s => mg l (rM s c.toNat)
def gL (l : List UInt8) : Nat := 4294967295 ^^^ mg l 4294967295
theorem oU (k r : Nat) : bits (k + 1) r = bits k (mY r) := rfl
theorem vk : ∀ (k r : Nat), bits (k + 1) r = mY (bits k r)
 | 0, _ => rfl
 | k + 1, r => by rw [oU, vk k (mY r), ← oU]
theorem rO (r i : Nat) : (mY r).testBit i = (r.testBit (i + 1) ^^ (r.testBit 0 && poly.testBit i)) := by
 unfold mY;rw [Nat.testBit_xor, ← Nat.testBit_succ];by_cases h : r % 2 = 1
 ·rw [if_pos h]
  have : r.testBit 0 = true := by rw [Nat.testBit_zero]; simpa using h
  rw [this, Bool.true_and]
 ·rw [if_neg h]
  have : r.testBit 0 = false := by rw [Nat.testBit_zero]; simpa using h
  rw [this, Bool.false_and, Nat.zero_testBit]
theorem DJ (x y : Nat) : mY (x ^^^ (2 * y)) = mY x ^^^ y := by
 apply Nat.eq_of_testBit_eq;intro i;rw [Nat.testBit_xor, rO, rO, Nat.testBit_xor, Nat.testBit_xor];have h0 : (2 * y).testBit 0 = false := by rw [Nat.testBit_zero]; simp
 have h1 : (2 * y).testBit (i + 1) = y.testBit i := by rw [Nat.testBit_succ]; congr 1; omega
 rw [h0, h1, Bool.xor_false];cases x.testBit (i + 1) <;> cases y.testBit i <;> cases (x.testBit 0 && poly.testBit i) <;> rfl
def iZ : List Bool → Nat → Nat
 | [], s => s
 | b :: l, s => iZ l (mY (s ^^^ (if b then 1 else 0)))
def jE (k c : Nat) : List Bool := Nat.rec (motive := fun _ => Nat → List Bool) (fun _ => []) (fun _ ih c => (c % 2 == 1) :: ih (c / 2)) k c
theorem lY (k c : Nat) : jE (k + 1) c = (c % 2 == 1) :: jE k (c / 2) := rfl
theorem Co (s c : Nat) : s ^^^ c = (s ^^^ (if (c % 2 == 1) = true then 1 else 0)) ^^^ (2 * (c / 2)) := by
 apply Nat.eq_of_testBit_eq;intro i;rw [Nat.testBit_xor, Nat.testBit_xor, Nat.testBit_xor];have hb : (if (c % 2 == 1) = true then 1 else 0 : Nat) = c % 2 := by
  rcases Nat.mod_two_eq_zero_or_one c with h | h <;> rw [h] <;> rfl
 rw [hb];cases i with
 | zero =>
  have h0 : (2 * (c / 2)).testBit 0 = false := by rw [Nat.testBit_zero]; simp
  rw [h0, Bool.xor_false, Nat.testBit_zero c, Nat.testBit_zero (c % 2)]
  congr 2
  rw [Nat.mod_mod]
 | succ i =>
  have h1 : (c % 2).testBit (i + 1) = false := by
   apply Nat.testBit_lt_two_pow;have : c % 2 < 2 := Nat.mod_lt _ (by omega);have : 2 ^ 1 ≤ 2 ^ (i + 1) := Nat.pow_le_pow_right (by omega) (by omega);omega
  have h2 : (2 * (c / 2)).testBit (i + 1) = c.testBit (i + 1) := by
   rw [Nat.testBit_succ, Nat.testBit_succ]; congr 1; omega
  rw [h1, h2, Bool.xor_false]
theorem vo : ∀ (k s c : Nat), c < 2 ^ k → bits k (s ^^^ c) = iZ (jE k c) s
 | 0, s, c, h => by
  have : c = 0 := by simp at h; exact h
  subst this;show s ^^^ 0 = s;exact Nat.xor_zero s
 | k + 1, s, c, h => by
  rw [oU, lY, Co s c, DJ];show bits k (mY (s ^^^ (if (c % 2 == 1) = true then 1 else 0)) ^^^ (c / 2)) = _;rw [vo k _ (c / 2) (by rw [Nat.pow_succ] at h; omega)];rfl
theorem Ab (s : Nat) (c : UInt8) : rM s c.toNat = iZ (jE 8 c.toNat) s := vo 8 s c.toNat (by have := c.toNat_lt; omega)
def aW : List UInt8 → List Bool
 | [] => []
 | c :: l => jE 8 c.toNat ++ aW l
theorem oV : ∀ (a b : List Bool) (s : Nat), iZ (a ++ b) s = iZ b (iZ a s)
 | [], _, _ => rfl
 | x :: a, b, s => by show iZ (a ++ b) _ = _; rw [oV a b]; rfl
theorem vv : ∀ (l : List UInt8) (s : Nat), mg l s = iZ (aW l) s
 | [], _ => rfl
 | c :: l, s => by
  show mg l (rM s c.toNat) = iZ (jE 8 c.toNat ++ aW l) s;rw [oV, vv l, Ab]
theorem rP : ∀ (k c : Nat), (jE k c).length = k
 | 0, _ => rfl
 | k + 1, c => by rw [lY, aJ, rP k]
theorem fK : ∀ l : List UInt8, (aW l).length = 8 * l.length
 | [] => rfl
 | c :: l => by show (jE 8 c.toNat ++ aW l).length = _; rw [aI, rP, fK l, aJ]; omega
def turns (d : Nat) : Bool := [6, 9, 10, 16, 20, 21, 22, 24, 25, 27, 28, 30, 31, 32].contains d
theorem Ac (d : Nat) : turns (d + 1) = poly.testBit d := by
 by_cases h : d < 32
 ·have key : ∀ d, d < 32 → turns (d + 1) = poly.testBit d := by decide
  exact key d h
 ·have h1 : poly.testBit d = false := by
   apply Nat.testBit_lt_two_pow;have : 2 ^ 32 ≤ 2 ^ d := Nat.pow_le_pow_right (by omega) (by omega);have : poly < 2 ^ 32 := (by decide);omega
  rw [h1];unfold turns;simp only [List.contains_cons, List.contains_nil, Bool.or_false, Bool.or_eq_false_iff, beq_eq_false_iff_ne, ne_eq];omega
def yl (row : Nat → Bool) (i : Nat) : Nat → Bool := fun j => if j = i then false else if row i = true ∧ i < j then row j ^^ turns (j - i) else row j
def divN (row : Nat → Bool) : Nat → Nat → Bool
 | 0 => row
 | i + 1 => yl (divN row i) i
def row0 (l : List Bool) (j : Nat) : Bool := (l.getD j false) ^^ decide (j < 32)
theorem Ad (l : List Bool) (b : Bool) (s : Nat) : iZ (l ++ [b]) s = mY (iZ l s ^^^ (if b then 1 else 0)) := by rw [oV]; rfl
theorem ym (j : Nat) : (4294967295 : Nat).testBit j = decide (j < 32) := by
 have : (4294967295 : Nat) = 2 ^ 32 - 1 := rfl;rw [this, Nat.testBit_two_pow_sub_one]
theorem Br (b : Bool) (j : Nat) : (if b then 1 else 0 : Nat).testBit j = (b && decide (j = 0)) := by
 cases b with
 | false => simp
 | true =>
  cases j with
  | zero => rfl
  | succ j => rw [Nat.testBit_succ]; simp
theorem Bt (l : List Bool) : ∀ i, i ≤ l.length → ∀ j, i ≤ j → divN (row0 l) i j = (l.getD j false ^^ (iZ (l.take i) 4294967295).testBit (j - i))
 | 0, _, j, _ => by
  show row0 l j = _;unfold row0;rw [List.take_zero];show _ = (l.getD j false ^^ (4294967295 : Nat).testBit (j - 0));rw [ym, Nat.sub_zero]
 | i + 1, hi, j, hj => by
  have ih := Bt l i (by omega);have hq := ih i nl;have hj' := ih j (by omega);show yl (divN (row0 l) i) i j = _;unfold yl;rw [if_neg (by omega)];have htake : l.take (i + 1) = l.take i ++ [l.getD i false] := by
   rw [List.take_add_one, List.getD_eq_getElem?_getD, af (by omega)];rfl
  rw [htake, Ad, rO];have e1 : j - (i + 1) + 1 = j - i := by omega
  rw [e1, Nat.testBit_xor, Nat.testBit_xor, Br, Br];have e2 : decide (j - i = 0) = false := decide_eq_false (by omega);rw [e2, Bool.and_false, Bool.xor_false, decide_eq_true (rfl : (0 : Nat) = 0), Bool.and_true];rw [Nat.sub_self] at hq;have e3 : turns (j - i) = poly.testBit (j - (i + 1)) := by
   rw [← Ac]; congr 1; omega
  rw [hq, hj', e3];have hlt : i < j := by omega
  cases hx : (l.getD i false ^^ (iZ (l.take i) 4294967295).testBit 0) with
  | true =>
   rw [if_pos ⟨rfl, hlt⟩];have : ((iZ (l.take i) 4294967295).testBit 0 ^^ l.getD i false) = true := (by rw [Bool.xor_comm]; exact hx);rw [this, Bool.true_and, Bool.xor_assoc]
  | false =>
   rw [if_neg (fun h => by cases h.1)];have : ((iZ (l.take i) 4294967295).testBit 0 ^^ l.getD i false) = false := (by rw [Bool.xor_comm]; exact hx);rw [this, Bool.false_and, Bool.xor_false]
theorem DK (l : List UInt8) (i : Nat) : divN (row0 (aW l)) (8 * l.length) (8 * l.length + i) = (mg l 4294967295).testBit i := by
 have h := Bt (aW l) (8 * l.length) (by rw [fK]; exact Nat.le_refl _) (8 * l.length + i) (by omega);rw [h, ah (by rw [fK]; exact Nat.le_refl _), ← vv];have : (aW l).getD (8 * l.length + i) false = false := by
  rw [List.getD_eq_getElem?_getD, List.getElem?_eq_none (by rw [fK]; omega)]; rfl
 rw [this, Bool.false_xor]
 congr 1; omega
theorem Fq {r : Nat} (h : r < 4294967296) : mY r < 4294967296 := by
 unfold mY;apply Nat.xor_lt_two_pow (n := 32)
 ·show r / 2 < 4294967296; omega
 ·split
  ·decide
  ·decide
theorem wK : ∀ (k : Nat) {r : Nat}, r < 4294967296 → bits k r < 4294967296
 | 0, _, h => h
 | k + 1, _, h => wK k (Fq h)
theorem DL {s : Nat} (c : UInt8) (h : s < 4294967296) : rM s c.toNat < 4294967296 :=
 wK 8 (Nat.xor_lt_two_pow (n := 32) h (by have := c.toNat_lt; show c.toNat < 4294967296; omega))
theorem nU : ∀ (l : List UInt8) {s : Nat}, s < 4294967296 → mg l s < 4294967296
 | [], _, h => h
 | c :: l, _, h => nU l (DL c h)
def kU (f : Nat → Bool) : Nat → Nat
 | 0 => 0
 | k + 1 => 2 * kU (fun i => f (i + 1)) k + (if f 0 then 1 else 0)
theorem Bu : ∀ (k x : Nat), x < 2 ^ k → kU (fun i => x.testBit i) k = x
 | 0, x, h => by simp at h; subst h; rfl
 | k + 1, x, h => by
  show 2 * kU (fun i => x.testBit (i + 1)) k + (if x.testBit 0 = true then 1 else 0) = x;have : (fun i => x.testBit (i + 1)) = fun i => (x / 2).testBit i := by funext i; rw [Nat.testBit_succ]
  rw [this, Bu k (x / 2) (by rw [Nat.pow_succ] at h; omega), Nat.testBit_zero];rcases Nat.mod_two_eq_zero_or_one x with e | e
  ·rw [if_neg (by simp [e])]; omega
  ·rw [if_pos (by simp [e])]; omega
theorem Gz (l : List UInt8) : kU (fun i => !(divN (row0 (aW l)) (8 * l.length) (8 * l.length + i))) 32 = gL l := by
 have h := Bu 32 (gL l) (by
  unfold gL;exact Nat.xor_lt_two_pow (n := 32) (by decide) (nU l (by decide)))
 rw [← h];have key : ∀ (k : Nat) (f g : Nat → Bool), (∀ i, i < k → f i = g i) → kU f k = kU g k := by
  intro k
  induction k with
  | zero => intro f g _; rfl
  | succ k ih =>
   intro f g hfg;show 2 * kU _ k + _ = 2 * kU _ k + _;rw [ih (fun i => f (i + 1)) (fun i => g (i + 1)) (fun i hi => hfg (i + 1) (by omega)), hfg 0 (by omega)]
 apply key;intro i hi;rw [DK];unfold gL;rw [Nat.testBit_xor, ym, decide_eq_true hi, Bool.true_xor]
end Go.Crc
namespace Go.Proofs.YtlpgokcapdjgjaaGreatDoor
open Go.RowKit Go
set_option linter.unusedVariables false
set_option linter.unusedSimpArgs false
theorem wrap_u32 (n : Int) : IntKind.u32.wrap n = n % 4294967296 := by simp [IntKind.wrap, IntKind.bits, IntKind.signed]
theorem ofInt32 (a : Nat) (ha : a < 4294967296) : (BitVec.ofInt 32 (a : Int)).toNat = a := by
 rw [BitVec.ofInt_natCast, BitVec.toNat_ofNat]; exact Nat.mod_eq_of_lt (by omega)
theorem dO (a b : Nat) (ha : a < 4294967296) (hb : b < 4294967296) : bits .xor .u32 (a : Int) (b : Int) = ((a ^^^ b : Nat) : Int) := by
 have hx : a ^^^ b < 2 ^ 32 := Nat.xor_lt_two_pow (by omega) (by omega);show IntKind.u32.wrap ((BitVec.ofInt 32 (a : Int) ^^^ BitVec.ofInt 32 (b : Int)).toNat : Int) = _;rw [BitVec.toNat_xor, ofInt32 a ha, ofInt32 b hb, wrap_u32];omega
theorem bits_and_u32_nat (a b : Nat) (ha : a < 4294967296) (hb : b < 4294967296) : bits .and .u32 (a : Int) (b : Int) = ((a &&& b : Nat) : Int) := by
 have hx : a &&& b < 2 ^ 32 := Nat.and_lt_two_pow _ (by omega);show IntKind.u32.wrap ((BitVec.ofInt 32 (a : Int) &&& BitVec.ofInt 32 (b : Int)).toNat : Int) = _;rw [BitVec.toNat_and, ofInt32 a ha, ofInt32 b hb, wrap_u32];omega
theorem Bv : IntKind.u32.max = ((4294967295 : Nat) : Int) := by simp [IntKind.max, IntKind.signed, IntKind.bits]
theorem DN (r : Nat) : 4294967295 ^^^ (4294967295 ^^^ r) = r := by rw [← Nat.xor_assoc, Nat.xor_self, Nat.zero_xor]
theorem not_not (r : Nat) (hr : r < 4294967296) : bits .xor .u32 IntKind.u32.max ((4294967295 ^^^ r : Nat) : Int) = (r : Int) := by
 rw [Bv, dO _ _ (by decide) (Nat.xor_lt_two_pow (n := 32) (by decide) hr), DN]
theorem Fs (r : Nat) (hr : r < 4294967296) : bits .xor .u32 IntKind.u32.max (r : Int) = ((4294967295 ^^^ r : Nat) : Int) := by
 rw [Bv, dO _ _ (by decide) hr]
theorem DR (x : Nat) (hx : x < 4294967296) : bits .xor .u32 ((x : Int) / 2) (bits .and .u32 3988292384 (-(bits .and .u32 (x : Int) 1) % 4294967296)) = ((Crc.mY x : Nat) : Int) := by
 have e1 : bits .and .u32 (x : Int) 1 = ((x % 2 : Nat) : Int) := by
  rw [show (1 : Int) = ((1 : Nat) : Int) from rfl, bits_and_u32_nat x 1 hx (by decide), Nat.and_one_is_mod]
 have e2 : (x : Int) / 2 = ((x / 2 : Nat) : Int) := by omega
 rw [e1, e2];unfold Crc.mY Crc.poly;rcases Nat.mod_two_eq_zero_or_one x with h | h
 ·rw [h, if_neg (by decide)]
  rw [show (-((0 : Nat) : Int)) % 4294967296 = ((0 : Nat) : Int) from rfl, show (3988292384 : Int) = ((3988292384 : Nat) : Int) from rfl, bits_and_u32_nat _ _ (by decide) (by decide), dO _ _ (by omega) (by decide)];rfl
 ·rw [h, if_pos rfl]
  rw [show (-((1 : Nat) : Int)) % 4294967296 = ((4294967295 : Nat) : Int) from rfl, show (3988292384 : Int) = ((3988292384 : Nat) : Int) from rfl, bits_and_u32_nat _ _ (by decide) (by decide), dO _ _ (by omega) (by decide)];rfl
theorem yn (b c r m : Nat) (w : World) (hc : c < 256) (hr : r < 4294967296) (hm : m ≤ 1000000000) (hw : w.1[b]? = some (.cells #[.int .u32 ((4294967295 ^^^ r : Nat) : Int), .int .i64 m] 274 (0, 0))) :
  Calls Tryz.prog 210 #[.pointer (some ⟨b, 0, none⟩), .int .u8 c] w fun e w' => e = .returned (.tuple #[]) ∧ w' = (w.setCell ⟨b, 0, none⟩ (.int .u32 ((4294967295 ^^^ Crc.rM r c : Nat) : Int))).setCell ⟨b, 1, none⟩ (.int .i64 ((m + 1 : Nat) : Int)) := by
 have c0 : w.cell? ⟨b, 0, none⟩ = some (.int .u32 ((4294967295 ^^^ r : Nat) : Int)) := by simp [World.cell?, hw]
 have c1 : w.cell? ⟨b, 1, none⟩ = some (.int .i64 m) := by simp [World.cell?, hw]
 have f0 : w.frozen? ⟨b, 0, none⟩ = false := by simp [World.frozen?, hw]
 have f1 : w.frozen? ⟨b, 1, none⟩ = false := by simp [World.frozen?, hw]
 have hsg : IntKind.u32.signed = false := rfl;have H := hid hw;have HC := hid hc;have HR := hid hr;clear hw hc hr
 go_enter Tryz.func210, Tryz.ntmps210
 go_wp2_with fail
 go_loop [4, 13] (fun x i => ∃ j : Nat, j ≤ 8 ∧ i = .int .i64 j ∧ x = .int .u32 ((Crc.bits j (r ^^^ c) : Nat) : Int)) (fun _ i => 8 - (intOf i).toNat)
 case atStart => exact ⟨0, by omega, rfl, by rw [not_not r HR.out, show ((c : Int) % 4294967296) = (c : Int) by have := HC.out; omega, dO r c HR.out (by have := HC.out; omega)]; rfl⟩
 case round =>
  obtain ⟨j, hj, rfl, rfl⟩ := hrel;have hX : Crc.bits j (r ^^^ c) < 4294967296 := Crc.wK j (Nat.xor_lt_two_pow (n := 32) HR.out (by have := HC.out; show c < 4294967296; omega));have HX := hid hX;clear hX;by_cases h8 : j < 8
  ·go_wp2_with fail
   go_round
   case rel => exact ⟨j + 1, by omega, by go_num, by rw [DR _ HX.out, ← Crc.vk]⟩
   case measure => simp [intOf]; omega
  ·have : j = 8 := by omega
   subst this;go_wp2_with fail
   go_end0
   rw [Fs _ HX.out];exact ⟨rfl, rfl⟩
theorem Cq (l : List UInt8) (s j : Nat) (h : j < l.length) : Crc.mg (l.take (j + 1)) s = Crc.rM (Crc.mg (l.take j) s) (l[j]).toNat := by
 rw [List.take_succ_eq_append_getElem h];have : ∀ (a : List UInt8) (c : UInt8) (s : Nat), Crc.mg (a ++ [c]) s = Crc.rM (Crc.mg a s) c.toNat := by
  intro a
  induction a with
  | nil => intro c s; rfl
  | cons x a ih => intro c s; exact ih c _
 exact this _ _ _
theorem Ae (b B r : Nat) (l : List UInt8) (v : Value) (w : World) (hl : l.length ≤ 1000000) (hr : r < 4294967296) (hB : B ≤ b) (hv : aO w (fun k => k < B) false l v) (hw : w.1[b]? = some (.cells #[.int .u32 ((4294967295 ^^^ r : Nat) : Int), .int .i64 ((0 : Nat) : Int)] 274 (0, 0))) :
  Calls Tryz.prog 183 #[.pointer (some ⟨b, 0, none⟩), v] w fun e w' => e = .returned (.tuple #[]) ∧ w'.1[b]? = some (.cells #[.int .u32 ((4294967295 ^^^ Crc.mg l r : Nat) : Int), .int .i64 ((l.length : Nat) : Int)] 274 (0, 0)) ∧ Below B w w' := by
 obtain ⟨hl1, ad, cap, rfl, hcap⟩ := hv.shape;have HW := hid hw;have HV := hid hv;have HR := hid hr;clear hw hv hr
 go_enter Tryz.func183, Tryz.ntmps183
 go_wp2_with fail
 go_loopw [10] (fun i wr => ∃ j : Nat, j ≤ l.length ∧ i = .int .i64 j ∧ wr.1[b]? = some (.cells #[.int .u32 ((4294967295 ^^^ Crc.mg (l.take j) r : Nat) : Int), .int .i64 ((j : Nat) : Int)] 274 (0, 0)) ∧ Below B w wr) (fun i _ => l.length - (intOf i).toNat)
 case atStart => exact ⟨0, Nat.zero_le _, rfl, HW.out, br⟩
 case round =>
  obtain ⟨j, hj, rfl, hwr, hbel⟩ := hrel;by_cases hlt : j < l.length
  ·obtain ⟨bl, off, rfl, hbl, hcell⟩ := HV.out.cell (by omega)
   have hc := (hbel.cell (p := ⟨bl, off + j, none⟩) hbl).trans (hcell j hlt).1;have HB := hid (yn b (l[j]).toNat (Crc.mg (l.take j) r) j wr (by have := (l[j]).toNat_lt; omega) (Crc.nU _ HR.out) (by omega) hwr);have HWR := hid hwr;clear hwr
   go_wp2_with (go_at_call 210; refine HB.out.mono ?_; rintro e w1 ⟨rfl, rfl⟩)
   go_roundw
   case rel =>
    refine ⟨j + 1, hlt, by go_num, ?_, ?_⟩
    ·rw [Cq l r j hlt, show ((j + 1 : Nat) : Int) = (j : Int) + 1 by simp]
     exact aM (aM HWR.out rfl) rfl
    ·exact (hbel.setCell (p := ⟨b, 0, none⟩) hB _).setCell (p := ⟨b, 1, none⟩) hB _
   case measure => simp [intOf]; omega
  ·have hj2 : j = l.length := by omega
   subst hj2;rw [ah nl] at hwr;have HWR := hid hwr;clear hwr;go_wp2_with fail
   go_end0
   exact ⟨rfl, HWR.out, hbel⟩
theorem wL (b : Nat) (x : Int) (w : World) (c0 : w.cell? ⟨b, 0, none⟩ = some (.int .u32 x)) : Calls Tryz.prog 184 #[.pointer (some ⟨b, 0, none⟩)] w fun e w' => e = .returned (.int .u32 x) ∧ w' = w := by
 go_enter Tryz.func184, Tryz.ntmps184
 go_wp2_with fail;go_ret
 exact ⟨rfl, rfl⟩
theorem Af (l : List UInt8) (v : Value) (q cap : Nat) (w : World) (hl : l.length ≤ 1000000) (hcp : 1 ≤ cap) (hq : w.cell? ⟨q, 0, none⟩ = some v) (hqs : q < w.1.size) (hv : aO w (fun k => k < w.1.size) false l v) :
  Calls Tryz.prog 125 #[.slice (some ⟨q, 0, none⟩) 1 cap] w fun e w' => e = .returned (.int .u32 (Crc.gL l : Nat)) ∧ Below w.1.size w w' := by
 have HV := hid hv;have HQ := hid hq;clear hv hq
 go_enter Tryz.func125, Tryz.ntmps125
 go_wp2_with fail
 go_loopw [8] (fun i wr => ∃ j : Nat, j ≤ 1 ∧ i = .int .i64 j ∧ wr.1[w.1.size]? = some (.cells #[.int .u32 ((4294967295 ^^^ Crc.mg (if j = 0 then [] else l) 4294967295 : Nat) : Int), .int .i64 (((if j = 0 then 0 else l.length : Nat) : Nat) : Int)] 274 (0, 0)) ∧ Below w.1.size w wr) (fun i _ => 1 - (intOf i).toNat)
 case atStart => exact ⟨0, by omega, rfl, (by simpa [Crc.mg] using heap_alloc_new w (.cells #[.int .u32 0, .int .i64 0] 274)), br.alloc nl _⟩
 case round =>
  obtain ⟨j, hj, rfl, hwr, hbel⟩ := hrel;by_cases h0 : j = 0
  ·subst h0
   have hc := (hbel.cell (p := ⟨q, 0, none⟩) hqs).trans HQ.out;have HB := hid (Ae w.1.size w.1.size 4294967295 l v wr hl (by decide) nl (HV.out.below hbel nl) hwr);clear hwr
   go_wp2_with (go_at_call 183; refine HB.out.mono ?_; rintro e w1 ⟨rfl, hw1, hb1⟩; have HW1 := hid (au hw1 hb1); clear hw1 hb1)
   go_roundw
   case rel => exact ⟨1, by omega, rfl, HW1.out.1, hbel.trans HW1.out.2⟩
   case measure => simp [intOf]
  ·have : j = 1 := by omega
   subst this;have c0 : wr.cell? ⟨w.1.size, 0, none⟩ = some (.int .u32 ((4294967295 ^^^ Crc.mg l 4294967295 : Nat) : Int)) := (by simp [World.cell?, hwr]);have HB := hid (wL w.1.size _ wr c0);clear hwr c0
   go_wp2_with (go_at_call 184; refine HB.out.mono ?_; rintro e w1 ⟨rfl, rfl⟩)
   go_ret
   exact ⟨rfl, hbel⟩
theorem lZ : (Tryz.prog.info? 5).map (fun i => (i.zero, i.size, i.bytes)) = some (some (.int .u8 0), 1, 1) := by kernel_rfl
theorem jX (w : World) (base : Nat) (cs : Array Value) (T : TypeId) (hb : base ≤ w.1.size) (hm : cs.size ≤ 1000) : (w.alloc (.cells cs T)).ownsRow base T 1 (.slice (some ⟨w.1.size, 0, none⟩) cs.size cs.size) cs.size cs.toList :=
 ⟨by simp, Or.inr ⟨w.1.size, cs.size, cs, rfl, hb, heap_alloc_new w _, Nat.le_refl _, by unfold maxLen; omega, by omega, by simp [ah]⟩⟩
def uA (x j : Nat) : List UInt8 := (List.range j).map fun i => (x / 256 ^ i % 256).toUInt8
theorem Cr (x j : Nat) : uA x (j + 1) = uA x j ++ [(x / 256 ^ j % 256).toUInt8] := by unfold uA; rw [List.range_succ, List.map_append]; rfl
theorem jF (x j : Nat) : (uA x j).length = j := by unfold uA; simp
def kD (x : Nat) : List UInt8 := uA x 4
theorem vw (l : List UInt8) (v : Value) (w : World) (hl : l.length ≤ 1000000) (hv : aO w (fun k => k < w.1.size) false l v) :
  Calls Tryz.prog 87 #[v] w (jN 5 w (kD (Crc.gL l))) := by
 obtain ⟨hl1, ad, cp, rfl, hcp⟩ := hv.shape;obtain ⟨i0, hi0, hz0, hz1, hz2⟩ := info_parts lZ;have hb1 : Below w.1.size w (w.alloc (.cells #[.slice ad l.length cp] 32)) := br.alloc nl _;have hcell : (w.alloc (.cells #[.slice ad l.length cp] 32)).cell? ⟨w.1.size, 0, none⟩ = some (.slice ad l.length cp) := by
  have e := heap_alloc_new w (.cells #[.slice ad l.length cp] 32);unfold World.cell?;rw [e]; rfl
 have hcs := Af l (.slice ad l.length cp) w.1.size 1 (w.alloc (.cells #[.slice ad l.length cp] 32)) hl nl hcell (by simp) (Sl.keep (hv.below hb1 nl) (by omega) (fun b _ _ => rfl) (fun b hb _ => hb));have HCS := hid hcs;have HB1 := hid hb1;clear hcs hb1 hv
 go_enter Tryz.func87, Tryz.ntmps87
 go_wp2_with (go_at_call 125; refine HCS.out.mono ?_; rintro e w1 ⟨rfl, hb2⟩)
 have HB2 := hid (HB1.out.trans (hb2.mono (by simp)));clear hb2
 go_loopw [2, 3, 7] (fun sv c i wr => ∃ j : Nat, j ≤ 4 ∧ i = .int .i64 j ∧ c = .int .u32 ((Crc.gL l / 256 ^ j : Nat) : Int) ∧ wr.ownsRow w.1.size 5 1 sv j (bytes (uA (Crc.gL l) j)) ∧ Below w.1.size w wr) (fun _ _ i _ => 4 - (intOf i).toNat)
 case atStart => exact ⟨0, by omega, rfl, by simp, World.ownsRow_nil _ _ _ _, HB2.out⟩
 case round =>
  obtain ⟨j, hj, rfl, rfl, hown, hbel⟩ := hrel;have hsz := hbel.size;have hob := hown.lt;have HOWN := hid hown;clear hown;by_cases h4 : j < 4
  ·have hx : Crc.gL l < 4294967296 := by unfold Crc.gL; exact Nat.xor_lt_two_pow (n := 32) (by decide) (Crc.nU l (by decide))
   have hd : Crc.gL l / 256 ^ j < 4294967296 := Nat.lt_of_le_of_lt (Nat.div_le_self _ _) hx;generalize hX : Crc.gL l / 256 ^ j = X at hd ⊢;have HX := hid hX;clear hX hx
   go_wp2_with (at_builtin; go_loud (refine bg _ rfl (.tmp 9) (.tmp 12) _ rfl w.1.size 5 i0 _ 1 1 Tryz.underlying32 hi0 hz0 hz1 hz2 rfl (by omega) _ j (bytes (uA (Crc.gL l) j)) rfl (HOWN.out.alloc _) _ _ 1 [.int .u8 ((X : Int) % 256)] _ rfl (Sl.of_owns (jX wr 0 #[.int .u8 ((X : Int) % 256)] 5 (Nat.zero_le _) (by simp)) (by omega)) (by simp [Value.oneCell']) (by unfold maxLen; omega) (by omega) (by simp; omega) ?_); intro v' w2 hown2 hgrow hat)
   have HO2 := hid (au hown2 (au hgrow hat));clear hown2 hgrow hat;go_wp2_with fail;go_roundw
   case rel =>
    obtain ⟨hown2, hgrow, hat⟩ := HO2.out;refine ⟨j + 1, by omega, by go_num, ?_, ?_, ?_⟩
    ·rw [Nat.pow_succ, ← Nat.div_div_eq_div_mul, HX.out]; simp
    ·rw [Cr, HX.out]
     have hu : ((X % 256).toUInt8.toNat : Int) = (X : Int) % 256 := (by rw [fU (by omega)]; simp);simpa [bytes, hu] using hown2
    ·exact (hbel.alloc (by omega) _).grown hgrow (by simp; omega) (fun k hk => (hob k hk).1)
   case measure => simp [intOf]; omega
  ·have : j = 4 := by omega
   subst this;go_wp2_with fail;go_ret
   exact ⟨_, rfl, by rw [show kD (Crc.gL l) = uA (Crc.gL l) 4 from rfl, jF]; exact HOWN.out, hbel⟩
theorem wM (w : World) (S : Nat → Prop) (cs : Array Value) (T : TypeId) (n cap : Nat) (hn : n ≤ cs.size) (hm : n ≤ cap) (hS : S w.1.size) (h63 : n ≤ 1000) : Sl (w.alloc (.cells cs T)) S true 1 n (cs.toList.take n) (.slice (some ⟨w.1.size, 0, none⟩) n cap) := by
 refine ⟨by simp; omega, by omega, _, _, rfl, hm, fun _ => ⟨_, _, rfl, hS, fun j hj => ?_⟩⟩;have hj2 : j < cs.size := by simp at hj; omega
 rw [ax _ _ (0 + j) cs T (0, 0) (heap_alloc_new w _), aA _ _ (0 + j) cs T (heap_alloc_new w _)];simp [hj2]
theorem vz (w : World) (q : Nat) (hq : q < 256) (T : TypeId) : aO (w.alloc (.cells #[.int .u8 (q : Int)] T)) (fun _ => True) true [q.toUInt8] (.slice (some ⟨w.1.size, 0, none⟩) 1 1) := by
 have h := wM w (fun _ => True) #[.int .u8 (q : Int)] T 1 1 (by simp) (by omega) trivial (by omega);unfold aO;simpa [bytes, fU hq] using h
theorem yo (own : Bool) (wb : Nat) (sv : Value) (l m : List UInt8) (v : Value) (w : World) (hw : Wr 192 5 w wb sv l) (hr : aO w (fun b => b ≠ wb ∧ sv.ownBlock ≠ some b) own m v) (h1 : l.length + m.length ≤ 900000) :
  Calls Tryz.prog 86 #[.pointer (some ⟨wb, 0, none⟩), v] w (Wg 192 5 w wb sv (l ++ (bO [m.length] ++ m)) (.int .i64 0)) := by
 obtain ⟨hl, ad, cap, rfl, hc⟩ := hr.shape;have hlt := hw.lt;have hb0 : Below w.1.size w (w.alloc (.cells #[.int .u64 (m.length : Nat)] 57)) := br.alloc nl _;have q1 : IntKind.u64.wrap (m.length : Int) = (m.length : Int) := by unfold IntKind.wrap; simp [IntKind.signed, IntKind.bits]; omega
 have HN := hid (nI true wb sv l [m.length] (.slice (some ⟨w.1.size, 0, none⟩) 1 1) _ (hw.below hb0) (by simpa [nums] using wM w _ #[.int .u64 (m.length : Nat)] 57 1 1 (by simp) (by omega) ⟨by omega, fun e => by have := (hlt.2 _ e).2; omega⟩ (by omega)) (by intro n hn; simp at hn; omega) (by simp; omega));have HR := hid (au (hr.below hb0 nl) (au (hw.below hb0) (Wrote.of_below (wb := wb) (sv := sv) hb0)));clear hr hw
 go_enter Tryz.func86, Tryz.ntmps86
 go_wp2_with fail;refine HN.out.mono ?_;rintro e w1 ⟨rfl, sv1, hw1, ht1⟩;have hr1 : aO w1 (fun b => b ≠ wb ∧ sv.ownBlock ≠ some b) own m (.slice ad m.length cap) := Sl.keep HR.out.1 (by omega) (fun b hb hl => ht1.keep b hl hb.1 hb.2) (fun _ _ h => h);have HQ := hid (au hr1 (au hw1 (HR.out.2.2.trans ht1)));clear hr1 hw1 ht1;go_wp2_with fail;refine (uQ _ own wb sv1 (l ++ bO [m.length]) m _ w1 HQ.out.2.1 HQ.out.1 (by have := bI [m.length]; simp at this ⊢; omega)).mono ?_;rintro e w2 ⟨rfl, sv2, hw2, ht2⟩;have HZ := hid (au hw2 (HQ.out.2.2.trans ht2));clear hw2 ht2;go_wp2_with fail;go_ret
 exact ⟨rfl, sv2, by rw [← List.append_assoc]; exact HZ.out.1, HZ.out.2⟩
def bA (k : Nat) (l : List UInt8) : List UInt8 := k.toUInt8 :: (bO [l.length] ++ l)
def bW (k : Nat) (l : List UInt8) : List UInt8 := bA k l ++ kD (Crc.gL (bA k l))
theorem Ag (k : Nat) (l : List UInt8) : (bW k l).length ≤ l.length + 15 := by
 have := bI [l.length];unfold bW bA kD;rw [aI, jF];simp at this ⊢; omega
end Go.Proofs.YtlpgokcapdjgjaaGreatDoor
