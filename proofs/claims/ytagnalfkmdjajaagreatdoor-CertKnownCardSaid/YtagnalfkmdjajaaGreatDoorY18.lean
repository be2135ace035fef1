/- An edge's text, read. -/
import Derived.Test.YtagnalfkmdjajaaGreatDoorY4
import Derived.Test.YtagnalfkmdjajaaGreatDoorY1
import Derived.Laws.Sem
namespace Go.Crc
def poly : Nat := 0xedb88320
def lT (r : Nat) : Nat := (r / 2) ^^^ (if r % 2 = 1 then poly else 0)
def bits (k : Nat) (r : Nat) : Nat := Nat.rec (motive := fun _ => Nat → Nat) (fun r => r) (fun _ ih r => ih (lT r)) k r
def qh (s c : Nat) : Nat := bits 8 (s ^^^ c)
def ll : List UInt8 → Nat → Nat
 | [], s => s
 | c :: l, s => ll l (qh s c.toNat)
def fw (l : List UInt8) : Nat := 4294967295 ^^^ ll l 4294967295
theorem nE (k r : Nat) : bits (k + 1) r = bits k (lT r) := rfl
theorem tX : ∀ (k r : Nat), bits (k + 1) r = lT (bits k r)
 | 0, _ => rfl
 | k + 1, r => by rw [nE, tX k (lT r), ← nE]
theorem qi (r i : Nat) : (lT r).testBit i = (r.testBit (i + 1) ^^ (r.testBit 0 && poly.testBit i)) := by
 unfold lT
 rw [Nat.testBit_xor, ← Nat.testBit_succ]
 by_cases h : r % 2 = 1
 ·rw [if_pos h]
  have : r.testBit 0 = true := by rw [Nat.testBit_zero]; simpa using h
  rw [this, Bool.true_and]
 ·rw [if_neg h]
  have : r.testBit 0 = false := by rw [Nat.testBit_zero]; simpa using h
  rw [this, Bool.false_and, Nat.zero_testBit]
theorem Ca (x y : Nat) : lT (x ^^^ (2 * y)) = lT x ^^^ y := by
 apply Nat.eq_of_testBit_eq
 intro i
 rw [Nat.testBit_xor, qi, qi, Nat.testBit_xor, Nat.testBit_xor]
 have h0 : (2 * y).testBit 0 = false := by rw [Nat.testBit_zero]; simp
 have h1 : (2 * y).testBit (i + 1) = y.testBit i := by rw [Nat.testBit_succ]; congr 1; omega
 rw [h0, h1, Bool.xor_false]
 cases x.testBit (i + 1) <;> cases y.testBit i <;> cases (x.testBit 0 && poly.testBit i) <;> rfl
def iF : List Bool → Nat → Nat
 | [], s => s
 | b :: l, s => iF l (lT (s ^^^ (if b then 1 else 0)))
def jh (k c : Nat) : List Bool := Nat.rec (motive := fun _ => Nat → List Bool) (fun _ => []) (fun _ ih c => (c % 2 == 1) :: ih (c / 2)) k c
theorem kK (k c : Nat) : jh (k + 1) c = (c % 2 == 1) :: jh k (c / 2) := rfl
theorem AL (s c : Nat) : s ^^^ c = (s ^^^ (if (c % 2 == 1) = true then 1 else 0)) ^^^ (2 * (c / 2)) := by
 apply Nat.eq_of_testBit_eq
 intro i
 rw [Nat.testBit_xor, Nat.testBit_xor, Nat.testBit_xor]
 have hb : (if (c % 2 == 1) = true then 1 else 0 : Nat) = c % 2 := by
  rcases Nat.mod_two_eq_zero_or_one c with h | h <;> rw [h] <;> rfl
 rw [hb]
 cases i with
 | zero =>
  have h0 : (2 * (c / 2)).testBit 0 = false := by rw [Nat.testBit_zero]; simp
  rw [h0, Bool.xor_false, Nat.testBit_zero c, Nat.testBit_zero (c % 2)]
  congr 2
  rw [Nat.mod_mod]
 | succ i =>
  have h1 : (c % 2).testBit (i + 1) = false := by
   apply Nat.testBit_lt_two_pow
   have : c % 2 < 2 := Nat.mod_lt _ (by omega)
   have : 2 ^ 1 ≤ 2 ^ (i + 1) := Nat.pow_le_pow_right (by omega) (by omega)
   omega
  have h2 : (2 * (c / 2)).testBit (i + 1) = c.testBit (i + 1) := by
   rw [Nat.testBit_succ, Nat.testBit_succ]; congr 1; omega
  rw [h1, h2, Bool.xor_false]
theorem tY : ∀ (k s c : Nat), c < 2 ^ k → bits k (s ^^^ c) = iF (jh k c) s
 | 0, s, c, h => by
  have : c = 0 := by simp at h; exact h
  subst this
  show s ^^^ 0 = s
  exact Nat.xor_zero s
 | k + 1, s, c, h => by
  rw [nE, kK, AL s c, Ca]
  show bits k (lT (s ^^^ (if (c % 2 == 1) = true then 1 else 0)) ^^^ (c / 2)) = _
  rw [tY k _ (c / 2) (by rw [Nat.pow_succ] at h; omega)]
  rfl
theorem yu (s : Nat) (c : UInt8) : qh s c.toNat = iF (jh 8 c.toNat) s := tY 8 s c.toNat (by have := c.toNat_lt; omega)
def aD : List UInt8 → List Bool
 | [] => []
 | c :: l => jh 8 c.toNat ++ aD l
theorem nG : ∀ (a b : List Bool) (s : Nat), iF (a ++ b) s = iF b (iF a s)
 | [], _, _ => rfl
 | x :: a, b, s => by show iF (a ++ b) _ = _; rw [nG a b]; rfl
theorem tZ : ∀ (l : List UInt8) (s : Nat), ll l s = iF (aD l) s
 | [], _ => rfl
 | c :: l, s => by
  show ll l (qh s c.toNat) = iF (jh 8 c.toNat ++ aD l) s
  rw [nG, tZ l, yu]
theorem qj : ∀ (k c : Nat), (jh k c).length = k
 | 0, _ => rfl
 | k + 1, c => by rw [kK, List.length_cons, qj k]
theorem fE : ∀ l : List UInt8, (aD l).length = 8 * l.length
 | [] => rfl
 | c :: l => by show (jh 8 c.toNat ++ aD l).length = _; rw [List.length_append, qj, fE l, List.length_cons]; omega
def turns (d : Nat) : Bool := [6, 9, 10, 16, 20, 21, 22, 24, 25, 27, 28, 30, 31, 32].contains d
theorem yw (d : Nat) : turns (d + 1) = poly.testBit d := by
 by_cases h : d < 32
 ·have key : ∀ d, d < 32 → turns (d + 1) = poly.testBit d := by decide
  exact key d h
 ·have h1 : poly.testBit d = false := by
   apply Nat.testBit_lt_two_pow
   have : 2 ^ 32 ≤ 2 ^ d := Nat.pow_le_pow_right (by omega) (by omega)
   have : poly < 2 ^ 32 := by decide
   omega
  rw [h1]
  unfold turns
  simp only [List.contains_cons, List.contains_nil, Bool.or_false, Bool.or_eq_false_iff, beq_eq_false_iff_ne, ne_eq]
  omega
def wu (row : Nat → Bool) (i : Nat) : Nat → Bool := fun j => if j = i then false else if row i = true ∧ i < j then row j ^^ turns (j - i) else row j
def divN (row : Nat → Bool) : Nat → Nat → Bool
 | 0 => row
 | i + 1 => wu (divN row i) i
def row0 (l : List Bool) (j : Nat) : Bool := (l.getD j false) ^^ decide (j < 32)
theorem yx (l : List Bool) (b : Bool) (s : Nat) : iF (l ++ [b]) s = lT (iF l s ^^^ (if b then 1 else 0)) := by rw [nG]; rfl
theorem ww (j : Nat) : (4294967295 : Nat).testBit j = decide (j < 32) := by
 have : (4294967295 : Nat) = 2 ^ 32 - 1 := rfl
 rw [this, Nat.testBit_two_pow_sub_one]
theorem Ab (b : Bool) (j : Nat) : (if b then 1 else 0 : Nat).testBit j = (b && decide (j = 0)) := by
 cases b with
 | false => simp
 | true =>
  cases j with
  | zero => rfl
  | succ j => rw [Nat.testBit_succ]; simp
theorem Ac (l : List Bool) : ∀ i, i ≤ l.length → ∀ j, i ≤ j → divN (row0 l) i j = (l.getD j false ^^ (iF (l.take i) 4294967295).testBit (j - i))
 | 0, _, j, _ => by
  show row0 l j = _
  unfold row0
  rw [List.take_zero]
  show _ = (l.getD j false ^^ (4294967295 : Nat).testBit (j - 0))
  rw [ww, Nat.sub_zero]
 | i + 1, hi, j, hj => by
  have ih := Ac l i (by omega)
  have hq := ih i nl
  have hj' := ih j (by omega)
  show wu (divN (row0 l) i) i j = _
  unfold wu
  rw [if_neg (by omega)]
  have htake : l.take (i + 1) = l.take i ++ [l.getD i false] := by
   rw [List.take_add_one, List.getD_eq_getElem?_getD, List.getElem?_eq_getElem (by omega)]
   rfl
  rw [htake, yx, qi]
  have e1 : j - (i + 1) + 1 = j - i := by omega
  rw [e1, Nat.testBit_xor, Nat.testBit_xor, Ab, Ab]
  have e2 : decide (j - i = 0) = false := decide_eq_false (by omega)
  rw [e2, Bool.and_false, Bool.xor_false, decide_eq_true (rfl : (0 : Nat) = 0), Bool.and_true]
  rw [Nat.sub_self] at hq
  have e3 : turns (j - i) = poly.testBit (j - (i + 1)) := by
   rw [← yw]; congr 1; omega
  rw [hq, hj', e3]
  have hlt : i < j := by omega
  cases hx : (l.getD i false ^^ (iF (l.take i) 4294967295).testBit 0) with
  | true =>
   rw [if_pos ⟨rfl, hlt⟩]
   have : ((iF (l.take i) 4294967295).testBit 0 ^^ l.getD i false) = true := by rw [Bool.xor_comm]; exact hx
   rw [this, Bool.true_and, Bool.xor_assoc]
  | false =>
   rw [if_neg (fun h => by cases h.1)]
   have : ((iF (l.take i) 4294967295).testBit 0 ^^ l.getD i false) = false := by rw [Bool.xor_comm]; exact hx
   rw [this, Bool.false_and, Bool.xor_false]
theorem Cb (l : List UInt8) (i : Nat) : divN (row0 (aD l)) (8 * l.length) (8 * l.length + i) = (ll l 4294967295).testBit i := by
 have h := Ac (aD l) (8 * l.length) (by rw [fE]; exact Nat.le_refl _) (8 * l.length + i) (by omega)
 rw [h, List.take_of_length_le (by rw [fE]; exact Nat.le_refl _), ← tZ]
 have : (aD l).getD (8 * l.length + i) false = false := by
  rw [List.getD_eq_getElem?_getD, List.getElem?_eq_none (by rw [fE]; omega)]; rfl
 rw [this, Bool.false_xor]
 congr 1; omega
theorem DD {r : Nat} (h : r < 4294967296) : lT r < 4294967296 := by
 unfold lT
 apply Nat.xor_lt_two_pow (n := 32)
 ·show r / 2 < 4294967296; omega
 ·split
  ·decide
  ·decide
theorem uS : ∀ (k : Nat) {r : Nat}, r < 4294967296 → bits k r < 4294967296
 | 0, _, h => h
 | k + 1, _, h => uS k (DD h)
theorem Cc {s : Nat} (c : UInt8) (h : s < 4294967296) : qh s c.toNat < 4294967296 :=
 uS 8 (Nat.xor_lt_two_pow (n := 32) h (by have := c.toNat_lt; show c.toNat < 4294967296; omega))
theorem mi : ∀ (l : List UInt8) {s : Nat}, s < 4294967296 → ll l s < 4294967296
 | [], _, h => h
 | c :: l, _, h => mi l (Cc c h)
def jV (f : Nat → Bool) : Nat → Nat
 | 0 => 0
 | k + 1 => 2 * jV (fun i => f (i + 1)) k + (if f 0 then 1 else 0)
theorem Ad : ∀ (k x : Nat), x < 2 ^ k → jV (fun i => x.testBit i) k = x
 | 0, x, h => by simp at h; subst h; rfl
 | k + 1, x, h => by
  show 2 * jV (fun i => x.testBit (i + 1)) k + (if x.testBit 0 = true then 1 else 0) = x
  have : (fun i => x.testBit (i + 1)) = fun i => (x / 2).testBit i := by funext i; rw [Nat.testBit_succ]
  rw [this, Ad k (x / 2) (by rw [Nat.pow_succ] at h; omega), Nat.testBit_zero]
  rcases Nat.mod_two_eq_zero_or_one x with e | e
  ·rw [if_neg (by simp [e])]; omega
  ·rw [if_pos (by simp [e])]; omega
theorem EE (l : List UInt8) : jV (fun i => !(divN (row0 (aD l)) (8 * l.length) (8 * l.length + i))) 32 = fw l := by
 have h := Ad 32 (fw l) (by
  unfold fw
  exact Nat.xor_lt_two_pow (n := 32) (by decide) (mi l (by decide)))
 rw [← h]
 have key : ∀ (k : Nat) (f g : Nat → Bool), (∀ i, i < k → f i = g i) → jV f k = jV g k := by
  intro k
  induction k with
  | zero => intro f g _; rfl
  | succ k ih =>
   intro f g hfg
   show 2 * jV _ k + _ = 2 * jV _ k + _
   rw [ih (fun i => f (i + 1)) (fun i => g (i + 1)) (fun i hi => hfg (i + 1) (by omega)), hfg 0 (by omega)]
 apply key
 intro i hi
 rw [Cb]
 unfold fw
 rw [Nat.testBit_xor, ww, decide_eq_true hi, Bool.true_xor]
end Go.Crc
namespace Go.Proofs.YtagnalfkmdjajaaGreatDoor
open Go.RowKit Go
set_option linter.unusedVariables false
set_option linter.unusedSimpArgs false
structure Ed where
 a : Int
 b : Int
 k : Int
 x : Nat
 sw : Nat
 sn : Nat
 mw : Nat
 mn : Nat
 p : Int
 deriving DecidableEq
def i64 (n : Int) : Prop := -9223372036854775808 ≤ n ∧ n ≤ 9223372036854775807
def Ed.nums (e : Ed) : Prop := i64 e.a ∧ i64 e.b ∧ i64 e.k ∧ e.x < 18446744073709551616 ∧ e.sw < 18446744073709551616 ∧ e.sn < 18446744073709551616 ∧ e.mw < 18446744073709551616 ∧ e.mn < 18446744073709551616 ∧ i64 e.p
def Ed.ok (e : Ed) : Prop := 1 ≤ e.k ∧ e.k ≤ 5 ∧ 0 ≤ e.a ∧ 0 ≤ e.b ∧ -1 ≤ e.p
instance Ed.decOk (e : Ed) : Decidable e.ok := by unfold Ed.ok; infer_instance
def aV (k : Int) : List UInt8 := if k = 1 then [119, 119] else if k = 2 then [119, 114] else if k = 3 then [114, 119] else if k = 4 then [112, 119, 114] else [112, 114, 119]
def Ed.words (e : Ed) : List (List UInt8) := [Lib.decDigits e.a.toNat, aV e.k, Lib.decDigits e.b.toNat, Lib.decDigits e.x, dN e.sw e.sn, dN e.mw e.mn, Lib.itoa e.p]
def Ed.told (e : Ed) : List UInt8 := Lib.join e.words [32]
def Ed.text (e : Ed) : List UInt8 := if e.ok then e.told else []
def Ed.vals (e : Ed) : List Value := [.int .i64 e.a, .int .i64 e.b, .int .i64 e.k, .int .u64 e.x, .int .u64 e.sw, .int .u64 e.sn, .int .u64 e.mw, .int .u64 e.mn, .int .i64 e.p]
theorem Ed.text_ok {e : Ed} (h : e.ok) : e.text = e.told := if_pos h
theorem Ed.told_ne (e : Ed) : e.told ≠ [] := by
 unfold Ed.told Ed.words
 rw [Lib.join_cons]
 intro h
 exact fe _ (List.append_eq_nil_iff.1 h).1
theorem Ed.text_nil {e : Ed} : e.text = [] ↔ ¬ e.ok := by
 unfold Ed.text
 split
 ·rename_i h; exact ⟨fun g => absurd g e.told_ne, fun g => absurd h g⟩
 ·rename_i h; exact ⟨fun _ => h, fun _ => rfl⟩
theorem mr {n : Int} (h : i64 n) : (Lib.itoa n).length ≤ 21 := by
 unfold Lib.itoa
 have h1 := h.1
 have h2 := h.2
 split
 ·have := aH n.natAbs (by omega)
  simp; omega
 ·have := aH n.toNat (by omega)
  omega
theorem ql (k : Int) : (aV k).length ≤ 3 := by
 unfold aV; split <;> (try split) <;> (try split) <;> (try split) <;> simp
theorem mD {a b : Nat} (ha : a < 18446744073709551616) (hb : b < 18446744073709551616) : (dN a b).length ≤ 41 := by
 have := aH a ha
 have := aH b hb
 simp [dN]; omega
theorem Ed.told_len {e : Ed} (h : e.nums) : e.told.length ≤ 200 := by
 obtain ⟨h1, h2, h3, h4, h5, h6, h7, h8, h9⟩ := h
 unfold i64 at h1 h2
 have q1 := aH e.a.toNat (by omega)
 have q2 := ql e.k
 have q3 := aH e.b.toNat (by omega)
 have q4 := aH e.x h4
 have q5 := mD h5 h6
 have q6 := mD h7 h8
 have q7 := mr h9
 unfold Ed.told Ed.words
 rw [Lib.join_cons]
 simp [Lib.joinTail]
 omega
theorem Ed.text_len {e : Ed} (h : e.nums) : e.text.length ≤ 200 := by
 unfold Ed.text
 split
 ·exact Ed.told_len h
 ·simp
structure Crt where
 k : Int
 o : List Int
 p : Int
 q : Int
 w : List Ed
 deriving DecidableEq
def ints (l : List Int) : List Value := l.map fun n => .int .i64 n
def bD (l : List Ed) : List Value := l.flatMap Ed.vals
theorem ol (l : List Int) : (ints l).length = l.length := by simp [ints]
theorem jW (l : List Ed) : (bD l).length = l.length * 9 := by
 unfold bD
 induction l with
 | nil => rfl
 | cons e l ih => rw [List.flatMap_cons, List.length_append, ih]; simp [Ed.vals]; omega
def Crt.nums (c : Crt) : Prop := i64 c.k ∧ i64 c.p ∧ i64 c.q ∧ (∀ n ∈ c.o, i64 n) ∧ ∀ e ∈ c.w, e.nums
def aR (k : Int) : Bool := k == 2 || k == 3
def Crt.right (c : Crt) : Bool := (decide (1 ≤ c.k) && decide (c.k < 5)) && (c.k == 1 || c.o.isEmpty) && (c.k == 4 || c.w.isEmpty) && (aR c.k || (c.p == 0 && c.q == 0)) && decide (c.o.length ≤ 65536) && decide (c.w.length ≤ 65536) && decide (0 ≤ c.p) && decide (0 ≤ c.q) &&
 c.o.all (fun n => decide (0 ≤ n)) && c.w.all fun e => decide e.ok
def Ed.pays (e : Ed) : List Nat := [e.a.toNat, e.b.toNat, e.k.toNat, e.x, e.sw, e.sn, e.mw, e.mn, (e.p + 1).toNat]
def Crt.pays (c : Crt) : List Nat := if c.k = 1 then c.o.length :: c.o.map Int.toNat else if c.k = 4 then c.w.length :: c.w.flatMap Ed.pays else [c.p.toNat, c.q.toNat]
def ah (k : Int) : List UInt8 := if k = 1 then [115, 101, 114, 105, 97, 108] else if k = 2 then [100, 105, 114, 116, 121] else if k = 3 then [112, 97, 114, 116, 105, 97, 108] else [99, 121, 99, 108, 101]
def ek (e : Ed) (i : Nat) : List (List UInt8) := if i = 0 then [e.text] else [[59], e.text]
def bg (l : List Ed) : List (List UInt8) := l.zipIdx.flatMap fun x => ek x.1 x.2
def Crt.parts (c : Crt) : List (List UInt8) := ah c.k :: ((if aR c.k then [Lib.decDigits c.p.toNat, Lib.decDigits c.q.toNat] else []) ++ c.o.map (fun n => Lib.decDigits n.toNat) ++ bg c.w)
def Crt.told (c : Crt) : List UInt8 := Lib.join c.parts [32]
def Crt.text (c : Crt) : List UInt8 := if c.right then c.told else []
theorem om : bg [] = [] := rfl
theorem uT (l : List Ed) (e : Ed) : bg (l ++ [e]) = bg l ++ ek e l.length := by
 unfold bg
 rw [List.zipIdx_append]
 simp
theorem mE (l : List Ed) (i : Nat) (h : i < l.length) : bg (l.take (i + 1)) = bg (l.take i) ++ ek l[i] i := by
 rw [List.take_succ_eq_append_getElem h, uT, List.length_take, Nat.min_eq_left (by omega)]
theorem uf (l : List (List UInt8)) (x : List UInt8) (h : l ≠ []) : Lib.join (l ++ [x]) [32] = Lib.join l [32] ++ 32 :: x := by
 cases l with
 | nil => exact absurd rfl h
 | cons y r =>
  rw [List.cons_append, Lib.join_cons, Lib.join_cons]
  have : ∀ r : List (List UInt8), Lib.joinTail [32] (r ++ [x]) = Lib.joinTail [32] r ++ 32 :: x := by
   intro r
   simp [Lib.joinTail]
  rw [this, List.append_assoc]
theorem Crt.nil_of {c : Crt} (h : c.right = true) : (c.k = 1 ∨ c.o = []) ∧ (c.k = 4 ∨ c.w = []) ∧ ((c.k = 2 ∨ c.k = 3) ∨ (c.p = 0 ∧ c.q = 0)) ∧ 1 ≤ c.k ∧ c.k < 5 ∧ 0 ≤ c.p ∧ 0 ≤ c.q ∧ (∀ n ∈ c.o, 0 ≤ n) ∧ (∀ e ∈ c.w, e.ok) ∧ c.o.length ≤ 65536 ∧ c.w.length ≤ 65536 := by
 unfold Crt.right aR at h
 simp only [Bool.and_eq_true, Bool.or_eq_true, decide_eq_true_eq, beq_iff_eq, List.isEmpty_iff, List.all_eq_true] at h
 obtain ⟨⟨⟨⟨⟨⟨⟨⟨⟨⟨h1, h2⟩, h3⟩, h4⟩, h5⟩, h6⟩, h7⟩, h8⟩, h9⟩, h10⟩, h11⟩ := h
 exact ⟨h3, h4, h5, h1, h2, h8, h9, h10, h11, h6, h7⟩
theorem iG : Lib.itoa (-1) = [45, 49] := by unfold Lib.itoa; simp [Lib.decDigits]
theorem il {n : Int} (h : 0 ≤ n) : Lib.itoa n = Lib.decDigits n.toNat := by unfold Lib.itoa; rw [if_neg (by omega)]
theorem pE {n : Int} (h : -1 ≤ n) {c : UInt8} (hc : isD c = false) (h2 : c ≠ 45) : c ∉ Lib.itoa n := by
 by_cases e : n = -1
 ·subst e
  rw [iG]
  simp only [List.mem_cons, List.not_mem_nil, or_false, not_or]
  exact ⟨h2, fun e => by subst e; exact absurd hc (by decide)⟩
 ·rw [il (by omega)]; exact aY hc
theorem ug (k : Int) : (32 : UInt8) ∉ aV k := by unfold aV; split <;> (try split) <;> (try split) <;> (try split) <;> decide
theorem Ed.cuts {e : Ed} (h : -1 ≤ e.p) : cuts 32 e.told = e.words := by
 refine gT (by simp [Ed.words]) fun x hx => ?_
 simp only [Ed.words, List.mem_cons, List.not_mem_nil, or_false] at hx
 rcases hx with rfl | rfl | rfl | rfl | rfl | rfl | rfl
 ·exact aY (by decide)
 ·exact ug _
 ·exact aY (by decide)
 ·exact aY (by decide)
 ·exact iR (by decide) (by decide)
 ·exact iR (by decide) (by decide)
 ·exact pE h (by decide) (by decide)
def bY (w : List UInt8) : Int := if w = aV 1 then 1 else if w = aV 2 then 2 else if w = aV 3 then 3 else if w = aV 4 then 4 else if w = aV 5 then 5 else 0
theorem iT {k : Int} (h1 : 1 ≤ k) (h5 : k ≤ 5) : bY (aV k) = k := by
 obtain rfl | rfl | rfl | rfl | rfl : k = 1 ∨ k = 2 ∨ k = 3 ∨ k = 4 ∨ k = 5 := by omega
 all_goals decide
theorem uh (w : List UInt8) : 0 ≤ bY w ∧ bY w ≤ 5 := by
 unfold bY
 split <;> (try split) <;> (try split) <;> (try split) <;> (try split) <;> omega
theorem jP.itoa {n v : Int} (h : jP (Lib.itoa n) v) (h0 : -1 ≤ n) (h1 : n ≤ 9223372036854775807) : v = n := by
 by_cases e : n = -1
 ·subst e
  rw [iG] at h
  have g : Lib.atoiAll [45, 49] = .ok (-1) := by rfl
  rcases h.2.2 with q | q
  ·rw [g] at q; injection q with q; exact q.symm
  ·exact absurd g (q _)
 ·rw [il (by omega)] at h
  have := h.digits (by omega)
  omega
theorem AO {m n : Int} (hm : -1 ≤ m) (hn : -1 ≤ n) (h : Lib.itoa m = Lib.itoa n) : m = n := by
 have no : ∀ k : Int, 0 ≤ k → Lib.itoa k ≠ [45, 49] := fun k hk e => by
  rw [il hk] at e
  have := di k.toNat 45 (by rw [e]; simp)
  exact absurd this (by decide)
 by_cases e1 : m = -1
 ·by_cases e2 : n = -1
  ·omega
  ·rw [e1, iG] at h; exact absurd h.symm (no n (by omega))
 ·by_cases e2 : n = -1
  ·rw [e2, iG] at h; exact absurd h (no m (by omega))
  ·rw [il (by omega), il (by omega)] at h
   have := bM h
   omega
theorem Ed.inj {d e : Ed} (hd : d.ok) (he : e.ok) (h : d.told = e.told) : d = e := by
 have g := Ed.cuts hd.2.2.2.2
 rw [h, Ed.cuts he.2.2.2.2] at g
 simp only [Ed.words, List.cons.injEq, and_true] at g
 obtain ⟨g0, g1, g2, g3, g4, g5, g6⟩ := g
 have k0 := bM g0
 have k1 : e.k = d.k := by rw [← iT he.1 he.2.1, ← iT hd.1 hd.2.1, g1]
 have k2 := bM g2
 have k3 := bM g3
 obtain ⟨k4, k5⟩ := vV g4
 obtain ⟨k6, k7⟩ := vV g5
 have k8 := AO he.2.2.2.2 hd.2.2.2.2 g6
 obtain ⟨a1, a2, a3, a4, a5, a6, a7, a8, a9⟩ := d
 obtain ⟨b1, b2, b3, b4, b5, b6, b7, b8, b9⟩ := e
 obtain ⟨_, _, h1, h2, _⟩ := hd
 obtain ⟨_, _, h3, h4, _⟩ := he
 simp only at k0 k1 k2 k3 k4 k5 k6 k7 k8 h1 h2 h3 h4
 have : a1 = b1 := by omega
 have : a2 = b2 := by omega
 subst_vars
 rfl
open Classical in
noncomputable def edRead (s : List UInt8) : Option Ed := if h : ∃ e : Ed, e.ok ∧ e.nums ∧ e.told = s then some h.choose else none
theorem iU {s : List UInt8} {e : Ed} : edRead s = some e ↔ e.ok ∧ e.nums ∧ e.told = s := by
 unfold edRead
 constructor
 ·intro h
  split at h
  ·rename_i hx; injection h with h; subst h; exact hx.choose_spec
  ·cases h
 ·intro h
  have hx : ∃ e : Ed, e.ok ∧ e.nums ∧ e.told = s := ⟨e, h⟩
  rw [dif_pos hx]
  have := hx.choose_spec
  exact congrArg some (Ed.inj this.1 h.1 (this.2.2.trans h.2.2.symm))
theorem oo {s : List UInt8} (h : ∀ e : Ed, e.ok → e.nums → e.told ≠ s) : edRead s = none := by
 cases e : edRead s with
 | none => rfl
 | some p => obtain ⟨h1, h2, h3⟩ := iU.1 e; exact absurd h3 (h p h1 h2)
theorem qm {s : List UInt8} {c : Ed} (hs : s ≠ []) (hn : c.nums) (h : ∀ q : Ed, q.ok → q.nums → q.told = s → c = q) : edRead s = if c.text = s then some c else none := by
 by_cases ht : c.text = s
 ·rw [if_pos ht]
  unfold Ed.text at ht
  split at ht
  ·rename_i ho; exact iU.2 ⟨ho, hn, ht⟩
  ·exact absurd ht.symm hs
 ·rw [if_neg ht]
  refine oo fun q h1 h2 h3 => ht ?_
  rw [h q h1 h2 h3, Ed.text_ok h1]; exact h3
theorem mF {s : List UInt8} (h : (cuts 32 s).length ≠ 7) : edRead s = none := by
 refine oo fun q hq hqn he => ?_
 subst he
 rw [Ed.cuts hq.2.2.2.2] at h
 simp [Ed.words] at h
theorem wz {s l0 l1 l2 l3 l4 l5 l6 : List UInt8} (hc : cuts 32 s = [l0, l1, l2, l3, l4, l5, l6]) : s ≠ [] := fun e => by rw [e] at hc; simp [Go.Proofs.YtagnalfkmdjajaaGreatDoor.cuts] at hc
theorem wD {s l0 l1 l2 l3 l4 l5 l6 : List UInt8} {c : Ed} (hc : cuts 32 s = [l0, l1, l2, l3, l4, l5, l6]) (h0 : jP l0 c.a) (h1 : bY l1 = c.k) (h2 : jP l2 c.b) (h3 : pU l3 c.x)
  (h4 : pU (Lib.cut l4 [46]).1 c.sw) (h5 : pU (Lib.cut l4 [46]).2.1 c.sn) (h6 : pU (Lib.cut l5 [46]).1 c.mw) (h7 : pU (Lib.cut l5 [46]).2.1 c.mn) (h8 : jP l6 c.p) : c.nums ∧ edRead s = if c.text = s then some c else none := by
 have hk := uh l1
 have hn : c.nums := ⟨⟨h0.1, h0.2.1⟩, ⟨h2.1, h2.2.1⟩, by rw [← h1]; unfold i64; omega, h3.1, h4.1, h5.1, h6.1, h7.1, ⟨h8.1, h8.2.1⟩⟩
 refine ⟨hn, qm (wz hc) hn fun q hq hqn he => ?_⟩
 have e := Ed.cuts hq.2.2.2.2
 rw [he, hc] at e
 simp only [Ed.words, List.cons.injEq, and_true] at e
 obtain ⟨rfl, rfl, rfl, rfl, rfl, rfl, rfl⟩ := e
 rw [iT hq.1 hq.2.1] at h1
 rw [pV] at h4 h5 h6 h7
 obtain ⟨b0, b1, b2, b3, b4, b5, b6, b7, b8⟩ := hqn
 obtain ⟨_, _, o1, o2, o3⟩ := hq
 unfold i64 at b0 b1 b8
 have g0 := h0.digits (by omega)
 have g2 := h2.digits (by omega)
 have g3 := h3.digits b3
 have g4 := h4.digits b4
 have g5 := h5.digits b5
 have g6 := h6.digits b6
 have g7 := h7.digits b7
 have g8 := h8.itoa o3 b8.2
 obtain ⟨a1, a2, a3, a4, a5, a6, a7, a8, a9⟩ := c
 obtain ⟨b1, b2, b3, b4, b5, b6, b7, b8, b9⟩ := q
 simp only at h1 g0 g2 g3 g4 g5 g6 g7 g8 o1 o2
 simp only [Ed.mk.injEq]
 omega
def jy (l : List UInt8) : Nat × Nat := match cuts 46 l with
 | [a, b] => (fC a, fC b)
 | _ => (0, 0)
theorem pF (l : List UInt8) : (jy l).1 < 18446744073709551616 ∧ (jy l).2 < 18446744073709551616 := by
 unfold jy
 split
 ·exact ⟨mh _, mh _⟩
 ·exact ⟨by decide, by decide⟩
theorem ui {w n : Nat} (hw : w < 18446744073709551616) (hn : n < 18446744073709551616) : jy (dN w n) = (w, n) := by
 have e : cuts 46 (dN w n) = [Lib.decDigits w, Lib.decDigits n] := by
  unfold dN
  rw [jm _ (aY (by decide)), jf (aY (by decide))]
 unfold jy
 rw [e]
 simp only [eF _ hw, eF _ hn]
def lU (l0 l1 l2 l3 l4 l5 l6 : List UInt8) : Ed := ⟨IntKind.i64.wrap (fC l0 : Nat), IntKind.i64.wrap (fC l2 : Nat), bY l1, fC l3, (jy l4).1, (jy l4).2, (jy l5).1, (jy l5).2, if l6 = [45, 49] then -1 else IntKind.i64.wrap (fC l6 : Nat)⟩
theorem yz {s l0 l1 l2 l3 l4 l5 l6 : List UInt8} (hc : cuts 32 s = [l0, l1, l2, l3, l4, l5, l6]) : (lU l0 l1 l2 l3 l4 l5 l6).nums ∧ edRead s = if (lU l0 l1 l2 l3 l4 l5 l6).text = s then some (lU l0 l1 l2 l3 l4 l5 l6) else none := by
 have hk := uh l1
 have hn : (lU l0 l1 l2 l3 l4 l5 l6).nums := ⟨wrap_i64 _, wrap_i64 _, (by unfold i64; show _ ≤ bY l1 ∧ bY l1 ≤ _; omega), mh _, (pF _).1, (pF _).2, (pF _).1, (pF _).2, by
  show i64 (if l6 = [45, 49] then -1 else IntKind.i64.wrap (fC l6 : Nat))
  split
  ·unfold i64; omega
  ·exact wrap_i64 _⟩
 refine ⟨hn, qm (wz hc) hn fun q hq hqn he => ?_⟩
 have e := Ed.cuts hq.2.2.2.2
 rw [he, hc] at e
 simp only [Ed.words, List.cons.injEq, and_true] at e
 obtain ⟨rfl, rfl, rfl, rfl, rfl, rfl, rfl⟩ := e
 obtain ⟨b0, b1, b2, b3, b4, b5, b6, b7, b8⟩ := hqn
 have o0 := hq.1; have o5 := hq.2.1
 obtain ⟨_, _, o1, o2, o3⟩ := hq
 unfold i64 at b0 b1 b8
 unfold lU
 rw [iT o0 o5, eF _ b3, ui b4 b5, ui b6 b7, eF _ (show q.a.toNat < 18446744073709551616 by omega), eF _ (show q.b.toNat < 18446744073709551616 by omega), wrap_small _ (by omega), wrap_small _ (by omega)]
 have g8 : (if Lib.itoa q.p = [45, 49] then -1 else IntKind.i64.wrap (fC (Lib.itoa q.p) : Nat)) = q.p := by
  by_cases e : q.p = -1
  ·rw [e, iG, if_pos rfl]
  ·rw [il (by omega), if_neg (fun h => by have := di q.p.toNat 45 (by rw [h]; simp); exact absurd this (by decide)), eF _ (by omega), wrap_small _ (by omega)]
   omega
 rw [g8]
 obtain ⟨b1, b2, b3, b4, b5, b6, b7, b8, b9⟩ := q
 simp only [Ed.mk.injEq, and_true, true_and] at o1 o2 ⊢
 omega
end Go.Proofs.YtagnalfkmdjajaaGreatDoor
