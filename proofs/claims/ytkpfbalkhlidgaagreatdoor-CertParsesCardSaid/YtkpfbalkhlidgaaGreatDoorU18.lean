/- An edge's text, read: plain Lean. Ahead of it: The check of bytes (chapter 2), in plain numbers: the register of the program, turned bit by bit, is what the document's division leaves. Plain lemmas. Edges and certificates: plain Lean. -/
import Derived.Test.YtkpfbalkhlidgaaGreatDoorU4
import Derived.Test.YtkpfbalkhlidgaaGreatDoorU1
import Derived.Laws.Sem
namespace Go.Crc
def poly : Nat := 0xedb88320
/-- One digit. -/
def bitS (r : Nat) : Nat := (r / 2) ^^^ (if r % 2 = 1 then poly else 0)
def bits (k : Nat) (r : Nat) : Nat := Nat.rec (motive := fun _ => Nat → Nat) (fun r => r) (fun _ ih r => ih (bitS r)) k r
/-- A byte comes: the register's digits turned about are s. -/
def byteS (s c : Nat) : Nat := bits 8 (s ^^^ c)
/-- The register behind bytes. -/
def regS : List UInt8 → Nat → Nat
  | [], s => s
  | c :: l, s => regS l (byteS s c.toNat)
/-- The check. -/
def crcS (l : List UInt8) : Nat := 4294967295 ^^^ regS l 4294967295
theorem bits_succ (k r : Nat) : bits (k + 1) r = bits k (bitS r) := rfl
theorem bits_snoc : ∀ (k r : Nat), bits (k + 1) r = bitS (bits k r)
  | 0, _ => rfl
  | k + 1, r => by rw [bits_succ, bits_snoc k (bitS r), ← bits_succ]
theorem bitS_bit (r i : Nat) : (bitS r).testBit i = (r.testBit (i + 1) ^^ (r.testBit 0 && poly.testBit i)) := by
  unfold bitS
  rw [Nat.testBit_xor, ← Nat.testBit_succ]
  by_cases h : r % 2 = 1
  · rw [if_pos h]
    have : r.testBit 0 = true := by rw [Nat.testBit_zero]; simpa using h
    rw [this, Bool.true_and]
  · rw [if_neg h]
    have : r.testBit 0 = false := by rw [Nat.testBit_zero]; simpa using h
    rw [this, Bool.false_and, Nat.zero_testBit]
/-- Digits that have not come to the end yet only move. -/
theorem bitS_xor (x y : Nat) : bitS (x ^^^ (2 * y)) = bitS x ^^^ y := by
  apply Nat.eq_of_testBit_eq
  intro i
  rw [Nat.testBit_xor, bitS_bit, bitS_bit, Nat.testBit_xor, Nat.testBit_xor]
  have h0 : (2 * y).testBit 0 = false := by rw [Nat.testBit_zero]; simp
  have h1 : (2 * y).testBit (i + 1) = y.testBit i := by rw [Nat.testBit_succ]; congr 1; omega
  rw [h0, h1, Bool.xor_false]
  cases x.testBit (i + 1) <;> cases y.testBit i <;> cases (x.testBit 0 && poly.testBit i) <;> rfl
/-- Digit by digit, the lowest one first. -/
def foldB : List Bool → Nat → Nat
  | [], s => s
  | b :: l, s => foldB l (bitS (s ^^^ (if b then 1 else 0)))
def digs (k c : Nat) : List Bool := Nat.rec (motive := fun _ => Nat → List Bool) (fun _ => []) (fun _ ih c => (c % 2 == 1) :: ih (c / 2)) k c
theorem digs_succ (k c : Nat) : digs (k + 1) c = (c % 2 == 1) :: digs k (c / 2) := rfl
theorem xor_split (s c : Nat) : s ^^^ c = (s ^^^ (if (c % 2 == 1) = true then 1 else 0)) ^^^ (2 * (c / 2)) := by
  apply Nat.eq_of_testBit_eq
  intro i
  rw [Nat.testBit_xor, Nat.testBit_xor, Nat.testBit_xor]
  have hb : (if (c % 2 == 1) = true then 1 else 0 : Nat) = c % 2 := by
    rcases Nat.mod_two_eq_zero_or_one c with h | h <;> rw [h] <;> rfl
  rw [hb]
  cases i with
  | zero =>
    have h0 : (2 * (c / 2)).testBit 0 = false := by rw [Nat.testBit_zero]; simp
    rw [h0, Bool.xor_false, Nat.testBit_zero c, Nat.testBit_zero (c % 2)]
    congr 2
    rw [Nat.mod_mod]
  | succ i =>
    have h1 : (c % 2).testBit (i + 1) = false := by
      apply Nat.testBit_lt_two_pow
      have : c % 2 < 2 := Nat.mod_lt _ (by omega)
      have : 2 ^ 1 ≤ 2 ^ (i + 1) := Nat.pow_le_pow_right (by omega) (by omega)
      omega
    have h2 : (2 * (c / 2)).testBit (i + 1) = c.testBit (i + 1) := by
      rw [Nat.testBit_succ, Nat.testBit_succ]; congr 1; omega
    rw [h1, h2, Bool.xor_false]
theorem bits_fold : ∀ (k s c : Nat), c < 2 ^ k → bits k (s ^^^ c) = foldB (digs k c) s
  | 0, s, c, h => by
    have : c = 0 := by simp at h; exact h
    subst this
    show s ^^^ 0 = s
    exact Nat.xor_zero s
  | k + 1, s, c, h => by
    rw [bits_succ, digs_succ, xor_split s c, bitS_xor]
    show bits k (bitS (s ^^^ (if (c % 2 == 1) = true then 1 else 0)) ^^^ (c / 2)) = _
    rw [bits_fold k _ (c / 2) (by rw [Nat.pow_succ] at h; omega)]
    rfl
theorem byteS_fold (s : Nat) (c : UInt8) : byteS s c.toNat = foldB (digs 8 c.toNat) s := bits_fold 8 s c.toNat (by have := c.toNat_lt; omega)
def allDigs : List UInt8 → List Bool
  | [] => []
  | c :: l => digs 8 c.toNat ++ allDigs l
theorem foldB_app : ∀ (a b : List Bool) (s : Nat), foldB (a ++ b) s = foldB b (foldB a s)
  | [], _, _ => rfl
  | x :: a, b, s => by show foldB (a ++ b) _ = _; rw [foldB_app a b]; rfl
theorem regS_fold : ∀ (l : List UInt8) (s : Nat), regS l s = foldB (allDigs l) s
  | [], _ => rfl
  | c :: l, s => by
    show regS l (byteS s c.toNat) = foldB (digs 8 c.toNat ++ allDigs l) s
    rw [foldB_app, regS_fold l, byteS_fold]
theorem digs_len : ∀ (k c : Nat), (digs k c).length = k
  | 0, _ => rfl
  | k + 1, c => by rw [digs_succ, List.length_cons, digs_len k]
theorem allDigs_len : ∀ l : List UInt8, (allDigs l).length = 8 * l.length
  | [] => rfl
  | c :: l => by show (digs 8 c.toNat ++ allDigs l).length = _; rw [List.length_append, digs_len, allDigs_len l, List.length_cons]; omega
/-! The division. -/
def turns (d : Nat) : Bool := [6, 9, 10, 16, 20, 21, 22, 24, 25, 27, 28, 30, 31, 32].contains d
theorem turns_poly (d : Nat) : turns (d + 1) = poly.testBit d := by
  by_cases h : d < 32
  · have key : ∀ d, d < 32 → turns (d + 1) = poly.testBit d := by decide
    exact key d h
  · have h1 : poly.testBit d = false := by
      apply Nat.testBit_lt_two_pow
      have : 2 ^ 32 ≤ 2 ^ d := Nat.pow_le_pow_right (by omega) (by omega)
      have : poly < 2 ^ 32 := by decide
      omega
    rw [h1]
    unfold turns
    simp only [List.contains_cons, List.contains_nil, Bool.or_false, Bool.or_eq_false_iff, beq_eq_false_iff_ne, ne_eq]
    omega
/-- One digit of a row is divided away. -/
def divS (row : Nat → Bool) (i : Nat) : Nat → Bool := fun j => if j = i then false else if row i = true ∧ i < j then row j ^^ turns (j - i) else row j
def divN (row : Nat → Bool) : Nat → Nat → Bool
  | 0 => row
  | i + 1 => divS (divN row i) i
/-- The digits, with the first 32 turned, noughts behind. -/
def row0 (l : List Bool) (j : Nat) : Bool := (l.getD j false) ^^ decide (j < 32)
theorem foldB_snoc (l : List Bool) (b : Bool) (s : Nat) : foldB (l ++ [b]) s = bitS (foldB l s ^^^ (if b then 1 else 0)) := by rw [foldB_app]; rfl
theorem ones_bit (j : Nat) : (4294967295 : Nat).testBit j = decide (j < 32) := by
  have : (4294967295 : Nat) = 2 ^ 32 - 1 := rfl
  rw [this, Nat.testBit_two_pow_sub_one]
theorem one_bit (b : Bool) (j : Nat) : (if b then 1 else 0 : Nat).testBit j = (b && decide (j = 0)) := by
  cases b with
  | false => simp
  | true =>
    cases j with
    | zero => rfl
    | succ j => rw [Nat.testBit_succ]; simp
theorem div_inv (l : List Bool) : ∀ i, i ≤ l.length → ∀ j, i ≤ j → divN (row0 l) i j = (l.getD j false ^^ (foldB (l.take i) 4294967295).testBit (j - i))
  | 0, _, j, _ => by
    show row0 l j = _
    unfold row0
    rw [List.take_zero]
    show _ = (l.getD j false ^^ (4294967295 : Nat).testBit (j - 0))
    rw [ones_bit, Nat.sub_zero]
  | i + 1, hi, j, hj => by
    have ih := div_inv l i (by omega)
    have hq := ih i (Nat.le_refl _)
    have hj' := ih j (by omega)
    show divS (divN (row0 l) i) i j = _
    unfold divS
    rw [if_neg (by omega)]
    have htake : l.take (i + 1) = l.take i ++ [l.getD i false] := by
      rw [List.take_add_one, List.getD_eq_getElem?_getD, List.getElem?_eq_getElem (by omega)]
      rfl
    rw [htake, foldB_snoc, bitS_bit]
    have e1 : j - (i + 1) + 1 = j - i := by omega
    rw [e1, Nat.testBit_xor, Nat.testBit_xor, one_bit, one_bit]
    have e2 : decide (j - i = 0) = false := decide_eq_false (by omega)
    rw [e2, Bool.and_false, Bool.xor_false, decide_eq_true (rfl : (0 : Nat) = 0), Bool.and_true]
    rw [Nat.sub_self] at hq
    have e3 : turns (j - i) = poly.testBit (j - (i + 1)) := by
      rw [← turns_poly]; congr 1; omega
    rw [hq, hj', e3]
    have hlt : i < j := by omega
    cases hx : (l.getD i false ^^ (foldB (l.take i) 4294967295).testBit 0) with
    | true =>
      rw [if_pos ⟨rfl, hlt⟩]
      have : ((foldB (l.take i) 4294967295).testBit 0 ^^ l.getD i false) = true := by rw [Bool.xor_comm]; exact hx
      rw [this, Bool.true_and, Bool.xor_assoc]
    | false =>
      rw [if_neg (fun h => by cases h.1)]
      have : ((foldB (l.take i) 4294967295).testBit 0 ^^ l.getD i false) = false := by rw [Bool.xor_comm]; exact hx
      rw [this, Bool.false_and, Bool.xor_false]
/-- What the division leaves is the register. -/
theorem div_rest (l : List UInt8) (i : Nat) : divN (row0 (allDigs l)) (8 * l.length) (8 * l.length + i) = (regS l 4294967295).testBit i := by
  have h := div_inv (allDigs l) (8 * l.length) (by rw [allDigs_len]; exact Nat.le_refl _) (8 * l.length + i) (by omega)
  rw [h, List.take_of_length_le (by rw [allDigs_len]; exact Nat.le_refl _), ← regS_fold]
  have : (allDigs l).getD (8 * l.length + i) false = false := by
    rw [List.getD_eq_getElem?_getD, List.getElem?_eq_none (by rw [allDigs_len]; omega)]; rfl
  rw [this, Bool.false_xor]
  congr 1; omega
theorem bitS_lt {r : Nat} (h : r < 4294967296) : bitS r < 4294967296 := by
  unfold bitS
  apply Nat.xor_lt_two_pow (n := 32)
  · show r / 2 < 4294967296; omega
  · split
    · decide
    · decide
theorem bits_lt : ∀ (k : Nat) {r : Nat}, r < 4294967296 → bits k r < 4294967296
  | 0, _, h => h
  | k + 1, _, h => bits_lt k (bitS_lt h)
theorem byteS_lt {s : Nat} (c : UInt8) (h : s < 4294967296) : byteS s c.toNat < 4294967296 :=
  bits_lt 8 (Nat.xor_lt_two_pow (n := 32) h (by have := c.toNat_lt; show c.toNat < 4294967296; omega))
theorem regS_lt : ∀ (l : List UInt8) {s : Nat}, s < 4294967296 → regS l s < 4294967296
  | [], _, h => h
  | c :: l, _, h => regS_lt l (byteS_lt c h)
/-- The sum of 32 digits, the highest one first. -/
def sumB (f : Nat → Bool) : Nat → Nat
  | 0 => 0
  | k + 1 => 2 * sumB (fun i => f (i + 1)) k + (if f 0 then 1 else 0)
theorem sumB_eq : ∀ (k x : Nat), x < 2 ^ k → sumB (fun i => x.testBit i) k = x
  | 0, x, h => by simp at h; subst h; rfl
  | k + 1, x, h => by
    show 2 * sumB (fun i => x.testBit (i + 1)) k + (if x.testBit 0 = true then 1 else 0) = x
    have : (fun i => x.testBit (i + 1)) = fun i => (x / 2).testBit i := by funext i; rw [Nat.testBit_succ]
    rw [this, sumB_eq k (x / 2) (by rw [Nat.pow_succ] at h; omega), Nat.testBit_zero]
    rcases Nat.mod_two_eq_zero_or_one x with e | e
    · rw [if_neg (by simp [e])]; omega
    · rw [if_pos (by simp [e])]; omega
/-- The document's sum is the program's. -/
theorem crc_eq (l : List UInt8) : sumB (fun i => !(divN (row0 (allDigs l)) (8 * l.length) (8 * l.length + i))) 32 = crcS l := by
  have h := sumB_eq 32 (crcS l) (by
    unfold crcS
    exact Nat.xor_lt_two_pow (n := 32) (by decide) (regS_lt l (by decide)))
  rw [← h]
  have key : ∀ (k : Nat) (f g : Nat → Bool), (∀ i, i < k → f i = g i) → sumB f k = sumB g k := by
    intro k
    induction k with
    | zero => intro f g _; rfl
    | succ k ih =>
      intro f g hfg
      show 2 * sumB _ k + _ = 2 * sumB _ k + _
      rw [ih (fun i => f (i + 1)) (fun i => g (i + 1)) (fun i hi => hfg (i + 1) (by omega)), hfg 0 (by omega)]
  apply key
  intro i hi
  rw [div_rest]
  unfold crcS
  rw [Nat.testBit_xor, ones_bit, decide_eq_true hi, Bool.true_xor]
end Go.Crc
namespace Go.Proofs.YtkpfbalkhlidgaaGreatDoor
open Go.RowKit Go
set_option linter.unusedVariables false
set_option linter.unusedSimpArgs false
structure Ed where
  a : Int
  b : Int
  k : Int
  x : Nat
  sw : Nat
  sn : Nat
  mw : Nat
  mn : Nat
  p : Int
  deriving DecidableEq
def i64 (n : Int) : Prop := -9223372036854775808 ≤ n ∧ n ≤ 9223372036854775807
def Ed.nums (e : Ed) : Prop := i64 e.a ∧ i64 e.b ∧ i64 e.k ∧ e.x < 18446744073709551616 ∧ e.sw < 18446744073709551616 ∧ e.sn < 18446744073709551616 ∧ e.mw < 18446744073709551616 ∧ e.mn < 18446744073709551616 ∧ i64 e.p
def Ed.ok (e : Ed) : Prop := 1 ≤ e.k ∧ e.k ≤ 5 ∧ 0 ≤ e.a ∧ 0 ≤ e.b ∧ -1 ≤ e.p
instance Ed.decOk (e : Ed) : Decidable e.ok := by unfold Ed.ok; infer_instance
def edWord (k : Int) : List UInt8 := if k = 1 then [119, 119] else if k = 2 then [119, 114] else if k = 3 then [114, 119] else if k = 4 then [112, 119, 114] else [112, 114, 119]
def Ed.words (e : Ed) : List (List UInt8) := [Lib.decDigits e.a.toNat, edWord e.k, Lib.decDigits e.b.toNat, Lib.decDigits e.x, verT e.sw e.sn, verT e.mw e.mn, Lib.itoa e.p]
def Ed.told (e : Ed) : List UInt8 := Lib.join e.words [32]
def Ed.text (e : Ed) : List UInt8 := if e.ok then e.told else []
def Ed.vals (e : Ed) : List Value := [.int .i64 e.a, .int .i64 e.b, .int .i64 e.k, .int .u64 e.x, .int .u64 e.sw, .int .u64 e.sn, .int .u64 e.mw, .int .u64 e.mn, .int .i64 e.p]
theorem Ed.text_ok {e : Ed} (h : e.ok) : e.text = e.told := if_pos h
theorem Ed.told_ne (e : Ed) : e.told ≠ [] := by
  unfold Ed.told Ed.words
  rw [Lib.join_cons]
  intro h
  exact decDigits_ne _ (List.append_eq_nil_iff.1 h).1
theorem Ed.text_nil {e : Ed} : e.text = [] ↔ ¬ e.ok := by
  unfold Ed.text
  split
  · rename_i h; exact ⟨fun g => absurd g e.told_ne, fun g => absurd h g⟩
  · rename_i h; exact ⟨fun _ => h, fun _ => rfl⟩
theorem itoa_len {n : Int} (h : i64 n) : (Lib.itoa n).length ≤ 21 := by
  unfold Lib.itoa
  have h1 := h.1
  have h2 := h.2
  split
  · have := decDigits_le20 n.natAbs (by omega)
    simp; omega
  · have := decDigits_le20 n.toNat (by omega)
    omega
theorem edWord_len (k : Int) : (edWord k).length ≤ 3 := by
  unfold edWord; split <;> (try split) <;> (try split) <;> (try split) <;> simp
theorem verT_len {a b : Nat} (ha : a < 18446744073709551616) (hb : b < 18446744073709551616) : (verT a b).length ≤ 41 := by
  have := decDigits_le20 a ha
  have := decDigits_le20 b hb
  simp [verT]; omega
theorem Ed.told_len {e : Ed} (h : e.nums) : e.told.length ≤ 200 := by
  obtain ⟨h1, h2, h3, h4, h5, h6, h7, h8, h9⟩ := h
  unfold i64 at h1 h2
  have q1 := decDigits_le20 e.a.toNat (by omega)
  have q2 := edWord_len e.k
  have q3 := decDigits_le20 e.b.toNat (by omega)
  have q4 := decDigits_le20 e.x h4
  have q5 := verT_len h5 h6
  have q6 := verT_len h7 h8
  have q7 := itoa_len h9
  unfold Ed.told Ed.words
  rw [Lib.join_cons]
  simp [Lib.joinTail]
  omega
theorem Ed.text_len {e : Ed} (h : e.nums) : e.text.length ≤ 200 := by
  unfold Ed.text
  split
  · exact Ed.told_len h
  · simp
structure Crt where
  k : Int
  o : List Int
  p : Int
  q : Int
  w : List Ed
  deriving DecidableEq
def ints (l : List Int) : List Value := l.map fun n => .int .i64 n
def edVs (l : List Ed) : List Value := l.flatMap Ed.vals
theorem ints_length (l : List Int) : (ints l).length = l.length := by simp [ints]
theorem edVs_length (l : List Ed) : (edVs l).length = l.length * 9 := by
  unfold edVs
  induction l with
  | nil => rfl
  | cons e l ih => rw [List.flatMap_cons, List.length_append, ih]; simp [Ed.vals]; omega
def Crt.nums (c : Crt) : Prop := i64 c.k ∧ i64 c.p ∧ i64 c.q ∧ (∀ n ∈ c.o, i64 n) ∧ ∀ e ∈ c.w, e.nums
def spotK (k : Int) : Bool := k == 2 || k == 3
def Crt.right (c : Crt) : Bool := (decide (1 ≤ c.k) && decide (c.k < 5)) && (c.k == 1 || c.o.isEmpty) && (c.k == 4 || c.w.isEmpty) && (spotK c.k || (c.p == 0 && c.q == 0)) && decide (c.o.length ≤ 65536) && decide (c.w.length ≤ 65536) && decide (0 ≤ c.p) && decide (0 ≤ c.q) &&
  c.o.all (fun n => decide (0 ≤ n)) && c.w.all fun e => decide e.ok
def Ed.pays (e : Ed) : List Nat := [e.a.toNat, e.b.toNat, e.k.toNat, e.x, e.sw, e.sn, e.mw, e.mn, (e.p + 1).toNat]
def Crt.pays (c : Crt) : List Nat := if c.k = 1 then c.o.length :: c.o.map Int.toNat else if c.k = 4 then c.w.length :: c.w.flatMap Ed.pays else [c.p.toNat, c.q.toNat]
def crtWord (k : Int) : List UInt8 := if k = 1 then [115, 101, 114, 105, 97, 108] else if k = 2 then [100, 105, 114, 116, 121] else if k = 3 then [112, 97, 114, 116, 105, 97, 108] else [99, 121, 99, 108, 101]
def edPart (e : Ed) (i : Nat) : List (List UInt8) := if i = 0 then [e.text] else [[59], e.text]
def edParts (l : List Ed) : List (List UInt8) := l.zipIdx.flatMap fun x => edPart x.1 x.2
def Crt.parts (c : Crt) : List (List UInt8) := crtWord c.k :: ((if spotK c.k then [Lib.decDigits c.p.toNat, Lib.decDigits c.q.toNat] else []) ++ c.o.map (fun n => Lib.decDigits n.toNat) ++ edParts c.w)
def Crt.told (c : Crt) : List UInt8 := Lib.join c.parts [32]
def Crt.text (c : Crt) : List UInt8 := if c.right then c.told else []
theorem edParts_nil : edParts [] = [] := rfl
theorem edParts_snoc (l : List Ed) (e : Ed) : edParts (l ++ [e]) = edParts l ++ edPart e l.length := by
  unfold edParts
  rw [List.zipIdx_append]
  simp
theorem edParts_take (l : List Ed) (i : Nat) (h : i < l.length) : edParts (l.take (i + 1)) = edParts (l.take i) ++ edPart l[i] i := by
  rw [List.take_succ_eq_append_getElem h, edParts_snoc, List.length_take, Nat.min_eq_left (by omega)]
theorem join_snoc (l : List (List UInt8)) (x : List UInt8) (h : l ≠ []) : Lib.join (l ++ [x]) [32] = Lib.join l [32] ++ 32 :: x := by
  cases l with
  | nil => exact absurd rfl h
  | cons y r =>
    rw [List.cons_append, Lib.join_cons, Lib.join_cons]
    have : ∀ r : List (List UInt8), Lib.joinTail [32] (r ++ [x]) = Lib.joinTail [32] r ++ 32 :: x := by
      intro r
      simp [Lib.joinTail]
    rw [this, List.append_assoc]
theorem Crt.nil_of {c : Crt} (h : c.right = true) : (c.k = 1 ∨ c.o = []) ∧ (c.k = 4 ∨ c.w = []) ∧ ((c.k = 2 ∨ c.k = 3) ∨ (c.p = 0 ∧ c.q = 0)) ∧ 1 ≤ c.k ∧ c.k < 5 ∧ 0 ≤ c.p ∧ 0 ≤ c.q ∧ (∀ n ∈ c.o, 0 ≤ n) ∧ (∀ e ∈ c.w, e.ok) ∧ c.o.length ≤ 65536 ∧ c.w.length ≤ 65536 := by
  unfold Crt.right spotK at h
  simp only [Bool.and_eq_true, Bool.or_eq_true, decide_eq_true_eq, beq_iff_eq, List.isEmpty_iff, List.all_eq_true] at h
  obtain ⟨⟨⟨⟨⟨⟨⟨⟨⟨⟨h1, h2⟩, h3⟩, h4⟩, h5⟩, h6⟩, h7⟩, h8⟩, h9⟩, h10⟩, h11⟩ := h
  exact ⟨h3, h4, h5, h1, h2, h8, h9, h10, h11, h6, h7⟩
end Go.Proofs.YtkpfbalkhlidgaaGreatDoor
namespace Go.Proofs.YtkpfbalkhlidgaaGreatDoor
open Go.RowKit Go
set_option linter.unusedVariables false
set_option linter.unusedSimpArgs false
theorem itoa_minus : Lib.itoa (-1) = [45, 49] := by unfold Lib.itoa; simp [Lib.decDigits]
theorem itoa_pos' {n : Int} (h : 0 ≤ n) : Lib.itoa n = Lib.decDigits n.toNat := by unfold Lib.itoa; rw [if_neg (by omega)]
theorem itoa_no {n : Int} (h : -1 ≤ n) {c : UInt8} (hc : isD c = false) (h2 : c ≠ 45) : c ∉ Lib.itoa n := by
  by_cases e : n = -1
  · subst e
    rw [itoa_minus]
    simp only [List.mem_cons, List.not_mem_nil, or_false, not_or]
    exact ⟨h2, fun e => by subst e; exact absurd hc (by decide)⟩
  · rw [itoa_pos' (by omega)]; exact digits_no hc
theorem edWord_no (k : Int) : (32 : UInt8) ∉ edWord k := by unfold edWord; split <;> (try split) <;> (try split) <;> (try split) <;> decide
theorem Ed.cuts {e : Ed} (h : -1 ≤ e.p) : cuts 32 e.told = e.words := by
  refine cuts_of_join (by simp [Ed.words]) fun x hx => ?_
  simp only [Ed.words, List.mem_cons, List.not_mem_nil, or_false] at hx
  rcases hx with rfl | rfl | rfl | rfl | rfl | rfl | rfl
  · exact digits_no (by decide)
  · exact edWord_no _
  · exact digits_no (by decide)
  · exact digits_no (by decide)
  · exact verT_no (by decide) (by decide)
  · exact verT_no (by decide) (by decide)
  · exact itoa_no h (by decide) (by decide)
def edKind (w : List UInt8) : Int := if w = edWord 1 then 1 else if w = edWord 2 then 2 else if w = edWord 3 then 3 else if w = edWord 4 then 4 else if w = edWord 5 then 5 else 0
theorem edKind_word {k : Int} (h1 : 1 ≤ k) (h5 : k ≤ 5) : edKind (edWord k) = k := by
  obtain rfl | rfl | rfl | rfl | rfl : k = 1 ∨ k = 2 ∨ k = 3 ∨ k = 4 ∨ k = 5 := by omega
  all_goals decide
theorem edKind_le (w : List UInt8) : 0 ≤ edKind w ∧ edKind w ≤ 5 := by
  unfold edKind
  split <;> (try split) <;> (try split) <;> (try split) <;> (try split) <;> omega
theorem AtoiIs.itoa {n v : Int} (h : AtoiIs (Lib.itoa n) v) (h0 : -1 ≤ n) (h1 : n ≤ 9223372036854775807) : v = n := by
  by_cases e : n = -1
  · subst e
    rw [itoa_minus] at h
    have g : Lib.atoiAll [45, 49] = .ok (-1) := by rfl
    rcases h.2.2 with q | q
    · rw [g] at q; injection q with q; exact q.symm
    · exact absurd g (q _)
  · rw [itoa_pos' (by omega)] at h
    have := h.digits (by omega)
    omega
theorem itoa_inj' {m n : Int} (hm : -1 ≤ m) (hn : -1 ≤ n) (h : Lib.itoa m = Lib.itoa n) : m = n := by
  have no : ∀ k : Int, 0 ≤ k → Lib.itoa k ≠ [45, 49] := fun k hk e => by
    rw [itoa_pos' hk] at e
    have := decDigits_isD k.toNat 45 (by rw [e]; simp)
    exact absurd this (by decide)
  by_cases e1 : m = -1
  · by_cases e2 : n = -1
    · omega
    · rw [e1, itoa_minus] at h; exact absurd h.symm (no n (by omega))
  · by_cases e2 : n = -1
    · rw [e2, itoa_minus] at h; exact absurd h (no m (by omega))
    · rw [itoa_pos' (by omega), itoa_pos' (by omega)] at h
      have := decDigits_inj h
      omega
theorem Ed.inj {d e : Ed} (hd : d.ok) (he : e.ok) (h : d.told = e.told) : d = e := by
  have g := Ed.cuts hd.2.2.2.2
  rw [h, Ed.cuts he.2.2.2.2] at g
  simp only [Ed.words, List.cons.injEq, and_true] at g
  obtain ⟨g0, g1, g2, g3, g4, g5, g6⟩ := g
  have k0 := decDigits_inj g0
  have k1 : e.k = d.k := by rw [← edKind_word he.1 he.2.1, ← edKind_word hd.1 hd.2.1, g1]
  have k2 := decDigits_inj g2
  have k3 := decDigits_inj g3
  obtain ⟨k4, k5⟩ := verT_inj g4
  obtain ⟨k6, k7⟩ := verT_inj g5
  have k8 := itoa_inj' he.2.2.2.2 hd.2.2.2.2 g6
  obtain ⟨a1, a2, a3, a4, a5, a6, a7, a8, a9⟩ := d
  obtain ⟨b1, b2, b3, b4, b5, b6, b7, b8, b9⟩ := e
  obtain ⟨_, _, h1, h2, _⟩ := hd
  obtain ⟨_, _, h3, h4, _⟩ := he
  simp only at k0 k1 k2 k3 k4 k5 k6 k7 k8 h1 h2 h3 h4
  have : a1 = b1 := by omega
  have : a2 = b2 := by omega
  subst_vars
  rfl
open Classical in
/-- The edge of a text. -/
noncomputable def edRead (s : List UInt8) : Option Ed := if h : ∃ e : Ed, e.ok ∧ e.nums ∧ e.told = s then some h.choose else none
theorem edRead_some {s : List UInt8} {e : Ed} : edRead s = some e ↔ e.ok ∧ e.nums ∧ e.told = s := by
  unfold edRead
  constructor
  · intro h
    split at h
    · rename_i hx; injection h with h; subst h; exact hx.choose_spec
    · cases h
  · intro h
    have hx : ∃ e : Ed, e.ok ∧ e.nums ∧ e.told = s := ⟨e, h⟩
    rw [dif_pos hx]
    have := hx.choose_spec
    exact congrArg some (Ed.inj this.1 h.1 (this.2.2.trans h.2.2.symm))
theorem edRead_none {s : List UInt8} (h : ∀ e : Ed, e.ok → e.nums → e.told ≠ s) : edRead s = none := by
  cases e : edRead s with
  | none => rfl
  | some p => obtain ⟨h1, h2, h3⟩ := edRead_some.1 e; exact absurd h3 (h p h1 h2)
/-- A candidate that is the edge, if one is told so: it is told as the text, or the text is none's. -/
theorem edRead_via {s : List UInt8} {c : Ed} (hs : s ≠ []) (hn : c.nums) (h : ∀ q : Ed, q.ok → q.nums → q.told = s → c = q) : edRead s = if c.text = s then some c else none := by
  by_cases ht : c.text = s
  · rw [if_pos ht]
    unfold Ed.text at ht
    split at ht
    · rename_i ho; exact edRead_some.2 ⟨ho, hn, ht⟩
    · exact absurd ht.symm hs
  · rw [if_neg ht]
    refine edRead_none fun q h1 h2 h3 => ht ?_
    rw [h q h1 h2 h3, Ed.text_ok h1]; exact h3
/-- No seven words: no edge's. -/
theorem edRead_words {s : List UInt8} (h : (cuts 32 s).length ≠ 7) : edRead s = none := by
  refine edRead_none fun q hq hqn he => ?_
  subst he
  rw [Ed.cuts hq.2.2.2.2] at h
  simp [Ed.words] at h
theorem cuts7_ne {s l0 l1 l2 l3 l4 l5 l6 : List UInt8} (hc : cuts 32 s = [l0, l1, l2, l3, l4, l5, l6]) : s ≠ [] := fun e => by rw [e] at hc; simp [Go.Proofs.YtkpfbalkhlidgaaGreatDoor.cuts] at hc
/-- The program's reading: the candidate out of the words. -/
theorem edRead_cand {s l0 l1 l2 l3 l4 l5 l6 : List UInt8} {c : Ed} (hc : cuts 32 s = [l0, l1, l2, l3, l4, l5, l6]) (h0 : AtoiIs l0 c.a) (h1 : edKind l1 = c.k) (h2 : AtoiIs l2 c.b) (h3 : PuIs l3 c.x)
    (h4 : PuIs (Lib.cut l4 [46]).1 c.sw) (h5 : PuIs (Lib.cut l4 [46]).2.1 c.sn) (h6 : PuIs (Lib.cut l5 [46]).1 c.mw) (h7 : PuIs (Lib.cut l5 [46]).2.1 c.mn) (h8 : AtoiIs l6 c.p) : c.nums ∧ edRead s = if c.text = s then some c else none := by
  have hk := edKind_le l1
  have hn : c.nums := ⟨⟨h0.1, h0.2.1⟩, ⟨h2.1, h2.2.1⟩, by rw [← h1]; unfold i64; omega, h3.1, h4.1, h5.1, h6.1, h7.1, ⟨h8.1, h8.2.1⟩⟩
  refine ⟨hn, edRead_via (cuts7_ne hc) hn fun q hq hqn he => ?_⟩
  have e := Ed.cuts hq.2.2.2.2
  rw [he, hc] at e
  simp only [Ed.words, List.cons.injEq, and_true] at e
  obtain ⟨rfl, rfl, rfl, rfl, rfl, rfl, rfl⟩ := e
  rw [edKind_word hq.1 hq.2.1] at h1
  rw [cut_verT] at h4 h5 h6 h7
  obtain ⟨b0, b1, b2, b3, b4, b5, b6, b7, b8⟩ := hqn
  obtain ⟨_, _, o1, o2, o3⟩ := hq
  unfold i64 at b0 b1 b8
  have g0 := h0.digits (by omega)
  have g2 := h2.digits (by omega)
  have g3 := h3.digits b3
  have g4 := h4.digits b4
  have g5 := h5.digits b5
  have g6 := h6.digits b6
  have g7 := h7.digits b7
  have g8 := h8.itoa o3 b8.2
  obtain ⟨a1, a2, a3, a4, a5, a6, a7, a8, a9⟩ := c
  obtain ⟨b1, b2, b3, b4, b5, b6, b7, b8, b9⟩ := q
  simp only at h1 g0 g2 g3 g4 g5 g6 g7 g8 o1 o2
  simp only [Ed.mk.injEq]
  omega
/-- A version of a text, as the reference has it. -/
def verW (l : List UInt8) : Nat × Nat := match cuts 46 l with
  | [a, b] => (valW a, valW b)
  | _ => (0, 0)
theorem verW_lt (l : List UInt8) : (verW l).1 < 18446744073709551616 ∧ (verW l).2 < 18446744073709551616 := by
  unfold verW
  split
  · exact ⟨valW_lt _, valW_lt _⟩
  · exact ⟨by decide, by decide⟩
theorem verW_verT {w n : Nat} (hw : w < 18446744073709551616) (hn : n < 18446744073709551616) : verW (verT w n) = (w, n) := by
  have e : cuts 46 (verT w n) = [Lib.decDigits w, Lib.decDigits n] := by
    unfold verT
    rw [cuts_at _ (digits_no (by decide)), cuts_none (digits_no (by decide))]
  unfold verW
  rw [e]
  simp only [valW_digits _ hw, valW_digits _ hn]
/-- The reference's candidate. -/
def edCand (l0 l1 l2 l3 l4 l5 l6 : List UInt8) : Ed := ⟨IntKind.i64.wrap (valW l0 : Nat), IntKind.i64.wrap (valW l2 : Nat), edKind l1, valW l3, (verW l4).1, (verW l4).2, (verW l5).1, (verW l5).2, if l6 = [45, 49] then -1 else IntKind.i64.wrap (valW l6 : Nat)⟩
theorem edRead_ref {s l0 l1 l2 l3 l4 l5 l6 : List UInt8} (hc : cuts 32 s = [l0, l1, l2, l3, l4, l5, l6]) : (edCand l0 l1 l2 l3 l4 l5 l6).nums ∧ edRead s = if (edCand l0 l1 l2 l3 l4 l5 l6).text = s then some (edCand l0 l1 l2 l3 l4 l5 l6) else none := by
  have hk := edKind_le l1
  have hn : (edCand l0 l1 l2 l3 l4 l5 l6).nums := ⟨wrap_i64 _, wrap_i64 _, (by unfold i64; show _ ≤ edKind l1 ∧ edKind l1 ≤ _; omega), valW_lt _, (verW_lt _).1, (verW_lt _).2, (verW_lt _).1, (verW_lt _).2, by
    show i64 (if l6 = [45, 49] then -1 else IntKind.i64.wrap (valW l6 : Nat))
    split
    · unfold i64; omega
    · exact wrap_i64 _⟩
  refine ⟨hn, edRead_via (cuts7_ne hc) hn fun q hq hqn he => ?_⟩
  have e := Ed.cuts hq.2.2.2.2
  rw [he, hc] at e
  simp only [Ed.words, List.cons.injEq, and_true] at e
  obtain ⟨rfl, rfl, rfl, rfl, rfl, rfl, rfl⟩ := e
  obtain ⟨b0, b1, b2, b3, b4, b5, b6, b7, b8⟩ := hqn
  have o0 := hq.1; have o5 := hq.2.1
  obtain ⟨_, _, o1, o2, o3⟩ := hq
  unfold i64 at b0 b1 b8
  unfold edCand
  rw [edKind_word o0 o5, valW_digits _ b3, verW_verT b4 b5, verW_verT b6 b7, valW_digits _ (show q.a.toNat < 18446744073709551616 by omega), valW_digits _ (show q.b.toNat < 18446744073709551616 by omega), wrap_small _ (by omega), wrap_small _ (by omega)]
  have g8 : (if Lib.itoa q.p = [45, 49] then -1 else IntKind.i64.wrap (valW (Lib.itoa q.p) : Nat)) = q.p := by
    by_cases e : q.p = -1
    · rw [e, itoa_minus, if_pos rfl]
    · rw [itoa_pos' (by omega), if_neg (fun h => by have := decDigits_isD q.p.toNat 45 (by rw [h]; simp); exact absurd this (by decide)), valW_digits _ (by omega), wrap_small _ (by omega)]
      omega
  rw [g8]
  obtain ⟨b1, b2, b3, b4, b5, b6, b7, b8, b9⟩ := q
  simp only [Ed.mk.injEq, and_true, true_and] at o1 o2 ⊢
  omega
end Go.Proofs.YtkpfbalkhlidgaaGreatDoor
