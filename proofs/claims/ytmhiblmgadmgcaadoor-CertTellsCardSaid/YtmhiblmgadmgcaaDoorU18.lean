/- Edges and certificates: plain Lean. Ahead of it: The check of bytes (chapter 2), in plain numbers: the register of the program, turned bit by bit, is what the document's division leaves. Plain lemmas. -/
import Derived.Test.YtmhiblmgadmgcaaDoorU4
import Derived.Test.YtmhiblmgadmgcaaDoorU1
import Derived.Laws.Sem
namespace Go.Crc
def poly : Nat := 0xedb88320
/-- One digit. -/
def bitS (r : Nat) : Nat := (r / 2) ^^^ (if r % 2 = 1 then poly else 0)
def bits (k : Nat) (r : Nat) : Nat := Nat.rec (motive := fun _ => Nat → Nat) (fun r => r) (fun _ ih r => ih (bitS r)) k r
/-- A byte comes: the register's digits turned about are s. -/
def byteS (s c : Nat) : Nat := bits 8 (s ^^^ c)
/-- The register behind bytes. -/
def regS : List UInt8 → Nat → Nat
  | [], s => s
  | c :: l, s => regS l (byteS s c.toNat)
/-- The check. -/
def crcS (l : List UInt8) : Nat := 4294967295 ^^^ regS l 4294967295
theorem bits_succ (k r : Nat) : bits (k + 1) r = bits k (bitS r) := rfl
theorem bits_snoc : ∀ (k r : Nat), bits (k + 1) r = bitS (bits k r)
  | 0, _ => rfl
  | k + 1, r => by rw [bits_succ, bits_snoc k (bitS r), ← bits_succ]
theorem bitS_bit (r i : Nat) : (bitS r).testBit i = (r.testBit (i + 1) ^^ (r.testBit 0 && poly.testBit i)) := by
  unfold bitS
  rw [Nat.testBit_xor, ← Nat.testBit_succ]
  by_cases h : r % 2 = 1
  · rw [if_pos h]
    have : r.testBit 0 = true := by rw [Nat.testBit_zero]; simpa using h
    rw [this, Bool.true_and]
  · rw [if_neg h]
    have : r.testBit 0 = false := by rw [Nat.testBit_zero]; simpa using h
    rw [this, Bool.false_and, Nat.zero_testBit]
/-- Digits that have not come to the end yet only move. -/
theorem bitS_xor (x y : Nat) : bitS (x ^^^ (2 * y)) = bitS x ^^^ y := by
  apply Nat.eq_of_testBit_eq
  intro i
  rw [Nat.testBit_xor, bitS_bit, bitS_bit, Nat.testBit_xor, Nat.testBit_xor]
  have h0 : (2 * y).testBit 0 = false := by rw [Nat.testBit_zero]; simp
  have h1 : (2 * y).testBit (i + 1) = y.testBit i := by rw [Nat.testBit_succ]; congr 1; omega
  rw [h0, h1, Bool.xor_false]
  cases x.testBit (i + 1) <;> cases y.testBit i <;> cases (x.testBit 0 && poly.testBit i) <;> rfl
/-- Digit by digit, the lowest one first. -/
def foldB : List Bool → Nat → Nat
  | [], s => s
  | b :: l, s => foldB l (bitS (s ^^^ (if b then 1 else 0)))
def digs (k c : Nat) : List Bool := Nat.rec (motive := fun _ => Nat → List Bool) (fun _ => []) (fun _ ih c => (c % 2 == 1) :: ih (c / 2)) k c
theorem digs_succ (k c : Nat) : digs (k + 1) c = (c % 2 == 1) :: digs k (c / 2) := rfl
theorem xor_split (s c : Nat) : s ^^^ c = (s ^^^ (if (c % 2 == 1) = true then 1 else 0)) ^^^ (2 * (c / 2)) := by
  apply Nat.eq_of_testBit_eq
  intro i
  rw [Nat.testBit_xor, Nat.testBit_xor, Nat.testBit_xor]
  have hb : (if (c % 2 == 1) = true then 1 else 0 : Nat) = c % 2 := by
    rcases Nat.mod_two_eq_zero_or_one c with h | h <;> rw [h] <;> rfl
  rw [hb]
  cases i with
  | zero =>
    have h0 : (2 * (c / 2)).testBit 0 = false := by rw [Nat.testBit_zero]; simp
    rw [h0, Bool.xor_false, Nat.testBit_zero c, Nat.testBit_zero (c % 2)]
    congr 2
    rw [Nat.mod_mod]
  | succ i =>
    have h1 : (c % 2).testBit (i + 1) = false := by
      apply Nat.testBit_lt_two_pow
      have : c % 2 < 2 := Nat.mod_lt _ (by omega)
      have : 2 ^ 1 ≤ 2 ^ (i + 1) := Nat.pow_le_pow_right (by omega) (by omega)
      omega
    have h2 : (2 * (c / 2)).testBit (i + 1) = c.testBit (i + 1) := by
      rw [Nat.testBit_succ, Nat.testBit_succ]; congr 1; omega
    rw [h1, h2, Bool.xor_false]
theorem bits_fold : ∀ (k s c : Nat), c < 2 ^ k → bits k (s ^^^ c) = foldB (digs k c) s
  | 0, s, c, h => by
    have : c = 0 := by simp at h; exact h
    subst this
    show s ^^^ 0 = s
    exact Nat.xor_zero s
  | k + 1, s, c, h => by
    rw [bits_succ, digs_succ, xor_split s c, bitS_xor]
    show bits k (bitS (s ^^^ (if (c % 2 == 1) = true then 1 else 0)) ^^^ (c / 2)) = _
    rw [bits_fold k _ (c / 2) (by rw [Nat.pow_succ] at h; omega)]
    rfl
theorem byteS_fold (s : Nat) (c : UInt8) : byteS s c.toNat = foldB (digs 8 c.toNat) s := bits_fold 8 s c.toNat (by have := c.toNat_lt; omega)
def allDigs : List UInt8 → List Bool
  | [] => []
  | c :: l => digs 8 c.toNat ++ allDigs l
theorem foldB_app : ∀ (a b : List Bool) (s : Nat), foldB (a ++ b) s = foldB b (foldB a s)
  | [], _, _ => rfl
  | x :: a, b, s => by show foldB (a ++ b) _ = _; rw [foldB_app a b]; rfl
theorem regS_fold : ∀ (l : List UInt8) (s : Nat), regS l s = foldB (allDigs l) s
  | [], _ => rfl
  | c :: l, s => by
    show regS l (byteS s c.toNat) = foldB (digs 8 c.toNat ++ allDigs l) s
    rw [foldB_app, regS_fold l, byteS_fold]
theorem digs_len : ∀ (k c : Nat), (digs k c).length = k
  | 0, _ => rfl
  | k + 1, c => by rw [digs_succ, List.length_cons, digs_len k]
theorem allDigs_len : ∀ l : List UInt8, (allDigs l).length = 8 * l.length
  | [] => rfl
  | c :: l => by show (digs 8 c.toNat ++ allDigs l).length = _; rw [List.length_append, digs_len, allDigs_len l, List.length_cons]; omega
/-! The division. -/
def turns (d : Nat) : Bool := [6, 9, 10, 16, 20, 21, 22, 24, 25, 27, 28, 30, 31, 32].contains d
theorem turns_poly (d : Nat) : turns (d + 1) = poly.testBit d := by
  by_cases h : d < 32
  · have key : ∀ d, d < 32 → turns (d + 1) = poly.testBit d := by decide
    exact key d h
  · have h1 : poly.testBit d = false := by
      apply Nat.testBit_lt_two_pow
      have : 2 ^ 32 ≤ 2 ^ d := Nat.pow_le_pow_right (by omega) (by omega)
      have : poly < 2 ^ 32 := by decide
      omega
    rw [h1]
    unfold turns
    simp only [List.contains_cons, List.contains_nil, Bool.or_false, Bool.or_eq_false_iff, beq_eq_false_iff_ne, ne_eq]
    omega
/-- One digit of a row is divided away. -/
def divS (row : Nat → Bool) (i : Nat) : Nat → Bool := fun j => if j = i then false else if row i = true ∧ i < j then row j ^^ turns (j - i) else row j
def divN (row : Nat → Bool) : Nat → Nat → Bool
  | 0 => row
  | i + 1 => divS (divN row i) i
/-- The digits, with the first 32 turned, noughts behind. -/
def row0 (l : List Bool) (j : Nat) : Bool := (l.getD j false) ^^ decide (j < 32)
theorem foldB_snoc (l : List Bool) (b : Bool) (s : Nat) : foldB (l ++ [b]) s = bitS (foldB l s ^^^ (if b then 1 else 0)) := by rw [foldB_app]; rfl
theorem ones_bit (j : Nat) : (4294967295 : Nat).testBit j = decide (j < 32) := by
  have : (4294967295 : Nat) = 2 ^ 32 - 1 := rfl
  rw [this, Nat.testBit_two_pow_sub_one]
theorem one_bit (b : Bool) (j : Nat) : (if b then 1 else 0 : Nat).testBit j = (b && decide (j = 0)) := by
  cases b with
  | false => simp
  | true =>
    cases j with
    | zero => rfl
    | succ j => rw [Nat.testBit_succ]; simp
theorem div_inv (l : List Bool) : ∀ i, i ≤ l.length → ∀ j, i ≤ j → divN (row0 l) i j = (l.getD j false ^^ (foldB (l.take i) 4294967295).testBit (j - i))
  | 0, _, j, _ => by
    show row0 l j = _
    unfold row0
    rw [List.take_zero]
    show _ = (l.getD j false ^^ (4294967295 : Nat).testBit (j - 0))
    rw [ones_bit, Nat.sub_zero]
  | i + 1, hi, j, hj => by
    have ih := div_inv l i (by omega)
    have hq := ih i (Nat.le_refl _)
    have hj' := ih j (by omega)
    show divS (divN (row0 l) i) i j = _
    unfold divS
    rw [if_neg (by omega)]
    have htake : l.take (i + 1) = l.take i ++ [l.getD i false] := by
      rw [List.take_add_one, List.getD_eq_getElem?_getD, List.getElem?_eq_getElem (by omega)]
      rfl
    rw [htake, foldB_snoc, bitS_bit]
    have e1 : j - (i + 1) + 1 = j - i := by omega
    rw [e1, Nat.testBit_xor, Nat.testBit_xor, one_bit, one_bit]
    have e2 : decide (j - i = 0) = false := decide_eq_false (by omega)
    rw [e2, Bool.and_false, Bool.xor_false, decide_eq_true (rfl : (0 : Nat) = 0), Bool.and_true]
    rw [Nat.sub_self] at hq
    have e3 : turns (j - i) = poly.testBit (j - (i + 1)) := by
      rw [← turns_poly]; congr 1; omega
    rw [hq, hj', e3]
    have hlt : i < j := by omega
    cases hx : (l.getD i false ^^ (foldB (l.take i) 4294967295).testBit 0) with
    | true =>
      rw [if_pos ⟨rfl, hlt⟩]
      have : ((foldB (l.take i) 4294967295).testBit 0 ^^ l.getD i false) = true := by rw [Bool.xor_comm]; exact hx
      rw [this, Bool.true_and, Bool.xor_assoc]
    | false =>
      rw [if_neg (fun h => by cases h.1)]
      have : ((foldB (l.take i) 4294967295).testBit 0 ^^ l.getD i false) = false := by rw [Bool.xor_comm]; exact hx
      rw [this, Bool.false_and, Bool.xor_false]
/-- What the division leaves is the register. -/
theorem div_rest (l : List UInt8) (i : Nat) : divN (row0 (allDigs l)) (8 * l.length) (8 * l.length + i) = (regS l 4294967295).testBit i := by
  have h := div_inv (allDigs l) (8 * l.length) (by rw [allDigs_len]; exact Nat.le_refl _) (8 * l.length + i) (by omega)
  rw [h, List.take_of_length_le (by rw [allDigs_len]; exact Nat.le_refl _), ← regS_fold]
  have : (allDigs l).getD (8 * l.length + i) false = false := by
    rw [List.getD_eq_getElem?_getD, List.getElem?_eq_none (by rw [allDigs_len]; omega)]; rfl
  rw [this, Bool.false_xor]
  congr 1; omega
theorem bitS_lt {r : Nat} (h : r < 4294967296) : bitS r < 4294967296 := by
  unfold bitS
  apply Nat.xor_lt_two_pow (n := 32)
  · show r / 2 < 4294967296; omega
  · split
    · decide
    · decide
theorem bits_lt : ∀ (k : Nat) {r : Nat}, r < 4294967296 → bits k r < 4294967296
  | 0, _, h => h
  | k + 1, _, h => bits_lt k (bitS_lt h)
theorem byteS_lt {s : Nat} (c : UInt8) (h : s < 4294967296) : byteS s c.toNat < 4294967296 :=
  bits_lt 8 (Nat.xor_lt_two_pow (n := 32) h (by have := c.toNat_lt; show c.toNat < 4294967296; omega))
theorem regS_lt : ∀ (l : List UInt8) {s : Nat}, s < 4294967296 → regS l s < 4294967296
  | [], _, h => h
  | c :: l, _, h => regS_lt l (byteS_lt c h)
/-- The sum of 32 digits, the highest one first. -/
def sumB (f : Nat → Bool) : Nat → Nat
  | 0 => 0
  | k + 1 => 2 * sumB (fun i => f (i + 1)) k + (if f 0 then 1 else 0)
theorem sumB_eq : ∀ (k x : Nat), x < 2 ^ k → sumB (fun i => x.testBit i) k = x
  | 0, x, h => by simp at h; subst h; rfl
  | k + 1, x, h => by
    show 2 * sumB (fun i => x.testBit (i + 1)) k + (if x.testBit 0 = true then 1 else 0) = x
    have : (fun i => x.testBit (i + 1)) = fun i => (x / 2).testBit i := by funext i; rw [Nat.testBit_succ]
    rw [this, sumB_eq k (x / 2) (by rw [Nat.pow_succ] at h; omega), Nat.testBit_zero]
    rcases Nat.mod_two_eq_zero_or_one x with e | e
    · rw [if_neg (by simp [e])]; omega
    · rw [if_pos (by simp [e])]; omega
/-- The document's sum is the program's. -/
theorem crc_eq (l : List UInt8) : sumB (fun i => !(divN (row0 (allDigs l)) (8 * l.length) (8 * l.length + i))) 32 = crcS l := by
  have h := sumB_eq 32 (crcS l) (by
    unfold crcS
    exact Nat.xor_lt_two_pow (n := 32) (by decide) (regS_lt l (by decide)))
  rw [← h]
  have key : ∀ (k : Nat) (f g : Nat → Bool), (∀ i, i < k → f i = g i) → sumB f k = sumB g k := by
    intro k
    induction k with
    | zero => intro f g _; rfl
    | succ k ih =>
      intro f g hfg
      show 2 * sumB _ k + _ = 2 * sumB _ k + _
      rw [ih (fun i => f (i + 1)) (fun i => g (i + 1)) (fun i hi => hfg (i + 1) (by omega)), hfg 0 (by omega)]
  apply key
  intro i hi
  rw [div_rest]
  unfold crcS
  rw [Nat.testBit_xor, ones_bit, decide_eq_true hi, Bool.true_xor]
end Go.Crc
namespace Go.Proofs.YtmhiblmgadmgcaaDoor
open Go.RowKit Go
set_option linter.unusedVariables false
set_option linter.unusedSimpArgs false
structure Ed where
  a : Int
  b : Int
  k : Int
  x : Nat
  sw : Nat
  sn : Nat
  mw : Nat
  mn : Nat
  p : Int
  deriving DecidableEq
def i64 (n : Int) : Prop := -9223372036854775808 ≤ n ∧ n ≤ 9223372036854775807
def Ed.nums (e : Ed) : Prop := i64 e.a ∧ i64 e.b ∧ i64 e.k ∧ e.x < 18446744073709551616 ∧ e.sw < 18446744073709551616 ∧ e.sn < 18446744073709551616 ∧ e.mw < 18446744073709551616 ∧ e.mn < 18446744073709551616 ∧ i64 e.p
def Ed.ok (e : Ed) : Prop := 1 ≤ e.k ∧ e.k ≤ 5 ∧ 0 ≤ e.a ∧ 0 ≤ e.b ∧ -1 ≤ e.p
instance Ed.decOk (e : Ed) : Decidable e.ok := by unfold Ed.ok; infer_instance
def edWord (k : Int) : List UInt8 := if k = 1 then [119, 119] else if k = 2 then [119, 114] else if k = 3 then [114, 119] else if k = 4 then [112, 119, 114] else [112, 114, 119]
def Ed.words (e : Ed) : List (List UInt8) := [Lib.decDigits e.a.toNat, edWord e.k, Lib.decDigits e.b.toNat, Lib.decDigits e.x, verT e.sw e.sn, verT e.mw e.mn, Lib.itoa e.p]
def Ed.told (e : Ed) : List UInt8 := Lib.join e.words [32]
def Ed.text (e : Ed) : List UInt8 := if e.ok then e.told else []
def Ed.vals (e : Ed) : List Value := [.int .i64 e.a, .int .i64 e.b, .int .i64 e.k, .int .u64 e.x, .int .u64 e.sw, .int .u64 e.sn, .int .u64 e.mw, .int .u64 e.mn, .int .i64 e.p]
theorem Ed.text_ok {e : Ed} (h : e.ok) : e.text = e.told := if_pos h
theorem Ed.told_ne (e : Ed) : e.told ≠ [] := by
  unfold Ed.told Ed.words
  rw [Lib.join_cons]
  intro h
  exact decDigits_ne _ (List.append_eq_nil_iff.1 h).1
theorem Ed.text_nil {e : Ed} : e.text = [] ↔ ¬ e.ok := by
  unfold Ed.text
  split
  · rename_i h; exact ⟨fun g => absurd g e.told_ne, fun g => absurd h g⟩
  · rename_i h; exact ⟨fun _ => h, fun _ => rfl⟩
theorem itoa_len {n : Int} (h : i64 n) : (Lib.itoa n).length ≤ 21 := by
  unfold Lib.itoa
  have h1 := h.1
  have h2 := h.2
  split
  · have := decDigits_le20 n.natAbs (by omega)
    simp; omega
  · have := decDigits_le20 n.toNat (by omega)
    omega
theorem edWord_len (k : Int) : (edWord k).length ≤ 3 := by
  unfold edWord; split <;> (try split) <;> (try split) <;> (try split) <;> simp
theorem verT_len {a b : Nat} (ha : a < 18446744073709551616) (hb : b < 18446744073709551616) : (verT a b).length ≤ 41 := by
  have := decDigits_le20 a ha
  have := decDigits_le20 b hb
  simp [verT]; omega
theorem Ed.told_len {e : Ed} (h : e.nums) : e.told.length ≤ 200 := by
  obtain ⟨h1, h2, h3, h4, h5, h6, h7, h8, h9⟩ := h
  unfold i64 at h1 h2
  have q1 := decDigits_le20 e.a.toNat (by omega)
  have q2 := edWord_len e.k
  have q3 := decDigits_le20 e.b.toNat (by omega)
  have q4 := decDigits_le20 e.x h4
  have q5 := verT_len h5 h6
  have q6 := verT_len h7 h8
  have q7 := itoa_len h9
  unfold Ed.told Ed.words
  rw [Lib.join_cons]
  simp [Lib.joinTail]
  omega
theorem Ed.text_len {e : Ed} (h : e.nums) : e.text.length ≤ 200 := by
  unfold Ed.text
  split
  · exact Ed.told_len h
  · simp
structure Crt where
  k : Int
  o : List Int
  p : Int
  q : Int
  w : List Ed
  deriving DecidableEq
def ints (l : List Int) : List Value := l.map fun n => .int .i64 n
def edVs (l : List Ed) : List Value := l.flatMap Ed.vals
theorem ints_length (l : List Int) : (ints l).length = l.length := by simp [ints]
theorem edVs_length (l : List Ed) : (edVs l).length = l.length * 9 := by
  unfold edVs
  induction l with
  | nil => rfl
  | cons e l ih => rw [List.flatMap_cons, List.length_append, ih]; simp [Ed.vals]; omega
def Crt.nums (c : Crt) : Prop := i64 c.k ∧ i64 c.p ∧ i64 c.q ∧ (∀ n ∈ c.o, i64 n) ∧ ∀ e ∈ c.w, e.nums
def spotK (k : Int) : Bool := k == 2 || k == 3
def Crt.right (c : Crt) : Bool := (decide (1 ≤ c.k) && decide (c.k < 5)) && (c.k == 1 || c.o.isEmpty) && (c.k == 4 || c.w.isEmpty) && (spotK c.k || (c.p == 0 && c.q == 0)) && decide (c.o.length ≤ 65536) && decide (c.w.length ≤ 65536) && decide (0 ≤ c.p) && decide (0 ≤ c.q) &&
  c.o.all (fun n => decide (0 ≤ n)) && c.w.all fun e => decide e.ok
def Ed.pays (e : Ed) : List Nat := [e.a.toNat, e.b.toNat, e.k.toNat, e.x, e.sw, e.sn, e.mw, e.mn, (e.p + 1).toNat]
def Crt.pays (c : Crt) : List Nat := if c.k = 1 then c.o.length :: c.o.map Int.toNat else if c.k = 4 then c.w.length :: c.w.flatMap Ed.pays else [c.p.toNat, c.q.toNat]
def crtWord (k : Int) : List UInt8 := if k = 1 then [115, 101, 114, 105, 97, 108] else if k = 2 then [100, 105, 114, 116, 121] else if k = 3 then [112, 97, 114, 116, 105, 97, 108] else [99, 121, 99, 108, 101]
def edPart (e : Ed) (i : Nat) : List (List UInt8) := if i = 0 then [e.text] else [[59], e.text]
def edParts (l : List Ed) : List (List UInt8) := l.zipIdx.flatMap fun x => edPart x.1 x.2
def Crt.parts (c : Crt) : List (List UInt8) := crtWord c.k :: ((if spotK c.k then [Lib.decDigits c.p.toNat, Lib.decDigits c.q.toNat] else []) ++ c.o.map (fun n => Lib.decDigits n.toNat) ++ edParts c.w)
def Crt.told (c : Crt) : List UInt8 := Lib.join c.parts [32]
def Crt.text (c : Crt) : List UInt8 := if c.right then c.told else []
theorem edParts_nil : edParts [] = [] := rfl
theorem edParts_snoc (l : List Ed) (e : Ed) : edParts (l ++ [e]) = edParts l ++ edPart e l.length := by
  unfold edParts
  rw [List.zipIdx_append]
  simp
theorem edParts_take (l : List Ed) (i : Nat) (h : i < l.length) : edParts (l.take (i + 1)) = edParts (l.take i) ++ edPart l[i] i := by
  rw [List.take_succ_eq_append_getElem h, edParts_snoc, List.length_take, Nat.min_eq_left (by omega)]
theorem join_snoc (l : List (List UInt8)) (x : List UInt8) (h : l ≠ []) : Lib.join (l ++ [x]) [32] = Lib.join l [32] ++ 32 :: x := by
  cases l with
  | nil => exact absurd rfl h
  | cons y r =>
    rw [List.cons_append, Lib.join_cons, Lib.join_cons]
    have : ∀ r : List (List UInt8), Lib.joinTail [32] (r ++ [x]) = Lib.joinTail [32] r ++ 32 :: x := by
      intro r
      simp [Lib.joinTail]
    rw [this, List.append_assoc]
theorem Crt.nil_of {c : Crt} (h : c.right = true) : (c.k = 1 ∨ c.o = []) ∧ (c.k = 4 ∨ c.w = []) ∧ ((c.k = 2 ∨ c.k = 3) ∨ (c.p = 0 ∧ c.q = 0)) ∧ 1 ≤ c.k ∧ c.k < 5 ∧ 0 ≤ c.p ∧ 0 ≤ c.q ∧ (∀ n ∈ c.o, 0 ≤ n) ∧ (∀ e ∈ c.w, e.ok) ∧ c.o.length ≤ 65536 ∧ c.w.length ≤ 65536 := by
  unfold Crt.right spotK at h
  simp only [Bool.and_eq_true, Bool.or_eq_true, decide_eq_true_eq, beq_iff_eq, List.isEmpty_iff, List.all_eq_true] at h
  obtain ⟨⟨⟨⟨⟨⟨⟨⟨⟨⟨h1, h2⟩, h3⟩, h4⟩, h5⟩, h6⟩, h7⟩, h8⟩, h9⟩, h10⟩, h11⟩ := h
  exact ⟨h3, h4, h5, h1, h2, h8, h9, h10, h11, h6, h7⟩
end Go.Proofs.YtmhiblmgadmgcaaDoor
