/- An edge's text, read: plain Lean. Ahead of it: The check of bytes (chapter 2), in plain numbers: the register of the program, turned bit by bit, is what the document's division leaves. Plain lemmas. Edges and certificates: plain Lean. -/
import Derived.Test.YtagnalfkmdjajaaGreatDoorV4
import Derived.Test.YtagnalfkmdjajaaGreatDoorV1
import Derived.Laws.Sem
namespace Go.Crc
def poly : Nat := 0xedb88320
/-- One digit. -/
def bitS (r : Nat) : Nat := (r / 2) ^^^ (if r % 2 = 1 then poly else 0)
def bits (k : Nat) (r : Nat) : Nat := Nat.rec (motive := fun _ => Nat → Nat) (fun r => r) (fun _ ih r => ih (bitS r)) k r
/-- A byte comes: the register's digits turned about are s. -/
def byteS (s c : Nat) : Nat := bits 8 (s ^^^ c)
/-- The register behind bytes. -/
def regS : List UInt8 → Nat → Nat
  | [], s => s
  | c :: l, s => regS l (byteS s c.toNat)
/-- The check. -/
def crcS (l : List UInt8) : Nat := 4294967295 ^^^ regS l 4294967295
theorem bits_succ (k r : Nat) : bits (k + 1) r = bits k (bitS r) := rfl
theorem bits_snoc : ∀ (k r : Nat), bits (k + 1) r = bitS (bits k r)
  | 0, _ => rfl
  | k + 1, r => by rw [bits_succ, bits_snoc k (bitS r), ← bits_succ]
/-! The division. -/
/-- The digits, with the first 32 turned, noughts behind. -/
def row0 (l : List Bool) (j : Nat) : Bool := (l.getD j false) ^^ decide (j < 32)
theorem bitS_lt {r : Nat} (h : r < 4294967296) : bitS r < 4294967296 := by
  unfold bitS
  apply Nat.xor_lt_two_pow (n := 32)
  · show r / 2 < 4294967296; omega
  · split
    · decide
    · decide
theorem bits_lt : ∀ (k : Nat) {r : Nat}, r < 4294967296 → bits k r < 4294967296
  | 0, _, h => h
  | k + 1, _, h => bits_lt k (bitS_lt h)
theorem byteS_lt {s : Nat} (c : UInt8) (h : s < 4294967296) : byteS s c.toNat < 4294967296 :=
  bits_lt 8 (Nat.xor_lt_two_pow (n := 32) h (by have := c.toNat_lt; show c.toNat < 4294967296; omega))
theorem regS_lt : ∀ (l : List UInt8) {s : Nat}, s < 4294967296 → regS l s < 4294967296
  | [], _, h => h
  | c :: l, _, h => regS_lt l (byteS_lt c h)
end Go.Crc
namespace Go.Proofs.YtagnalfkmdjajaaGreatDoor
open Go.RowKit Go
set_option linter.unusedVariables false
set_option linter.unusedSimpArgs false
structure Ed where
  a : Int
  b : Int
  k : Int
  x : Nat
  sw : Nat
  sn : Nat
  mw : Nat
  mn : Nat
  p : Int
  deriving DecidableEq
def i64 (n : Int) : Prop := -9223372036854775808 ≤ n ∧ n ≤ 9223372036854775807
def Ed.nums (e : Ed) : Prop := i64 e.a ∧ i64 e.b ∧ i64 e.k ∧ e.x < 18446744073709551616 ∧ e.sw < 18446744073709551616 ∧ e.sn < 18446744073709551616 ∧ e.mw < 18446744073709551616 ∧ e.mn < 18446744073709551616 ∧ i64 e.p
def Ed.ok (e : Ed) : Prop := 1 ≤ e.k ∧ e.k ≤ 5 ∧ 0 ≤ e.a ∧ 0 ≤ e.b ∧ -1 ≤ e.p
instance Ed.decOk (e : Ed) : Decidable e.ok := by unfold Ed.ok; infer_instance
def edWord (k : Int) : List UInt8 := if k = 1 then [119, 119] else if k = 2 then [119, 114] else if k = 3 then [114, 119] else if k = 4 then [112, 119, 114] else [112, 114, 119]
def Ed.words (e : Ed) : List (List UInt8) := [Lib.decDigits e.a.toNat, edWord e.k, Lib.decDigits e.b.toNat, Lib.decDigits e.x, verT e.sw e.sn, verT e.mw e.mn, Lib.itoa e.p]
def Ed.told (e : Ed) : List UInt8 := Lib.join e.words [32]
def Ed.text (e : Ed) : List UInt8 := if e.ok then e.told else []
def Ed.vals (e : Ed) : List Value := [.int .i64 e.a, .int .i64 e.b, .int .i64 e.k, .int .u64 e.x, .int .u64 e.sw, .int .u64 e.sn, .int .u64 e.mw, .int .u64 e.mn, .int .i64 e.p]
theorem Ed.text_ok {e : Ed} (h : e.ok) : e.text = e.told := if_pos h
theorem Ed.told_ne (e : Ed) : e.told ≠ [] := by
  unfold Ed.told Ed.words
  rw [Lib.join_cons]
  intro h
  exact decDigits_ne _ (List.append_eq_nil_iff.1 h).1
theorem Ed.text_nil {e : Ed} : e.text = [] ↔ ¬ e.ok := by
  unfold Ed.text
  split
  · rename_i h; exact ⟨fun g => absurd g e.told_ne, fun g => absurd h g⟩
  · rename_i h; exact ⟨fun _ => h, fun _ => rfl⟩
theorem itoa_len {n : Int} (h : i64 n) : (Lib.itoa n).length ≤ 21 := by
  unfold Lib.itoa
  have h1 := h.1
  have h2 := h.2
  split
  · have := decDigits_le20 n.natAbs (by omega)
    simp; omega
  · have := decDigits_le20 n.toNat (by omega)
    omega
theorem edWord_len (k : Int) : (edWord k).length ≤ 3 := by
  unfold edWord; split <;> (try split) <;> (try split) <;> (try split) <;> simp
theorem verT_len {a b : Nat} (ha : a < 18446744073709551616) (hb : b < 18446744073709551616) : (verT a b).length ≤ 41 := by
  have := decDigits_le20 a ha
  have := decDigits_le20 b hb
  simp [verT]; omega
theorem Ed.told_len {e : Ed} (h : e.nums) : e.told.length ≤ 200 := by
  obtain ⟨h1, h2, h3, h4, h5, h6, h7, h8, h9⟩ := h
  unfold i64 at h1 h2
  have q1 := decDigits_le20 e.a.toNat (by omega)
  have q2 := edWord_len e.k
  have q3 := decDigits_le20 e.b.toNat (by omega)
  have q4 := decDigits_le20 e.x h4
  have q5 := verT_len h5 h6
  have q6 := verT_len h7 h8
  have q7 := itoa_len h9
  unfold Ed.told Ed.words
  rw [Lib.join_cons]
  simp [Lib.joinTail]
  omega
theorem Ed.text_len {e : Ed} (h : e.nums) : e.text.length ≤ 200 := by
  unfold Ed.text
  split
  · exact Ed.told_len h
  · simp
structure Crt where
  k : Int
  o : List Int
  p : Int
  q : Int
  w : List Ed
  deriving DecidableEq
def ints (l : List Int) : List Value := l.map fun n => .int .i64 n
def edVs (l : List Ed) : List Value := l.flatMap Ed.vals
theorem ints_length (l : List Int) : (ints l).length = l.length := by simp [ints]
theorem edVs_length (l : List Ed) : (edVs l).length = l.length * 9 := by
  unfold edVs
  induction l with
  | nil => rfl
  | cons e l ih => rw [List.flatMap_cons, List.length_append, ih]; simp [Ed.vals]; omega
def Crt.nums (c : Crt) : Prop := i64 c.k ∧ i64 c.p ∧ i64 c.q ∧ (∀ n ∈ c.o, i64 n) ∧ ∀ e ∈ c.w, e.nums
def spotK (k : Int) : Bool := k == 2 || k == 3
def Crt.right (c : Crt) : Bool := (decide (1 ≤ c.k) && decide (c.k < 5)) && (c.k == 1 || c.o.isEmpty) && (c.k == 4 || c.w.isEmpty) && (spotK c.k || (c.p == 0 && c.q == 0)) && decide (c.o.length ≤ 65536) && decide (c.w.length ≤ 65536) && decide (0 ≤ c.p) && decide (0 ≤ c.q) &&
  c.o.all (fun n => decide (0 ≤ n)) && c.w.all fun e => decide e.ok
def Ed.pays (e : Ed) : List Nat := [e.a.toNat, e.b.toNat, e.k.toNat, e.x, e.sw, e.sn, e.mw, e.mn, (e.p + 1).toNat]
def Crt.pays (c : Crt) : List Nat := if c.k = 1 then c.o.length :: c.o.map Int.toNat else if c.k = 4 then c.w.length :: c.w.flatMap Ed.pays else [c.p.toNat, c.q.toNat]
def crtWord (k : Int) : List UInt8 := if k = 1 then [115, 101, 114, 105, 97, 108] else if k = 2 then [100, 105, 114, 116, 121] else if k = 3 then [112, 97, 114, 116, 105, 97, 108] else [99, 121, 99, 108, 101]
def edPart (e : Ed) (i : Nat) : List (List UInt8) := if i = 0 then [e.text] else [[59], e.text]
def edParts (l : List Ed) : List (List UInt8) := l.zipIdx.flatMap fun x => edPart x.1 x.2
def Crt.parts (c : Crt) : List (List UInt8) := crtWord c.k :: ((if spotK c.k then [Lib.decDigits c.p.toNat, Lib.decDigits c.q.toNat] else []) ++ c.o.map (fun n => Lib.decDigits n.toNat) ++ edParts c.w)
def Crt.told (c : Crt) : List UInt8 := Lib.join c.parts [32]
def Crt.text (c : Crt) : List UInt8 := if c.right then c.told else []
theorem edParts_nil : edParts [] = [] := rfl
theorem edParts_snoc (l : List Ed) (e : Ed) : edParts (l ++ [e]) = edParts l ++ edPart e l.length := by
  unfold edParts
  rw [List.zipIdx_append]
  simp
theorem edParts_take (l : List Ed) (i : Nat) (h : i < l.length) : edParts (l.take (i + 1)) = edParts (l.take i) ++ edPart l[i] i := by
  rw [List.take_succ_eq_append_getElem h, edParts_snoc, List.length_take, Nat.min_eq_left (by omega)]
theorem Crt.nil_of {c : Crt} (h : c.right = true) : (c.k = 1 ∨ c.o = []) ∧ (c.k = 4 ∨ c.w = []) ∧ ((c.k = 2 ∨ c.k = 3) ∨ (c.p = 0 ∧ c.q = 0)) ∧ 1 ≤ c.k ∧ c.k < 5 ∧ 0 ≤ c.p ∧ 0 ≤ c.q ∧ (∀ n ∈ c.o, 0 ≤ n) ∧ (∀ e ∈ c.w, e.ok) ∧ c.o.length ≤ 65536 ∧ c.w.length ≤ 65536 := by
  unfold Crt.right spotK at h
  simp only [Bool.and_eq_true, Bool.or_eq_true, decide_eq_true_eq, beq_iff_eq, List.isEmpty_iff, List.all_eq_true] at h
  obtain ⟨⟨⟨⟨⟨⟨⟨⟨⟨⟨h1, h2⟩, h3⟩, h4⟩, h5⟩, h6⟩, h7⟩, h8⟩, h9⟩, h10⟩, h11⟩ := h
  exact ⟨h3, h4, h5, h1, h2, h8, h9, h10, h11, h6, h7⟩
end Go.Proofs.YtagnalfkmdjajaaGreatDoor
namespace Go.Proofs.YtagnalfkmdjajaaGreatDoor
open Go.RowKit Go
set_option linter.unusedVariables false
set_option linter.unusedSimpArgs false
theorem itoa_minus : Lib.itoa (-1) = [45, 49] := by unfold Lib.itoa; simp [Lib.decDigits]
theorem itoa_pos' {n : Int} (h : 0 ≤ n) : Lib.itoa n = Lib.decDigits n.toNat := by unfold Lib.itoa; rw [if_neg (by omega)]
theorem itoa_no {n : Int} (h : -1 ≤ n) {c : UInt8} (hc : isD c = false) (h2 : c ≠ 45) : c ∉ Lib.itoa n := by
  by_cases e : n = -1
  · subst e
    rw [itoa_minus]
    simp only [List.mem_cons, List.not_mem_nil, or_false, not_or]
    exact ⟨h2, fun e => by subst e; exact absurd hc (by decide)⟩
  · rw [itoa_pos' (by omega)]; exact digits_no hc
theorem edWord_no (k : Int) : (32 : UInt8) ∉ edWord k := by unfold edWord; split <;> (try split) <;> (try split) <;> (try split) <;> decide
theorem Ed.cuts {e : Ed} (h : -1 ≤ e.p) : cuts 32 e.told = e.words := by
  refine cuts_of_join (by simp [Ed.words]) fun x hx => ?_
  simp only [Ed.words, List.mem_cons, List.not_mem_nil, or_false] at hx
  rcases hx with rfl | rfl | rfl | rfl | rfl | rfl | rfl
  · exact digits_no (by decide)
  · exact edWord_no _
  · exact digits_no (by decide)
  · exact digits_no (by decide)
  · exact verT_no (by decide) (by decide)
  · exact verT_no (by decide) (by decide)
  · exact itoa_no h (by decide) (by decide)
def edKind (w : List UInt8) : Int := if w = edWord 1 then 1 else if w = edWord 2 then 2 else if w = edWord 3 then 3 else if w = edWord 4 then 4 else if w = edWord 5 then 5 else 0
theorem edKind_word {k : Int} (h1 : 1 ≤ k) (h5 : k ≤ 5) : edKind (edWord k) = k := by
  obtain rfl | rfl | rfl | rfl | rfl : k = 1 ∨ k = 2 ∨ k = 3 ∨ k = 4 ∨ k = 5 := by omega
  all_goals decide
theorem edKind_le (w : List UInt8) : 0 ≤ edKind w ∧ edKind w ≤ 5 := by
  unfold edKind
  split <;> (try split) <;> (try split) <;> (try split) <;> (try split) <;> omega
theorem AtoiIs.itoa {n v : Int} (h : AtoiIs (Lib.itoa n) v) (h0 : -1 ≤ n) (h1 : n ≤ 9223372036854775807) : v = n := by
  by_cases e : n = -1
  · subst e
    rw [itoa_minus] at h
    have g : Lib.atoiAll [45, 49] = .ok (-1) := by rfl
    rcases h.2.2 with q | q
    · rw [g] at q; injection q with q; exact q.symm
    · exact absurd g (q _)
  · rw [itoa_pos' (by omega)] at h
    have := h.digits (by omega)
    omega
theorem itoa_inj' {m n : Int} (hm : -1 ≤ m) (hn : -1 ≤ n) (h : Lib.itoa m = Lib.itoa n) : m = n := by
  have no : ∀ k : Int, 0 ≤ k → Lib.itoa k ≠ [45, 49] := fun k hk e => by
    rw [itoa_pos' hk] at e
    have := decDigits_isD k.toNat 45 (by rw [e]; simp)
    exact absurd this (by decide)
  by_cases e1 : m = -1
  · by_cases e2 : n = -1
    · omega
    · rw [e1, itoa_minus] at h; exact absurd h.symm (no n (by omega))
  · by_cases e2 : n = -1
    · rw [e2, itoa_minus] at h; exact absurd h (no m (by omega))
    · rw [itoa_pos' (by omega), itoa_pos' (by omega)] at h
      have := decDigits_inj h
      omega
theorem Ed.inj {d e : Ed} (hd : d.ok) (he : e.ok) (h : d.told = e.told) : d = e := by
  have g := Ed.cuts hd.2.2.2.2
  rw [h, Ed.cuts he.2.2.2.2] at g
  simp only [Ed.words, List.cons.injEq, and_true] at g
  obtain ⟨g0, g1, g2, g3, g4, g5, g6⟩ := g
  have k0 := decDigits_inj g0
  have k1 : e.k = d.k := by rw [← edKind_word he.1 he.2.1, ← edKind_word hd.1 hd.2.1, g1]
  have k2 := decDigits_inj g2
  have k3 := decDigits_inj g3
  obtain ⟨k4, k5⟩ := verT_inj g4
  obtain ⟨k6, k7⟩ := verT_inj g5
  have k8 := itoa_inj' he.2.2.2.2 hd.2.2.2.2 g6
  obtain ⟨a1, a2, a3, a4, a5, a6, a7, a8, a9⟩ := d
  obtain ⟨b1, b2, b3, b4, b5, b6, b7, b8, b9⟩ := e
  obtain ⟨_, _, h1, h2, _⟩ := hd
  obtain ⟨_, _, h3, h4, _⟩ := he
  simp only at k0 k1 k2 k3 k4 k5 k6 k7 k8 h1 h2 h3 h4
  have : a1 = b1 := by omega
  have : a2 = b2 := by omega
  subst_vars
  rfl
open Classical in
/-- The edge of a text. -/
noncomputable def edRead (s : List UInt8) : Option Ed := if h : ∃ e : Ed, e.ok ∧ e.nums ∧ e.told = s then some h.choose else none
theorem edRead_some {s : List UInt8} {e : Ed} : edRead s = some e ↔ e.ok ∧ e.nums ∧ e.told = s := by
  unfold edRead
  constructor
  · intro h
    split at h
    · rename_i hx; injection h with h; subst h; exact hx.choose_spec
    · cases h
  · intro h
    have hx : ∃ e : Ed, e.ok ∧ e.nums ∧ e.told = s := ⟨e, h⟩
    rw [dif_pos hx]
    have := hx.choose_spec
    exact congrArg some (Ed.inj this.1 h.1 (this.2.2.trans h.2.2.symm))
theorem edRead_none {s : List UInt8} (h : ∀ e : Ed, e.ok → e.nums → e.told ≠ s) : edRead s = none := by
  cases e : edRead s with
  | none => rfl
  | some p => obtain ⟨h1, h2, h3⟩ := edRead_some.1 e; exact absurd h3 (h p h1 h2)
/-- A candidate that is the edge, if one is told so: it is told as the text, or the text is none's. -/
theorem edRead_via {s : List UInt8} {c : Ed} (hs : s ≠ []) (hn : c.nums) (h : ∀ q : Ed, q.ok → q.nums → q.told = s → c = q) : edRead s = if c.text = s then some c else none := by
  by_cases ht : c.text = s
  · rw [if_pos ht]
    unfold Ed.text at ht
    split at ht
    · rename_i ho; exact edRead_some.2 ⟨ho, hn, ht⟩
    · exact absurd ht.symm hs
  · rw [if_neg ht]
    refine edRead_none fun q h1 h2 h3 => ht ?_
    rw [h q h1 h2 h3, Ed.text_ok h1]; exact h3
/-- No seven words: no edge's. -/
theorem edRead_words {s : List UInt8} (h : (cuts 32 s).length ≠ 7) : edRead s = none := by
  refine edRead_none fun q hq hqn he => ?_
  subst he
  rw [Ed.cuts hq.2.2.2.2] at h
  simp [Ed.words] at h
theorem cuts7_ne {s l0 l1 l2 l3 l4 l5 l6 : List UInt8} (hc : cuts 32 s = [l0, l1, l2, l3, l4, l5, l6]) : s ≠ [] := fun e => by rw [e] at hc; simp [Go.Proofs.YtagnalfkmdjajaaGreatDoor.cuts] at hc
/-- The program's reading: the candidate out of the words. -/
theorem edRead_cand {s l0 l1 l2 l3 l4 l5 l6 : List UInt8} {c : Ed} (hc : cuts 32 s = [l0, l1, l2, l3, l4, l5, l6]) (h0 : AtoiIs l0 c.a) (h1 : edKind l1 = c.k) (h2 : AtoiIs l2 c.b) (h3 : PuIs l3 c.x)
    (h4 : PuIs (Lib.cut l4 [46]).1 c.sw) (h5 : PuIs (Lib.cut l4 [46]).2.1 c.sn) (h6 : PuIs (Lib.cut l5 [46]).1 c.mw) (h7 : PuIs (Lib.cut l5 [46]).2.1 c.mn) (h8 : AtoiIs l6 c.p) : c.nums ∧ edRead s = if c.text = s then some c else none := by
  have hk := edKind_le l1
  have hn : c.nums := ⟨⟨h0.1, h0.2.1⟩, ⟨h2.1, h2.2.1⟩, by rw [← h1]; unfold i64; omega, h3.1, h4.1, h5.1, h6.1, h7.1, ⟨h8.1, h8.2.1⟩⟩
  refine ⟨hn, edRead_via (cuts7_ne hc) hn fun q hq hqn he => ?_⟩
  have e := Ed.cuts hq.2.2.2.2
  rw [he, hc] at e
  simp only [Ed.words, List.cons.injEq, and_true] at e
  obtain ⟨rfl, rfl, rfl, rfl, rfl, rfl, rfl⟩ := e
  rw [edKind_word hq.1 hq.2.1] at h1
  rw [cut_verT] at h4 h5 h6 h7
  obtain ⟨b0, b1, b2, b3, b4, b5, b6, b7, b8⟩ := hqn
  obtain ⟨_, _, o1, o2, o3⟩ := hq
  unfold i64 at b0 b1 b8
  have g0 := h0.digits (by omega)
  have g2 := h2.digits (by omega)
  have g3 := h3.digits b3
  have g4 := h4.digits b4
  have g5 := h5.digits b5
  have g6 := h6.digits b6
  have g7 := h7.digits b7
  have g8 := h8.itoa o3 b8.2
  obtain ⟨a1, a2, a3, a4, a5, a6, a7, a8, a9⟩ := c
  obtain ⟨b1, b2, b3, b4, b5, b6, b7, b8, b9⟩ := q
  simp only at h1 g0 g2 g3 g4 g5 g6 g7 g8 o1 o2
  simp only [Ed.mk.injEq]
  omega
end Go.Proofs.YtagnalfkmdjajaaGreatDoor
