/- Phenomena as texts: plain Lean. Ahead of it: Numbers in a text: plain Lean. A text cut at a byte, and words joined by one: plain Lean. Numbers and versions in texts: plain Lean. (Parts of Ex10, Ex22 to Ex25, for seats without chapter 4's readers.) -/
import Derived.Test.YtmhiblmgadmgcaaDoorULib
import Derived.Lib.ParseIntB
import Derived.Lib.ItoaNum
import Derived.Lib.SlTrimSet
import Derived.Lib.Split
import Derived.Lib.Join
import Derived.Lib.CutLaws
import Derived.Lib.SplitLaws
import Derived.Lib.ParseIntBCases
import Derived.Lib.AtoiAll
namespace Go.Proofs.YtmhiblmgadmgcaaDoor
open Go.RowKit Go
set_option linter.unusedVariables false
set_option linter.unusedSimpArgs false
def isD (c : UInt8) : Bool := decide (48 ≤ c.toNat) && decide (c.toNat ≤ 57)
def numF (acc : Nat) (l : List UInt8) : Nat := l.foldl (fun n c => n * 10 + (c.toNat - 48)) acc
def numOf (l : List UInt8) : Nat := numF 0 l
theorem numF_nil (acc : Nat) : numF acc [] = acc := by simp only [numF, List.foldl_nil]
theorem numF_cons (acc : Nat) (c : UInt8) (r : List UInt8) : numF acc (c :: r) = numF (acc * 10 + (c.toNat - 48)) r := by simp only [numF, List.foldl_cons]
theorem numF_append (a b : List UInt8) (acc : Nat) : numF acc (a ++ b) = numF (numF acc a) b := by
  induction a generalizing acc with
  | nil => rw [numF_nil, List.nil_append]
  | cons c a ih => rw [List.cons_append, numF_cons, numF_cons, ih]
theorem numOf_snoc (a : List UInt8) (c : UInt8) : numOf (a ++ [c]) = numOf a * 10 + (c.toNat - 48) := by
  unfold numOf; rw [numF_append, numF_cons, numF_nil]
theorem decDigits_isD (n : Nat) : ∀ c ∈ Lib.decDigits n, isD c = true := by
  induction n using Nat.strongRecOn with
  | _ n ih =>
    intro c hc
    rw [Lib.decDigits] at hc
    split at hc
    · simp only [List.mem_singleton] at hc; subst hc
      simp [isD, UInt8.toNat_ofNat']; omega
    · simp only [List.mem_append, List.mem_singleton] at hc
      rcases hc with hc | hc
      · exact ih (n / 10) (by omega) c hc
      · subst hc; simp [isD, UInt8.toNat_ofNat']; omega
theorem numOf_decDigits (n : Nat) : numOf (Lib.decDigits n) = n := by
  induction n using Nat.strongRecOn with
  | _ n ih =>
    rw [Lib.decDigits]
    split
    · unfold numOf; rw [numF_cons, numF_nil]; simp [UInt8.toNat_ofNat']; omega
    · rw [numOf_snoc, ih (n / 10) (by omega)]; simp [UInt8.toNat_ofNat']; omega
theorem decDigits_ne (n : Nat) : Lib.decDigits n ≠ [] := by
  rw [Lib.decDigits]; split <;> simp
theorem decDigits_inj {a b : Nat} (h : Lib.decDigits a = Lib.decDigits b) : a = b := by rw [← numOf_decDigits a, h, numOf_decDigits]
/-! ParseUint's answer at a row of digits -/
end Go.Proofs.YtmhiblmgadmgcaaDoor
namespace Go.Proofs.YtmhiblmgadmgcaaDoor
open Go.RowKit Go
set_option linter.unusedVariables false
set_option linter.unusedSimpArgs false
def cuts (c : UInt8) : List UInt8 → List (List UInt8)
  | [] => [[]]
  | b :: l => if b = c then [] :: cuts c l else match cuts c l with
    | [] => [[b]]
    | x :: r => (b :: x) :: r
theorem cuts_ne (c : UInt8) (l : List UInt8) : cuts c l ≠ [] := by
  cases l with
  | nil => simp [cuts]
  | cons b l =>
    simp only [cuts]
    split
    · simp
    · split <;> simp
theorem cuts_other {c b : UInt8} {l x : List UInt8} {r : List (List UInt8)} (hb : b ≠ c) (h : cuts c l = x :: r) : cuts c (b :: l) = (b :: x) :: r := by
  simp only [cuts]
  rw [if_neg hb, h]
theorem cuts_here (c : UInt8) (l : List UInt8) : cuts c (c :: l) = [] :: cuts c l := by
  simp only [cuts, if_true]
theorem cuts_none {c : UInt8} {l : List UInt8} (h : c ∉ l) : cuts c l = [l] := by
  induction l with
  | nil => rfl
  | cons b l ih =>
    simp only [List.mem_cons, not_or] at h
    exact cuts_other (fun e => h.1 e.symm) (ih h.2)
theorem cuts_at {c : UInt8} {x : List UInt8} (l : List UInt8) (h : c ∉ x) : cuts c (x ++ c :: l) = x :: cuts c l := by
  induction x with
  | nil => exact cuts_here c l
  | cons b x ih =>
    simp only [List.mem_cons, not_or] at h
    exact cuts_other (fun e => h.1 e.symm) (ih h.2)
theorem cuts_join (c : UInt8) (l : List UInt8) : Lib.join (cuts c l) [c] = l := by
  induction l with
  | nil => simp [cuts, Lib.join_one]
  | cons b l ih =>
    by_cases hb : b = c
    · subst hb
      rw [cuts_here]
      cases hq : cuts b l with
      | nil => exact absurd hq (cuts_ne _ _)
      | cons x r =>
        rw [hq] at ih
        rw [Lib.join_cons] at ih ⊢
        simp only [Lib.joinTail, List.nil_append, List.singleton_append, List.append_assoc] at ih ⊢
        simp [Lib.joinTail, ih]
    · cases hq : cuts c l with
      | nil => exact absurd hq (cuts_ne _ _)
      | cons x r =>
        rw [cuts_other hb hq]
        rw [hq] at ih
        rw [Lib.join_cons] at ih ⊢
        simp only [List.cons_append]
        rw [ih]
theorem cuts_of_join {c : UInt8} : ∀ {ws : List (List UInt8)}, ws ≠ [] → (∀ x ∈ ws, c ∉ x) → cuts c (Lib.join ws [c]) = ws
  | [], h, _ => absurd rfl h
  | [x], _, h => by rw [Lib.join_one]; exact cuts_none (h x (by simp))
  | x :: y :: ws, _, h => by
    have ih := cuts_of_join (c := c) (ws := y :: ws) (by simp) (fun z hz => h z (by simp only [List.mem_cons] at hz ⊢; exact .inr hz))
    rw [Lib.join_cons] at ih ⊢
    rw [show Lib.joinTail [c] (y :: ws) = c :: (y ++ Lib.joinTail [c] ws) from by simp [Lib.joinTail], cuts_at _ (h x (by simp)), ih]
theorem index_one (c : UInt8) (l : List UInt8) : Lib.index l [c] = if c ∈ l then ((l.takeWhile (fun b => decide (b ≠ c))).length : Int) else -1 := by
  induction l with
  | nil => simp [Lib.index]
  | cons b l ih =>
    unfold Lib.index
    by_cases hb : b = c
    · subst hb; simp
    · have h1 : ([c].isPrefixOf (b :: l)) = false := by simp [List.isPrefixOf]; exact fun e => hb e.symm
      rw [h1, ih]
      by_cases hm : c ∈ l
      · have e1 : (((l.takeWhile (fun b => decide (b ≠ c))).length : Int) == -1) = false := beq_eq_false_iff_ne.2 (by omega)
        have e2 : c ∈ b :: l := List.mem_cons_of_mem _ hm
        have e3 : (b :: l).takeWhile (fun b => decide (b ≠ c)) = b :: l.takeWhile (fun b => decide (b ≠ c)) := List.takeWhile_cons_of_pos (by simp [hb])
        simp only [hm, e2, if_true, Bool.false_eq_true, if_false, e1, e3, List.length_cons]
        omega
      · have e2 : ¬ c ∈ b :: l := fun h => by
          rcases List.mem_cons.1 h with h | h
          · exact hb h.symm
          · exact hm h
        simp only [hm, e2, if_false, Bool.false_eq_true]
        rfl
theorem takeWhile_split {c : UInt8} {l : List UInt8} (h : c ∈ l) : ∃ x r, l = x ++ c :: r ∧ c ∉ x ∧ Lib.index l [c] = x.length := by
  obtain ⟨x, r, h1, h2⟩ := List.eq_append_cons_of_mem h
  refine ⟨x, r, h1, h2, ?_⟩
  rw [index_one, if_pos h]
  subst h1
  rw [List.takeWhile_append_of_pos (by intro a ha; simp; intro e; subst e; exact h2 ha), List.takeWhile_cons_of_neg (by simp)]
  simp
end Go.Proofs.YtmhiblmgadmgcaaDoor
namespace Go.Proofs.YtmhiblmgadmgcaaDoor
open Go.RowKit Go
set_option linter.unusedVariables false
set_option linter.unusedSimpArgs false
theorem decDigits_le20 (n : Nat) (h : n < 18446744073709551616) : (Lib.decDigits n).length ≤ 20 := by
  rw [Lib.decDigits_length]
  rcases Nat.eq_zero_or_pos n with rfl | h0
  · rw [Lib.nDigits_small (by omega)]; omega
  · have := Lib.numDigits_eq n h0 h; split at this <;> omega
def verT (w n : Nat) : List UInt8 := Lib.decDigits w ++ 46 :: Lib.decDigits n
theorem digits_no {n : Nat} {c : UInt8} (hc : isD c = false) : c ∉ Lib.decDigits n := fun h => by
  have := decDigits_isD n c h
  rw [hc] at this; cases this
theorem verT_no {w n : Nat} {c : UInt8} (hc : isD c = false) (h2 : c ≠ 46) : c ∉ verT w n := by
  unfold verT
  simp only [List.mem_append, List.mem_cons, not_or]
  exact ⟨digits_no hc, h2, digits_no hc⟩
def valW (s : List UInt8) : Nat := s.foldl (fun n c => (n * 10 + (c.toNat + 208) % 256) % 18446744073709551616) 0
theorem cut_some {c : UInt8} {l : List UInt8} (h : c ∈ l) : ∃ x r, Lib.cut l [c] = (x, r, true) ∧ l = x ++ c :: r ∧ c ∉ x := by
  obtain ⟨x, r, h1, h2, h3⟩ := takeWhile_split h
  refine ⟨x, r, ?_, h1, h2⟩
  unfold Lib.cut
  rw [h3, if_pos (by omega)]
  subst h1
  simp only [Int.toNat_natCast, List.length_singleton]
  rw [List.take_left, show x.length + 1 = (x ++ [c]).length from by simp, show x ++ c :: r = (x ++ [c]) ++ r from by simp, List.drop_left]
end Go.Proofs.YtmhiblmgadmgcaaDoor
namespace Go.Proofs.YtmhiblmgadmgcaaDoor
open Go.RowKit Go
set_option linter.unusedVariables false
set_option linter.unusedSimpArgs false
theorem cut_verT (w n : Nat) : Lib.cut (verT w n) [46] = (Lib.decDigits w, Lib.decDigits n, true) := by
  have hm : (46 : UInt8) ∈ verT w n := by simp [verT]
  obtain ⟨x, r, h1, h2, h3⟩ := cut_some hm
  have e1 : cuts 46 (verT w n) = [Lib.decDigits w, Lib.decDigits n] := by
    unfold verT
    rw [cuts_at _ (digits_no (by decide)), cuts_none (digits_no (by decide))]
  rw [h2, cuts_at _ h3] at e1
  simp only [List.cons.injEq] at e1
  obtain ⟨rfl, e1⟩ := e1
  have e2 := cuts_join 46 r
  rw [e1, Lib.join_one] at e2
  rw [h1, ← e2]
theorem verT_inj {a b c d : Nat} (h : verT a b = verT c d) : a = c ∧ b = d := by
  have h1 := cut_verT a b
  rw [h, cut_verT] at h1
  simp only [Prod.mk.injEq, and_true] at h1
  exact ⟨decDigits_inj h1.1.symm, decDigits_inj h1.2.symm⟩
structure Ph where
  k : Int
  pos : Int
  place : Int
  t : Nat
  x : Nat
  w : Nat
  n : Nat
def phWord (k : Int) : List UInt8 := if k = 1 then [97, 98, 111, 114, 116, 101, 100] else [105, 110, 116, 101, 114, 109, 101, 100, 105, 97, 116, 101]
def Ph.ok (p : Ph) : Prop := (p.k = 1 ∨ p.k = 2) ∧ 0 ≤ p.pos ∧ 0 ≤ p.place
instance (p : Ph) : Decidable p.ok := by unfold Ph.ok; infer_instance
def Ph.nums (p : Ph) : Prop := (-9223372036854775808 ≤ p.k ∧ p.k ≤ 9223372036854775807) ∧ (-9223372036854775808 ≤ p.pos ∧ p.pos ≤ 9223372036854775807) ∧ (-9223372036854775808 ≤ p.place ∧ p.place ≤ 9223372036854775807) ∧
  p.t < 18446744073709551616 ∧ p.x < 18446744073709551616 ∧ p.w < 18446744073709551616 ∧ p.n < 18446744073709551616
def Ph.words (p : Ph) : List (List UInt8) := [phWord p.k, Lib.decDigits p.pos.toNat, Lib.decDigits p.place.toNat, Lib.decDigits p.t, Lib.decDigits p.x, verT p.w p.n]
def Ph.told (p : Ph) : List UInt8 := Lib.join p.words [32]
def Ph.text (p : Ph) : List UInt8 := if p.ok then p.told else []
theorem phWord_no (k : Int) : (32 : UInt8) ∉ phWord k := by unfold phWord; split <;> decide
theorem Ph.cuts (p : Ph) : cuts 32 p.told = p.words := by
  refine cuts_of_join (by simp [Ph.words]) fun x hx => ?_
  simp only [Ph.words, List.mem_cons, List.not_mem_nil, or_false] at hx
  rcases hx with rfl | rfl | rfl | rfl | rfl | rfl
  · exact phWord_no _
  · exact digits_no (by decide)
  · exact digits_no (by decide)
  · exact digits_no (by decide)
  · exact digits_no (by decide)
  · exact verT_no (by decide) (by decide)
theorem phWord_inj {j k : Int} (hj : j = 1 ∨ j = 2) (hk : k = 1 ∨ k = 2) (h : phWord j = phWord k) : j = k := by
  rcases hj with rfl | rfl <;> rcases hk with rfl | rfl <;> first | rfl | (exact absurd h (by decide))
theorem Ph.told_ne (p : Ph) : p.told ≠ [] := fun h => by
  have := p.cuts
  rw [h] at this
  simp [Go.Proofs.YtmhiblmgadmgcaaDoor.cuts, Ph.words] at this
theorem Ph.inj {p q : Ph} (hp : p.ok) (hq : q.ok) (h : p.told = q.told) : p = q := by
  have e := p.cuts
  rw [h, q.cuts] at e
  simp only [Ph.words, List.cons.injEq, and_true] at e
  obtain ⟨e0, e1, e2, e3, e4, e5⟩ := e
  have k0 := phWord_inj hq.1 hp.1 e0
  have k1 := decDigits_inj e1
  have k2 := decDigits_inj e2
  have k3 := decDigits_inj e3
  have k4 := decDigits_inj e4
  obtain ⟨k5, k6⟩ := verT_inj e5
  obtain ⟨a1, a2, a3, a4, a5, a6, a7⟩ := p
  obtain ⟨b1, b2, b3, b4, b5, b6, b7⟩ := q
  have h1 := hp.2; have h2 := hq.2
  simp only at k0 k1 k2 k3 k4 k5 k6 h1 h2
  have : a2 = b2 := by omega
  have : a3 = b3 := by omega
  subst_vars
  rfl
theorem wrap_small (n : Nat) (h : n < 9223372036854775808) : IntKind.i64.wrap (n : Int) = n := by
  simp only [IntKind.wrap, IntKind.signed, IntKind.bits]
  simp
  omega
theorem wrap_i64 (n : Int) : -9223372036854775808 ≤ IntKind.i64.wrap n ∧ IntKind.i64.wrap n ≤ 9223372036854775807 := by
  simp only [IntKind.wrap, IntKind.signed, IntKind.bits]
  simp
  omega
end Go.Proofs.YtmhiblmgadmgcaaDoor
