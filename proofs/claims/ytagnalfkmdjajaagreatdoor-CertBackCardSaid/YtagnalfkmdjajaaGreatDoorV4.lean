/- Phenomena as texts: plain Lean. Ahead of it: Numbers in a text: plain Lean. A text cut at a byte, and words joined by one: plain Lean. Numbers and versions in texts: plain Lean. (Parts of Ex10, Ex22 to Ex25, for seats without chapter 4's readers.) -/
import Derived.Test.YtagnalfkmdjajaaGreatDoorVLib
import Derived.Lib.ParseIntB
import Derived.Lib.ItoaNum
import Derived.Lib.SlTrimSet
import Derived.Lib.Split
import Derived.Lib.Join
import Derived.Lib.CutLaws
import Derived.Lib.SplitLaws
import Derived.Lib.ParseIntBCases
import Derived.Lib.AtoiAll
namespace Go.Proofs.YtagnalfkmdjajaaGreatDoor
open Go.RowKit Go
set_option linter.unusedVariables false
set_option linter.unusedSimpArgs false
def isD (c : UInt8) : Bool := decide (48 ≤ c.toNat) && decide (c.toNat ≤ 57)
def numF (acc : Nat) (l : List UInt8) : Nat := l.foldl (fun n c => n * 10 + (c.toNat - 48)) acc
def numOf (l : List UInt8) : Nat := numF 0 l
theorem numF_nil (acc : Nat) : numF acc [] = acc := by simp only [numF, List.foldl_nil]
theorem numF_cons (acc : Nat) (c : UInt8) (r : List UInt8) : numF acc (c :: r) = numF (acc * 10 + (c.toNat - 48)) r := by simp only [numF, List.foldl_cons]
theorem numF_append (a b : List UInt8) (acc : Nat) : numF acc (a ++ b) = numF (numF acc a) b := by
  induction a generalizing acc with
  | nil => rw [numF_nil, List.nil_append]
  | cons c a ih => rw [List.cons_append, numF_cons, numF_cons, ih]
theorem numOf_snoc (a : List UInt8) (c : UInt8) : numOf (a ++ [c]) = numOf a * 10 + (c.toNat - 48) := by
  unfold numOf; rw [numF_append, numF_cons, numF_nil]
theorem numF_ge (l : List UInt8) : ∀ acc, acc ≤ numF acc l := by
  induction l with
  | nil => intro acc; rw [numF_nil]; exact Nat.le_refl _
  | cons c l ih => intro acc; rw [numF_cons]; have := ih (acc * 10 + (c.toNat - 48)); omega
theorem decDigits_isD (n : Nat) : ∀ c ∈ Lib.decDigits n, isD c = true := by
  induction n using Nat.strongRecOn with
  | _ n ih =>
    intro c hc
    rw [Lib.decDigits] at hc
    split at hc
    · simp only [List.mem_singleton] at hc; subst hc
      simp [isD, UInt8.toNat_ofNat']; omega
    · simp only [List.mem_append, List.mem_singleton] at hc
      rcases hc with hc | hc
      · exact ih (n / 10) (by omega) c hc
      · subst hc; simp [isD, UInt8.toNat_ofNat']; omega
theorem numOf_decDigits (n : Nat) : numOf (Lib.decDigits n) = n := by
  induction n using Nat.strongRecOn with
  | _ n ih =>
    rw [Lib.decDigits]
    split
    · unfold numOf; rw [numF_cons, numF_nil]; simp [UInt8.toNat_ofNat']; omega
    · rw [numOf_snoc, ih (n / 10) (by omega)]; simp [UInt8.toNat_ofNat']; omega
theorem decDigits_ne (n : Nat) : Lib.decDigits n ≠ [] := by
  rw [Lib.decDigits]; split <;> simp
theorem decDigits_inj {a b : Nat} (h : Lib.decDigits a = Lib.decDigits b) : a = b := by rw [← numOf_decDigits a, h, numOf_decDigits]
/-! ParseUint's answer at a row of digits -/
theorem parseUintM_digits (l : List UInt8) (hl : ∀ c ∈ l, isD c = true) : ∀ acc, acc < 18446744073709551616 → Lib.parseUintM 18446744073709551615 acc l = if numF acc l < 18446744073709551616 then .ok (numF acc l) else .range := by
  induction l with
  | nil => intro acc h; rw [Lib.parseUintM, numF_nil, if_pos h]
  | cons c l ih =>
    intro acc h
    have hc := hl c (by simp)
    simp only [isD, Bool.and_eq_true, decide_eq_true_eq] at hc
    have hg := numF_ge l (acc * 10 + (c.toNat - 48))
    rw [Lib.parseUintM, numF_cons, if_pos hc]
    by_cases h1 : 1844674407370955162 ≤ acc
    · rw [if_pos h1, if_neg (by omega)]
    · rw [if_neg h1]
      by_cases h2 : 18446744073709551615 < acc * 10 + (c.toNat - 48)
      · rw [if_pos h2, if_neg (by omega)]
      · rw [if_neg h2]
        exact ih (fun d hd => hl d (by simp [hd])) _ (by omega)
theorem parseUint_digits (l : List UInt8) (hl : ∀ c ∈ l, isD c = true) : Lib.parseUintB 64 l = if l = [] then Lib.parseUintB 64 [] else if numOf l < 18446744073709551616 then .ok (numOf l) else .range := by
  by_cases hl0 : l = []
  · rw [if_pos hl0, hl0]
  · rw [if_neg hl0]
    unfold Lib.parseUintB
    rw [if_neg hl0]
    exact parseUintM_digits l hl 0 (by omega)
end Go.Proofs.YtagnalfkmdjajaaGreatDoor
namespace Go.Proofs.YtagnalfkmdjajaaGreatDoor
open Go.RowKit Go
set_option linter.unusedVariables false
set_option linter.unusedSimpArgs false
def cuts (c : UInt8) : List UInt8 → List (List UInt8)
  | [] => [[]]
  | b :: l => if b = c then [] :: cuts c l else match cuts c l with
    | [] => [[b]]
    | x :: r => (b :: x) :: r
theorem cuts_ne (c : UInt8) (l : List UInt8) : cuts c l ≠ [] := by
  cases l with
  | nil => simp [cuts]
  | cons b l =>
    simp only [cuts]
    split
    · simp
    · split <;> simp
theorem cuts_other {c b : UInt8} {l x : List UInt8} {r : List (List UInt8)} (hb : b ≠ c) (h : cuts c l = x :: r) : cuts c (b :: l) = (b :: x) :: r := by
  simp only [cuts]
  rw [if_neg hb, h]
theorem cuts_here (c : UInt8) (l : List UInt8) : cuts c (c :: l) = [] :: cuts c l := by
  simp only [cuts, if_true]
theorem cuts_none {c : UInt8} {l : List UInt8} (h : c ∉ l) : cuts c l = [l] := by
  induction l with
  | nil => rfl
  | cons b l ih =>
    simp only [List.mem_cons, not_or] at h
    exact cuts_other (fun e => h.1 e.symm) (ih h.2)
theorem cuts_at {c : UInt8} {x : List UInt8} (l : List UInt8) (h : c ∉ x) : cuts c (x ++ c :: l) = x :: cuts c l := by
  induction x with
  | nil => exact cuts_here c l
  | cons b x ih =>
    simp only [List.mem_cons, not_or] at h
    exact cuts_other (fun e => h.1 e.symm) (ih h.2)
theorem cuts_join (c : UInt8) (l : List UInt8) : Lib.join (cuts c l) [c] = l := by
  induction l with
  | nil => simp [cuts, Lib.join_one]
  | cons b l ih =>
    by_cases hb : b = c
    · subst hb
      rw [cuts_here]
      cases hq : cuts b l with
      | nil => exact absurd hq (cuts_ne _ _)
      | cons x r =>
        rw [hq] at ih
        rw [Lib.join_cons] at ih ⊢
        simp only [Lib.joinTail, List.nil_append, List.singleton_append, List.append_assoc] at ih ⊢
        simp [Lib.joinTail, ih]
    · cases hq : cuts c l with
      | nil => exact absurd hq (cuts_ne _ _)
      | cons x r =>
        rw [cuts_other hb hq]
        rw [hq] at ih
        rw [Lib.join_cons] at ih ⊢
        simp only [List.cons_append]
        rw [ih]
theorem cuts_of_join {c : UInt8} : ∀ {ws : List (List UInt8)}, ws ≠ [] → (∀ x ∈ ws, c ∉ x) → cuts c (Lib.join ws [c]) = ws
  | [], h, _ => absurd rfl h
  | [x], _, h => by rw [Lib.join_one]; exact cuts_none (h x (by simp))
  | x :: y :: ws, _, h => by
    have ih := cuts_of_join (c := c) (ws := y :: ws) (by simp) (fun z hz => h z (by simp only [List.mem_cons] at hz ⊢; exact .inr hz))
    rw [Lib.join_cons] at ih ⊢
    rw [show Lib.joinTail [c] (y :: ws) = c :: (y ++ Lib.joinTail [c] ws) from by simp [Lib.joinTail], cuts_at _ (h x (by simp)), ih]
theorem index_one (c : UInt8) (l : List UInt8) : Lib.index l [c] = if c ∈ l then ((l.takeWhile (fun b => decide (b ≠ c))).length : Int) else -1 := by
  induction l with
  | nil => simp [Lib.index]
  | cons b l ih =>
    unfold Lib.index
    by_cases hb : b = c
    · subst hb; simp
    · have h1 : ([c].isPrefixOf (b :: l)) = false := by simp [List.isPrefixOf]; exact fun e => hb e.symm
      rw [h1, ih]
      by_cases hm : c ∈ l
      · have e1 : (((l.takeWhile (fun b => decide (b ≠ c))).length : Int) == -1) = false := beq_eq_false_iff_ne.2 (by omega)
        have e2 : c ∈ b :: l := List.mem_cons_of_mem _ hm
        have e3 : (b :: l).takeWhile (fun b => decide (b ≠ c)) = b :: l.takeWhile (fun b => decide (b ≠ c)) := List.takeWhile_cons_of_pos (by simp [hb])
        simp only [hm, e2, if_true, Bool.false_eq_true, if_false, e1, e3, List.length_cons]
        omega
      · have e2 : ¬ c ∈ b :: l := fun h => by
          rcases List.mem_cons.1 h with h | h
          · exact hb h.symm
          · exact hm h
        simp only [hm, e2, if_false, Bool.false_eq_true]
        rfl
theorem takeWhile_split {c : UInt8} {l : List UInt8} (h : c ∈ l) : ∃ x r, l = x ++ c :: r ∧ c ∉ x ∧ Lib.index l [c] = x.length := by
  obtain ⟨x, r, h1, h2⟩ := List.eq_append_cons_of_mem h
  refine ⟨x, r, h1, h2, ?_⟩
  rw [index_one, if_pos h]
  subst h1
  rw [List.takeWhile_append_of_pos (by intro a ha; simp; intro e; subst e; exact h2 ha), List.takeWhile_cons_of_neg (by simp)]
  simp
theorem splitK_cuts (c : UInt8) : ∀ (k : Nat) (l : List UInt8), l.count c ≤ k → Lib.splitK [c] 0 k l = cuts c l
  | 0, l, h => by
    have hn : c ∉ l := fun hm => by have := List.count_pos_iff.2 hm; omega
    rw [cuts_none hn]; rfl
  | k + 1, l, h => by
    unfold Lib.splitK
    by_cases hm : c ∈ l
    · obtain ⟨x, r, h1, h2, h3⟩ := takeWhile_split hm
      rw [h3, if_neg (by simp <;> omega)]
      subst h1
      rw [cuts_at _ h2]
      have hc : (x ++ c :: r).count c = r.count c + 1 := by
        rw [List.count_append, List.count_eq_zero.2 h2, List.count_cons_self]; omega
      simp only [Int.toNat_natCast, Nat.add_zero, List.length_singleton]
      rw [List.take_left, show x.length + 1 = (x ++ [c]).length from by simp, show x ++ c :: r = (x ++ [c]) ++ r from by simp, List.drop_left, splitK_cuts c k r (by omega)]
    · rw [index_one, if_neg hm, if_pos (by simp), cuts_none hm]
theorem countFrom_one (c : UInt8) : ∀ (f : Nat) (l : List UInt8), l.length < f → l.count c ≤ Lib.countFrom [c] f l
  | 0, l, h => by omega
  | f + 1, l, h => by
    unfold Lib.countFrom
    by_cases hm : c ∈ l
    · obtain ⟨x, r, h1, h2, h3⟩ := takeWhile_split hm
      rw [h3, if_neg (by simp <;> omega)]
      subst h1
      simp only [Int.toNat_natCast, List.length_singleton]
      rw [show x.length + 1 = (x ++ [c]).length from by simp, show x ++ c :: r = (x ++ [c]) ++ r from by simp, List.drop_left]
      have := countFrom_one c f r (by simp at h; omega)
      rw [List.append_assoc, List.count_append, List.count_eq_zero.2 h2, List.singleton_append, List.count_cons_self]
      omega
    · rw [List.count_eq_zero.2 hm]; omega
end Go.Proofs.YtagnalfkmdjajaaGreatDoor
namespace Go.Proofs.YtagnalfkmdjajaaGreatDoor
open Go.RowKit Go
set_option linter.unusedVariables false
set_option linter.unusedSimpArgs false
theorem decDigits_le20 (n : Nat) (h : n < 18446744073709551616) : (Lib.decDigits n).length ≤ 20 := by
  rw [Lib.decDigits_length]
  rcases Nat.eq_zero_or_pos n with rfl | h0
  · rw [Lib.nDigits_small (by omega)]; omega
  · have := Lib.numDigits_eq n h0 h; split at this <;> omega
def verT (w n : Nat) : List UInt8 := Lib.decDigits w ++ 46 :: Lib.decDigits n
def numB (s : List UInt8) : Option Nat := if Lib.decDigits (numOf s) = s ∧ numOf s < 18446744073709551616 then some (numOf s) else none
theorem numB_some {s : List UInt8} {n : Nat} : numB s = some n ↔ s = Lib.decDigits n ∧ n < 18446744073709551616 := by
  unfold numB
  constructor
  · intro h
    split at h
    · rename_i hc; injection h with h; subst h; exact ⟨hc.1.symm, hc.2⟩
    · cases h
  · rintro ⟨rfl, h⟩
    rw [numOf_decDigits, if_pos ⟨rfl, h⟩]
theorem digits_no {n : Nat} {c : UInt8} (hc : isD c = false) : c ∉ Lib.decDigits n := fun h => by
  have := decDigits_isD n c h
  rw [hc] at this; cases this
theorem verT_no {w n : Nat} {c : UInt8} (hc : isD c = false) (h2 : c ≠ 46) : c ∉ verT w n := by
  unfold verT
  simp only [List.mem_append, List.mem_cons, not_or]
  exact ⟨digits_no hc, h2, digits_no hc⟩
theorem numB_of_ok {l : List UInt8} {v : Nat} (h : Lib.parseUintB 64 l = .ok v) : v < 18446744073709551616 ∧ (decide (Lib.decDigits v = l) = (numB l).isSome) ∧ ∀ n, numB l = some n → n = v := by
  have hv : v ≤ 2 ^ 64 - 1 := Lib.parseUintB_le h
  have hv2 : v < 18446744073709551616 := by omega
  have h2 : ∀ n, numB l = some n → n = v := fun n hn => by
    obtain ⟨rfl, hlt⟩ := numB_some.1 hn
    rw [parseUint_digits _ (decDigits_isD n), if_neg (decDigits_ne n), numOf_decDigits, if_pos hlt] at h
    injection h
  refine ⟨hv2, ?_, h2⟩
  by_cases hd : Lib.decDigits v = l
  · rw [decide_eq_true hd, numB_some.2 ⟨hd.symm, hv2⟩]; rfl
  · rw [decide_eq_false hd]
    cases hn : numB l with
    | none => rfl
    | some n =>
      have := h2 n hn
      subst this
      exact absurd (numB_some.1 hn).1.symm hd
theorem numB_of_no {l : List UInt8} (h : ∀ n, Lib.parseUintB 64 l ≠ .ok n) : numB l = none := by
  cases hn : numB l with
  | none => rfl
  | some n =>
    obtain ⟨rfl, hlt⟩ := numB_some.1 hn
    exact absurd (by rw [parseUint_digits _ (decDigits_isD n), if_neg (decDigits_ne n), numOf_decDigits, if_pos hlt]) (h n)
theorem parse_three (l : List UInt8) : (∃ u, Lib.parseUintB 64 l = .ok u) ∨ ((∀ n, Lib.parseUintB 64 l ≠ .ok n) ∧ (Lib.parseUintB 64 l = .range ∨ Lib.parseUintB 64 l = Lib.parseUintB 64 [])) := by
  cases h : Lib.parseUintB 64 l with
  | ok u => exact .inl ⟨u, rfl⟩
  | range => exact .inr ⟨(fun n h => by cases h), .inl rfl⟩
  | _ => exact .inr ⟨(fun n h => by cases h), .inr rfl⟩
theorem cut_some {c : UInt8} {l : List UInt8} (h : c ∈ l) : ∃ x r, Lib.cut l [c] = (x, r, true) ∧ l = x ++ c :: r ∧ c ∉ x := by
  obtain ⟨x, r, h1, h2, h3⟩ := takeWhile_split h
  refine ⟨x, r, ?_, h1, h2⟩
  unfold Lib.cut
  rw [h3, if_pos (by omega)]
  subst h1
  simp only [Int.toNat_natCast, List.length_singleton]
  rw [List.take_left, show x.length + 1 = (x ++ [c]).length from by simp, show x ++ c :: r = (x ++ [c]) ++ r from by simp, List.drop_left]
theorem cut_none {c : UInt8} {l : List UInt8} (h : c ∉ l) : Lib.cut l [c] = (l, [], false) := by
  unfold Lib.cut
  rw [index_one, if_neg h, if_neg (by omega)]
theorem splitB_cuts (s : ByteArray) (c : UInt8) : ((Lib.splitB ⟨#[c]⟩ 0 (Lib.countB s ⟨#[c]⟩) s).map fun b => b.data.toList) = cuts c s.data.toList := by
  rw [Lib.splitB_data]
  exact splitK_cuts c _ _ (countFrom_one c _ _ (by omega))
theorem splitB_len (s : ByteArray) (c : UInt8) : Lib.countB s ⟨#[c]⟩ + 1 = (cuts c s.data.toList).length := by
  rw [← splitB_cuts, List.length_map, Lib.splitB_all ⟨#[c]⟩ (by simp [ByteArray.size]) 0 _ s rfl]
end Go.Proofs.YtagnalfkmdjajaaGreatDoor
namespace Go.Proofs.YtagnalfkmdjajaaGreatDoor
open Go.RowKit Go
set_option linter.unusedVariables false
set_option linter.unusedSimpArgs false
theorem parse10_digits : ∀ (l : List UInt8) (acc : Nat), (∀ c ∈ l, isD c = true) → numF acc l < 18446744073709551616 → Lib.parseUint10 acc l = .ok (numF acc l)
  | [], acc, _, _ => by rw [numF_nil]; rfl
  | c :: r, acc, hd, hn => by
    have h1 := hd c (by simp)
    simp only [isD, Bool.and_eq_true, decide_eq_true_eq] at h1
    rw [numF_cons] at hn ⊢
    have h2 := numF_ge r (acc * 10 + (c.toNat - 48))
    unfold Lib.parseUint10
    rw [if_pos h1, if_neg (by omega), if_neg (by omega)]
    exact parse10_digits r _ (fun d h => hd d (by simp [h])) hn
theorem atoi_digits (n : Nat) (h : n < 9223372036854775808) : Lib.atoiAll (Lib.decDigits n) = .ok (n : Int) := by
  have hd := decDigits_isD n
  have hne := decDigits_ne n
  have hn := numOf_decDigits n
  cases hl : Lib.decDigits n with
  | nil => exact absurd hl hne
  | cons c r =>
    rw [hl] at hd hn
    have hc := hd c (by simp)
    simp only [isD, Bool.and_eq_true, decide_eq_true_eq] at hc
    have hp : Lib.parseMag (c :: r) = .ok n := by
      unfold Lib.parseMag
      rw [if_neg (by simp), parse10_digits _ 0 hd (by have : numF 0 (c :: r) = n := hn; omega)]
      exact congrArg _ hn
    unfold Lib.atoiAll
    simp only
    rw [if_neg (by omega), hp]
    simp only
    rw [if_neg (by omega), if_neg (by omega), if_neg (by omega)]
/-- A number that Atoi may have told of a text. -/
def AtoiIs (l : List UInt8) (v : Int) : Prop := -9223372036854775808 ≤ v ∧ v ≤ 9223372036854775807 ∧ (Lib.atoiAll l = .ok v ∨ ∀ n, Lib.atoiAll l ≠ .ok n)
/-- A number that ParseUint may have told of a text. -/
def PuIs (l : List UInt8) (v : Nat) : Prop := v < 18446744073709551616 ∧ (Lib.parseUintB 64 l = .ok v ∨ ∀ n, Lib.parseUintB 64 l ≠ .ok n)
theorem AtoiIs.digits {n : Nat} {v : Int} (h : AtoiIs (Lib.decDigits n) v) (hn : n < 9223372036854775808) : v = n := by
  rcases h.2.2 with g | g
  · rw [atoi_digits n hn] at g
    injection g with g
    exact g.symm
  · exact absurd (atoi_digits n hn) (g _)
theorem PuIs.digits {n v : Nat} (h : PuIs (Lib.decDigits n) v) (hn : n < 18446744073709551616) : v = n := by
  rcases h.2 with g | g
  · exact ((numB_of_ok g).2.2 n (numB_some.2 ⟨rfl, hn⟩)).symm
  · have := numB_of_no g
    rw [numB_some.2 ⟨rfl, hn⟩] at this
    cases this
theorem cut_verT (w n : Nat) : Lib.cut (verT w n) [46] = (Lib.decDigits w, Lib.decDigits n, true) := by
  have hm : (46 : UInt8) ∈ verT w n := by simp [verT]
  obtain ⟨x, r, h1, h2, h3⟩ := cut_some hm
  have e1 : cuts 46 (verT w n) = [Lib.decDigits w, Lib.decDigits n] := by
    unfold verT
    rw [cuts_at _ (digits_no (by decide)), cuts_none (digits_no (by decide))]
  rw [h2, cuts_at _ h3] at e1
  simp only [List.cons.injEq] at e1
  obtain ⟨rfl, e1⟩ := e1
  have e2 := cuts_join 46 r
  rw [e1, Lib.join_one] at e2
  rw [h1, ← e2]
theorem verT_inj {a b c d : Nat} (h : verT a b = verT c d) : a = c ∧ b = d := by
  have h1 := cut_verT a b
  rw [h, cut_verT] at h1
  simp only [Prod.mk.injEq, and_true] at h1
  exact ⟨decDigits_inj h1.1.symm, decDigits_inj h1.2.symm⟩
structure Ph where
  k : Int
  pos : Int
  place : Int
  t : Nat
  x : Nat
  w : Nat
  n : Nat
def phWord (k : Int) : List UInt8 := if k = 1 then [97, 98, 111, 114, 116, 101, 100] else [105, 110, 116, 101, 114, 109, 101, 100, 105, 97, 116, 101]
def Ph.ok (p : Ph) : Prop := (p.k = 1 ∨ p.k = 2) ∧ 0 ≤ p.pos ∧ 0 ≤ p.place
instance (p : Ph) : Decidable p.ok := by unfold Ph.ok; infer_instance
def Ph.nums (p : Ph) : Prop := (-9223372036854775808 ≤ p.k ∧ p.k ≤ 9223372036854775807) ∧ (-9223372036854775808 ≤ p.pos ∧ p.pos ≤ 9223372036854775807) ∧ (-9223372036854775808 ≤ p.place ∧ p.place ≤ 9223372036854775807) ∧
  p.t < 18446744073709551616 ∧ p.x < 18446744073709551616 ∧ p.w < 18446744073709551616 ∧ p.n < 18446744073709551616
def Ph.words (p : Ph) : List (List UInt8) := [phWord p.k, Lib.decDigits p.pos.toNat, Lib.decDigits p.place.toNat, Lib.decDigits p.t, Lib.decDigits p.x, verT p.w p.n]
def Ph.told (p : Ph) : List UInt8 := Lib.join p.words [32]
def Ph.text (p : Ph) : List UInt8 := if p.ok then p.told else []
theorem phWord_no (k : Int) : (32 : UInt8) ∉ phWord k := by unfold phWord; split <;> decide
theorem Ph.cuts (p : Ph) : cuts 32 p.told = p.words := by
  refine cuts_of_join (by simp [Ph.words]) fun x hx => ?_
  simp only [Ph.words, List.mem_cons, List.not_mem_nil, or_false] at hx
  rcases hx with rfl | rfl | rfl | rfl | rfl | rfl
  · exact phWord_no _
  · exact digits_no (by decide)
  · exact digits_no (by decide)
  · exact digits_no (by decide)
  · exact digits_no (by decide)
  · exact verT_no (by decide) (by decide)
theorem phWord_inj {j k : Int} (hj : j = 1 ∨ j = 2) (hk : k = 1 ∨ k = 2) (h : phWord j = phWord k) : j = k := by
  rcases hj with rfl | rfl <;> rcases hk with rfl | rfl <;> first | rfl | (exact absurd h (by decide))
theorem Ph.told_ne (p : Ph) : p.told ≠ [] := fun h => by
  have := p.cuts
  rw [h] at this
  simp [Go.Proofs.YtagnalfkmdjajaaGreatDoor.cuts, Ph.words] at this
theorem Ph.inj {p q : Ph} (hp : p.ok) (hq : q.ok) (h : p.told = q.told) : p = q := by
  have e := p.cuts
  rw [h, q.cuts] at e
  simp only [Ph.words, List.cons.injEq, and_true] at e
  obtain ⟨e0, e1, e2, e3, e4, e5⟩ := e
  have k0 := phWord_inj hq.1 hp.1 e0
  have k1 := decDigits_inj e1
  have k2 := decDigits_inj e2
  have k3 := decDigits_inj e3
  have k4 := decDigits_inj e4
  obtain ⟨k5, k6⟩ := verT_inj e5
  obtain ⟨a1, a2, a3, a4, a5, a6, a7⟩ := p
  obtain ⟨b1, b2, b3, b4, b5, b6, b7⟩ := q
  have h1 := hp.2; have h2 := hq.2
  simp only at k0 k1 k2 k3 k4 k5 k6 h1 h2
  have : a2 = b2 := by omega
  have : a3 = b3 := by omega
  subst_vars
  rfl
theorem wrap_i64 (n : Int) : -9223372036854775808 ≤ IntKind.i64.wrap n ∧ IntKind.i64.wrap n ≤ 9223372036854775807 := by
  simp only [IntKind.wrap, IntKind.signed, IntKind.bits]
  simp
  omega
end Go.Proofs.YtagnalfkmdjajaaGreatDoor
