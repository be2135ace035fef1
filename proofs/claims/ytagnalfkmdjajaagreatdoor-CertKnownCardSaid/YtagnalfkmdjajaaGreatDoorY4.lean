/- Phenomena as texts. -/
import Derived.Test.YtagnalfkmdjajaaGreatDoorYLib
import Derived.Lib.ParseIntB
import Derived.Lib.ItoaNum
import Derived.Lib.SlTrimSet
import Derived.Lib.Split
import Derived.Lib.Join
import Derived.Lib.CutLaws
import Derived.Lib.SplitLaws
import Derived.Lib.ParseIntBCases
import Derived.Lib.AtoiAll
namespace Go.Proofs.YtagnalfkmdjajaaGreatDoor
open Go.RowKit Go
set_option linter.unusedVariables false
set_option linter.unusedSimpArgs false
def isD (c : UInt8) : Bool := decide (48 ≤ c.toNat) && decide (c.toNat ≤ 57)
def lM (acc : Nat) (l : List UInt8) : Nat := l.foldl (fun n c => n * 10 + (c.toNat - 48)) acc
def numOf (l : List UInt8) : Nat := lM 0 l
theorem jd (acc : Nat) : lM acc [] = acc := by simp only [lM, List.foldl_nil]
theorem fU (acc : Nat) (c : UInt8) (r : List UInt8) : lM acc (c :: r) = lM (acc * 10 + (c.toNat - 48)) r := by simp only [lM, List.foldl_cons]
theorem vR (a b : List UInt8) (acc : Nat) : lM acc (a ++ b) = lM (lM acc a) b := by
 induction a generalizing acc with
 | nil => rw [jd, List.nil_append]
 | cons c a ih => rw [List.cons_append, fU, fU, ih]
theorem yl (a : List UInt8) (c : UInt8) : numOf (a ++ [c]) = numOf a * 10 + (c.toNat - 48) := by
 unfold numOf; rw [vR, fU, jd]
theorem zU (l : List UInt8) : ∀ acc, acc ≤ lM acc l := by
 induction l with
 | nil => intro acc; rw [jd]; exact Nat.le_refl _
 | cons c l ih => intro acc; rw [fU]; have := ih (acc * 10 + (c.toNat - 48)); omega
theorem di (n : Nat) : ∀ c ∈ Lib.decDigits n, isD c = true := by
 induction n using Nat.strongRecOn with
 | _ n ih =>
  intro c hc
  rw [Lib.decDigits] at hc
  split at hc
  ·simp only [List.mem_singleton] at hc; subst hc
   simp [isD, UInt8.toNat_ofNat']; omega
  ·simp only [List.mem_append, List.mem_singleton] at hc
   rcases hc with hc | hc
   ·exact ih (n / 10) (by omega) c hc
   ·subst hc; simp [isD, UInt8.toNat_ofNat']; omega
theorem cO (n : Nat) : numOf (Lib.decDigits n) = n := by
 induction n using Nat.strongRecOn with
 | _ n ih =>
  rw [Lib.decDigits]
  split
  ·unfold numOf; rw [fU, jd]; simp [UInt8.toNat_ofNat']; omega
  ·rw [yl, ih (n / 10) (by omega)]; simp [UInt8.toNat_ofNat']; omega
theorem fe (n : Nat) : Lib.decDigits n ≠ [] := by
 rw [Lib.decDigits]; split <;> simp
theorem bM {a b : Nat} (h : Lib.decDigits a = Lib.decDigits b) : a = b := by rw [← cO a, h, cO]
theorem mg (l : List UInt8) (hl : ∀ c ∈ l, isD c = true) : ∀ acc, acc < 18446744073709551616 → Lib.parseUintM 18446744073709551615 acc l = if lM acc l < 18446744073709551616 then .ok (lM acc l) else .range := by
 induction l with
 | nil => intro acc h; rw [Lib.parseUintM, jd, if_pos h]
 | cons c l ih =>
  intro acc h
  have hc := hl c (by simp)
  simp only [isD, Bool.and_eq_true, decide_eq_true_eq] at hc
  have hg := zU l (acc * 10 + (c.toNat - 48))
  rw [Lib.parseUintM, fU, if_pos hc]
  by_cases h1 : 1844674407370955162 ≤ acc
  ·rw [if_pos h1, if_neg (by omega)]
  ·rw [if_neg h1]
   by_cases h2 : 18446744073709551615 < acc * 10 + (c.toNat - 48)
   ·rw [if_pos h2, if_neg (by omega)]
   ·rw [if_neg h2]
    exact ih (fun d hd => hl d (by simp [hd])) _ (by omega)
theorem je (l : List UInt8) (hl : ∀ c ∈ l, isD c = true) : Lib.parseUintB 64 l = if l = [] then Lib.parseUintB 64 [] else if numOf l < 18446744073709551616 then .ok (numOf l) else .range := by
 by_cases hl0 : l = []
 ·rw [if_pos hl0, hl0]
 ·rw [if_neg hl0]
  unfold Lib.parseUintB
  rw [if_neg hl0]
  exact mg l hl 0 (by omega)
def cuts (c : UInt8) : List UInt8 → List (List UInt8)
 | [] => [[]]
 | b :: l => if b = c then [] :: cuts c l else match cuts c l with
  | [] => [[b]]
  | x :: r => (b :: x) :: r
theorem gQ (c : UInt8) (l : List UInt8) : cuts c l ≠ [] := by
 cases l with
 | nil => simp [cuts]
 | cons b l =>
  simp only [cuts]
  split
  ·simp
  ·split <;> simp
theorem dI {c b : UInt8} {l x : List UInt8} {r : List (List UInt8)} (hb : b ≠ c) (h : cuts c l = x :: r) : cuts c (b :: l) = (b :: x) :: r := by
 simp only [cuts]
 rw [if_neg hb, h]
theorem ig (c : UInt8) (l : List UInt8) : cuts c (c :: l) = [] :: cuts c l := by
 simp only [cuts, if_true]
theorem jf {c : UInt8} {l : List UInt8} (h : c ∉ l) : cuts c l = [l] := by
 induction l with
 | nil => rfl
 | cons b l ih =>
  simp only [List.mem_cons, not_or] at h
  exact dI (fun e => h.1 e.symm) (ih h.2)
theorem jm {c : UInt8} {x : List UInt8} (l : List UInt8) (h : c ∉ x) : cuts c (x ++ c :: l) = x :: cuts c l := by
 induction x with
 | nil => exact ig c l
 | cons b x ih =>
  simp only [List.mem_cons, not_or] at h
  exact dI (fun e => h.1 e.symm) (ih h.2)
theorem tO (c : UInt8) (l : List UInt8) : Lib.join (cuts c l) [c] = l := by
 induction l with
 | nil => simp [cuts, Lib.join_one]
 | cons b l ih =>
  by_cases hb : b = c
  ·subst hb
   rw [ig]
   cases hq : cuts b l with
   | nil => exact absurd hq (gQ _ _)
   | cons x r =>
    rw [hq] at ih
    rw [Lib.join_cons] at ih ⊢
    simp only [Lib.joinTail, List.nil_append, List.singleton_append, List.append_assoc] at ih ⊢
    simp [Lib.joinTail, ih]
  ·cases hq : cuts c l with
   | nil => exact absurd hq (gQ _ _)
   | cons x r =>
    rw [dI hb hq]
    rw [hq] at ih
    rw [Lib.join_cons] at ih ⊢
    simp only [List.cons_append]
    rw [ih]
theorem gT {c : UInt8} : ∀ {ws : List (List UInt8)}, ws ≠ [] → (∀ x ∈ ws, c ∉ x) → cuts c (Lib.join ws [c]) = ws
 | [], h, _ => absurd rfl h
 | [x], _, h => by rw [Lib.join_one]; exact jf (h x (by simp))
 | x :: y :: ws, _, h => by
  have ih := gT (c := c) (ws := y :: ws) (by simp) (fun z hz => h z (by simp only [List.mem_cons] at hz ⊢; exact .inr hz))
  rw [Lib.join_cons] at ih ⊢
  rw [show Lib.joinTail [c] (y :: ws) = c :: (y ++ Lib.joinTail [c] ws) from by simp [Lib.joinTail], jm _ (h x (by simp)), ih]
theorem pQ (c : UInt8) (l : List UInt8) : cuts c (l ++ [c]) = cuts c l ++ [[]] := by
 induction l with
 | nil => simp [cuts]
 | cons b l ih =>
  rw [List.cons_append]
  by_cases hb : b = c
  ·subst hb; rw [ig, ig, ih, List.cons_append]
  ·cases hq : cuts c l with
   | nil => exact absurd hq (gQ _ _)
   | cons x r =>
    rw [dI hb hq]
    rw [hq] at ih
    rw [dI hb (by rw [ih]; rfl)]
    rfl
theorem oV {c b : UInt8} (hb : b ≠ c) (l : List UInt8) : ∀ {x : List UInt8} {r : List (List UInt8)}, cuts c l = r ++ [x] → cuts c (l ++ [b]) = r ++ [x ++ [b]] := by
 induction l with
 | nil =>
  intro x r h
  simp only [cuts] at h
  have : r = [] ∧ x = [] := by
   cases r with
   | nil => simpa using h.symm
   | cons a r => simp at h
  obtain ⟨rfl, rfl⟩ := this
  simp [cuts, hb]
 | cons a l ih =>
  intro x r h
  rw [List.cons_append]
  by_cases ha : a = c
  ·subst ha
   rw [ig] at h ⊢
   cases r with
   | nil =>
    simp only [List.nil_append, List.cons.injEq] at h
    exact absurd h.2 (gQ _ _)
   | cons y r =>
    simp only [List.cons_append, List.cons.injEq] at h ⊢
    exact ⟨h.1, ih h.2⟩
  ·cases hq : cuts c l with
   | nil => exact absurd hq (gQ _ _)
   | cons y q =>
    rw [dI ha hq] at h
    cases r with
    | nil =>
     simp only [List.nil_append, List.cons.injEq] at h
     obtain ⟨rfl, rfl⟩ := h
     have := ih (x := y) (r := []) (by rw [hq]; rfl)
     rw [dI ha (by rw [this]; rfl)]
     rfl
    | cons z r =>
     simp only [List.cons_append, List.cons.injEq] at h
     obtain ⟨rfl, rfl⟩ := h
     have := ih (x := x) (r := y :: r) (by rw [hq]; rfl)
     rw [dI ha (by rw [this]; rfl)]
     rfl
theorem index_one (c : UInt8) (l : List UInt8) : Lib.index l [c] = if c ∈ l then ((l.takeWhile (fun b => decide (b ≠ c))).length : Int) else -1 := by
 induction l with
 | nil => simp [Lib.index]
 | cons b l ih =>
  unfold Lib.index
  by_cases hb : b = c
  ·subst hb; simp
  ·have h1 : ([c].isPrefixOf (b :: l)) = false := by simp [List.isPrefixOf]; exact fun e => hb e.symm
   rw [h1, ih]
   by_cases hm : c ∈ l
   ·have e1 : (((l.takeWhile (fun b => decide (b ≠ c))).length : Int) == -1) = false := beq_eq_false_iff_ne.2 (by omega)
    have e2 : c ∈ b :: l := List.mem_cons_of_mem _ hm
    have e3 : (b :: l).takeWhile (fun b => decide (b ≠ c)) = b :: l.takeWhile (fun b => decide (b ≠ c)) := List.takeWhile_cons_of_pos (by simp [hb])
    simp only [hm, e2, if_true, Bool.false_eq_true, if_false, e1, e3, List.length_cons]
    omega
   ·have e2 : ¬ c ∈ b :: l := fun h => by
     rcases List.mem_cons.1 h with h | h
     ·exact hb h.symm
     ·exact hm h
    simp only [hm, e2, if_false, Bool.false_eq_true]
    rfl
theorem gJ {c : UInt8} {l : List UInt8} (h : c ∈ l) : ∃ x r, l = x ++ c :: r ∧ c ∉ x ∧ Lib.index l [c] = x.length := by
 obtain ⟨x, r, h1, h2⟩ := List.eq_append_cons_of_mem h
 refine ⟨x, r, h1, h2, ?_⟩
 rw [index_one, if_pos h]
 subst h1
 rw [List.takeWhile_append_of_pos (by intro a ha; simp; intro e; subst e; exact h2 ha), List.takeWhile_cons_of_neg (by simp)]
 simp
theorem og (c : UInt8) : ∀ (k : Nat) (l : List UInt8), l.count c ≤ k → Lib.splitK [c] 0 k l = cuts c l
 | 0, l, h => by
  have hn : c ∉ l := fun hm => by have := List.count_pos_iff.2 hm; omega
  rw [jf hn]; rfl
 | k + 1, l, h => by
  unfold Lib.splitK
  by_cases hm : c ∈ l
  ·obtain ⟨x, r, h1, h2, h3⟩ := gJ hm
   rw [h3, if_neg (by simp <;> omega)]
   subst h1
   rw [jm _ h2]
   have hc : (x ++ c :: r).count c = r.count c + 1 := by
    rw [List.count_append, List.count_eq_zero.2 h2, List.count_cons_self]; omega
   simp only [Int.toNat_natCast, Nat.add_zero, List.length_singleton]
   rw [List.take_left, show x.length + 1 = (x ++ [c]).length from by simp, show x ++ c :: r = (x ++ [c]) ++ r from by simp, List.drop_left, og c k r (by omega)]
  ·rw [index_one, if_neg hm, if_pos (by simp), jf hm]
theorem lC (c : UInt8) : ∀ (f : Nat) (l : List UInt8), l.length < f → l.count c ≤ Lib.countFrom [c] f l
 | 0, l, h => by omega
 | f + 1, l, h => by
  unfold Lib.countFrom
  by_cases hm : c ∈ l
  ·obtain ⟨x, r, h1, h2, h3⟩ := gJ hm
   rw [h3, if_neg (by simp <;> omega)]
   subst h1
   simp only [Int.toNat_natCast, List.length_singleton]
   rw [show x.length + 1 = (x ++ [c]).length from by simp, show x ++ c :: r = (x ++ [c]) ++ r from by simp, List.drop_left]
   have := lC c f r (by simp at h; omega)
   rw [List.append_assoc, List.count_append, List.count_eq_zero.2 h2, List.singleton_append, List.count_cons_self]
   omega
  ·rw [List.count_eq_zero.2 hm]; omega
theorem aH (n : Nat) (h : n < 18446744073709551616) : (Lib.decDigits n).length ≤ 20 := by
 rw [Lib.decDigits_length]
 rcases Nat.eq_zero_or_pos n with rfl | h0
 ·rw [Lib.nDigits_small (by omega)]; omega
 ·have := Lib.numDigits_eq n h0 h; split at this <;> omega
def dN (w n : Nat) : List UInt8 := Lib.decDigits w ++ 46 :: Lib.decDigits n
def vS (s : List UInt8) : Option Nat := if Lib.decDigits (numOf s) = s ∧ numOf s < 18446744073709551616 then some (numOf s) else none
theorem ik {s : List UInt8} {n : Nat} : vS s = some n ↔ s = Lib.decDigits n ∧ n < 18446744073709551616 := by
 unfold vS
 constructor
 ·intro h
  split at h
  ·rename_i hc; injection h with h; subst h; exact ⟨hc.1.symm, hc.2⟩
  ·cases h
 ·rintro ⟨rfl, h⟩
  rw [cO, if_pos ⟨rfl, h⟩]
theorem aY {n : Nat} {c : UInt8} (hc : isD c = false) : c ∉ Lib.decDigits n := fun h => by
 have := di n c h
 rw [hc] at this; cases this
theorem iR {w n : Nat} {c : UInt8} (hc : isD c = false) (h2 : c ≠ 46) : c ∉ dN w n := by
 unfold dN
 simp only [List.mem_append, List.mem_cons, not_or]
 exact ⟨aY hc, h2, aY hc⟩
def fC (s : List UInt8) : Nat := s.foldl (fun n c => (n * 10 + (c.toNat + 208) % 256) % 18446744073709551616) 0
theorem BU : fC [] = 0 := rfl
theorem kJ (s : List UInt8) (c : UInt8) : fC (s ++ [c]) = (fC s * 10 + (c.toNat + 208) % 256) % 18446744073709551616 := by simp [fC]
theorem mh (s : List UInt8) : fC s < 18446744073709551616 := by
 rcases List.eq_nil_or_concat s with rfl | ⟨l, c, rfl⟩
 ·decide
 ·rw [List.concat_eq_append, kJ]; exact Nat.mod_lt _ (by decide)
theorem eF (n : Nat) (h : n < 18446744073709551616) : fC (Lib.decDigits n) = n := by
 induction n using Nat.strongRecOn with
 | _ n ih =>
  rw [Lib.decDigits]
  split
  ·rw [show ([UInt8.ofNat (48 + n)] : List UInt8) = [] ++ [UInt8.ofNat (48 + n)] from rfl, kJ, BU]; simp [UInt8.toNat_ofNat']; omega
  ·rw [kJ, ih (n / 10) (by omega) (by omega)]; simp [UInt8.toNat_ofNat']; omega
theorem pR {l : List UInt8} {v : Nat} (h : Lib.parseUintB 64 l = .ok v) : v < 18446744073709551616 ∧ (decide (Lib.decDigits v = l) = (vS l).isSome) ∧ ∀ n, vS l = some n → n = v := by
 have hv : v ≤ 2 ^ 64 - 1 := Lib.parseUintB_le h
 have hv2 : v < 18446744073709551616 := by omega
 have h2 : ∀ n, vS l = some n → n = v := fun n hn => by
  obtain ⟨rfl, hlt⟩ := ik.1 hn
  rw [je _ (di n), if_neg (fe n), cO, if_pos hlt] at h
  injection h
 refine ⟨hv2, ?_, h2⟩
 by_cases hd : Lib.decDigits v = l
 ·rw [decide_eq_true hd, ik.2 ⟨hd.symm, hv2⟩]; rfl
 ·rw [decide_eq_false hd]
  cases hn : vS l with
  | none => rfl
  | some n =>
   have := h2 n hn
   subst this
   exact absurd (ik.1 hn).1.symm hd
theorem ym {l : List UInt8} (h : ∀ n, Lib.parseUintB 64 l ≠ .ok n) : vS l = none := by
 cases hn : vS l with
 | none => rfl
 | some n =>
  obtain ⟨rfl, hlt⟩ := ik.1 hn
  exact absurd (by rw [je _ (di n), if_neg (fe n), cO, if_pos hlt]) (h n)
theorem vT (l : List UInt8) : (∃ u, Lib.parseUintB 64 l = .ok u) ∨ ((∀ n, Lib.parseUintB 64 l ≠ .ok n) ∧ (Lib.parseUintB 64 l = .range ∨ Lib.parseUintB 64 l = Lib.parseUintB 64 [])) := by
 cases h : Lib.parseUintB 64 l with
 | ok u => exact .inl ⟨u, rfl⟩
 | range => exact .inr ⟨(fun n h => by cases h), .inl rfl⟩
 | _ => exact .inr ⟨(fun n h => by cases h), .inr rfl⟩
theorem vU {c : UInt8} {l : List UInt8} (h : c ∈ l) : ∃ x r, Lib.cut l [c] = (x, r, true) ∧ l = x ++ c :: r ∧ c ∉ x := by
 obtain ⟨x, r, h1, h2, h3⟩ := gJ h
 refine ⟨x, r, ?_, h1, h2⟩
 unfold Lib.cut
 rw [h3, if_pos (by omega)]
 subst h1
 simp only [Int.toNat_natCast, List.length_singleton]
 rw [List.take_left, show x.length + 1 = (x ++ [c]).length from by simp, show x ++ c :: r = (x ++ [c]) ++ r from by simp, List.drop_left]
theorem BV {c : UInt8} {l : List UInt8} (h : c ∉ l) : Lib.cut l [c] = (l, [], false) := by
 unfold Lib.cut
 rw [index_one, if_neg h, if_neg (by omega)]
theorem oh (s : ByteArray) (c : UInt8) : ((Lib.splitB ⟨#[c]⟩ 0 (Lib.countB s ⟨#[c]⟩) s).map fun b => b.data.toList) = cuts c s.data.toList := by
 rw [Lib.splitB_data]
 exact og c _ _ (lC c _ _ (by omega))
theorem yn (s : ByteArray) (c : UInt8) : Lib.countB s ⟨#[c]⟩ + 1 = (cuts c s.data.toList).length := by
 rw [← oh, List.length_map, Lib.splitB_all ⟨#[c]⟩ (by simp [ByteArray.size]) 0 _ s rfl]
theorem jN : ∀ (l : List UInt8) (acc : Nat), (∀ c ∈ l, isD c = true) → lM acc l < 18446744073709551616 → Lib.parseUint10 acc l = .ok (lM acc l)
 | [], acc, _, _ => by rw [jd]; rfl
 | c :: r, acc, hd, hn => by
  have h1 := hd c (by simp)
  simp only [isD, Bool.and_eq_true, decide_eq_true_eq] at h1
  rw [fU] at hn ⊢
  have h2 := zU r (acc * 10 + (c.toNat - 48))
  unfold Lib.parseUint10
  rw [if_pos h1, if_neg (by omega), if_neg (by omega)]
  exact jN r _ (fun d h => hd d (by simp [h])) hn
theorem jO (n : Nat) (h : n < 9223372036854775808) : Lib.atoiAll (Lib.decDigits n) = .ok (n : Int) := by
 have hd := di n
 have hne := fe n
 have hn := cO n
 cases hl : Lib.decDigits n with
 | nil => exact absurd hl hne
 | cons c r =>
  rw [hl] at hd hn
  have hc := hd c (by simp)
  simp only [isD, Bool.and_eq_true, decide_eq_true_eq] at hc
  have hp : Lib.parseMag (c :: r) = .ok n := by
   unfold Lib.parseMag
   rw [if_neg (by simp), jN _ 0 hd (by have : lM 0 (c :: r) = n := hn; omega)]
   exact congrArg _ hn
  unfold Lib.atoiAll
  simp only
  rw [if_neg (by omega), hp]
  simp only
  rw [if_neg (by omega), if_neg (by omega), if_neg (by omega)]
def jP (l : List UInt8) (v : Int) : Prop := -9223372036854775808 ≤ v ∧ v ≤ 9223372036854775807 ∧ (Lib.atoiAll l = .ok v ∨ ∀ n, Lib.atoiAll l ≠ .ok n)
def pU (l : List UInt8) (v : Nat) : Prop := v < 18446744073709551616 ∧ (Lib.parseUintB 64 l = .ok v ∨ ∀ n, Lib.parseUintB 64 l ≠ .ok n)
theorem jP.digits {n : Nat} {v : Int} (h : jP (Lib.decDigits n) v) (hn : n < 9223372036854775808) : v = n := by
 rcases h.2.2 with g | g
 ·rw [jO n hn] at g
  injection g with g
  exact g.symm
 ·exact absurd (jO n hn) (g _)
theorem pU.digits {n v : Nat} (h : pU (Lib.decDigits n) v) (hn : n < 18446744073709551616) : v = n := by
 rcases h.2 with g | g
 ·exact ((pR g).2.2 n (ik.2 ⟨rfl, hn⟩)).symm
 ·have := ym g
  rw [ik.2 ⟨rfl, hn⟩] at this
  cases this
theorem pV (w n : Nat) : Lib.cut (dN w n) [46] = (Lib.decDigits w, Lib.decDigits n, true) := by
 have hm : (46 : UInt8) ∈ dN w n := by simp [dN]
 obtain ⟨x, r, h1, h2, h3⟩ := vU hm
 have e1 : cuts 46 (dN w n) = [Lib.decDigits w, Lib.decDigits n] := by
  unfold dN
  rw [jm _ (aY (by decide)), jf (aY (by decide))]
 rw [h2, jm _ h3] at e1
 simp only [List.cons.injEq] at e1
 obtain ⟨rfl, e1⟩ := e1
 have e2 := tO 46 r
 rw [e1, Lib.join_one] at e2
 rw [h1, ← e2]
theorem vV {a b c d : Nat} (h : dN a b = dN c d) : a = c ∧ b = d := by
 have h1 := pV a b
 rw [h, pV] at h1
 simp only [Prod.mk.injEq, and_true] at h1
 exact ⟨bM h1.1.symm, bM h1.2.symm⟩
structure Ph where
 k : Int
 pos : Int
 place : Int
 t : Nat
 x : Nat
 w : Nat
 n : Nat
def pW (k : Int) : List UInt8 := if k = 1 then [97, 98, 111, 114, 116, 101, 100] else [105, 110, 116, 101, 114, 109, 101, 100, 105, 97, 116, 101]
def Ph.ok (p : Ph) : Prop := (p.k = 1 ∨ p.k = 2) ∧ 0 ≤ p.pos ∧ 0 ≤ p.place
instance (p : Ph) : Decidable p.ok := by unfold Ph.ok; infer_instance
def Ph.words (p : Ph) : List (List UInt8) := [pW p.k, Lib.decDigits p.pos.toNat, Lib.decDigits p.place.toNat, Lib.decDigits p.t, Lib.decDigits p.x, dN p.w p.n]
theorem EU (k : Int) : (32 : UInt8) ∉ pW k := by unfold pW; split <;> decide
theorem Ey {j k : Int} (hj : j = 1 ∨ j = 2) (hk : k = 1 ∨ k = 2) (h : pW j = pW k) : j = k := by
 rcases hj with rfl | rfl <;> rcases hk with rfl | rfl <;> first | rfl | (exact absurd h (by decide))
theorem wrap_small (n : Nat) (h : n < 9223372036854775808) : IntKind.i64.wrap (n : Int) = n := by
 simp only [IntKind.wrap, IntKind.signed, IntKind.bits]
 simp
 omega
theorem wrap_i64 (n : Int) : -9223372036854775808 ≤ IntKind.i64.wrap n ∧ IntKind.i64.wrap n ≤ 9223372036854775807 := by
 simp only [IntKind.wrap, IntKind.signed, IntKind.bits]
 simp
 omega
end Go.Proofs.YtagnalfkmdjajaaGreatDoor
