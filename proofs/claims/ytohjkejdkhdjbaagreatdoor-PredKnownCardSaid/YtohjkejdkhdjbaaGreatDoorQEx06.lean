/- Numbers in a text: plain Lean. -/
import Derived.Test.YtohjkejdkhdjbaaGreatDoorQLib
import Derived.Lib.ParseIntB
import Derived.Lib.ItoaNum
import Derived.Lib.SlTrimSet
namespace Go.Proofs.YtohjkejdkhdjbaaGreatDoor
open Go.RowKit Go
set_option linter.unusedVariables false
set_option linter.unusedSimpArgs false
def isD (c : UInt8) : Bool := decide (48 ≤ c.toNat) && decide (c.toNat ≤ 57)
def numF (acc : Nat) (l : List UInt8) : Nat := l.foldl (fun n c => n * 10 + (c.toNat - 48)) acc
def numOf (l : List UInt8) : Nat := numF 0 l
/-- The number that a text begins with, as it is told, and the rest. -/
def rdNum (l : List UInt8) : Option (Nat × List UInt8) :=
  if l.takeWhile isD ≠ [] ∧ Lib.decDigits (numOf (l.takeWhile isD)) = l.takeWhile isD ∧ numOf (l.takeWhile isD) < 18446744073709551616 then some (numOf (l.takeWhile isD), l.dropWhile isD) else none
theorem numF_nil (acc : Nat) : numF acc [] = acc := by simp only [numF, List.foldl_nil]
theorem numF_cons (acc : Nat) (c : UInt8) (r : List UInt8) : numF acc (c :: r) = numF (acc * 10 + (c.toNat - 48)) r := by simp only [numF, List.foldl_cons]
theorem numF_append (a b : List UInt8) (acc : Nat) : numF acc (a ++ b) = numF (numF acc a) b := by
  induction a generalizing acc with
  | nil => rw [numF_nil, List.nil_append]
  | cons c a ih => rw [List.cons_append, numF_cons, numF_cons, ih]
theorem numOf_snoc (a : List UInt8) (c : UInt8) : numOf (a ++ [c]) = numOf a * 10 + (c.toNat - 48) := by
  unfold numOf; rw [numF_append, numF_cons, numF_nil]
theorem numF_ge (l : List UInt8) : ∀ acc, acc ≤ numF acc l := by
  induction l with
  | nil => intro acc; rw [numF_nil]; exact Nat.le_refl _
  | cons c l ih => intro acc; rw [numF_cons]; have := ih (acc * 10 + (c.toNat - 48)); omega
theorem decDigits_isD (n : Nat) : ∀ c ∈ Lib.decDigits n, isD c = true := by
  induction n using Nat.strongRecOn with
  | _ n ih =>
    intro c hc
    rw [Lib.decDigits] at hc
    split at hc
    · simp only [List.mem_singleton] at hc; subst hc
      simp [isD, UInt8.toNat_ofNat']; omega
    · simp only [List.mem_append, List.mem_singleton] at hc
      rcases hc with hc | hc
      · exact ih (n / 10) (by omega) c hc
      · subst hc; simp [isD, UInt8.toNat_ofNat']; omega
theorem numOf_decDigits (n : Nat) : numOf (Lib.decDigits n) = n := by
  induction n using Nat.strongRecOn with
  | _ n ih =>
    rw [Lib.decDigits]
    split
    · unfold numOf; rw [numF_cons, numF_nil]; simp [UInt8.toNat_ofNat']; omega
    · rw [numOf_snoc, ih (n / 10) (by omega)]; simp [UInt8.toNat_ofNat']; omega
theorem decDigits_ne (n : Nat) : Lib.decDigits n ≠ [] := by
  rw [Lib.decDigits]; split <;> simp
theorem takeWhile_append_of {p : UInt8 → Bool} (a b : List UInt8) (ha : ∀ c ∈ a, p c = true) (hb : ∀ c, b.head? = some c → p c = false) : (a ++ b).takeWhile p = a ∧ (a ++ b).dropWhile p = b := by
  induction a with
  | nil =>
    cases b with
    | nil => simp
    | cons c b => have := hb c rfl; simp [this]
  | cons c a ih =>
    have h1 := ha c (by simp)
    have h2 := ih (fun d hd => ha d (by simp [hd]))
    simp [h1, h2.1, h2.2]
theorem rdNum_told (n : Nat) (h : n < 18446744073709551616) (r : List UInt8) (hr : ∀ c, r.head? = some c → isD c = false) : rdNum (Lib.decDigits n ++ r) = some (n, r) := by
  obtain ⟨h1, h2⟩ := takeWhile_append_of (Lib.decDigits n) r (decDigits_isD n) hr
  unfold rdNum
  rw [h1, h2, numOf_decDigits, if_pos ⟨decDigits_ne n, rfl, h⟩]
theorem rdNum_some {l r : List UInt8} {n : Nat} (h : rdNum l = some (n, r)) : l = Lib.decDigits n ++ r ∧ n < 18446744073709551616 ∧ (∀ c, r.head? = some c → isD c = false) := by
  unfold rdNum at h
  split at h
  · rename_i hc
    simp only [Option.some.injEq, Prod.mk.injEq] at h
    obtain ⟨rfl, rfl⟩ := h
    refine ⟨by rw [hc.2.1, List.takeWhile_append_dropWhile], hc.2.2, fun c hcc => ?_⟩
    cases hd : l.dropWhile isD with
    | nil => rw [hd] at hcc; cases hcc
    | cons d t =>
      rw [hd] at hcc
      simp only [List.head?_cons, Option.some.injEq] at hcc
      subst hcc
      have := List.head?_dropWhile_not isD l
      rw [hd] at this
      simpa using this
  · cases h
/-! ParseUint's answer at a row of digits -/
theorem parseUintM_digits (l : List UInt8) (hl : ∀ c ∈ l, isD c = true) : ∀ acc, acc < 18446744073709551616 → Lib.parseUintM 18446744073709551615 acc l = if numF acc l < 18446744073709551616 then .ok (numF acc l) else .range := by
  induction l with
  | nil => intro acc h; rw [Lib.parseUintM, numF_nil, if_pos h]
  | cons c l ih =>
    intro acc h
    have hc := hl c (by simp)
    simp only [isD, Bool.and_eq_true, decide_eq_true_eq] at hc
    have hg := numF_ge l (acc * 10 + (c.toNat - 48))
    rw [Lib.parseUintM, numF_cons, if_pos hc]
    by_cases h1 : 1844674407370955162 ≤ acc
    · rw [if_pos h1, if_neg (by omega)]
    · rw [if_neg h1]
      by_cases h2 : 18446744073709551615 < acc * 10 + (c.toNat - 48)
      · rw [if_pos h2, if_neg (by omega)]
      · rw [if_neg h2]
        exact ih (fun d hd => hl d (by simp [hd])) _ (by omega)
theorem parseUint_digits (l : List UInt8) (hl : ∀ c ∈ l, isD c = true) : Lib.parseUintB 64 l = if l = [] then Lib.parseUintB 64 [] else if numOf l < 18446744073709551616 then .ok (numOf l) else .range := by
  by_cases hl0 : l = []
  · rw [if_pos hl0, hl0]
  · rw [if_neg hl0]
    unfold Lib.parseUintB
    rw [if_neg hl0]
    exact parseUintM_digits l hl 0 (by omega)
theorem digit_set (c : UInt8) : ([48, 49, 50, 51, 52, 53, 54, 55, 56, 57] : List UInt8).contains c = isD c := by
  rw [Bool.eq_iff_iff]
  simp [isD, ← UInt8.toNat_inj]
  omega
theorem trimLeft_digits (l : List UInt8) : Lib.trimLeftS l [48, 49, 50, 51, 52, 53, 54, 55, 56, 57] = l.dropWhile isD := by
  unfold Lib.trimLeftS
  congr 1
  funext c
  exact digit_set c
theorem takeWhile_all {p : UInt8 → Bool} (l : List UInt8) : ∀ c ∈ l.takeWhile p, p c = true := by
  induction l with
  | nil => simp
  | cons d l ih =>
    intro c hc
    simp only [List.takeWhile_cons] at hc
    split at hc
    · simp only [List.mem_cons] at hc
      rcases hc with rfl | hc
      · assumption
      · exact ih c hc
    · simp at hc
end Go.Proofs.YtohjkejdkhdjbaaGreatDoor
