/- Numbers in a text. -/
import Derived.Test.YtlpgokcapdjgjaaGreatDoorY14
import Derived.Lib.ParseIntB
import Derived.Lib.ItoaNum
import Derived.Lib.SlTrimSet
namespace Go.Proofs.YtlpgokcapdjgjaaGreatDoor
open Go.RowKit Go
set_option linter.unusedVariables false
set_option linter.unusedSimpArgs false
mutual
def Ex.depth : Ex → Nat
 | .mk _ _ _ ps => Ex.depths ps + 1
def Ex.depths : List Ex → Nat
 | [] => 0
 | e :: es => max e.depth (Ex.depths es)
end
mutual
def Ex.size : Ex → Nat
 | .mk _ _ _ ps => Ex.sizes ps + 1
def Ex.sizes : List Ex → Nat
 | [] => 0
 | e :: es => e.size + Ex.sizes es
end
theorem dM {α : Type} (l : List α) (k : Nat) (h : k < l.length) : l.take (k + 1) = l.take k ++ [l[k]] := List.take_succ_eq_append_getElem h
theorem Ex.depths_append (a b : List Ex) : Ex.depths (a ++ b) = max (Ex.depths a) (Ex.depths b) := by
 induction a with
 | nil => simp [Ex.depths]
 | cons e es ih => simp only [List.cons_append, Ex.depths, ih]; omega
theorem Ex.sizes_append (a b : List Ex) : Ex.sizes (a ++ b) = Ex.sizes a + Ex.sizes b := by
 induction a with
 | nil => simp [Ex.sizes]
 | cons e es ih => simp only [List.cons_append, Ex.sizes, ih]; omega
theorem Ex.depths_take (ps : List Ex) (k : Nat) (h : k < ps.length) : Ex.depths (ps.take (k + 1)) = max (Ex.depths (ps.take k)) ps[k].depth := by
 rw [dM ps k h, Ex.depths_append]; simp [Ex.depths]
theorem Ex.sizes_take (ps : List Ex) (k : Nat) (h : k < ps.length) : Ex.sizes (ps.take (k + 1)) = Ex.sizes (ps.take k) + ps[k].size := by
 rw [dM ps k h, Ex.sizes_append]; simp [Ex.sizes]
theorem Ex.depths_ge (ps : List Ex) (k : Nat) (h : k < ps.length) : ps[k].depth ≤ Ex.depths ps := by
 have := Ex.depths_append (ps.take (k + 1)) (ps.drop (k + 1))
 rw [List.take_append_drop, Ex.depths_take ps k h] at this; omega
theorem Ex.sizes_split (ps : List Ex) (k : Nat) : Ex.sizes ps = Ex.sizes (ps.take k) + Ex.sizes (ps.drop k) := by
 have := Ex.sizes_append (ps.take k) (ps.drop k); rwa [List.take_append_drop] at this
theorem Ex.sizes_ge (ps : List Ex) (k : Nat) (h : k < ps.length) : Ex.sizes (ps.take k) + ps[k].size ≤ Ex.sizes ps := by
 have := Ex.sizes_split ps (k + 1); rw [Ex.sizes_take ps k h] at this; omega
theorem Ex.depths_take_le (ps : List Ex) (k : Nat) : Ex.depths (ps.take k) ≤ Ex.depths ps := by
 have := Ex.depths_append (ps.take k) (ps.drop k); rw [List.take_append_drop] at this; omega
theorem Ex.size_pos (e : Ex) : 0 < e.size := by cases e; simp [Ex.size]
theorem Ex.length_le_sizes (ps : List Ex) : ps.length ≤ Ex.sizes ps := by
 induction ps with
 | nil => simp
 | cons e es ih => have := Ex.size_pos e; simp only [Ex.sizes, List.length_cons]; omega
mutual
theorem Ex.depth_le_size : ∀ e : Ex, e.depth ≤ e.size
 | .mk k a b ps => by have := Ex.depths_le_sizes ps; simp only [Ex.depth, Ex.size]; omega
theorem Ex.depths_le_sizes : ∀ es : List Ex, Ex.depths es ≤ Ex.sizes es
 | [] => by simp [Ex.depths, Ex.sizes]
 | e :: es => by have := Ex.depth_le_size e; have := Ex.depths_le_sizes es; simp only [Ex.depths, Ex.sizes]; omega
end
def fU (k : Int) (a b n : Nat) : Bool :=
 if k = 1 then a == 0 && b == 0 && n == 0
 else if k = 2 ∨ k = 3 then b == 0 && n == 0
 else if k = 4 then decide (b < a) && n == 0
 else if k = 5 then a == 0 && b == 0 && n == 1
 else if k = 6 ∨ k = 7 then a == 0 && b == 0
 else false
def iZ (k : Int) (a b n : Nat) : Bool := fU k a b n && decide (n ≤ 32)
mutual
def Ex.okR : Ex → Bool
 | .mk k a b ps => Ex.okRs ps && fU k a b ps.length
def Ex.okRs : List Ex → Bool
 | [] => true
 | e :: es => e.okR && Ex.okRs es
end
mutual
def Ex.okP : Ex → Bool
 | .mk k a b ps => iZ k a b ps.length && Ex.okPs ps
def Ex.okPs : List Ex → Bool
 | [] => true
 | e :: es => e.okP && Ex.okPs es
end
def Ex.right (e : Ex) : Bool := e.okR && decide (e.depth ≤ 8) && decide (e.size ≤ 32)
mutual
theorem Ex.okP_eq : ∀ e : Ex, e.size ≤ 33 → e.okP = e.okR
 | .mk k a b ps, h => by
  simp only [Ex.size] at h
  have h1 := Ex.okPs_eq ps (by omega)
  have h2 := Ex.length_le_sizes ps
  simp only [Ex.okP, Ex.okR, h1, iZ]
  rw [show decide (ps.length ≤ 32) = true from by simp; omega, Bool.and_true, Bool.and_comm]
theorem Ex.okPs_eq : ∀ es : List Ex, Ex.sizes es ≤ 33 → Ex.okPs es = Ex.okRs es
 | [], _ => rfl
 | e :: es, h => by
  simp only [Ex.sizes] at h
  simp only [Ex.okPs, Ex.okRs, Ex.okP_eq e (by omega), Ex.okPs_eq es (by omega)]
end
theorem Ex.rightP_eq (e : Ex) : (e.okP && decide (e.depth ≤ 8) && decide (e.size ≤ 32)) = e.right := by
 unfold Ex.right
 by_cases h : e.size ≤ 32
 ·rw [Ex.okP_eq e (by omega)]
 ·simp [h]
theorem Ex.okRs_append (a b : List Ex) : Ex.okRs (a ++ b) = (Ex.okRs a && Ex.okRs b) := by
 induction a with
 | nil => simp [Ex.okRs]
 | cons e es ih => simp only [List.cons_append, Ex.okRs, ih, Bool.and_assoc]
theorem Ex.okRs_take (ps : List Ex) (k : Nat) (h : k < ps.length) : Ex.okRs (ps.take (k + 1)) = (Ex.okRs (ps.take k) && ps[k].okR) := by
 rw [dM ps k h, Ex.okRs_append]; simp [Ex.okRs]
theorem Ex.okRs_get (ps : List Ex) (k : Nat) (h : k < ps.length) (h0 : Ex.okRs ps = true) : ps[k].okR = true := by
 have := Ex.okRs_append (ps.take (k + 1)) (ps.drop (k + 1))
 rw [List.take_append_drop, Ex.okRs_take ps k h, h0] at this
 revert this; cases ps[k].okR <;> simp
theorem Ex.okRs_false (ps : List Ex) (k : Nat) (h : k < ps.length) (h0 : ps[k].okR = false) : Ex.okRs ps = false := by
 have := Ex.okRs_append (ps.take (k + 1)) (ps.drop (k + 1))
 rw [List.take_append_drop, Ex.okRs_take ps k h, h0] at this
 simpa using this
theorem Ex.okPs_iff (ps : List Ex) : Ex.okPs ps = ps.all Ex.okP := by
 induction ps with
 | nil => rfl
 | cons e es ih => simp [Ex.okPs, ih]
def Fj (k : Int) (a b cnt n x v : Nat) : Bool :=
 if k = 1 then true
 else if k = 2 then decide (x ≤ a)
 else if k = 3 then decide (v ≤ a)
 else if k = 4 then v % a == b
 else if k = 5 then cnt == 0
 else if k = 6 then cnt == n
 else decide (0 < cnt)
mutual
def Ex.asks (x v : Nat) : Ex → Bool
 | .mk k a b ps => Fj k a b (Ex.asked x v ps) ps.length x v
def Ex.asked (x v : Nat) : List Ex → Nat
 | [] => 0
 | e :: es => (if e.asks x v then 1 else 0) + Ex.asked x v es
end
mutual
def Ex.same : Ex → Ex → Bool
 | .mk k a b ps, .mk k' a' b' ps' => decide (k = k') && decide (a = a') && decide (b = b') && Ex.sames ps ps'
def Ex.sames : List Ex → List Ex → Bool
 | [], [] => true
 | e :: es, e' :: es' => e.same e' && Ex.sames es es'
 | [], _ :: _ => false
 | _ :: _, [] => false
end
mutual
theorem Ex.same_iff : ∀ e e' : Ex, e.same e' = true ↔ e = e'
 | .mk k a b ps, .mk k' a' b' ps' => by
  simp only [Ex.same, Bool.and_eq_true, decide_eq_true_eq, Ex.sames_iff ps ps', Ex.mk.injEq, and_assoc]
theorem Ex.sames_iff : ∀ e e' : List Ex, Ex.sames e e' = true ↔ e = e'
 | [], [] => by simp [Ex.sames]
 | e :: es, e' :: es' => by simp only [Ex.sames, Bool.and_eq_true, Ex.same_iff e e', Ex.sames_iff es es', List.cons.injEq]
 | [], _ :: _ => by simp [Ex.sames]
 | _ :: _, [] => by simp [Ex.sames]
end
theorem Ex.same_refl (e : Ex) : e.same e = true := (Ex.same_iff e e).2 rfl
instance : DecidableEq Ex := fun a b => decidable_of_iff _ (Ex.same_iff a b)
theorem Ex.sames_eq (e e' : List Ex) : Ex.sames e e' = decide (e = e') := by
 rw [Bool.eq_iff_iff, Ex.sames_iff]; simp
def Ex.zero : Ex := .mk 0 0 0 []
def vD (k : Int) (a b n : Nat) : List UInt8 :=
 (k % 256).toNat.toUInt8 :: ((if 2 ≤ k ∧ k ≤ 4 then dA a else []) ++ (if k = 4 then dA b else []) ++ (if 6 ≤ k then dA n else []))
mutual
def Ex.st : Ex → List UInt8
 | .mk k a b ps => vD k a b ps.length ++ Ex.sts ps
def Ex.sts : List Ex → List UInt8
 | [] => []
 | e :: es => e.st ++ Ex.sts es
end
theorem tT (k : Int) (a b n : Nat) : (vD k a b n).length ≤ 31 := by
 have h1 := dF a; have h2 := dF b; have h3 := dF n
 simp only [vD, List.length_cons, List.length_append]
 repeat' split
 all_goals simp_all <;> omega
mutual
theorem Ex.st_length : ∀ e : Ex, e.st.length ≤ 31 * e.size
 | .mk k a b ps => by
  have h1 := tT k a b ps.length
  have h2 := Ex.sts_length ps
  simp only [Ex.st, Ex.size, List.length_append]; omega
theorem Ex.sts_length : ∀ es : List Ex, (Ex.sts es).length ≤ 31 * Ex.sizes es
 | [] => by simp [Ex.sts]
 | e :: es => by
  have h1 := Ex.st_length e
  have h2 := Ex.sts_length es
  simp only [Ex.sts, Ex.sizes, List.length_append]; omega
end
def Ex.put (e : Ex) : List UInt8 := if e.right then e.st else []
def isD (c : UInt8) : Bool := decide (48 ≤ c.toNat) && decide (c.toNat ≤ 57)
def lT (acc : Nat) (l : List UInt8) : Nat := l.foldl (fun n c => n * 10 + (c.toNat - 48)) acc
def numOf (l : List UInt8) : Nat := lT 0 l
def rdNum (l : List UInt8) : Option (Nat × List UInt8) :=
 if l.takeWhile isD ≠ [] ∧ Lib.decDigits (numOf (l.takeWhile isD)) = l.takeWhile isD ∧ numOf (l.takeWhile isD) < 18446744073709551616 then some (numOf (l.takeWhile isD), l.dropWhile isD) else none
theorem jJ (acc : Nat) : lT acc [] = acc := by simp only [lT, List.foldl_nil]
theorem gZ (acc : Nat) (c : UInt8) (r : List UInt8) : lT acc (c :: r) = lT (acc * 10 + (c.toNat - 48)) r := by simp only [lT, List.foldl_cons]
theorem nK (a b : List UInt8) (acc : Nat) : lT acc (a ++ b) = lT (lT acc a) b := by
 induction a generalizing acc with
 | nil => rw [jJ, List.nil_append]
 | cons c a ih => rw [List.cons_append, gZ, gZ, ih]
theorem oP (a : List UInt8) (c : UInt8) : numOf (a ++ [c]) = numOf a * 10 + (c.toNat - 48) := by
 unfold numOf; rw [nK, gZ, jJ]
theorem zi (l : List UInt8) : ∀ acc, acc ≤ lT acc l := by
 induction l with
 | nil => intro acc; rw [jJ]; exact Nat.le_refl _
 | cons c l ih => intro acc; rw [gZ]; have := ih (acc * 10 + (c.toNat - 48)); omega
theorem gz (n : Nat) : ∀ c ∈ Lib.decDigits n, isD c = true := by
 induction n using Nat.strongRecOn with
 | _ n ih =>
  intro c hc
  rw [Lib.decDigits] at hc
  split at hc
  ·simp only [List.mem_singleton] at hc; subst hc
   simp [isD, UInt8.toNat_ofNat']; omega
  ·simp only [List.mem_append, List.mem_singleton] at hc
   rcases hc with hc | hc
   ·exact ih (n / 10) (by omega) c hc
   ·subst hc; simp [isD, UInt8.toNat_ofNat']; omega
theorem dJ (n : Nat) : numOf (Lib.decDigits n) = n := by
 induction n using Nat.strongRecOn with
 | _ n ih =>
  rw [Lib.decDigits]
  split
  ·unfold numOf; rw [gZ, jJ]; simp [UInt8.toNat_ofNat']; omega
  ·rw [oP, ih (n / 10) (by omega)]; simp [UInt8.toNat_ofNat']; omega
theorem gP (n : Nat) : Lib.decDigits n ≠ [] := by
 rw [Lib.decDigits]; split <;> simp
theorem gN {p : UInt8 → Bool} (a b : List UInt8) (ha : ∀ c ∈ a, p c = true) (hb : ∀ c, b.head? = some c → p c = false) : (a ++ b).takeWhile p = a ∧ (a ++ b).dropWhile p = b := by
 induction a with
 | nil =>
  cases b with
  | nil => simp
  | cons c b => have := hb c rfl; simp [this]
 | cons c a ih =>
  have h1 := ha c (by simp)
  have h2 := ih (fun d hd => ha d (by simp [hd]))
  simp [h1, h2.1, h2.2]
theorem ja (n : Nat) (h : n < 18446744073709551616) (r : List UInt8) (hr : ∀ c, r.head? = some c → isD c = false) : rdNum (Lib.decDigits n ++ r) = some (n, r) := by
 obtain ⟨h1, h2⟩ := gN (Lib.decDigits n) r (gz n) hr
 unfold rdNum
 rw [h1, h2, dJ, if_pos ⟨gP n, rfl, h⟩]
theorem iA {l r : List UInt8} {n : Nat} (h : rdNum l = some (n, r)) : l = Lib.decDigits n ++ r ∧ n < 18446744073709551616 ∧ (∀ c, r.head? = some c → isD c = false) := by
 unfold rdNum at h
 split at h
 ·rename_i hc
  simp only [Option.some.injEq, Prod.mk.injEq] at h
  obtain ⟨rfl, rfl⟩ := h
  refine ⟨by rw [hc.2.1, List.takeWhile_append_dropWhile], hc.2.2, fun c hcc => ?_⟩
  cases hd : l.dropWhile isD with
  | nil => rw [hd] at hcc; cases hcc
  | cons d t =>
   rw [hd] at hcc
   simp only [List.head?_cons, Option.some.injEq] at hcc
   subst hcc
   have := List.head?_dropWhile_not isD l
   rw [hd] at this
   simpa using this
 ·cases h
theorem lU (l : List UInt8) (hl : ∀ c ∈ l, isD c = true) : ∀ acc, acc < 18446744073709551616 → Lib.parseUintM 18446744073709551615 acc l = if lT acc l < 18446744073709551616 then .ok (lT acc l) else .range := by
 induction l with
 | nil => intro acc h; rw [Lib.parseUintM, jJ, if_pos h]
 | cons c l ih =>
  intro acc h
  have hc := hl c (by simp)
  simp only [isD, Bool.and_eq_true, decide_eq_true_eq] at hc
  have hg := zi l (acc * 10 + (c.toNat - 48))
  rw [Lib.parseUintM, gZ, if_pos hc]
  by_cases h1 : 1844674407370955162 ≤ acc
  ·rw [if_pos h1, if_neg (by omega)]
  ·rw [if_neg h1]
   by_cases h2 : 18446744073709551615 < acc * 10 + (c.toNat - 48)
   ·rw [if_pos h2, if_neg (by omega)]
   ·rw [if_neg h2]
    exact ih (fun d hd => hl d (by simp [hd])) _ (by omega)
theorem fV (l : List UInt8) (hl : ∀ c ∈ l, isD c = true) : Lib.parseUintB 64 l = if l = [] then Lib.parseUintB 64 [] else if numOf l < 18446744073709551616 then .ok (numOf l) else .range := by
 by_cases hl0 : l = []
 ·rw [if_pos hl0, hl0]
 ·rw [if_neg hl0]
  unfold Lib.parseUintB
  rw [if_neg hl0]
  exact lU l hl 0 (by omega)
theorem zN (c : UInt8) : ([48, 49, 50, 51, 52, 53, 54, 55, 56, 57] : List UInt8).contains c = isD c := by
 rw [Bool.eq_iff_iff]
 simp [isD, ← UInt8.toNat_inj]
 omega
theorem ou (l : List UInt8) : Lib.trimLeftS l [48, 49, 50, 51, 52, 53, 54, 55, 56, 57] = l.dropWhile isD := by
 unfold Lib.trimLeftS
 congr 1
 funext c
 exact zN c
theorem qW {p : UInt8 → Bool} (l : List UInt8) : ∀ c ∈ l.takeWhile p, p c = true := by
 induction l with
 | nil => simp
 | cons d l ih =>
  intro c hc
  simp only [List.takeWhile_cons] at hc
  split at hc
  ·simp only [List.mem_cons] at hc
   rcases hc with rfl | hc
   ·assumption
   ·exact ih c hc
  ·simp at hc
end Go.Proofs.YtlpgokcapdjgjaaGreatDoor
