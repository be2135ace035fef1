/- cert's reader's calls into a row of the call's own. -/
import Derived.Test.YtagnalfkmdjajaaGreatDoorY28
import Derived.Test.YtagnalfkmdjajaaGreatDoorYD06
namespace Go.Proofs.YtagnalfkmdjajaaGreatDoor
open Go.RowKit Go
set_option linter.unusedVariables false
set_option linter.unusedSimpArgs false
def bu (s : Option (List UInt8)) : Nat → List Nat × Option (List UInt8)
 | 0 => ([], s)
 | n + 1 => ((bu s n).1 ++ [(aB (bu s n).2).1], (aB (bu s n).2).2)
theorem gq (s : Option (List UInt8)) (n : Nat) : bu s (n + 1) = ((bu s n).1 ++ [(aB (bu s n).2).1], (aB (bu s n).2).2) := rfl
theorem fI (s : Option (List UInt8)) : ∀ n, (bu s n).1.length = n
 | 0 => rfl
 | n + 1 => by rw [gq]; simp [fI s n]
theorem kF (s : Option (List UInt8)) : ∀ n, ∀ x ∈ (bu s n).1, x < 18446744073709551616
 | 0, x, h => by simp [bu] at h
 | n + 1, x, h => by
  rw [gq] at h
  rcases List.mem_append.1 h with h | h
  ·exact kF s n x h
  ·simp only [List.mem_cons, List.not_mem_nil, or_false] at h
   subst h
   exact mY _
theorem nR {s : Option (List UInt8)} {r : List UInt8} (h : (aB s).2 = some r) : ∃ l, s = some l ∧ l = bi (aB s).1 ++ r := by
 cases s with
 | none => simp [aB] at h
 | some l =>
  cases hv : bX l with
  | none => rw [Ao hv] at h; cases h
  | some x =>
   obtain ⟨n, q⟩ := x
   rw [kV hv] at h ⊢
   simp only [Option.some.injEq] at h
   subst h
   exact ⟨l, rfl, (iy hv).1⟩
theorem jI (s : Option (List UInt8)) : ∀ n r, (bu s n).2 = some r → ∃ l, s = some l ∧ l = ae (bu s n).1 ++ r
 | 0, r, h => ⟨r, h, by simp [bu, ae]⟩
 | n + 1, r, h => by
  rw [gq] at h
  obtain ⟨l1, h1, h2⟩ := nR (s := (bu s n).2) h
  obtain ⟨l, h3, h4⟩ := jI s n l1 h1
  refine ⟨l, h3, ?_⟩
  rw [h4, h2, gq]
  simp [ae]
theorem kY (ns : List Nat) (hb : ∀ n ∈ ns, n < 18446744073709551616) : ∀ n, n ≤ ns.length → bu (some (ae ns)) n = (ns.take n, some (ae (ns.drop n)))
 | 0, _ => by simp [bu]
 | n + 1, h => by
  rw [gq, kY ns hb n (by omega)]
  have hd : ns.drop n = ns[n] :: ns.drop (n + 1) := List.drop_eq_getElem_cons (by omega)
  have hv : bX (ae (ns.drop n)) = some (ns[n], ae (ns.drop (n + 1))) := by
   rw [hd]
   have : ∀ (a : Nat) (t : List Nat), ae (a :: t) = bi a ++ ae t := fun a t => by simp [ae]
   rw [this]
   exact eU _ _ (hb _ (List.getElem_mem _))
  simp only [kV hv]
  rw [List.take_succ_eq_append_getElem (by omega)]
def lu (B : Nat → Nat → Bool) (b0 : Bool) (s : Option (List UInt8)) : Nat → Bool
 | 0 => b0
 | n + 1 => lu B b0 s n || B n (aB (bu s n).2).1
theorem BC (B : Nat → Nat → Bool) (b0 : Bool) (s : Option (List UInt8)) (n : Nat) : lu B b0 s (n + 1) = (lu B b0 s n || B n (aB (bu s n).2).1) := rfl
theorem iO (B : Nat → Nat → Bool) (b0 : Bool) (s : Option (List UInt8)) : ∀ n, lu B b0 s n = false ↔ b0 = false ∧ ∀ i x, (bu s n).1[i]? = some x → B i x = false
 | 0 => by simp [lu, bu]
 | n + 1 => by
  rw [BC, Bool.or_eq_false_iff, iO B b0 s n, gq]
  have hl := fI s n
  constructor
  ·rintro ⟨⟨h1, h2⟩, h3⟩
   refine ⟨h1, fun i x hx => ?_⟩
   by_cases hi : i < n
   ·rw [List.getElem?_append_left (by omega)] at hx; exact h2 i x hx
   ·by_cases he : i = n
    ·subst he
     rw [List.getElem?_append_right (by omega), hl, Nat.sub_self] at hx
     simp at hx
     subst hx; exact h3
    ·rw [List.getElem?_eq_none (by simp; omega)] at hx; cases hx
  ·rintro ⟨h1, h2⟩
   refine ⟨⟨h1, fun i x hx => h2 i x ?_⟩, h2 n _ ?_⟩
   ·have hi := (List.getElem?_eq_some_iff.1 hx).1
    rw [List.getElem?_append_left hi]; exact hx
   ·rw [List.getElem?_append_right (by omega), hl, Nat.sub_self]; rfl
def kG (f : Nat) : Bool := decide (f < 3) || f == 8
def iX (f : Nat) : Nat := if f = 8 then 1 else 0
def eZ (m x : Nat) : Int := IntKind.i64.wrap (IntKind.i64.wrap (x : Nat) - (m : Nat))
def Ei (f x : Nat) : Value := if kG f then .int .i64 (eZ (iX f) x) else .int .u64 (x : Nat)
def Dh (f : Nat) : Value := if kG f then .int .i64 0 else .int .u64 0
def mZ (_ x : Nat) : Bool := decide (9223372036854775807 + 0 < x)
def fA (p x : Nat) : Bool := kG (p % 9) && decide (9223372036854775807 + iX (p % 9) < x)
def edN : List Nat → Ed
 | [a, b, k, x, sw, sn, mw, mn, p] => ⟨eZ 0 a, eZ 0 b, eZ 0 k, x, sw, sn, mw, mn, eZ 1 p⟩
 | _ => ⟨0, 0, 0, 0, 0, 0, 0, 0, 0⟩
def nS (ns : List Nat) : List Ed := (List.range (ns.length / 9)).map fun i => edN ((ns.drop (i * 9)).take 9)
theorem iP (m x : Nat) : i64 (eZ m x) := by unfold eZ i64; rw [IntKind.wrap_i64]; omega
theorem nT {x : Nat} (h : x ≤ 9223372036854775807) : eZ 0 x = aj x := by
 unfold eZ aj
 rw [IntKind.wrap_i64, IntKind.wrap_i64, if_neg (by omega)]; omega
theorem EO {x : Nat} (h : x ≤ 9223372036854775808) : eZ 1 x = if x = 0 then -1 else aj (x - 1) := by
 unfold eZ aj
 rw [IntKind.wrap_i64, IntKind.wrap_i64]
 by_cases h0 : x = 0
 ·rw [if_pos h0]; omega
 ·rw [if_neg h0, if_neg (by omega)]; omega
def lw (F : Nat → Nat → Value) (z : Nat → Value) (l : List Nat) (p : Nat) : Value := match l[p]? with
 | some x => F p x
 | none => z p
theorem Di (M : Nat) (F : Nat → Nat → Value) (z : Nat → Value) (l : List Nat) (x : Nat) : (fK M (lw F z l)).set l.length (F l.length x) = fK M (lw F z (l ++ [x])) := by
 rw [wF]
 refine eH _ _ _ fun p _ => ?_
 unfold lw
 by_cases h : p = l.length
 ·subst h; simp
 ·rw [if_neg h]
  by_cases h2 : p < l.length
  ·rw [List.getElem?_append_left h2]
  ·rw [List.getElem?_eq_none (by omega), List.getElem?_eq_none (by simp; omega)]
def FO (_ x : Nat) : Value := .int .i64 (eZ 0 x)
def zO (_ : Nat) : Value := .int .i64 0
def FW (p x : Nat) : Value := Ei (p % 9) x
def zW (p : Nat) : Value := Dh (p % 9)
theorem Dj (l : List Nat) : fK l.length (lw FO zO l) = ints (l.map (eZ 0)) := by
 apply List.ext_getElem?
 intro p
 unfold ints fK
 by_cases h : p < l.length
 ·simp [h, lw, FO]
 ·simp [h]
theorem Ej {q : List Nat} (hq : q.length = 9) {f : Nat} (hf : f < 9) : (edN q).vals[f]? = some (Ei f (q.getD f 0)) := by
 match q, hq with
 | [a, b, k, x, sw, sn, mw, mn, p], _ =>
  match f, hf with
  | 0, _ => rfl
  | 1, _ => rfl
  | 2, _ => rfl
  | 3, _ => rfl
  | 4, _ => rfl
  | 5, _ => rfl
  | 6, _ => rfl
  | 7, _ => rfl
  | 8, _ => rfl
theorem oQ (l : List Nat) : (nS l).length = l.length / 9 := by simp [nS]
theorem Dk (l : List Nat) (n : Nat) (h : l.length = n * 9) : fK (n * 9) (lw FW zW l) = bD (nS l) := by
 have hn : (nS l).length = n := by rw [oQ, h]; omega
 apply List.ext_getElem?
 intro p
 by_cases hp : p < n * 9
 ·have hj : p / 9 < (nS l).length := by omega
  have e := uV (nS l) (p / 9) (p % 9) hj (by omega)
  rw [show p / 9 * 9 + p % 9 = p from by omega] at e
  have hq : ((l.drop (p / 9 * 9)).take 9).length = 9 := by simp; omega
  have hg : (nS l)[p / 9] = edN ((l.drop (p / 9 * 9)).take 9) := by simp [nS]
  rw [e, hg, Ej hq (by omega), uU _ _ _ hp]
  have hx : ((l.drop (p / 9 * 9)).take 9).getD (p % 9) 0 = l[p]'(by omega) := by
   rw [List.getD_eq_getElem?_getD, List.getElem?_take, if_pos (by omega), List.getElem?_drop, show p / 9 * 9 + p % 9 = p from by omega, List.getElem?_eq_getElem (by omega)]; rfl
  rw [hx]
  unfold lw FW
  rw [List.getElem?_eq_getElem (by omega)]
 ·rw [List.getElem?_eq_none (by rw [qo]; omega), List.getElem?_eq_none (by rw [jW]; omega)]
def iQ (k : Int) (s : Option (List UInt8)) : List Nat × Option (List UInt8) × Bool :=
 if k = 1 then ((aG s).1 :: (bu (aB s).2 (aG s).1).1, (bu (aB s).2 (aG s).1).2, lu mZ (aG s).2 (aB s).2 (aG s).1)
 else if k = 4 then ((aG s).1 :: (bu (aB s).2 ((aG s).1 * 9)).1, (bu (aB s).2 ((aG s).1 * 9)).2, lu fA (aG s).2 (aB s).2 ((aG s).1 * 9))
 else ((bu s 2).1, (bu s 2).2, lu mZ false s 2)
def bQ (k : Int) (s : Option (List UInt8)) : Crt :=
 if k = 1 then ⟨k, (bu (aB s).2 (aG s).1).1.map (eZ 0), 0, 0, []⟩
 else if k = 4 then ⟨k, [], 0, 0, nS (bu (aB s).2 ((aG s).1 * 9)).1⟩
 else ⟨k, [], eZ 0 (aB s).1, eZ 0 (aB (aB s).2).1, []⟩
theorem Dl {q : List Nat} (h : ∀ x ∈ q, x < 18446744073709551616) : (edN q).nums := by
 unfold edN
 split
 ·simp only [List.mem_cons, List.not_mem_nil, or_false, forall_eq_or_imp, forall_eq] at h
  obtain ⟨h0, h1, h2, h3, h4, h5, h6, h7, h8⟩ := h
  exact ⟨iP _ _, iP _ _, iP _ _, h3, h4, h5, h6, h7, iP _ _⟩
 ·have z : i64 0 := by unfold i64; omega
  exact ⟨z, z, z, by decide, by decide, by decide, by decide, by decide, z⟩
theorem rX {k : Int} (hk : i64 k) (s : Option (List UInt8)) : (bQ k s).nums := by
 have z : i64 0 := by unfold i64; omega
 unfold bQ
 split
 ·refine ⟨hk, z, z, fun n hn => ?_, fun e he => absurd he (by simp)⟩
  obtain ⟨x, _, rfl⟩ := List.mem_map.1 hn
  exact iP _ _
 ·split
  ·refine ⟨hk, z, z, fun n hn => absurd hn (by simp), fun e he => ?_⟩
   obtain ⟨i, _, rfl⟩ := List.mem_map.1 he
   exact Dl fun x hx => kF _ _ x (List.mem_of_mem_drop (List.mem_of_mem_take hx))
  ·exact ⟨hk, iP _ _, iP _ _, fun n hn => absurd hn (by simp), fun e he => absurd he (by simp)⟩
theorem Dm {q : List Nat} (hq : q.length = 9) (h : ∀ f, f < 9 → fA f (q.getD f 0) = false) : edN q = jH q ∧ (jH q).pays = q := by
 match q, hq with
 | [a, b, k, x, sw, sn, mw, mn, p], _ =>
  have h0 : ¬ 9223372036854775807 < a := by simpa [fA, kG, iX] using h 0 (by omega)
  have h1 : ¬ 9223372036854775807 < b := by simpa [fA, kG, iX] using h 1 (by omega)
  have h2 : ¬ 9223372036854775807 < k := by simpa [fA, kG, iX] using h 2 (by omega)
  have h8 : ¬ 9223372036854775808 < p := by simpa [fA, kG, iX] using h 8 (by omega)
  constructor
  ·unfold edN jH
   simp only
   rw [nT (by omega), nT (by omega), nT (by omega), EO (by omega)]
  ·unfold jH Ed.pays
   simp only [List.cons.injEq, and_true, true_and]
   unfold aj
   rw [if_neg h0, if_neg h1, if_neg h2]
   refine ⟨by omega, by omega, by omega, ?_⟩
   by_cases hp : p = 0
   ·rw [if_pos hp]; omega
   ·rw [if_neg hp, if_neg (by omega)]; omega
theorem Dn (l : List Nat) : ∀ m, m * 9 ≤ l.length → (List.range m).flatMap (fun i => (l.drop (i * 9)).take 9) = l.take (m * 9)
 | 0, _ => by simp
 | m + 1, h => by
  rw [List.range_succ, List.flatMap_append, Dn l m (by omega), show (m + 1) * 9 = m * 9 + 9 from by omega, List.take_add]
  simp
theorem BD {l : List Nat} {n : Nat} (hl : l.length = n * 9) (h : ∀ i x, l[i]? = some x → fA i x = false) : nS l = cu l ∧ (cu l).flatMap Ed.pays = l ∧ (cu l).length = n := by
 have key : ∀ i, i < n → edN ((l.drop (i * 9)).take 9) = jH ((l.drop (i * 9)).take 9) ∧ (jH ((l.drop (i * 9)).take 9)).pays = (l.drop (i * 9)).take 9 := fun i hi => by
  refine Dm (by simp; omega) fun f hf => ?_
  have hx : ((l.drop (i * 9)).take 9).getD f 0 = l[i * 9 + f]'(by omega) := by
   rw [List.getD_eq_getElem?_getD, List.getElem?_take, if_pos (by omega), List.getElem?_drop, List.getElem?_eq_getElem (by omega)]; rfl
  have := h (i * 9 + f) (l[i * 9 + f]'(by omega)) (List.getElem?_eq_getElem _)
  rw [hx]
  unfold fA at this ⊢
  rw [show (i * 9 + f) % 9 = f % 9 from by omega] at this
  exact this
 have hn : l.length / 9 = n := by omega
 refine ⟨?_, ?_, by simp [cu, hn]⟩
 ·unfold nS cu
  rw [hn]
  exact List.map_congr_left fun i hi => (key i (List.mem_range.1 hi)).1
 ·unfold cu
  rw [hn, List.flatMap_map, ← List.take_length (l := l), hl]
  rw [show l.take (n * 9) = (List.range n).flatMap (fun i => (l.drop (i * 9)).take 9) from (Dn l n (by omega)).symm]
  have : ∀ m, m ≤ n → (List.range m).flatMap (fun i => (jH ((l.drop (i * 9)).take 9)).pays) = (List.range m).flatMap (fun i => (l.drop (i * 9)).take 9) := by
   intro m
   induction m with
   | zero => intro _; rfl
   | succ m ih =>
    intro hm
    rw [List.range_succ, List.flatMap_append, List.flatMap_append, ih (by omega)]
    simp [(key m (by omega)).2]
  have e : (List.range n).flatMap (fun i => (l.drop (i * 9)).take 9) = l := by rw [Dn l n (by omega), ← hl, List.take_length]
  rw [e]
  exact (this n nl).trans e
theorem Ay {s : Option (List UInt8)} {r : List UInt8} (h : (aB s).2 = some r) (hb : (aG s).2 = false) : (aG s).1 = (aB s).1 ∧ (aB s).1 ≤ r.length := by
 unfold aG at hb ⊢
 rw [h] at hb ⊢
 simp only at hb ⊢
 split at hb
 ·cases hb
 ·rename_i hc; rw [if_neg hc]; exact ⟨rfl, by omega⟩
theorem Ew {k : Int} {l : List UInt8} (hk : 1 ≤ k ∧ k < 5) (hb : (iQ k (some l)).2.2 = false) (hs : (iQ k (some l)).2.1 = some []) :
  bQ k (some l) = bL k (iQ k (some l)).1 ∧ (bL k (iQ k (some l)).1).pays = (iQ k (some l)).1 ∧ l = ae (iQ k (some l)).1 ∧ ∀ n ∈ (iQ k (some l)).1, n < 18446744073709551616 := by
 unfold iQ at hb hs ⊢
 unfold bQ
 by_cases h1 : k = 1
 ·subst h1
  simp only [if_true] at hb hs ⊢
  obtain ⟨b1, b2⟩ := (iO _ _ _ _).1 hb
  obtain ⟨l1, e1, e2⟩ := jI _ _ _ hs
  obtain ⟨l0, e3, e4⟩ := nR e1
  injection e3 with e3
  subst e3
  have hm := Ay e1 b1
  have hl := fI (aB (some l)).2 (aG (some l)).1
  have hlt := kF (aB (some l)).2 (aG (some l)).1
  rw [List.append_nil] at e2
  have h63 : ∀ x ∈ (bu (aB (some l)).2 (aG (some l)).1).1, x ≤ 9223372036854775807 := fun x hx => by
   obtain ⟨i, hi, rfl⟩ := List.mem_iff_getElem.1 hx
   have := b2 i _ (List.getElem?_eq_getElem hi)
   simp only [mZ, decide_eq_false_iff_not] at this
   omega
  have hx := mY (some l)
  rw [← hm.1] at e4 hx
  rw [e2] at e4
  generalize (bu (aB (some l)).2 (aG (some l)).1).1 = ns at hl hlt h63 e4 ⊢
  generalize (aG (some l)).1 = n at hl e4 hx ⊢
  refine ⟨?_, ?_, ?_, ?_⟩
  ·unfold bL
   rw [if_pos rfl, List.drop_succ_cons, List.drop_zero]
   congr 1
   exact List.map_congr_left fun x h => nT (h63 x h)
  ·unfold bL Crt.pays
   simp only [if_true, List.drop_succ_cons, List.drop_zero, List.length_map, List.map_map, hl]
   congr 1
   conv => rhs; rw [← List.map_id ns]
   apply List.map_congr_left
   intro x h
   have := h63 x h
   simp only [Function.comp, aj, id]
   rw [if_neg (by omega)]; omega
  ·rw [e4]; simp [ae]
  ·intro x h
   rcases List.mem_cons.1 h with rfl | h
   ·exact hx
   ·exact hlt x h
 ·by_cases h4 : k = 4
  ·subst h4
   simp only [if_neg h1, if_true] at hb hs ⊢
   obtain ⟨b1, b2⟩ := (iO _ _ _ _).1 hb
   obtain ⟨l1, e1, e2⟩ := jI _ _ _ hs
   obtain ⟨l0, e3, e4⟩ := nR e1
   injection e3 with e3
   subst e3
   have hm := Ay e1 b1
   have hl := fI (aB (some l)).2 ((aG (some l)).1 * 9)
   have hlt := kF (aB (some l)).2 ((aG (some l)).1 * 9)
   rw [List.append_nil] at e2
   have hx := mY (some l)
   rw [← hm.1] at e4 hx
   rw [e2] at e4
   have hg := BD hl b2
   generalize (bu (aB (some l)).2 ((aG (some l)).1 * 9)).1 = ns at hl hlt e4 hg ⊢
   generalize (aG (some l)).1 = n at hl e4 hx hg ⊢
   refine ⟨?_, ?_, ?_, ?_⟩
   ·unfold bL
    rw [if_neg h1, if_pos rfl, List.drop_succ_cons, List.drop_zero, hg.1]
   ·unfold bL Crt.pays
    simp only [if_neg h1, if_true, List.drop_succ_cons, List.drop_zero, hg.2.1, hg.2.2]
   ·rw [e4]; simp [ae]
   ·intro x h
    rcases List.mem_cons.1 h with rfl | h
    ·exact hx
    ·exact hlt x h
  ·simp only [if_neg h1, if_neg h4] at hb hs ⊢
   obtain ⟨_, b2⟩ := (iO _ _ _ _).1 hb
   obtain ⟨l1, e1, e2⟩ := jI _ _ _ hs
   injection e1 with e1
   subst e1
   have hlt := kF (some l) 2
   rw [List.append_nil] at e2
   have e0 : (bu (some l) 2).1 = [(aB (some l)).1, (aB (aB (some l)).2).1] := rfl
   rw [e0] at b2 e2 hlt ⊢
   have x0 := b2 0 _ rfl
   have x1 := b2 1 _ rfl
   simp only [mZ, decide_eq_false_iff_not] at x0 x1
   generalize (aB (some l)).1 = a at x0 b2 e2 hlt ⊢
   generalize (aB (aB (some l)).2).1 = b at x1 b2 e2 hlt ⊢
   have hw : ∀ x : Nat, ¬ 9223372036854775807 + 0 < x → aj x = (x : Int) := fun x hx => by unfold aj; rw [if_neg (by omega)]
   refine ⟨?_, ?_, e2, hlt⟩
   ·unfold bL
    rw [if_neg h1, if_neg h4, nT (by omega), nT (by omega)]
   ·unfold bL Crt.pays
    simp only [if_neg h1, if_neg h4, hw a x0, hw b x1]
    simp
theorem oU : ∀ (w : List Ed), (∀ e ∈ w, e.nums) → (∀ e ∈ w, e.ok) → ∀ i x, (w.flatMap Ed.pays)[i]? = some x → fA i x = false
 | [], _, _, i, x, h => by simp at h
 | e :: w, hn, ho, i, x, h => by
  rw [List.flatMap_cons] at h
  have h9 : e.pays.length = 9 := rfl
  by_cases hi : i < 9
  ·rw [List.getElem?_append_left (by omega)] at h
   obtain ⟨b0, b1, b2, b3, b4, b5, b6, b7, b8⟩ := hn e (by simp)
   obtain ⟨o1, o2, o3, o4, o5⟩ := ho e (by simp)
   unfold i64 at b0 b1 b2 b8
   match i, hi, h with
   | 0, _, h => simp [Ed.pays] at h; subst h; simp [fA, kG, iX]; omega
   | 1, _, h => simp [Ed.pays] at h; subst h; simp [fA, kG, iX]; omega
   | 2, _, h => simp [Ed.pays] at h; subst h; simp [fA, kG, iX]; omega
   | 3, _, h => rfl
   | 4, _, h => rfl
   | 5, _, h => rfl
   | 6, _, h => rfl
   | 7, _, h => rfl
   | 8, _, h => simp [Ed.pays] at h; subst h; simp [fA, kG, iX]; omega
  ·rw [List.getElem?_append_right (by omega), h9] at h
   have := oU w (fun d hd => hn d (by simp [hd])) (fun d hd => ho d (by simp [hd])) (i - 9) x h
   unfold fA at this ⊢
   rwa [show (i - 9) % 9 = i % 9 from by omega] at this
theorem EP {q : Crt} (hr : q.right = true) (hn : q.nums) : iQ q.k (some (ae q.pays)) = (q.pays, some [], false) := by
 obtain ⟨r1, r2, r3, r4, r5, r6, r7, r8, r9, r10, r11⟩ := Crt.nil_of hr
 have hp := Crt.pays_u64 hr hn
 obtain ⟨n1, n2, n3, n4, n5⟩ := hn
 unfold i64 at n2 n3
 obtain ⟨k, o, p, q, w⟩ := q
 simp only at *
 have many : ∀ (n : Nat) (ns : List Nat), n < 18446744073709551616 → n ≤ (ae ns).length → aG (some (ae (n :: ns))) = (n, false) ∧ aB (some (ae (n :: ns))) = (n, some (ae ns)) := fun n ns h1 h2 => by
  have e : ae (n :: ns) = bi n ++ ae ns := by simp [ae]
  have hv : aB (some (ae (n :: ns))) = (n, some (ae ns)) := by rw [e]; exact kV (eU n _ h1)
  refine ⟨?_, hv⟩
  unfold aG
  rw [hv]
  simp only
  rw [if_neg (by omega)]
 unfold iQ
 by_cases h1 : k = 1
 ·subst h1
  simp only [if_true]
  have hp' := hp
  unfold Crt.pays at hp ⊢
  simp only [if_true] at hp ⊢
  have hge := kE (o.map Int.toNat) (fun n hn => hp n (by simp only [List.mem_cons]; exact .inr hn))
  obtain ⟨m1, m2⟩ := many o.length (o.map Int.toNat) (by omega) (by simpa using hge)
  have ht := kY (o.map Int.toNat) (fun n hn => hp n (by simp only [List.mem_cons]; exact .inr hn)) o.length (by simp)
  rw [List.take_of_length_le (by simp), List.drop_of_length_le (by simp)] at ht
  have hbad : lu mZ false (some (ae (o.map Int.toNat))) o.length = false := (iO _ _ _ _).2 ⟨rfl, fun i x hx => by
   rw [ht] at hx
   have := List.mem_of_getElem? hx
   obtain ⟨n, hm, rfl⟩ := List.mem_map.1 this
   have := n4 n hm
   unfold i64 at this
   simp only [mZ, decide_eq_false_iff_not]; omega⟩
  rw [m1, m2]
  simp only [ht, hbad]
  rfl
 ·by_cases h4 : k = 4
  ·subst h4
   simp only [if_neg h1, if_true]
   unfold Crt.pays at hp ⊢
   simp only [if_neg h1, if_true] at hp ⊢
   have hpl := dz w
   have hge := kE (w.flatMap Ed.pays) (fun n hn => hp n (by simp only [List.mem_cons]; exact .inr hn))
   obtain ⟨m1, m2⟩ := many w.length (w.flatMap Ed.pays) (by omega) (by omega)
   have ht := kY (w.flatMap Ed.pays) (fun n hn => hp n (by simp only [List.mem_cons]; exact .inr hn)) (w.length * 9) (by omega)
   rw [List.take_of_length_le (by omega), List.drop_of_length_le (by omega)] at ht
   have hbad : lu fA false (some (ae (w.flatMap Ed.pays))) (w.length * 9) = false := (iO _ _ _ _).2 ⟨rfl, fun i x hx => by
    rw [ht] at hx
    exact oU w n5 r9 i x hx⟩
   rw [m1, m2]
   simp only [ht, hbad]
   rfl
  ·simp only [if_neg h1, if_neg h4]
   unfold Crt.pays at hp ⊢
   simp only [if_neg h1, if_neg h4] at hp ⊢
   have ht := kY [p.toNat, q.toNat] hp 2 (by simp)
   have hbad : lu mZ false (some (ae [p.toNat, q.toNat])) 2 = false := (iO _ _ _ _).2 ⟨rfl, fun i x hx => by
    rw [ht] at hx
    have := List.mem_of_getElem? hx
    simp at this
    simp only [mZ, decide_eq_false_iff_not]
    rcases this with rfl | rfl <;> omega⟩
   rw [ht, hbad]
   rfl
theorem nU {b : List UInt8} (h : (aO b).rule = 0) : b.take (aO b).len = aS (aO b).kind (aO b).pay := by
 unfold aO at h ⊢
 cases b with
 | nil => simp [Frm.no] at h
 | cons k r =>
  simp only at h ⊢
  by_cases h1 : dn r = 10
  ·rw [if_pos h1] at h; simp [Frm.no] at h
  ·rw [if_neg h1] at h ⊢
   cases hv : bX r with
   | none => rw [hv] at h; simp [Frm.no] at h
   | some x =>
    rw [hv] at h
    simp only at h ⊢
    by_cases h2 : x.2.length < x.1 + 4
    ·rw [if_pos h2] at h; simp [Frm.no] at h
    ·rw [if_neg h2] at h ⊢
     by_cases h3 : (k :: r).take (aS k.toNat (x.2.take x.1)).length = aS k.toNat (x.2.take x.1)
     ·rw [if_pos h3]; exact h3
     ·rw [if_neg h3] at h; simp [Frm.no] at h
theorem xM {b : List UInt8} (h0 : (aO b).rule = 0) (hl : (aO b).len = b.length) (hk : 17 ≤ (aO b).kind ∧ (aO b).kind ≤ 20) :
  crtParse b = if ((iQ (((aO b).kind : Int) - 16) (some (aO b).pay)).2.2 = false ∧ (iQ (((aO b).kind : Int) - 16) (some (aO b).pay)).2.1 = some []) ∧ (bQ (((aO b).kind : Int) - 16) (some (aO b).pay)).right = true then some (bQ (((aO b).kind : Int) - 16) (some (aO b).pay)) else none := by
 have hk' : 1 ≤ ((aO b).kind : Int) - 16 ∧ ((aO b).kind : Int) - 16 < 5 := by omega
 have hb := nU h0
 rw [hl, List.take_length] at hb
 split
 ·rename_i h
  obtain ⟨⟨h1, h2⟩, h3⟩ := h
  obtain ⟨e1, e2, e3, e4⟩ := Ew hk' h1 h2
  refine dX.2 ⟨h3, rX (by unfold i64; omega) _, ?_⟩
  have hkk : (bL (((aO b).kind : Int) - 16) (iQ (((aO b).kind : Int) - 16) (some (aO b).pay)).1).k = ((aO b).kind : Int) - 16 := by
   unfold bL; split <;> (try split) <;> (try split) <;> rfl
  rw [e1]
  unfold Crt.bytes
  rw [e2, hkk, ← e3, show 16 + (((aO b).kind : Int) - 16).toNat = (aO b).kind from by omega]
  exact hb.symm
 ·rename_i h
  refine dY fun q h1 h2 h3 => h ?_
  obtain ⟨_, _, _, r4, r5, _⟩ := Crt.nil_of h1
  have g := mU h1
  rw [h3] at g
  rw [g]
  simp only
  rw [show (((16 + q.k.toNat : Nat) : Int) - 16) = q.k from by omega]
  have hp := EP h1 h2
  have ho := Ew (l := ae q.pays) ⟨r4, r5⟩ (by rw [hp]) (by rw [hp])
  rw [hp] at ho ⊢
  rw [ho.1, rR h1 h2]
  exact ⟨⟨rfl, rfl⟩, h1⟩
theorem Kx.of_rg {X : Nat → Prop} {rb : Nat} {w w' : World} (h : Rg rb w w') (hX : X rb) : Kx X w w' := ⟨h.os, h.tape, h.output, h.size, fun b hb hn => h.keep b hb (fun e => hn (by rw [e]; exact hX))⟩
def ng (sv : Value) (b : Nat) : Prop := ∀ bl off k n c, sv = .slice (some ⟨bl, off, k⟩) n c → bl ≠ b
theorem VrS.kx {X : Nat → Prop} {w w' : World} {rb : Nat} {l : List UInt8} {sv : Value} {s : Option (List UInt8)} (h : VrS w rb l sv s) (hk : Kx X w w') (hr : ¬ X rb) (ho : ∀ b, X b → ng sv b) : VrS w' rb l sv s := by
 obtain ⟨a, e, ⟨h1, ⟨l1, l2, ad, cap, hv, hc, hx⟩, h3⟩, h4⟩ := h
 refine ⟨a, e, ⟨(hk.keep rb (Array.getElem?_eq_some_iff.1 h1).1 hr).trans h1, ⟨l1, l2, ad, cap, hv, hc, fun hn => ?_⟩, h3⟩, h4⟩
 obtain ⟨bl, off, ha, hS, hj⟩ := hx hn
 have hpos : 0 < (bytes l).length := by rw [l1]; omega
 have hlt := World.block_lt_of_cell? w ⟨bl, off + 0, none⟩ (hj 0 hpos).1
 have hb := hk.keep bl hlt (fun hX => ho bl hX bl off none _ _ (by rw [hv, ha]) rfl)
 exact ⟨bl, off, ha, hS, fun j hjl => ⟨by rw [World.cell?_of_block (w := w) (a := ⟨bl, off + j, none⟩) hb]; exact (hj j hjl).1, fun ho => by rw [World.frozen?_of_block (w := w) (a := ⟨bl, off + j, none⟩) hb]; exact (hj j hjl).2 ho⟩⟩
structure RD (rd rb : Nat) (l : List UInt8) (sv : Value) (s : Option (List UInt8)) (bad : Bool) (w : World) : Prop where
 row : w.heap[rd]? = some (.cells #[.pointer (some ⟨rb, 0, none⟩), .bool bad] 84 (0, 0))
 vr : VrS w rb l sv s
 ne : rd ≠ rb
 off : ng sv rd
theorem RD.lt {rd rb : Nat} {l : List UInt8} {sv : Value} {s : Option (List UInt8)} {bad : Bool} {w : World} (h : RD rd rb l sv s bad w) : rd < w.heap.size ∧ rb < w.heap.size := ⟨(Array.getElem?_eq_some_iff.1 h.row).1, h.vr.lt⟩
theorem RD.kx {X : Nat → Prop} {rd rb : Nat} {l : List UInt8} {sv : Value} {s : Option (List UInt8)} {bad : Bool} {w w' : World} (h : RD rd rb l sv s bad w) (hk : Kx X w w') (h1 : ¬ X rd) (h2 : ¬ X rb) (h3 : ∀ b, X b → ng sv b) : RD rd rb l sv s bad w' :=
 ⟨(hk.keep rd h.lt.1 h1).trans h.row, h.vr.kx hk h2 h3, h.ne, h.off⟩
theorem RD.below {rd rb : Nat} {l : List UInt8} {sv : Value} {s : Option (List UInt8)} {bad : Bool} {w w' : World} (h : RD rd rb l sv s bad w) (hb : Below w.heap.size w w') : RD rd rb l sv s bad w' := h.kx (X := fun _ => False) (Kx.of_below hb) (fun h => h) (fun h => h) (fun _ h => h.elim)
structure tq (rd rb : Nat) (l : List UInt8) (sv : Value) (s : Option (List UInt8)) (bad : Bool) (nb no : Nat) (v : Value) (w w' : World) : Prop where
 rs : RD rd rb l sv s bad w'
 kx : Kx (fun b => b = rd ∨ b = rb ∨ b = nb) w w'
 at' : w'.heap[nb]? = (w.setCell ⟨nb, no, none⟩ v).heap[nb]?
theorem tq.from_below {rd rb : Nat} {l : List UInt8} {sv : Value} {s : Option (List UInt8)} {bad : Bool} {nb no : Nat} {v : Value} {w w1 w' : World} (h : tq rd rb l sv s bad nb no v w1 w') (hb : Below w.heap.size w w1) (hn : nb < w.heap.size) : tq rd rb l sv s bad nb no v w w' :=
 ⟨h.rs, (Kx.of_below hb).trans h.kx, h.at'.trans (fD v (hb.block nb hn))⟩
theorem gI {rd rb : Nat} {l : List UInt8} {sv : Value} {s : Option (List UInt8)} {bad : Bool} {w : World} (nb no m : Nat) (x0 : Value) (h : RD rd rb l sv s bad w) (hnb : nb ≠ rb) (hnd : nb ≠ rd) (ho : ng sv nb) (hm : m ≤ 1)
  (hn : w.cell? ⟨nb, no, none⟩ = some x0) (hf : w.frozen? ⟨nb, no, none⟩ = false) (hx : x0.oneCell' = true) :
  Calls Tryz.prog 175 #[.pointer (some ⟨rd, 0, none⟩), .pointer (some ⟨nb, no, none⟩), .int .i64 (m : Nat)] w fun e w' => e = .returned (.tuple #[]) ∧ tq rd rb l sv (aB s).2 (bad || decide (9223372036854775807 + m < (aB s).1)) nb no (.int .i64 (eZ m (aB s).1)) w w' := by
 refine (xL rd rb nb no m l sv s bad x0 w h.row h.vr h.ne hnb hnd hm hn hf hx).mono ?_
 rintro e w' ⟨rfl, w2, hg, hv, rfl⟩
 have hr2 := (hg.keep rd h.lt.1 h.ne).trans h.row
 have hnl := World.block_lt_of_cell? w _ hn
 have k1 : Kx (fun b => b = rd ∨ b = nb) w2 ((w2.setCell ⟨rd, 1, none⟩ (.bool (bad || decide (9223372036854775807 + m < (aB s).1)))).setCell ⟨nb, no, none⟩ (.int .i64 (eZ m (aB s).1))) := ((Kx.refl _ _).setCell (.inl rfl) _).setCell (.inr rfl) _
 refine ⟨rfl, ⟨?_, hv.kx k1 (fun hX => hX.elim (fun e => h.ne e.symm) (fun e => hnb e.symm)) (fun b hX => hX.elim (fun e => e ▸ h.off) (fun e => e ▸ ho)), h.ne, h.off⟩, (Kx.of_rg hg (.inr (.inl rfl))).trans (k1.wider fun b _ hX => hX.elim .inl fun e => .inr (.inr e)), ?_⟩
 ·rw [Below.heap_setCell _ _ _ _ (fun e => hnd e.symm)]
  exact aQ hr2 rfl
 ·refine fD _ ?_
  rw [Below.heap_setCell _ _ _ _ hnd]
  exact hg.keep nb hnl hnb
theorem zG {rd rb : Nat} {l : List UInt8} {sv : Value} {s : Option (List UInt8)} {bad : Bool} {w : World} (nb no : Nat) (x0 : Value) (h : RD rd rb l sv s bad w) (hnb : nb ≠ rb) (hnd : nb ≠ rd) (ho : ng sv nb)
  (hn : w.cell? ⟨nb, no, none⟩ = some x0) (hf : w.frozen? ⟨nb, no, none⟩ = false) (hx : x0.oneCell' = true) :
  Calls Tryz.prog 173 #[.pointer (some ⟨rd, 0, none⟩), .pointer (some ⟨nb, no, none⟩)] w fun e w' => e = .returned (.tuple #[]) ∧ tq rd rb l sv (aB s).2 bad nb no (.int .u64 ((aB s).1 : Nat)) w w' := by
 refine (zD rd rb nb no l sv s bad x0 w h.row h.vr hnb hn hf hx).mono ?_
 rintro e w' ⟨rfl, w2, hg, hv, rfl⟩
 have hr2 := (hg.keep rd h.lt.1 h.ne).trans h.row
 have hnl := World.block_lt_of_cell? w _ hn
 have k1 : Kx (fun b => b = nb) w2 (w2.setCell ⟨nb, no, none⟩ (.int .u64 ((aB s).1 : Nat))) := Kx.one _ _ _ _
 refine ⟨rfl, ⟨?_, hv.kx k1 (fun e => hnb e.symm) (fun b e => e ▸ ho), h.ne, h.off⟩, (Kx.of_rg hg (.inr (.inl rfl))).trans (k1.wider fun b _ e => .inr (.inr e)), fD _ (hg.keep nb hnl hnb)⟩
 rw [Below.heap_setCell _ _ _ _ (fun e => hnd e.symm)]
 exact hr2
theorem rY {rd rb : Nat} {l : List UInt8} {sv : Value} {s : Option (List UInt8)} {w : World} (z : Int) (h : RD rd rb l sv s false w) :
  Calls Tryz.prog 174 #[.pointer (some ⟨rd, 0, none⟩), .int .i64 z] w fun e w' => e = .returned (.int .i64 ((aG s).1 : Nat)) ∧ RD rd rb l sv (aB s).2 (aG s).2 w' ∧ Kx (fun b => b = rd ∨ b = rb) w w' := by
 refine (zF rd rb z l sv s false w h.row h.vr h.ne).mono ?_
 rintro e w' ⟨rfl, w2, hg, hv, rfl⟩
 have hr2 := (hg.keep rd h.lt.1 h.ne).trans h.row
 refine ⟨rfl, ?_⟩
 unfold Aw
 cases hb : (aG s).2 with
 | false => exact ⟨⟨hr2, hv, h.ne, h.off⟩, Kx.of_rg hg (.inr rfl)⟩
 | true =>
  have k1 : Kx (fun b => b = rd) w2 (w2.setCell ⟨rd, 1, none⟩ (.bool true)) := Kx.one _ _ _ _
  exact ⟨⟨aQ hr2 rfl, hv.kx k1 (fun e => h.ne e.symm) (fun b e => e ▸ h.off), h.ne, h.off⟩, (Kx.of_rg hg (.inr rfl)).trans (k1.wider fun b _ e => .inl e)⟩
theorem zH (S : Nat → Prop) (own : Bool) (l : List UInt8) (v : Value) (w : World) (hr : au w S own l v) (hl : l.length ≤ 1000000) :
  Calls Tryz.prog 36 #[v] w fun e w' => ∃ rb sv, e = .returned (.pointer (some ⟨rb, 0, none⟩)) ∧ VrS w' rb l sv (some l) ∧ w.heap.size ≤ rb ∧ (∀ b, b < w.heap.size ∨ w'.heap.size ≤ b → ng sv b) ∧ Below w.heap.size w w' := by
 have HC := hid (iH S own l v w hr (by omega))
 clear hr
 go_enter Tryz.func36, Tryz.ntmps36
 go_wp2_with fail
 refine HC.out.mono ?_
 rintro e w1 ⟨v1, rfl, hown1, hb1⟩
 have HO := hid (And.intro hown1 hb1)
 obtain ⟨sa, sc, rfl⟩ := ag hown1
 clear hown1 hb1
 go_wp2_with fail
 go_ret
 have hs := HO.out.2.size
 have hlt := HO.out.1.lt
 refine ⟨w1.heap.size, _, rfl, ⟨0, 0, ⟨az _ _ _ rfl, ?_, by omega, hl⟩, by simp⟩, hs, fun b hb => ?_, HO.out.2.alloc hs _⟩
 ·exact Sl.keep ((Sl.of_owns HO.out.1 (by omega)).unown) (by omega) (fun b hb hbl => aU _ _ _ hbl) (fun b hb h => hb)
 ·rintro bl off k n c e
  injection e with e
  have h1 := hlt bl (by rw [e]; rfl)
  have h2 : (w1.alloc (.cells #[.int .i64 0, .int .i64 0, .slice sa l.length sc] 150)).heap.size = w1.heap.size + 1 := World.size_alloc _ _
  omega
theorem uL (rd : Nat) (W : World) : (nilAhead (Tryz.prog.types.size + Made.depth) 80 (.pointer (some ⟨rd, 0, none⟩)) "alibi/cert.many").run Tryz.prog W = .ok (some false) W := by kernel_rfl
theorem gu (rd : Nat) (W : World) : (nilAhead (Tryz.prog.types.size + Made.depth) 80 (.pointer (some ⟨rd, 0, none⟩)) "alibi/cert.whole").run Tryz.prog W = .ok (some false) W := by kernel_rfl
theorem xN {w : World} {rb : Nat} {l : List UInt8} {sv : Value} {s : Option (List UInt8)} (h : VrS w rb l sv (aB s).2) : (aG s).1 ≤ 1000000 := by
 have hl := h.len
 unfold aG
 split
 ·rename_i r hr
  rw [hr] at h
  have := h.left
  split
  ·exact Nat.zero_le _
  ·show (aB s).1 ≤ _; omega
 ·exact Nat.zero_le _
structure SF (w : World) (cb rd rb : Nat) (sv : Value) : Prop where
 cbrd : cb ≠ rd
 cbrb : cb ≠ rb
 lcb : cb < w.heap.size
 lrd : rd < w.heap.size
 lrb : rb < w.heap.size
 offc : ng sv cb
 off : ∀ b, w.heap.size ≤ b → ng sv b
def X3 (cb rd rb b : Nat) : Prop := b = cb ∨ b = rd ∨ b = rb
structure PO (w : World) (cb rd rb : Nat) (l : List UInt8) (sv : Value) (row : Array Value) (T : TypeId) (sz : Nat) (F : Nat → Nat → Value) (z : Nat → Value) (B : Nat → Nat → Bool) (v : Value) (n : Nat) (s1 : Option (List UInt8)) (mb : Bool) (m : Nat) (wr : World) : Prop where
 rs : RD rd rb l sv (bu s1 m).2 (lu B mb s1 m) wr
 kx : Kx (X3 cb rd rb) w wr
 row : wr.heap[cb]? = some (.cells row 25 (0, 0))
 own : wr.ownsRow w.heap.size T sz v n (fK (n * sz) (lw F z (bu s1 m).1))
section
variable {w : World} {cb rd rb : Nat} {l : List UInt8} {sv : Value} {row : Array Value} {T : TypeId} {sz : Nat} {F : Nat → Nat → Value} {z : Nat → Value} {B : Nat → Nat → Bool} {v : Value} {n : Nat} {s1 : Option (List UInt8)} {mb : Bool} {m : Nat} {wr w' : World}
theorem PO.below (h : PO w cb rd rb l sv row T sz F z B v n s1 mb m wr) (hb : Below wr.heap.size wr w') : PO w cb rd rb l sv row T sz F z B v n s1 mb m w' :=
 ⟨h.rs.below hb, h.kx.trans (Kx.of_below hb), (hb.block cb (Array.getElem?_eq_some_iff.1 h.row).1).trans h.row, ownsRow_below h.own hb nl⟩
theorem PO.at (hs : SF w cb rd rb sv) (h : PO w cb rd rb l sv row T sz F z B v n s1 mb m wr) {g cap : Nat} (hv : v = .slice (some ⟨g, 0, none⟩) n cap) (hm : m < n * sz) : wr.cell? ⟨g, m, none⟩ = some (z m) ∧ wr.frozen? ⟨g, m, none⟩ = false ∧ g ≠ rb ∧ g ≠ rd ∧ ng sv g ∧ g < wr.heap.size ∧ w.heap.size ≤ g := by
 have h1 := h.own
 rw [hv] at h1
 obtain ⟨q1, q2, q3, q4⟩ := fG h1 m hm
 have l1 := hs.lrd
 have l2 := hs.lrb
 refine ⟨?_, q2, by omega, by omega, hs.off g q4, q3, q4⟩
 rw [q1, uU _ _ _ hm]
 unfold lw
 rw [List.getElem?_eq_none (by rw [fI]; omega)]
theorem PO.step (hs : SF w cb rd rb sv) (h : PO w cb rd rb l sv row T sz F z B v n s1 mb m wr) {g cap : Nat} (hv : v = .slice (some ⟨g, 0, none⟩) n cap) (hm : m < n * sz) {bad : Bool} {val : Value} (ht : tq rd rb l sv (aB (bu s1 m).2).2 bad g m val wr w')
  (hb : bad = (lu B mb s1 m || B m (aB (bu s1 m).2).1)) (hval : val = F m (aB (bu s1 m).2).1) : PO w cb rd rb l sv row T sz F z B v n s1 mb (m + 1) w' := by
 obtain ⟨_, _, g1, g2, _, g3, g4⟩ := h.at hs hv hm
 have lc := hs.lcb
 refine ⟨?_, h.kx.trans' ht.kx (fun i hi hl => ?_), ?_, ?_⟩
 ·have := ht.rs
  rw [hb] at this
  exact this
 ·rcases hi with rfl | rfl | rfl
  ·exact .inr (.inl rfl)
  ·exact .inr (.inr rfl)
  ·omega
 ·refine (ht.kx.keep cb (Array.getElem?_eq_some_iff.1 h.row).1 (fun hx => ?_)).trans h.row
  rcases hx with e | e | e
  ·exact hs.cbrd e
  ·exact hs.cbrb e
  ·omega
 ·subst hv
  have h1 := qw m val h.own ht.at'
  have h2 := Di (n * sz) F z (bu s1 m).1 (aB (bu s1 m).2).1
  rw [fI] at h2
  rw [hval, h2] at h1
  exact h1
theorem kH (hs : SF w cb rd rb sv) (h : PO w cb rd rb l sv row T sz F z B v n s1 mb m wr) {g cap : Nat} (hv : v = .slice (some ⟨g, 0, none⟩) n cap) (hm : m < n * sz) (more : Nat) (hmo : more ≤ 1) (hz : (z m).oneCell' = true) (hF : ∀ x, F m x = .int .i64 (eZ more x)) (hB : ∀ x, B m x = decide (9223372036854775807 + more < x)) :
  Calls Tryz.prog 175 #[.pointer (some ⟨rd, 0, none⟩), .pointer (some ⟨g, m, none⟩), .int .i64 (more : Nat)] wr fun e w' => e = .returned (.tuple #[]) ∧ PO w cb rd rb l sv row T sz F z B v n s1 mb (m + 1) w' ∧ Kx (fun b => b = rd ∨ b = rb ∨ b = g) wr w' := by
 obtain ⟨q1, q2, g1, g2, g3, _, _⟩ := h.at hs hv hm
 refine (gI g m more (z m) h.rs g1 g2 g3 hmo q1 q2 hz).mono ?_
 rintro e w' ⟨rfl, ht⟩
 exact ⟨rfl, h.step hs hv hm ht (by rw [hB]) (by rw [hF]), ht.kx⟩
theorem zI (hs : SF w cb rd rb sv) (h : PO w cb rd rb l sv row T sz F z B v n s1 mb m wr) {g cap : Nat} (hv : v = .slice (some ⟨g, 0, none⟩) n cap) (hm : m < n * sz) (hz : (z m).oneCell' = true) (hF : ∀ x : Nat, F m x = .int .u64 (x : Nat)) (hB : ∀ x, B m x = false) :
  Calls Tryz.prog 173 #[.pointer (some ⟨rd, 0, none⟩), .pointer (some ⟨g, m, none⟩)] wr fun e w' => e = .returned (.tuple #[]) ∧ PO w cb rd rb l sv row T sz F z B v n s1 mb (m + 1) w' ∧ Kx (fun b => b = rd ∨ b = rb ∨ b = g) wr w' := by
 obtain ⟨q1, q2, g1, g2, g3, _, _⟩ := h.at hs hv hm
 refine (zG g m (z m) h.rs g1 g2 g3 q1 q2 hz).mono ?_
 rintro e w' ⟨rfl, ht⟩
 exact ⟨rfl, h.step hs hv hm ht (by rw [hB, Bool.or_false]) (by rw [hF]), ht.kx⟩
end
def vK (T : TypeId) (sz n : Nat) (xs : List Value) (S : Nat → Prop) (v : Value) (w : World) : Prop := (n = 0 ∧ v = .slice none 0 0 ∧ xs = []) ∨ Ae T sz n xs S v w
theorem uM (T : TypeId) (sz n : Nat) (xs : List Value) : eG (vK T sz n xs) := fun S S' v w w' hk hs hS h => h.imp id (yA T sz n xs S S' v w w' hk hs hS)
theorem vK.owns {T : TypeId} {sz n : Nat} {xs : List Value} {S : Nat → Prop} {v : Value} {w : World} {base : Nat} (h : vK T sz n xs S v w) (hS : ∀ b, S b → base ≤ b) : ∃ ad cap, v = .slice ad n cap ∧ n ≤ cap ∧ (∀ g, v.ownBlock = some g → S g) ∧ w.ownsRow base T sz v n xs ∧ (0 < n → ∃ g, ad = some ⟨g, 0, none⟩) := by
 rcases h with ⟨rfl, rfl, rfl⟩ | h
 ·exact ⟨none, 0, rfl, Nat.le_refl _, fun g e => by simp [Value.ownBlock] at e, World.ownsRow_nil _ _ _ _, fun h => absurd h (by omega)⟩
 ·obtain ⟨g, cap, e, hg, ho⟩ := h.owns hS
  obtain ⟨_, _, _, e', _, _, hc, _⟩ := h
  rw [e] at e'
  injection e' with _ _ e'
  subst e
  exact ⟨_, cap, rfl, by omega, fun g' e => by simp [Value.ownBlock] at e; rw [← e]; exact hg, ho, fun _ => ⟨g, rfl⟩⟩
theorem Dp (n : Nat) : (Builtin.zeroCells (Value.int .i64 0).cells n).toList = fK (n * 1) (lw FO zO []) := by
 refine (lG _ n).trans (eH _ _ _ fun p _ => ?_)
 show (#[Value.int .i64 0] : Array Value)[p % 1]! = Value.int .i64 0
 rw [Nat.mod_one]
 rfl
theorem El (n : Nat) : (Builtin.zeroCells (Value.agg #[.int .i64 0, .int .i64 0, .int .i64 0, .int .u64 0, .int .u64 0, .int .u64 0, .int .u64 0, .int .u64 0, .int .i64 0]).cells n).toList = fK (n * 9) (lw FW zW []) := by
 refine (lG _ n).trans (eH _ _ _ fun p _ => ?_)
 show (#[Value.int .i64 0, .int .i64 0, .int .i64 0, .int .u64 0, .int .u64 0, .int .u64 0, .int .u64 0, .int .u64 0, .int .i64 0] : Array Value)[p % 9]! = Dh (p % 9)
 have : p % 9 < 9 := Nat.mod_lt _ (by omega)
 generalize p % 9 = f at this
 match f, this with
 | 0, _ => rfl
 | 1, _ => rfl
 | 2, _ => rfl
 | 3, _ => rfl
 | 4, _ => rfl
 | 5, _ => rfl
 | 6, _ => rfl
 | 7, _ => rfl
 | 8, _ => rfl
theorem zJ (p : Nat) : (zW p).oneCell' = true := by unfold zW Dh; split <;> rfl
theorem Dq (j f : Nat) (h : kG f = true) (hf : f < 9) (x : Nat) : FW (j * 9 + f) x = .int .i64 (eZ (iX f) x) := by
 unfold FW Ei
 rw [show (j * 9 + f) % 9 = f from by omega, if_pos h]
theorem Em (j f : Nat) (h : kG f = false) (hf : f < 9) (x : Nat) : FW (j * 9 + f) x = .int .u64 (x : Nat) := by
 unfold FW Ei
 rw [show (j * 9 + f) % 9 = f from by omega, if_neg (by rw [h]; decide)]
theorem xO (j f : Nat) (h : kG f = true) (hf : f < 9) (x : Nat) : fA (j * 9 + f) x = decide (9223372036854775807 + iX f < x) := by
 unfold fA
 rw [show (j * 9 + f) % 9 = f from by omega, h, Bool.true_and]
theorem BF (j f : Nat) (h : kG f = false) (hf : f < 9) (x : Nat) : fA (j * 9 + f) x = false := by
 unfold fA
 rw [show (j * 9 + f) % 9 = f from by omega, h, Bool.false_and]
theorem PO.start {w : World} {cb rd rb : Nat} {l : List UInt8} {sv : Value} {T : TypeId} {sz : Nat} {F : Nat → Nat → Value} {z : Nat → Value} {B : Nat → Nat → Bool} {s1 : Option (List UInt8)} {mb : Bool} {wx : World} (hs : SF w cb rd rb sv) (h1 : RD rd rb l sv s1 mb wx) (h2 : Kx (X3 cb rd rb) w wx) {row0 : Array Value} (h3 : wx.heap[cb]? = some (.cells row0 25 (0, 0))) (o : Nat) (v : Value) (n : Nat)
  (h4 : wx.ownsRow w.heap.size T sz v n (fK (n * sz) (lw F z []))) : PO w cb rd rb l sv (row0.setIfInBounds o v) T sz F z B v n s1 mb 0 (wx.setCell ⟨cb, o, none⟩ v) := by
 have k1 : Kx (fun b => b = cb) wx (wx.setCell ⟨cb, o, none⟩ v) := Kx.one _ _ _ _
 refine ⟨h1.kx k1 (fun e => hs.cbrd e.symm) (fun e => hs.cbrb e.symm) (fun b e => e ▸ hs.offc), h2.trans (k1.wider fun b _ e => .inl e), aQ h3 rfl, bZ h4 fun g hg => ?_⟩
 have := (h4.lt g hg).1
 have := hs.lcb
 exact Below.heap_setCell _ _ _ _ (by simp; omega)
theorem PO.endI {w : World} {cb rd rb : Nat} {l : List UInt8} {sv : Value} {row : Array Value} {T : TypeId} {B : Nat → Nat → Bool} {v : Value} {n : Nat} {s1 : Option (List UInt8)} {mb : Bool} {wr : World} (h : PO w cb rd rb l sv row T 1 FO zO B v n s1 mb n wr) : bn wr (fun b => w.heap.size ≤ b) true ((bu s1 n).1.map (eZ 0)) v := by
 have h1 := h.own
 have hl := fI s1 n
 have h2 := Dj (bu s1 n).1
 rw [hl] at h2
 rw [Nat.mul_one, h2] at h1
 exact bn.of_owns (T := T) (by rw [List.length_map, hl]; exact h1)
theorem PO.endW {w : World} {cb rd rb : Nat} {l : List UInt8} {sv : Value} {row : Array Value} {T : TypeId} {B : Nat → Nat → Bool} {v : Value} {n : Nat} {s1 : Option (List UInt8)} {mb : Bool} {wr : World} (h : PO w cb rd rb l sv row T 9 FW zW B v n s1 mb (n * 9) wr) : aX wr (fun b => w.heap.size ≤ b) true (nS (bu s1 (n * 9)).1) v := by
 have h1 := h.own
 have hl := fI s1 (n * 9)
 have h2 := Dk (bu s1 (n * 9)).1 n hl
 rw [h2] at h1
 exact aX.of_owns (T := T) (by rw [oQ, hl, Nat.mul_div_cancel _ (by omega)]; exact h1)
theorem EQ (s : Option (List UInt8)) : iQ 1 s = ((aG s).1 :: (bu (aB s).2 (aG s).1).1, (bu (aB s).2 (aG s).1).2, lu mZ (aG s).2 (aB s).2 (aG s).1) := rfl
theorem ER (s : Option (List UInt8)) : iQ 4 s = ((aG s).1 :: (bu (aB s).2 ((aG s).1 * 9)).1, (bu (aB s).2 ((aG s).1 * 9)).2, lu fA (aG s).2 (aB s).2 ((aG s).1 * 9)) := rfl
theorem Dr {k : Int} (h1 : ¬ k = 1) (h4 : ¬ k = 4) (s : Option (List UInt8)) : iQ k s = ((bu s 2).1, (bu s 2).2, lu mZ false s 2) := by unfold iQ; rw [if_neg h1, if_neg h4]
theorem En (s : Option (List UInt8)) : bQ 1 s = ⟨1, (bu (aB s).2 (aG s).1).1.map (eZ 0), 0, 0, []⟩ := rfl
theorem Eo (s : Option (List UInt8)) : bQ 4 s = ⟨4, [], 0, 0, nS (bu (aB s).2 ((aG s).1 * 9)).1⟩ := rfl
theorem Az {k : Int} (h1 : ¬ k = 1) (h4 : ¬ k = 4) (s : Option (List UInt8)) : bQ k s = ⟨k, [], eZ 0 (aB s).1, eZ 0 (aB (aB s).2).1, []⟩ := by unfold bQ; rw [if_neg h1, if_neg h4]
def xP (cb rd rb : Nat) (l : List UInt8) (sv : Value) (k : Int) (s : Option (List UInt8)) (w : World) (e : Ending) (w' : World) : Prop :=
 e = .returned (.tuple #[]) ∧ ∃ cs, w'.heap[cb]? = some (.cells cs 25 (0, 0)) ∧ aL w' (fun b => w.heap.size ≤ b) true (bQ k s) (.agg cs) ∧ RD rd rb l sv (iQ k s).2.1 (iQ k s).2.2 w' ∧ Kx (X3 cb rd rb) w w'
end Go.Proofs.YtagnalfkmdjajaaGreatDoor
