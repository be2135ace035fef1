/- What is told is read. -/
import Derived.Test.YtlpgokcapdjgjaaGreatDoorY1
import Derived.Test.YtlpgokcapdjgjaaGreatDoorY13
import Derived.Lib.Join
namespace Go.Proofs.YtlpgokcapdjgjaaGreatDoor
open Go.RowKit Go
set_option linter.unusedVariables false
set_option linter.unusedSimpArgs false
def commas (l : List (List UInt8)) : List UInt8 := Lib.join l [44]
theorem iJ (l : List (List UInt8)) (x : List UInt8) : commas (l ++ [x]) = if l = [] then x else commas l ++ [44] ++ x := by
 cases l with
 | nil => simp [commas, Lib.join_one]
 | cons y r => simp [commas, Lib.join_cons, Lib.joinTail, List.append_assoc]
theorem pG (l : List (List UInt8)) : (commas l).length ≤ Lib.lens l + l.length := by
 cases l with
 | nil => simp [commas, Lib.join_nil]
 | cons y r => unfold commas; rw [Lib.join_length]; simp; omega
def cO (k : Int) (a b : Nat) (l : List (List UInt8)) : List UInt8 :=
 if k = 1 then [97, 108, 108]
 else if k = 2 then [120, 60, 61] ++ Lib.decDigits a
 else if k = 3 then [118, 60, 61] ++ Lib.decDigits a
 else if k = 4 then [118, 37] ++ Lib.decDigits a ++ [61] ++ Lib.decDigits b
 else if k = 5 then [33] ++ commas l
 else if k = 6 then [38, 40] ++ commas l ++ [41]
 else [124, 40] ++ commas l ++ [41]
mutual
def Ex.told : Ex → List UInt8
 | .mk k a b ps => cO k a b (Ex.tolds ps)
def Ex.tolds : List Ex → List (List UInt8)
 | [] => []
 | e :: es => e.told :: Ex.tolds es
end
theorem Ex.tolds_append (a b : List Ex) : Ex.tolds (a ++ b) = Ex.tolds a ++ Ex.tolds b := by
 induction a with
 | nil => simp [Ex.tolds]
 | cons e es ih => simp only [List.cons_append, Ex.tolds, ih]
theorem Ex.tolds_length (l : List Ex) : (Ex.tolds l).length = l.length := by
 induction l with
 | nil => simp [Ex.tolds]
 | cons e es ih => simp [Ex.tolds, ih]
theorem Ex.tolds_take (ps : List Ex) (k : Nat) (h : k < ps.length) : Ex.tolds (ps.take (k + 1)) = Ex.tolds (ps.take k) ++ [ps[k].told] := by
 rw [dM ps k h, Ex.tolds_append]; simp [Ex.tolds]
mutual
def Ex.nums : Ex → Prop
 | .mk _ a b ps => a < 18446744073709551616 ∧ b < 18446744073709551616 ∧ Ex.numss ps
def Ex.numss : List Ex → Prop
 | [] => True
 | e :: es => e.nums ∧ Ex.numss es
end
theorem aJ (n : Nat) (h : n < 18446744073709551616) : (Lib.decDigits n).length ≤ 20 := by
 rw [Lib.decDigits_length]
 rcases Nat.eq_zero_or_pos n with rfl | h0
 ·rw [Lib.nDigits_small (by omega)]; omega
 ·have := Lib.numDigits_eq n h0 h; split at this <;> omega
mutual
theorem Ex.told_len : ∀ e : Ex, e.nums → e.told.length + 1 ≤ 50 * e.size
 | .mk k a b ps, h => by
  simp only [Ex.nums] at h
  obtain ⟨ha, hb, hn⟩ := h
  have h1 := Ex.tolds_len ps hn
  have h2 := pG (Ex.tolds ps)
  have h3 := aJ a ha
  have h4 := aJ b hb
  have h5 := Ex.tolds_length ps
  simp only [Ex.told, Ex.size, cO]
  repeat' split
  all_goals (simp only [List.length_append, List.length_cons, List.length_nil]; omega)
theorem Ex.tolds_len : ∀ es : List Ex, Ex.numss es → Lib.lens (Ex.tolds es) + es.length ≤ 50 * Ex.sizes es
 | [], _ => by simp [Ex.tolds, Lib.lens]
 | e :: es, h => by
  simp only [Ex.numss] at h
  have h1 := Ex.told_len e h.1
  have h2 := Ex.tolds_len es h.2
  simp only [Ex.tolds, Ex.sizes, Lib.lens, List.map_cons, List.sum_cons, List.length_cons] at h2 ⊢
  omega
end
mutual
theorem ax.nums {w : World} {S : Nat → Prop} {own : Bool} : ∀ {e : Ex} {v : Value}, ax w S own e v → e.nums
 | .mk k a b ps, v, h => by
  simp only [ax] at h
  obtain ⟨s, xs, _, _, _, ha, hb, _, h2⟩ := h
  simp only [Ex.nums]
  exact ⟨ha, hb, az.nums h2⟩
theorem az.nums {w : World} {S : Nat → Prop} {own : Bool} : ∀ {es : List Ex} {xs : List Value}, az w S own es xs → Ex.numss es
 | [], xs, _ => by simp [Ex.numss]
 | e :: es, xs, h => by
  simp only [az] at h
  obtain ⟨_, _, _, _, rest, _, h2, h3⟩ := h
  simp only [Ex.numss]
  exact ⟨ax.nums h2, az.nums h3⟩
end
theorem Ex.numss_take (ps : List Ex) (h : Ex.numss ps) : ∀ j, Ex.numss (ps.take j) := by
 induction ps with
 | nil => intro j; simp [Ex.numss]
 | cons e es ih =>
  intro j
  simp only [Ex.numss] at h
  cases j with
  | zero => simp [Ex.numss]
  | succ j => simp only [List.take_succ_cons, Ex.numss]; exact ⟨h.1, ih h.2 j⟩
theorem Ex.tolds_take_len (ps : List Ex) (h : Ex.numss ps) (j : Nat) : (commas (Ex.tolds (ps.take j))).length ≤ 50 * Ex.sizes ps := by
 have h1 := pG (Ex.tolds (ps.take j))
 have h2 := Ex.tolds_len (ps.take j) (Ex.numss_take ps h j)
 have h3 := Ex.tolds_length (ps.take j)
 have h4 := Ex.sizes_split ps j
 omega
theorem mf {k : Int} {a b n : Nat} (h : fU k a b n = true) :
  (k = 1 ∧ a = 0 ∧ b = 0 ∧ n = 0) ∨ ((k = 2 ∨ k = 3) ∧ b = 0 ∧ n = 0) ∨ (k = 4 ∧ b < a ∧ n = 0) ∨ (k = 5 ∧ a = 0 ∧ b = 0 ∧ n = 1) ∨ ((k = 6 ∨ k = 7) ∧ a = 0 ∧ b = 0) := by
 unfold fU at h
 split at h
 ·simp at h; omega
 split at h
 ·simp at h; omega
 split at h
 ·simp at h; omega
 split at h
 ·simp at h; omega
 split at h
 ·simp at h; omega
 ·cases h
theorem nR {e : Ex} (h : e.right = true) : e.okR = true ∧ e.depth ≤ 8 ∧ e.size ≤ 32 := by
 simp only [Ex.right, Bool.and_eq_true, decide_eq_true_eq] at h
 exact ⟨h.1.1, h.1.2, h.2⟩
theorem vR {k : Int} {a b n : Nat} (h : fU k a b n = true) : 1 ≤ k ∧ k ≤ 7 := by
 rcases mf h with h | h | h | h | h <;> omega
theorem sj : ∀ (e : Ex), e.okR = true → ∃ c t, e.told = c :: t ∧ c ≠ 41
 | .mk k a b ps, hok => by
  simp only [Ex.okR, Bool.and_eq_true] at hok
  have hk := vR hok.2
  simp only [Ex.told]
  have h7 : k = 1 ∨ k = 2 ∨ k = 3 ∨ k = 4 ∨ k = 5 ∨ k = 6 ∨ k = 7 := by omega
  rcases h7 with rfl | rfl | rfl | rfl | rfl | rfl | rfl
  ·exact ⟨97, _, rfl, by decide⟩
  ·exact ⟨120, _, rfl, by decide⟩
  ·exact ⟨118, _, rfl, by decide⟩
  ·exact ⟨118, _, rfl, by decide⟩
  ·exact ⟨33, _, rfl, by decide⟩
  ·exact ⟨38, _, rfl, by decide⟩
  ·exact ⟨124, _, rfl, by decide⟩
theorem fq (x : List UInt8) : commas [x] = x := by simp [commas, Lib.join_one]
theorem iC (x y : List UInt8) (l : List (List UInt8)) : commas (x :: y :: l) = x ++ 44 :: commas (y :: l) := by
 simp [commas, Lib.join_cons, Lib.joinTail, List.append_assoc]
theorem vS : ∀ (es : List Ex), Ex.okRs es = true → es.length ≤ (commas (Ex.tolds es)).length
 | [], _ => by simp
 | [e], h => by
  simp only [Ex.okRs, Bool.and_eq_true] at h
  obtain ⟨c, t, h1, _⟩ := sj e h.1
  simp only [Ex.tolds, fq, h1]; simp
 | e :: e2 :: es, h => by
  simp only [Ex.okRs, Bool.and_eq_true] at h
  have h2 := vS (e2 :: es) (by simp only [Ex.okRs, Bool.and_eq_true]; exact h.2)
  simp only [Ex.tolds] at h2 ⊢
  rw [iC]
  simp at h2 ⊢
  omega
theorem mU (c : UInt8) (r : List UInt8) (h : isD c = false) : ∀ d, (c :: r).head? = some d → isD d = false := by
 intro d hd; simp at hd; subst hd; exact h
mutual
theorem mg : ∀ (e : Ex) (d : Nat) (r : List UInt8), e.okR = true → e.nums → e.depth ≤ d → (∀ c, r.head? = some c → isD c = false) → rfE d (e.told ++ r) = some (e, r)
 | .mk k a b ps, d, r, hok, hnu, hd, hr => by
  simp only [Ex.okR, Bool.and_eq_true] at hok
  simp only [Ex.nums] at hnu
  simp only [Ex.depth] at hd
  obtain ⟨d, rfl⟩ : ∃ d', d = d' + 1 := ⟨d - 1, by omega⟩
  have hparts := rz ps d r hok.1 hnu.2.2 (by omega)
  have hone : ∀ p, ps = [p] → rfE d (p.told ++ r) = some (p, r) := fun p hp => by
   subst hp
   simp only [Ex.okRs, Bool.and_eq_true] at hok
   simp only [Ex.numss] at hnu
   simp only [Ex.depths] at hd
   exact mg p d r hok.1.1 hnu.2.2.1 (by omega) hr
  obtain ⟨ha, hb, _⟩ := hnu
  simp only [Ex.told]
  rcases mf hok.2 with ⟨rfl, rfl, rfl, hn⟩ | ⟨rfl | rfl, rfl, hn⟩ | ⟨rfl, hba, hn⟩ | ⟨rfl, rfl, rfl, hn⟩ | ⟨rfl | rfl, rfl, rfl⟩
  ·obtain rfl := List.eq_nil_of_length_eq_zero hn
   simp [cO, rfE, pre, List.isPrefixOf]
  ·obtain rfl := List.eq_nil_of_length_eq_zero hn
   have h1 := ja a ha r hr
   simp [cO, rfE, pre, List.isPrefixOf, h1]
  ·obtain rfl := List.eq_nil_of_length_eq_zero hn
   have h1 := ja a ha r hr
   simp [cO, rfE, pre, List.isPrefixOf, h1]
  ·obtain rfl := List.eq_nil_of_length_eq_zero hn
   have h1 := ja a ha (61 :: (Lib.decDigits b ++ r)) (mU 61 _ (by decide))
   have h2 := ja b hb r hr
   simp [cO, rfE, pre, List.isPrefixOf, h1, h2]
  ·obtain ⟨p, rfl⟩ : ∃ p, ps = [p] := by
    match ps, hn with
    | [p], _ => exact ⟨p, rfl⟩
   have h1 := hone p rfl
   simp [cO, Ex.tolds, fq, rfE, pre, List.isPrefixOf, h1]
  ·simp [cO, rfE, pre, List.isPrefixOf, hparts]
  ·simp [cO, rfE, pre, List.isPrefixOf, hparts]
theorem rz : ∀ (es : List Ex) (d : Nat) (r : List UInt8), Ex.okRs es = true → Ex.numss es → Ex.depths es ≤ d → bq (rfE d) (commas (Ex.tolds es) ++ 41 :: r) = some (es, r)
 | [], d, r, _, _, _ => by simp [Ex.tolds, commas, Lib.join_nil, bq, pre, List.isPrefixOf]
 | e :: es, d, r, hok, hnu, hd => by
  have hge := vS (e :: es) hok
  have hl := mh (e :: es) ((commas (Ex.tolds (e :: es)) ++ 41 :: r).length + 1) d r (by simp) hok hnu hd (by simp at hge ⊢; omega)
  have hh : pre [41] (commas (Ex.tolds (e :: es)) ++ 41 :: r) = false := by
   simp only [Ex.okRs, Bool.and_eq_true] at hok
   obtain ⟨c, t, h1, h2⟩ := sj e hok.1
   cases es with
   | nil => simp only [Ex.tolds, fq, h1]; simp [pre, List.isPrefixOf]; exact fun h => h2 h.symm
   | cons e2 es => simp only [Ex.tolds, iC, h1]; simp [pre, List.isPrefixOf]; exact fun h => h2 h.symm
  unfold bq
  rw [hh]
  exact hl
theorem mh : ∀ (es : List Ex) (f d : Nat) (r : List UInt8), es ≠ [] → Ex.okRs es = true → Ex.numss es → Ex.depths es ≤ d → es.length ≤ f → bT (rfE d) f (commas (Ex.tolds es) ++ 41 :: r) = some (es, r)
 | [], _, _, _, h, _, _, _, _ => absurd rfl h
 | [e], f, d, r, _, hok, hnu, hd, hf => by
  simp only [Ex.okRs, Bool.and_eq_true] at hok
  simp only [Ex.numss] at hnu
  simp only [Ex.depths] at hd
  obtain ⟨f, rfl⟩ : ∃ f', f = f' + 1 := ⟨f - 1, by simp at hf; omega⟩
  have h1 := mg e d (41 :: r) hok.1 hnu.1 (by omega) (mU 41 _ (by decide))
  simp only [Ex.tolds, fq, bT, h1]
  simp [pre, List.isPrefixOf]
 | e :: e2 :: es, f, d, r, _, hok, hnu, hd, hf => by
  simp only [Ex.okRs, Bool.and_eq_true] at hok
  simp only [Ex.numss] at hnu
  simp only [Ex.depths] at hd
  obtain ⟨f, rfl⟩ : ∃ f', f = f' + 1 := ⟨f - 1, by simp at hf; omega⟩
  have h2 := mh (e2 :: es) f d r (by simp) (by simp only [Ex.okRs, Bool.and_eq_true]; exact hok.2) (by simp only [Ex.numss]; exact hnu.2) (by simp only [Ex.depths]; omega) (by simp at hf ⊢; omega)
  have h1 := mg e d (44 :: (commas (Ex.tolds (e2 :: es)) ++ 41 :: r)) hok.1 hnu.1 (by omega) (mU 44 _ (by decide))
  simp only [Ex.tolds] at h1 h2 ⊢
  rw [iC, List.append_assoc, List.cons_append, bT, h1]
  simp [pre, List.isPrefixOf, h2]
end
end Go.Proofs.YtlpgokcapdjgjaaGreatDoor
