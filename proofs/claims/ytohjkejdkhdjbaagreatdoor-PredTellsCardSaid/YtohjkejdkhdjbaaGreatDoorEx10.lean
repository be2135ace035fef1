/- How a predicate is told as text: plain Lean. -/
import Derived.Test.YtohjkejdkhdjbaaGreatDoorEx04
import Derived.Test.YtohjkejdkhdjbaaGreatDoorEx06
import Derived.Lib.Join
namespace Go.Proofs.YtohjkejdkhdjbaaGreatDoor
open Go.RowKit Go
set_option linter.unusedVariables false
set_option linter.unusedSimpArgs false
/-- Texts with commas between them. -/
def commas (l : List (List UInt8)) : List UInt8 := Lib.join l [44]
theorem commas_snoc (l : List (List UInt8)) (x : List UInt8) : commas (l ++ [x]) = if l = [] then x else commas l ++ [44] ++ x := by
  cases l with
  | nil => simp [commas, Lib.join_one]
  | cons y r => simp [commas, Lib.join_cons, Lib.joinTail, List.append_assoc]
theorem commas_len (l : List (List UInt8)) : (commas l).length ≤ Lib.lens l + l.length := by
  cases l with
  | nil => simp [commas, Lib.join_nil]
  | cons y r => unfold commas; rw [Lib.join_length]; simp; omega
def tellN (k : Int) (a b : Nat) (l : List (List UInt8)) : List UInt8 :=
  if k = 1 then [97, 108, 108]
  else if k = 2 then [120, 60, 61] ++ Lib.decDigits a
  else if k = 3 then [118, 60, 61] ++ Lib.decDigits a
  else if k = 4 then [118, 37] ++ Lib.decDigits a ++ [61] ++ Lib.decDigits b
  else if k = 5 then [33] ++ commas l
  else if k = 6 then [38, 40] ++ commas l ++ [41]
  else [124, 40] ++ commas l ++ [41]
mutual
def Ex.told : Ex → List UInt8
  | .mk k a b ps => tellN k a b (Ex.tolds ps)
def Ex.tolds : List Ex → List (List UInt8)
  | [] => []
  | e :: es => e.told :: Ex.tolds es
end
theorem Ex.tolds_append (a b : List Ex) : Ex.tolds (a ++ b) = Ex.tolds a ++ Ex.tolds b := by
  induction a with
  | nil => simp [Ex.tolds]
  | cons e es ih => simp only [List.cons_append, Ex.tolds, ih]
theorem Ex.tolds_length (l : List Ex) : (Ex.tolds l).length = l.length := by
  induction l with
  | nil => simp [Ex.tolds]
  | cons e es ih => simp [Ex.tolds, ih]
theorem Ex.tolds_take (ps : List Ex) (k : Nat) (h : k < ps.length) : Ex.tolds (ps.take (k + 1)) = Ex.tolds (ps.take k) ++ [ps[k].told] := by
  rw [take_snoc ps k h, Ex.tolds_append]; simp [Ex.tolds]
mutual
/-- All numbers of the tree are the machine's. -/
def Ex.nums : Ex → Prop
  | .mk _ a b ps => a < 18446744073709551616 ∧ b < 18446744073709551616 ∧ Ex.numss ps
def Ex.numss : List Ex → Prop
  | [] => True
  | e :: es => e.nums ∧ Ex.numss es
end
theorem decDigits_le20 (n : Nat) (h : n < 18446744073709551616) : (Lib.decDigits n).length ≤ 20 := by
  rw [Lib.decDigits_length]
  rcases Nat.eq_zero_or_pos n with rfl | h0
  · rw [Lib.nDigits_small (by omega)]; omega
  · have := Lib.numDigits_eq n h0 h; split at this <;> omega
mutual
theorem Ex.told_len : ∀ e : Ex, e.nums → e.told.length + 1 ≤ 50 * e.size
  | .mk k a b ps, h => by
    simp only [Ex.nums] at h
    obtain ⟨ha, hb, hn⟩ := h
    have h1 := Ex.tolds_len ps hn
    have h2 := commas_len (Ex.tolds ps)
    have h3 := decDigits_le20 a ha
    have h4 := decDigits_le20 b hb
    have h5 := Ex.tolds_length ps
    simp only [Ex.told, Ex.size, tellN]
    repeat' split
    all_goals (simp only [List.length_append, List.length_cons, List.length_nil]; omega)
theorem Ex.tolds_len : ∀ es : List Ex, Ex.numss es → Lib.lens (Ex.tolds es) + es.length ≤ 50 * Ex.sizes es
  | [], _ => by simp [Ex.tolds, Lib.lens]
  | e :: es, h => by
    simp only [Ex.numss] at h
    have h1 := Ex.told_len e h.1
    have h2 := Ex.tolds_len es h.2
    simp only [Ex.tolds, Ex.sizes, Lib.lens, List.map_cons, List.sum_cons, List.length_cons] at h2 ⊢
    omega
end
mutual
theorem RepE.nums {w : World} {S : Nat → Prop} {own : Bool} : ∀ {e : Ex} {v : Value}, RepE w S own e v → e.nums
  | .mk k a b ps, v, h => by
    simp only [RepE] at h
    obtain ⟨s, xs, _, _, _, ha, hb, _, h2⟩ := h
    simp only [Ex.nums]
    exact ⟨ha, hb, RepEs.nums h2⟩
theorem RepEs.nums {w : World} {S : Nat → Prop} {own : Bool} : ∀ {es : List Ex} {xs : List Value}, RepEs w S own es xs → Ex.numss es
  | [], xs, _ => by simp [Ex.numss]
  | e :: es, xs, h => by
    simp only [RepEs] at h
    obtain ⟨_, _, _, _, rest, _, h2, h3⟩ := h
    simp only [Ex.numss]
    exact ⟨RepE.nums h2, RepEs.nums h3⟩
end
theorem Ex.numss_take (ps : List Ex) (h : Ex.numss ps) : ∀ j, Ex.numss (ps.take j) := by
  induction ps with
  | nil => intro j; simp [Ex.numss]
  | cons e es ih =>
    intro j
    simp only [Ex.numss] at h
    cases j with
    | zero => simp [Ex.numss]
    | succ j => simp only [List.take_succ_cons, Ex.numss]; exact ⟨h.1, ih h.2 j⟩
theorem Ex.tolds_take_len (ps : List Ex) (h : Ex.numss ps) (j : Nat) : (commas (Ex.tolds (ps.take j))).length ≤ 50 * Ex.sizes ps := by
  have h1 := commas_len (Ex.tolds (ps.take j))
  have h2 := Ex.tolds_len (ps.take j) (Ex.numss_take ps h j)
  have h3 := Ex.tolds_length (ps.take j)
  have h4 := Ex.sizes_split ps j
  omega
end Go.Proofs.YtohjkejdkhdjbaaGreatDoor
