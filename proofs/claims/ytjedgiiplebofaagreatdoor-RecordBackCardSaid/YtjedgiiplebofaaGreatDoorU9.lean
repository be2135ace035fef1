/- What is told is read: plain Lean. Ahead of it: How a predicate is told as text: plain Lean. What is put is taken, what is told is read; what is turned, and both: plain Lean. -/
import Derived.Test.YtjedgiiplebofaaGreatDoorU35
import Derived.Test.YtjedgiiplebofaaGreatDoorU1
import Derived.Test.YtjedgiiplebofaaGreatDoorU13
import Derived.Lib.Join
namespace Go.Proofs.YtjedgiiplebofaaGreatDoor
open Go.RowKit Go
set_option linter.unusedVariables false
set_option linter.unusedSimpArgs false
def commas (l : List (List UInt8)) : List UInt8 := Lib.join l [44]
theorem commas_len (l : List (List UInt8)) : (commas l).length ≤ Lib.lens l + l.length := by
  cases l with
  | nil => simp [commas, Lib.join_nil]
  | cons y r => unfold commas; rw [Lib.join_length]; simp; omega
def tellN (k : Int) (a b : Nat) (l : List (List UInt8)) : List UInt8 :=
  if k = 1 then [97, 108, 108]
  else if k = 2 then [120, 60, 61] ++ Lib.decDigits a
  else if k = 3 then [118, 60, 61] ++ Lib.decDigits a
  else if k = 4 then [118, 37] ++ Lib.decDigits a ++ [61] ++ Lib.decDigits b
  else if k = 5 then [33] ++ commas l
  else if k = 6 then [38, 40] ++ commas l ++ [41]
  else [124, 40] ++ commas l ++ [41]
mutual
def Ex.told : Ex → List UInt8
  | .mk k a b ps => tellN k a b (Ex.tolds ps)
def Ex.tolds : List Ex → List (List UInt8)
  | [] => []
  | e :: es => e.told :: Ex.tolds es
end
theorem Ex.tolds_append (a b : List Ex) : Ex.tolds (a ++ b) = Ex.tolds a ++ Ex.tolds b := by
  induction a with
  | nil => simp [Ex.tolds]
  | cons e es ih => simp only [List.cons_append, Ex.tolds, ih]
theorem Ex.tolds_length (l : List Ex) : (Ex.tolds l).length = l.length := by
  induction l with
  | nil => simp [Ex.tolds]
  | cons e es ih => simp [Ex.tolds, ih]
theorem Ex.tolds_take (ps : List Ex) (k : Nat) (h : k < ps.length) : Ex.tolds (ps.take (k + 1)) = Ex.tolds (ps.take k) ++ [ps[k].told] := by
  rw [take_snoc ps k h, Ex.tolds_append]; simp [Ex.tolds]
mutual
def Ex.nums : Ex → Prop
  | .mk _ a b ps => a < 18446744073709551616 ∧ b < 18446744073709551616 ∧ Ex.numss ps
def Ex.numss : List Ex → Prop
  | [] => True
  | e :: es => e.nums ∧ Ex.numss es
end
theorem decDigits_le20 (n : Nat) (h : n < 18446744073709551616) : (Lib.decDigits n).length ≤ 20 := by
  rw [Lib.decDigits_length]
  rcases Nat.eq_zero_or_pos n with rfl | h0
  · rw [Lib.nDigits_small (by omega)]; omega
  · have := Lib.numDigits_eq n h0 h; split at this <;> omega
mutual
theorem Ex.told_len : ∀ e : Ex, e.nums → e.told.length + 1 ≤ 50 * e.size
  | .mk k a b ps, h => by
    simp only [Ex.nums] at h
    obtain ⟨ha, hb, hn⟩ := h
    have h1 := Ex.tolds_len ps hn
    have h2 := commas_len (Ex.tolds ps)
    have h3 := decDigits_le20 a ha
    have h4 := decDigits_le20 b hb
    have h5 := Ex.tolds_length ps
    simp only [Ex.told, Ex.size, tellN]
    repeat' split
    all_goals (simp only [List.length_append, List.length_cons, List.length_nil]; omega)
theorem Ex.tolds_len : ∀ es : List Ex, Ex.numss es → Lib.lens (Ex.tolds es) + es.length ≤ 50 * Ex.sizes es
  | [], _ => by simp [Ex.tolds, Lib.lens]
  | e :: es, h => by
    simp only [Ex.numss] at h
    have h1 := Ex.told_len e h.1
    have h2 := Ex.tolds_len es h.2
    simp only [Ex.tolds, Ex.sizes, Lib.lens, List.map_cons, List.sum_cons, List.length_cons] at h2 ⊢
    omega
end
mutual
theorem RepE.nums {w : World} {S : Nat → Prop} {own : Bool} : ∀ {e : Ex} {v : Value}, RepE w S own e v → e.nums
  | .mk k a b ps, v, h => by
    simp only [RepE] at h
    obtain ⟨s, xs, _, _, _, ha, hb, _, h2⟩ := h
    simp only [Ex.nums]
    exact ⟨ha, hb, RepEs.nums h2⟩
theorem RepEs.nums {w : World} {S : Nat → Prop} {own : Bool} : ∀ {es : List Ex} {xs : List Value}, RepEs w S own es xs → Ex.numss es
  | [], xs, _ => by simp [Ex.numss]
  | e :: es, xs, h => by
    simp only [RepEs] at h
    obtain ⟨_, _, _, _, rest, _, h2, h3⟩ := h
    simp only [Ex.numss]
    exact ⟨RepE.nums h2, RepEs.nums h3⟩
end
end Go.Proofs.YtjedgiiplebofaaGreatDoor
namespace Go.Proofs.YtjedgiiplebofaaGreatDoor
open Go.RowKit Go
set_option linter.unusedVariables false
set_option linter.unusedSimpArgs false
theorem getON_put (n : Nat) (h : n < 18446744073709551616) (r : List UInt8) : getON (some (putV n ++ r)) = n := by unfold getON; simp only [Option.bind_some, getV_put n r h]
theorem getOR_put (n : Nat) (h : n < 18446744073709551616) (r : List UInt8) : getOR (some (putV n ++ r)) = some r := by unfold getOR; simp only [Option.bind_some, getV_put n r h, Option.map_some]
theorem nodeOk_cases {k : Int} {a b n : Nat} (h : nodeOk k a b n = true) :
    (k = 1 ∧ a = 0 ∧ b = 0 ∧ n = 0) ∨ ((k = 2 ∨ k = 3) ∧ b = 0 ∧ n = 0) ∨ (k = 4 ∧ b < a ∧ n = 0) ∨ (k = 5 ∧ a = 0 ∧ b = 0 ∧ n = 1) ∨ ((k = 6 ∨ k = 7) ∧ a = 0 ∧ b = 0) := by
  unfold nodeOk at h
  split at h
  · simp at h; omega
  split at h
  · simp at h; omega
  split at h
  · simp at h; omega
  split at h
  · simp at h; omega
  split at h
  · simp at h; omega
  · cases h
mutual
theorem tkE_st : ∀ (e : Ex) (d : Nat) (r : List UInt8), e.okR = true → e.nums → e.depth ≤ d → e.size < 18446744073709551616 → tkE d (e.st ++ r) = some (e, r)
  | .mk k a b ps, d, r, hok, hnu, hd, hsz => by
    simp only [Ex.okR, Bool.and_eq_true] at hok
    simp only [Ex.nums] at hnu
    simp only [Ex.depth] at hd
    simp only [Ex.size] at hsz
    obtain ⟨d, rfl⟩ : ∃ d', d = d' + 1 := ⟨d - 1, by omega⟩
    have hl := Ex.length_le_sizes ps
    have hloop := tkLoop_sts ps d r hok.1 hnu.2.2 (by omega) (by omega)
    obtain ⟨ha, hb, _⟩ := hnu
    rcases nodeOk_cases hok.2 with ⟨rfl, rfl, rfl, hn⟩ | ⟨rfl | rfl, rfl, hn⟩ | ⟨rfl, hba, hn⟩ | ⟨rfl, rfl, rfl, hn⟩ | ⟨rfl | rfl, rfl, rfl⟩
    · obtain rfl := List.eq_nil_of_length_eq_zero hn
      rfl
    · obtain rfl := List.eq_nil_of_length_eq_zero hn
      have e1 : (Ex.mk 2 a 0 []).st ++ r = 2 :: (putV a ++ r) := by simp [Ex.st, headB, Ex.sts]
      rw [e1, tkE, if_pos (by decide)]
      simp only [tkHead, tkTail, show (2 : UInt8).toNat = 2 from rfl, true_or, if_true, getON_put a ha, getOR_put a ha, Option.bind_some, tkLoop, Option.map_some]
      rfl
    · obtain rfl := List.eq_nil_of_length_eq_zero hn
      have e1 : (Ex.mk 3 a 0 []).st ++ r = 3 :: (putV a ++ r) := by simp [Ex.st, headB, Ex.sts]
      rw [e1, tkE, if_pos (by decide)]
      simp only [tkHead, tkTail, show (3 : UInt8).toNat = 3 from rfl, or_true, if_true, getON_put a ha, getOR_put a ha, Option.bind_some, tkLoop, Option.map_some]
      rfl
    · obtain rfl := List.eq_nil_of_length_eq_zero hn
      have e1 : (Ex.mk 4 a b []).st ++ r = 4 :: (putV a ++ (putV b ++ r)) := by simp [Ex.st, headB, Ex.sts]
      rw [e1, tkE, if_pos (by decide)]
      simp only [tkHead, tkTail, show (4 : UInt8).toNat = 4 from rfl, show ¬ (4 = 2 ∨ 4 = 3) from by omega, if_false, if_true, getON_put a ha, getOR_put a ha, getON_put b hb, getOR_put b hb, Option.bind_some, tkLoop, Option.map_some]
      rfl
    · have e1 : (Ex.mk 5 0 0 ps).st ++ r = 5 :: (Ex.sts ps ++ r) := by simp [Ex.st, headB]
      rw [e1, tkE, if_pos (by decide)]
      rw [hn] at hloop
      simp only [tkHead, tkTail, show (5 : UInt8).toNat = 5 from rfl, show ¬ (5 = 2 ∨ 5 = 3) from by omega, show ¬ (5 = 4) from by omega, if_false, if_true, Option.bind_some, hloop, Option.map_some]
      rfl
    · have e1 : (Ex.mk 6 0 0 ps).st ++ r = 6 :: (putV ps.length ++ (Ex.sts ps ++ r)) := by simp [Ex.st, headB]
      rw [e1, tkE, if_pos (by decide)]
      simp only [tkHead, tkTail, show (6 : UInt8).toNat = 6 from rfl, show ¬ (6 = 2 ∨ 6 = 3) from by omega, show ¬ (6 = 4) from by omega, show ¬ (6 = 5) from by omega, true_or, if_false, if_true, getON_put ps.length (by omega), getOR_put ps.length (by omega), Option.bind_some, hloop, Option.map_some]
      rfl
    · have e1 : (Ex.mk 7 0 0 ps).st ++ r = 7 :: (putV ps.length ++ (Ex.sts ps ++ r)) := by simp [Ex.st, headB]
      rw [e1, tkE, if_pos (by decide)]
      simp only [tkHead, tkTail, show (7 : UInt8).toNat = 7 from rfl, show ¬ (7 = 2 ∨ 7 = 3) from by omega, show ¬ (7 = 4) from by omega, show ¬ (7 = 5) from by omega, or_true, if_false, if_true, getON_put ps.length (by omega), getOR_put ps.length (by omega), Option.bind_some, hloop, Option.map_some]
      rfl
theorem tkLoop_sts : ∀ (es : List Ex) (d : Nat) (r : List UInt8), Ex.okRs es = true → Ex.numss es → Ex.depths es ≤ d → Ex.sizes es < 18446744073709551616 → tkLoop (tkE d) es.length (Ex.sts es ++ r) = some (es, r)
  | [], d, r, _, _, _, _ => rfl
  | e :: es, d, r, hok, hnu, hd, hsz => by
    simp only [Ex.okRs, Bool.and_eq_true] at hok
    simp only [Ex.numss] at hnu
    simp only [Ex.depths] at hd
    simp only [Ex.sizes] at hsz
    have h1 := tkE_st e d (Ex.sts es ++ r) hok.1 hnu.1 (by omega) (by omega)
    have h2 := tkLoop_sts es d r hok.2 hnu.2 (by omega) (by omega)
    have e1 : Ex.sts (e :: es) ++ r = e.st ++ (Ex.sts es ++ r) := by simp [Ex.sts]
    rw [e1, List.length_cons, tkLoop, h1]
    simp only [h2, Option.map_some]
end
theorem right_parts {e : Ex} (h : e.right = true) : e.okR = true ∧ e.depth ≤ 8 ∧ e.size ≤ 32 := by
  simp only [Ex.right, Bool.and_eq_true, decide_eq_true_eq] at h
  exact ⟨h.1.1, h.1.2, h.2⟩
theorem tkAt_put {e : Ex} (h : e.right = true) (hn : e.nums) (r : List UInt8) : tkAt (e.put ++ r) 0 = some (e, e.put.length) := by
  obtain ⟨h1, h2, h3⟩ := right_parts h
  have hp : e.put = e.st := by unfold Ex.put; rw [if_pos h]
  have := tkAt_some (b := e.put ++ r) (q := 0) (by omega) (by rw [List.drop_zero, hp]; exact tkE_st e 8 r h1 hn h2 (by omega))
  rw [if_pos h] at this
  simpa using this
theorem tkAll_put {e : Ex} (h : e.right = true) (hn : e.nums) : tkAll e.put = some e := by
  have := tkAt_put h hn []
  rw [List.append_nil] at this
  unfold tkAll; rw [this]; simp
end Go.Proofs.YtjedgiiplebofaaGreatDoor
namespace Go.Proofs.YtjedgiiplebofaaGreatDoor
open Go.RowKit Go
set_option linter.unusedVariables false
set_option linter.unusedSimpArgs false
theorem nodeOk_kind {k : Int} {a b n : Nat} (h : nodeOk k a b n = true) : 1 ≤ k ∧ k ≤ 7 := by
  rcases nodeOk_cases h with h | h | h | h | h <;> omega
theorem told_head : ∀ (e : Ex), e.okR = true → ∃ c t, e.told = c :: t ∧ c ≠ 41
  | .mk k a b ps, hok => by
    simp only [Ex.okR, Bool.and_eq_true] at hok
    have hk := nodeOk_kind hok.2
    simp only [Ex.told]
    have h7 : k = 1 ∨ k = 2 ∨ k = 3 ∨ k = 4 ∨ k = 5 ∨ k = 6 ∨ k = 7 := by omega
    rcases h7 with rfl | rfl | rfl | rfl | rfl | rfl | rfl
    · exact ⟨97, _, rfl, by decide⟩
    · exact ⟨120, _, rfl, by decide⟩
    · exact ⟨118, _, rfl, by decide⟩
    · exact ⟨118, _, rfl, by decide⟩
    · exact ⟨33, _, rfl, by decide⟩
    · exact ⟨38, _, rfl, by decide⟩
    · exact ⟨124, _, rfl, by decide⟩
theorem commas_one (x : List UInt8) : commas [x] = x := by simp [commas, Lib.join_one]
theorem commas_two (x y : List UInt8) (l : List (List UInt8)) : commas (x :: y :: l) = x ++ 44 :: commas (y :: l) := by
  simp [commas, Lib.join_cons, Lib.joinTail, List.append_assoc]
theorem tolds_ge : ∀ (es : List Ex), Ex.okRs es = true → es.length ≤ (commas (Ex.tolds es)).length
  | [], _ => by simp
  | [e], h => by
    simp only [Ex.okRs, Bool.and_eq_true] at h
    obtain ⟨c, t, h1, _⟩ := told_head e h.1
    simp only [Ex.tolds, commas_one, h1]; simp
  | e :: e2 :: es, h => by
    simp only [Ex.okRs, Bool.and_eq_true] at h
    have h2 := tolds_ge (e2 :: es) (by simp only [Ex.okRs, Bool.and_eq_true]; exact h.2)
    simp only [Ex.tolds] at h2 ⊢
    rw [commas_two]
    simp at h2 ⊢
    omega
theorem notD_cons (c : UInt8) (r : List UInt8) (h : isD c = false) : ∀ d, (c :: r).head? = some d → isD d = false := by
  intro d hd; simp at hd; subst hd; exact h
mutual
theorem rfE_told : ∀ (e : Ex) (d : Nat) (r : List UInt8), e.okR = true → e.nums → e.depth ≤ d → (∀ c, r.head? = some c → isD c = false) → rfE d (e.told ++ r) = some (e, r)
  | .mk k a b ps, d, r, hok, hnu, hd, hr => by
    simp only [Ex.okR, Bool.and_eq_true] at hok
    simp only [Ex.nums] at hnu
    simp only [Ex.depth] at hd
    obtain ⟨d, rfl⟩ : ∃ d', d = d' + 1 := ⟨d - 1, by omega⟩
    have hparts := rfParts_tolds ps d r hok.1 hnu.2.2 (by omega)
    have hone : ∀ p, ps = [p] → rfE d (p.told ++ r) = some (p, r) := fun p hp => by
      subst hp
      simp only [Ex.okRs, Bool.and_eq_true] at hok
      simp only [Ex.numss] at hnu
      simp only [Ex.depths] at hd
      exact rfE_told p d r hok.1.1 hnu.2.2.1 (by omega) hr
    obtain ⟨ha, hb, _⟩ := hnu
    simp only [Ex.told]
    rcases nodeOk_cases hok.2 with ⟨rfl, rfl, rfl, hn⟩ | ⟨rfl | rfl, rfl, hn⟩ | ⟨rfl, hba, hn⟩ | ⟨rfl, rfl, rfl, hn⟩ | ⟨rfl | rfl, rfl, rfl⟩
    · obtain rfl := List.eq_nil_of_length_eq_zero hn
      simp [tellN, rfE, pre, List.isPrefixOf]
    · obtain rfl := List.eq_nil_of_length_eq_zero hn
      have h1 := rdNum_told a ha r hr
      simp [tellN, rfE, pre, List.isPrefixOf, h1]
    · obtain rfl := List.eq_nil_of_length_eq_zero hn
      have h1 := rdNum_told a ha r hr
      simp [tellN, rfE, pre, List.isPrefixOf, h1]
    · obtain rfl := List.eq_nil_of_length_eq_zero hn
      have h1 := rdNum_told a ha (61 :: (Lib.decDigits b ++ r)) (notD_cons 61 _ (by decide))
      have h2 := rdNum_told b hb r hr
      simp [tellN, rfE, pre, List.isPrefixOf, h1, h2]
    · obtain ⟨p, rfl⟩ : ∃ p, ps = [p] := by
        match ps, hn with
        | [p], _ => exact ⟨p, rfl⟩
      have h1 := hone p rfl
      simp [tellN, Ex.tolds, commas_one, rfE, pre, List.isPrefixOf, h1]
    · simp [tellN, rfE, pre, List.isPrefixOf, hparts]
    · simp [tellN, rfE, pre, List.isPrefixOf, hparts]
theorem rfParts_tolds : ∀ (es : List Ex) (d : Nat) (r : List UInt8), Ex.okRs es = true → Ex.numss es → Ex.depths es ≤ d → rfParts (rfE d) (commas (Ex.tolds es) ++ 41 :: r) = some (es, r)
  | [], d, r, _, _, _ => by simp [Ex.tolds, commas, Lib.join_nil, rfParts, pre, List.isPrefixOf]
  | e :: es, d, r, hok, hnu, hd => by
    have hge := tolds_ge (e :: es) hok
    have hl := rfLoop_tolds (e :: es) ((commas (Ex.tolds (e :: es)) ++ 41 :: r).length + 1) d r (by simp) hok hnu hd (by simp at hge ⊢; omega)
    have hh : pre [41] (commas (Ex.tolds (e :: es)) ++ 41 :: r) = false := by
      simp only [Ex.okRs, Bool.and_eq_true] at hok
      obtain ⟨c, t, h1, h2⟩ := told_head e hok.1
      cases es with
      | nil => simp only [Ex.tolds, commas_one, h1]; simp [pre, List.isPrefixOf]; exact fun h => h2 h.symm
      | cons e2 es => simp only [Ex.tolds, commas_two, h1]; simp [pre, List.isPrefixOf]; exact fun h => h2 h.symm
    unfold rfParts
    rw [hh]
    exact hl
theorem rfLoop_tolds : ∀ (es : List Ex) (f d : Nat) (r : List UInt8), es ≠ [] → Ex.okRs es = true → Ex.numss es → Ex.depths es ≤ d → es.length ≤ f → rfLoop (rfE d) f (commas (Ex.tolds es) ++ 41 :: r) = some (es, r)
  | [], _, _, _, h, _, _, _, _ => absurd rfl h
  | [e], f, d, r, _, hok, hnu, hd, hf => by
    simp only [Ex.okRs, Bool.and_eq_true] at hok
    simp only [Ex.numss] at hnu
    simp only [Ex.depths] at hd
    obtain ⟨f, rfl⟩ : ∃ f', f = f' + 1 := ⟨f - 1, by simp at hf; omega⟩
    have h1 := rfE_told e d (41 :: r) hok.1 hnu.1 (by omega) (notD_cons 41 _ (by decide))
    simp only [Ex.tolds, commas_one, rfLoop, h1]
    simp [pre, List.isPrefixOf]
  | e :: e2 :: es, f, d, r, _, hok, hnu, hd, hf => by
    simp only [Ex.okRs, Bool.and_eq_true] at hok
    simp only [Ex.numss] at hnu
    simp only [Ex.depths] at hd
    obtain ⟨f, rfl⟩ : ∃ f', f = f' + 1 := ⟨f - 1, by simp at hf; omega⟩
    have h2 := rfLoop_tolds (e2 :: es) f d r (by simp) (by simp only [Ex.okRs, Bool.and_eq_true]; exact hok.2) (by simp only [Ex.numss]; exact hnu.2) (by simp only [Ex.depths]; omega) (by simp at hf ⊢; omega)
    have h1 := rfE_told e d (44 :: (commas (Ex.tolds (e2 :: es)) ++ 41 :: r)) hok.1 hnu.1 (by omega) (notD_cons 44 _ (by decide))
    simp only [Ex.tolds] at h1 h2 ⊢
    rw [commas_two, List.append_assoc, List.cons_append, rfLoop, h1]
    simp [pre, List.isPrefixOf, h2]
end
end Go.Proofs.YtjedgiiplebofaaGreatDoor
