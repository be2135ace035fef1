/- The examples of chapter 5. -/
import Derived.Test.YtmgbhhmipmgcpaaGreatDoorQ31
import Derived.Lib.Split
import Derived.Lib.CutLaws
namespace Go.Proofs.YtmgbhhmipmgcpaaGreatDoor
open Go.RowKit Go
set_option linter.unusedVariables false
set_option linter.unusedSimpArgs false
def cuts (c : UInt8) : List UInt8 → List (List UInt8)
 | [] => [[]]
 | b :: l => if b = c then [] :: cuts c l else match cuts c l with
  | [] => [[b]]
  | x :: r => (b :: x) :: r
theorem jB (c : UInt8) (l : List UInt8) : cuts c l ≠ [] := by
 cases l with
 | nil => simp [cuts]
 | cons b l =>
  simp only [cuts]
  split
  ·simp
  ·split <;> simp
theorem je {c b : UInt8} {l x : List UInt8} {r : List (List UInt8)} (hb : b ≠ c) (h : cuts c l = x :: r) : cuts c (b :: l) = (b :: x) :: r := by
 simp only [cuts]
 rw [if_neg hb, h]
theorem mZ (c : UInt8) (l : List UInt8) : cuts c (c :: l) = [] :: cuts c l := by
 simp only [cuts, if_true]
theorem eB {c : UInt8} {l : List UInt8} (h : c ∉ l) : cuts c l = [l] := by
 induction l with
 | nil => rfl
 | cons b l ih =>
  simp only [List.mem_cons, not_or] at h
  exact je (fun e => h.1 e.symm) (ih h.2)
theorem iN {c : UInt8} {x : List UInt8} (l : List UInt8) (h : c ∉ x) : cuts c (x ++ c :: l) = x :: cuts c l := by
 induction x with
 | nil => exact mZ c l
 | cons b x ih =>
  simp only [List.mem_cons, not_or] at h
  exact je (fun e => h.1 e.symm) (ih h.2)
theorem jO (c : UInt8) (l : List UInt8) : Lib.join (cuts c l) [c] = l := by
 induction l with
 | nil => simp [cuts, Lib.join_one]
 | cons b l ih =>
  by_cases hb : b = c
  ·subst hb
   rw [mZ]
   cases hq : cuts b l with
   | nil => exact absurd hq (jB _ _)
   | cons x r =>
    rw [hq] at ih
    rw [Lib.join_cons] at ih ⊢
    simp only [Lib.joinTail, List.nil_append, List.singleton_append, List.append_assoc] at ih ⊢
    simp [Lib.joinTail, ih]
  ·cases hq : cuts c l with
   | nil => exact absurd hq (jB _ _)
   | cons x r =>
    rw [je hb hq]
    rw [hq] at ih
    rw [Lib.join_cons] at ih ⊢
    simp only [List.cons_append]
    rw [ih]
theorem jC {c : UInt8} : ∀ {ws : List (List UInt8)}, ws ≠ [] → (∀ x ∈ ws, c ∉ x) → cuts c (Lib.join ws [c]) = ws
 | [], h, _ => absurd rfl h
 | [x], _, h => by rw [Lib.join_one]; exact eB (h x (by simp))
 | x :: y :: ws, _, h => by
  have ih := jC (c := c) (ws := y :: ws) (by simp) (fun z hz => h z (by simp only [List.mem_cons] at hz ⊢; exact .inr hz))
  rw [Lib.join_cons] at ih ⊢
  rw [show Lib.joinTail [c] (y :: ws) = c :: (y ++ Lib.joinTail [c] ws) from by simp [Lib.joinTail], iN _ (h x (by simp)), ih]
theorem index_one (c : UInt8) (l : List UInt8) : Lib.index l [c] = if c ∈ l then ((l.takeWhile (fun b => decide (b ≠ c))).length : Int) else -1 := by
 induction l with
 | nil => simp [Lib.index]
 | cons b l ih =>
  unfold Lib.index
  by_cases hb : b = c
  ·subst hb; simp
  ·have h1 : ([c].isPrefixOf (b :: l)) = false := by simp [List.isPrefixOf]; exact fun e => hb e.symm
   rw [h1, ih]
   by_cases hm : c ∈ l
   ·have e1 : (((l.takeWhile (fun b => decide (b ≠ c))).length : Int) == -1) = false := beq_eq_false_iff_ne.2 (by omega)
    have e2 : c ∈ b :: l := List.mem_cons_of_mem _ hm
    have e3 : (b :: l).takeWhile (fun b => decide (b ≠ c)) = b :: l.takeWhile (fun b => decide (b ≠ c)) := List.takeWhile_cons_of_pos (by simp [hb])
    simp only [hm, e2, if_true, Bool.false_eq_true, if_false, e1, e3, List.length_cons]
    omega
   ·have e2 : ¬ c ∈ b :: l := fun h => by
     rcases List.mem_cons.1 h with h | h
     ·exact hb h.symm
     ·exact hm h
    simp only [hm, e2, if_false, Bool.false_eq_true]
    rfl
theorem fE {c : UInt8} {l : List UInt8} (h : c ∈ l) : ∃ x r, l = x ++ c :: r ∧ c ∉ x ∧ Lib.index l [c] = x.length := by
 obtain ⟨x, r, h1, h2⟩ := List.eq_append_cons_of_mem h
 refine ⟨x, r, h1, h2, ?_⟩
 rw [index_one, if_pos h]
 subst h1
 rw [List.takeWhile_append_of_pos (by intro a ha; simp; intro e; subst e; exact h2 ha), List.takeWhile_cons_of_neg (by simp)]
 simp
theorem ku (c : UInt8) : ∀ (k : Nat) (l : List UInt8), l.count c ≤ k → Lib.splitK [c] 0 k l = cuts c l
 | 0, l, h => by
  have hn : c ∉ l := fun hm => by have := List.count_pos_iff.2 hm; omega
  rw [eB hn]; rfl
 | k + 1, l, h => by
  unfold Lib.splitK
  by_cases hm : c ∈ l
  ·obtain ⟨x, r, h1, h2, h3⟩ := fE hm
   rw [h3, if_neg (by simp <;> omega)]
   subst h1
   rw [iN _ h2]
   have hc : (x ++ c :: r).count c = r.count c + 1 := by
    rw [List.count_append, List.count_eq_zero.2 h2, List.count_cons_self]; omega
   simp only [Int.toNat_natCast, Nat.add_zero, List.length_singleton]
   rw [List.take_left, show x.length + 1 = (x ++ [c]).length from by simp, show x ++ c :: r = (x ++ [c]) ++ r from by simp, List.drop_left, ku c k r (by omega)]
  ·rw [index_one, if_neg hm, if_pos (by simp), eB hm]
theorem iU (c : UInt8) : ∀ (f : Nat) (l : List UInt8), l.length < f → l.count c ≤ Lib.countFrom [c] f l
 | 0, l, h => by omega
 | f + 1, l, h => by
  unfold Lib.countFrom
  by_cases hm : c ∈ l
  ·obtain ⟨x, r, h1, h2, h3⟩ := fE hm
   rw [h3, if_neg (by simp <;> omega)]
   subst h1
   simp only [Int.toNat_natCast, List.length_singleton]
   rw [show x.length + 1 = (x ++ [c]).length from by simp, show x ++ c :: r = (x ++ [c]) ++ r from by simp, List.drop_left]
   have := iU c f r (by simp at h; omega)
   rw [List.append_assoc, List.count_append, List.count_eq_zero.2 h2, List.singleton_append, List.count_cons_self]
   omega
  ·rw [List.count_eq_zero.2 hm]; omega
theorem qh {e : Ex} (h : e.right = true) (hn : e.nums) : dB e.text = some e := by
 obtain ⟨h1, h2, _⟩ := ko h
 have ht : e.text = e.told := by unfold Ex.text; rw [if_pos h]
 have := jw e 8 [] h1 hn h2 (by intro c hc; cases hc)
 rw [List.append_nil, ← ht] at this
 rw [jM this, if_pos ⟨rfl, h⟩]
structure Ent where
 x : Nat
 w : Nat
 n : Nat
 m : Bool
structure Rec where
 k : Int
 t : Nat
 x : Nat
 w : Nat
 n : Nat
 v : Nat
 p : Ex
 es : List Ent
def Rec.zero : Rec := ⟨0, 0, 0, 0, 0, 0, .zero, []⟩
def Ent.ok (e : Ent) : Prop := e.x < 18446744073709551616 ∧ e.w < 18446744073709551616 ∧ e.n < 18446744073709551616
def Rec.nums (r : Rec) : Prop := r.t < 18446744073709551616 ∧ r.x < 18446744073709551616 ∧ r.w < 18446744073709551616 ∧ r.n < 18446744073709551616 ∧ r.v < 18446744073709551616 ∧ r.p.nums ∧ ∀ e ∈ r.es, e.ok
def dU (w n : Nat) : List UInt8 := Lib.decDigits w ++ 46 :: Lib.decDigits n
def cB (m : Bool) : List UInt8 := if m then [49] else [48]
def Ent.told (e : Ent) : List UInt8 := Lib.decDigits e.x ++ 58 :: (dU e.w e.n ++ 58 :: cB e.m)
def aC (k : Int) : List UInt8 :=
 if k = 1 then [98, 101, 103, 105, 110] else if k = 2 then [114, 101, 97, 100] else if k = 3 then [119, 114, 105, 116, 101] else if k = 4 then [100, 101, 108, 101, 116, 101]
 else if k = 5 then [112, 114, 101, 100] else if k = 6 then [99, 111, 109, 109, 105, 116] else [97, 98, 111, 114, 116]
def kindOf (w : List UInt8) : Nat :=
 if w = aC 1 then 1 else if w = aC 2 then 2 else if w = aC 3 then 3 else if w = aC 4 then 4 else if w = aC 5 then 5 else if w = aC 6 then 6 else if w = aC 7 then 7 else 0
def Rec.tail (r : Rec) : List (List UInt8) :=
 if r.k = 2 then [Lib.decDigits r.x, dU r.w r.n] else if r.k = 3 then [Lib.decDigits r.x, Lib.decDigits r.v] else if r.k = 4 then [Lib.decDigits r.x] else if r.k = 5 then r.p.told :: r.es.map Ent.told else []
def Rec.words (r : Rec) : List (List UInt8) := aC r.k :: Lib.decDigits r.t :: r.tail
def Rec.told (r : Rec) : List UInt8 := Lib.join r.words [32]
def Rec.only (r : Rec) : Rec :=
 if r.k = 2 then ⟨r.k, r.t, r.x, r.w, r.n, 0, .zero, []⟩ else if r.k = 3 then ⟨r.k, r.t, r.x, 0, 0, r.v, .zero, []⟩ else if r.k = 4 then ⟨r.k, r.t, r.x, 0, 0, 0, .zero, []⟩
 else if r.k = 5 then ⟨r.k, r.t, 0, 0, 0, 0, r.p, r.es⟩ else ⟨r.k, r.t, 0, 0, 0, 0, .zero, []⟩
def Rec.rightP (r : Rec) : Prop := 1 ≤ r.k ∧ r.k ≤ 7 ∧ (r.k = 5 → r.p.right = true) ∧ r.only = r
def aT (s : List UInt8) : Option Nat := if Lib.decDigits (numOf s) = s ∧ numOf s < 18446744073709551616 then some (numOf s) else none
theorem aQ {s : List UInt8} {n : Nat} : aT s = some n ↔ s = Lib.decDigits n ∧ n < 18446744073709551616 := by
 unfold aT
 constructor
 ·intro h
  split at h
  ·rename_i hc; injection h with h; subst h; exact ⟨hc.1.symm, hc.2⟩
  ·cases h
 ·rintro ⟨rfl, h⟩
  rw [bO, if_pos ⟨rfl, h⟩]
def gT (s : List UInt8) : Option (Nat × Nat) := match cuts 46 s with
 | [a, b] => (aT a).bind fun w => (aT b).map fun n => (w, n)
 | _ => none
def iB (s : List UInt8) : Option Ent := match cuts 58 s with
 | [a, b, f] => if f = [48] ∨ f = [49] then (aT a).bind fun x => (gT b).map fun v => ⟨x, v.1, v.2, decide (f = [49])⟩ else none
 | _ => none
def eZ : List (List UInt8) → Option (List Ent)
 | [] => some []
 | s :: l => (iB s).bind fun e => (eZ l).map fun es => e :: es
def bL (k t : Nat) (l : List (List UInt8)) : Option Rec :=
 if k = 2 then match l with
  | [a, b] => (aT a).bind fun x => (gT b).map fun v => ⟨2, t, x, v.1, v.2, 0, .zero, []⟩
  | _ => none
 else if k = 3 then match l with
  | [a, b] => (aT a).bind fun x => (aT b).map fun v => ⟨3, t, x, 0, 0, v, .zero, []⟩
  | _ => none
 else if k = 4 then match l with
  | [a] => (aT a).map fun x => ⟨4, t, x, 0, 0, 0, .zero, []⟩
  | _ => none
 else if k = 5 then match l with
  | a :: es => (dB a).bind fun p => (eZ es).map fun es => ⟨5, t, 0, 0, 0, 0, p, es⟩
  | _ => none
 else if l = [] then some ⟨k, t, 0, 0, 0, 0, .zero, []⟩ else none
def fe (s : List UInt8) : Option Rec := match cuts 32 s with
 | w :: a :: l => if kindOf w = 0 then none else (aT a).bind fun t => bL (kindOf w) t l
 | _ => none
theorem bu {n : Nat} {c : UInt8} (hc : isD c = false) : c ∉ Lib.decDigits n := fun h => by
 have := eT n c h
 rw [hc] at this; cases this
theorem ol {w n : Nat} {c : UInt8} (hc : isD c = false) (h2 : c ≠ 46) : c ∉ dU w n := by
 unfold dU
 simp only [List.mem_append, List.mem_cons, not_or]
 exact ⟨bu hc, h2, bu hc⟩
theorem qi {m : Bool} {c : UInt8} (hc : isD c = false) : c ∉ cB m := by
 cases m
 ·simp only [cB, Bool.false_eq_true, if_false, List.mem_singleton]; intro e; subst e; cases hc
 ·simp only [cB, if_true, List.mem_singleton]; intro e; subst e; cases hc
theorem wR {e : Ent} : (32 : UInt8) ∉ e.told := by
 unfold Ent.told
 simp only [List.mem_append, List.mem_cons, not_or]
 exact ⟨bu (by decide), by decide, ol (by decide) (by decide), by decide, qi (by decide)⟩
theorem ng {c : UInt8} (hc : c ≠ 44) : ∀ (l : List (List UInt8)), (∀ x ∈ l, c ∉ x) → c ∉ commas l
 | [], _ => by simp [commas, Lib.join_nil]
 | [x], h => by rw [gp]; exact h x (by simp)
 | x :: y :: l, h => by
  rw [gQ]
  simp only [List.mem_append, List.mem_cons, not_or]
  exact ⟨h x (by simp), hc, ng hc (y :: l) (fun z hz => h z (List.mem_cons_of_mem _ hz))⟩
mutual
theorem tu : ∀ e : Ex, (32 : UInt8) ∉ e.told
 | .mk k a b ps => by
  have h1 := qj ps
  have h2 := ng (c := 32) (by decide) _ h1
  simp only [Ex.told, bN]
  split
  ·decide
  split
  ·simp only [List.mem_append, not_or]; exact ⟨by decide, bu (by decide)⟩
  split
  ·simp only [List.mem_append, not_or]; exact ⟨by decide, bu (by decide)⟩
  split
  ·simp only [List.mem_append, not_or]; exact ⟨⟨⟨by decide, bu (by decide)⟩, by decide⟩, bu (by decide)⟩
  split
  ·simp only [List.mem_append, not_or]; exact ⟨by decide, h2⟩
  split
  ·simp only [List.mem_append, not_or]; exact ⟨⟨by decide, h2⟩, by decide⟩
  ·simp only [List.mem_append, not_or]; exact ⟨⟨by decide, h2⟩, by decide⟩
theorem qj : ∀ es : List Ex, ∀ x ∈ Ex.tolds es, (32 : UInt8) ∉ x
 | [], x, h => by simp [Ex.tolds] at h
 | e :: es, x, h => by
  simp only [Ex.tolds, List.mem_cons] at h
  rcases h with rfl | h
  ·exact tu e
  ·exact qj es x h
end
theorem jf {k : Int} (h1 : 1 ≤ k) (h7 : k ≤ 7) : k = 1 ∨ k = 2 ∨ k = 3 ∨ k = 4 ∨ k = 5 ∨ k = 6 ∨ k = 7 := by omega
theorem wS {k : Int} (h1 : 1 ≤ k) (h7 : k ≤ 7) : (32 : UInt8) ∉ aC k := by
 rcases jf h1 h7 with rfl | rfl | rfl | rfl | rfl | rfl | rfl <;> decide
theorem iC {k : Int} (h1 : 1 ≤ k) (h7 : k ≤ 7) : (kindOf (aC k) : Int) = k := by
 rcases jf h1 h7 with rfl | rfl | rfl | rfl | rfl | rfl | rfl <;> decide
theorem kv {w : List UInt8} (h : kindOf w ≠ 0) : w = aC (kindOf w) ∧ 1 ≤ kindOf w ∧ kindOf w ≤ 7 := by
 have key : ∀ k : Nat, 1 ≤ k → k ≤ 7 → w = aC k → w = aC (kindOf w) ∧ 1 ≤ kindOf w ∧ kindOf w ≤ 7 := fun k h1 h7 e => by
  have h2 := iC (k := k) (by omega) (by omega)
  rw [← e] at h2
  exact ⟨by rw [h2]; exact e, by omega, by omega⟩
 by_cases e1 : w = aC 1
 ·exact key 1 (by omega) (by omega) e1
 by_cases e2 : w = aC 2
 ·exact key 2 (by omega) (by omega) e2
 by_cases e3 : w = aC 3
 ·exact key 3 (by omega) (by omega) e3
 by_cases e4 : w = aC 4
 ·exact key 4 (by omega) (by omega) e4
 by_cases e5 : w = aC 5
 ·exact key 5 (by omega) (by omega) e5
 by_cases e6 : w = aC 6
 ·exact key 6 (by omega) (by omega) e6
 by_cases e7 : w = aC 7
 ·exact key 7 (by omega) (by omega) e7
 exact absurd (by unfold kindOf; rw [if_neg e1, if_neg e2, if_neg e3, if_neg e4, if_neg e5, if_neg e6, if_neg e7]) h
theorem gJ {s : List UInt8} {w n : Nat} : gT s = some (w, n) ↔ s = dU w n ∧ w < 18446744073709551616 ∧ n < 18446744073709551616 := by
 constructor
 ·intro h
  unfold gT at h
  split at h
  ·rename_i a b hc
   have hj := jO 46 s
   rw [hc] at hj
   simp only [Option.bind_eq_some_iff, Option.map_eq_some_iff, Prod.mk.injEq] at h
   obtain ⟨x, h1, y, h2, rfl, rfl⟩ := h
   obtain ⟨rfl, h3⟩ := aQ.1 h1
   obtain ⟨rfl, h4⟩ := aQ.1 h2
   exact ⟨by rw [← hj]; simp [Lib.join_cons, Lib.joinTail, dU], h3, h4⟩
  ·cases h
 ·rintro ⟨rfl, h1, h2⟩
  unfold gT dU
  rw [iN _ (bu (by decide)), eB (bu (by decide))]
  simp only [Option.bind_eq_some_iff, Option.map_eq_some_iff]
  exact ⟨w, aQ.2 ⟨rfl, h1⟩, n, aQ.2 ⟨rfl, h2⟩, rfl⟩
theorem ni {s : List UInt8} {e : Ent} : iB s = some e ↔ s = e.told ∧ e.ok := by
 constructor
 ·intro h
  unfold iB at h
  split at h
  ·rename_i a b f hc
   have hj := jO 58 s
   rw [hc] at hj
   split at h
   ·rename_i hf
    simp only [Option.bind_eq_some_iff, Option.map_eq_some_iff] at h
    obtain ⟨x, h1, ⟨v, u⟩, h2, rfl⟩ := h
    obtain ⟨rfl, h3⟩ := aQ.1 h1
    obtain ⟨rfl, h4, h5⟩ := gJ.1 h2
    refine ⟨?_, h3, h4, h5⟩
    rw [← hj]
    rcases hf with rfl | rfl <;> simp [Lib.join_cons, Lib.joinTail, Ent.told, cB]
   ·cases h
  ·cases h
 ·rintro ⟨rfl, h1, h2, h3⟩
  obtain ⟨x, w, n, m⟩ := e
  unfold iB Ent.told
  rw [iN _ (bu (by decide)), iN _ (ol (by decide) (by decide)), eB (qi (by decide))]
  have hf : cB m = [48] ∨ cB m = [49] := by cases m <;> simp [cB]
  have hm : decide (cB m = [49]) = m := by cases m <;> decide
  simp only
  rw [if_pos hf, hm]
  simp only [Option.bind_eq_some_iff, Option.map_eq_some_iff]
  exact ⟨x, aQ.2 ⟨rfl, h1⟩, (w, n), gJ.2 ⟨rfl, h2, h3⟩, rfl⟩
theorem gq : ∀ {l : List (List UInt8)} {es : List Ent}, eZ l = some es ↔ l = es.map Ent.told ∧ ∀ e ∈ es, e.ok
 | [], es => by
  simp only [eZ, Option.some.injEq]
  constructor
  ·rintro rfl; simp
  ·rintro ⟨h, _⟩
   cases es with
   | nil => rfl
   | cons e es => simp at h
 | s :: l, es => by
  simp only [eZ, Option.bind_eq_some_iff, Option.map_eq_some_iff]
  constructor
  ·rintro ⟨e, h1, es', h2, rfl⟩
   obtain ⟨rfl, h3⟩ := ni.1 h1
   obtain ⟨rfl, h4⟩ := gq.1 h2
   exact ⟨rfl, fun z hz => by rcases List.mem_cons.1 hz with rfl | hz; exact h3; exact h4 z hz⟩
  ·rintro ⟨h, h2⟩
   cases es with
   | nil => simp at h
   | cons e es =>
    simp only [List.map_cons, List.cons.injEq] at h
    obtain ⟨rfl, rfl⟩ := h
    exact ⟨e, ni.2 ⟨rfl, h2 e (by simp)⟩, es, gq.2 ⟨rfl, fun z hz => h2 z (by simp [hz])⟩, rfl⟩
theorem ql {e : Ex} (h : e.right = true) (hn : e.nums) : dB e.told = some e := by
 have := qh h hn
 unfold Ex.text at this
 rwa [if_pos h] at this
theorem fT : Ex.zero.nums := by simp [Ex.zero, Ex.nums, Ex.numss]
theorem rJ {r : Rec} (h : r.rightP) (hn : r.nums) : bL r.k.toNat r.t r.tail = some r := by
 obtain ⟨k, t, x, w, n, v, p, es⟩ := r
 obtain ⟨h1, h7, h5, ho⟩ := h
 obtain ⟨n1, n2, n3, n4, n5, n6, n7⟩ := hn
 simp only at h1 h7 h5 n1 n2 n3 n4 n5 n6 n7
 rcases jf h1 h7 with rfl | rfl | rfl | rfl | rfl | rfl | rfl
 all_goals simp [Rec.only] at ho
 ·obtain ⟨rfl, rfl, rfl, rfl, rfl, rfl⟩ := ho; rfl
 ·obtain ⟨rfl, rfl, rfl⟩ := ho
  show bL 2 t [Lib.decDigits x, dU w n] = _
  unfold bL
  rw [if_pos rfl]
  simp only [aQ.2 ⟨rfl, n2⟩, gJ.2 ⟨rfl, n3, n4⟩, Option.bind_some, Option.map_some]
 ·obtain ⟨rfl, rfl, rfl, rfl⟩ := ho
  show bL 3 t [Lib.decDigits x, Lib.decDigits v] = _
  unfold bL
  rw [if_neg (by decide), if_pos rfl]
  simp only [aQ.2 ⟨rfl, n2⟩, aQ.2 ⟨rfl, n5⟩, Option.bind_some, Option.map_some]
 ·obtain ⟨rfl, rfl, rfl, rfl, rfl⟩ := ho
  show bL 4 t [Lib.decDigits x] = _
  unfold bL
  rw [if_neg (by decide), if_neg (by decide), if_pos rfl]
  simp only [aQ.2 ⟨rfl, n2⟩, Option.map_some]
 ·obtain ⟨rfl, rfl, rfl, rfl⟩ := ho
  show bL 5 t (p.told :: es.map Ent.told) = _
  unfold bL
  rw [if_neg (by decide), if_neg (by decide), if_neg (by decide), if_pos rfl]
  simp only [ql (h5 rfl) n6, gq.2 ⟨rfl, n7⟩, Option.bind_some, Option.map_some]
 ·obtain ⟨rfl, rfl, rfl, rfl, rfl, rfl⟩ := ho; rfl
 ·obtain ⟨rfl, rfl, rfl, rfl, rfl, rfl⟩ := ho; rfl
theorem wT {r : Rec} : ∀ x ∈ r.tail, (32 : UInt8) ∉ x := by
 intro x hx
 unfold Rec.tail at hx
 split at hx
 ·simp only [List.mem_cons, List.not_mem_nil, or_false] at hx
  rcases hx with rfl | rfl
  ·exact bu (by decide)
  ·exact ol (by decide) (by decide)
 split at hx
 ·simp only [List.mem_cons, List.not_mem_nil, or_false] at hx
  rcases hx with rfl | rfl <;> exact bu (by decide)
 split at hx
 ·simp only [List.mem_cons, List.not_mem_nil, or_false] at hx
  subst hx; exact bu (by decide)
 split at hx
 ·simp only [List.mem_cons, List.mem_map] at hx
  rcases hx with rfl | ⟨e, _, rfl⟩
  ·exact tu _
  ·exact wR
 ·simp at hx
theorem uk {r : Rec} (h : r.rightP) : cuts 32 r.told = r.words := by
 refine jC (by simp [Rec.words]) (fun x hx => ?_)
 simp only [Rec.words, List.mem_cons] at hx
 rcases hx with rfl | rfl | hx
 ·exact wS h.1 h.2.1
 ·exact bu (by decide)
 ·exact wT x hx
theorem rM {r : Rec} (h : r.rightP) (hn : r.nums) : fe r.told = some r := by
 unfold fe
 rw [uk h]
 have hk := iC h.1 h.2.1
 have hk0 : kindOf (aC r.k) ≠ 0 := by have := h.1; omega
 simp only [Rec.words]
 rw [if_neg hk0, aQ.2 ⟨rfl, hn.1⟩, show kindOf (aC r.k) = r.k.toNat from by omega]
 simp only [Option.bind_some]
 exact rJ h hn
instance : DecidableEq Ent := fun a b => decidable_of_iff (a.x = b.x ∧ a.w = b.w ∧ a.n = b.n ∧ a.m = b.m) (by cases a; cases b; simp)
def Rec.same (a b : Rec) : Bool := decide (a.k = b.k) && decide (a.t = b.t) && decide (a.x = b.x) && decide (a.w = b.w) && decide (a.n = b.n) && decide (a.v = b.v) && a.p.same b.p && decide (a.es = b.es)
theorem Rec.same_iff (a b : Rec) : a.same b = true ↔ a = b := by
 cases a; cases b
 simp only [Rec.same, Bool.and_eq_true, decide_eq_true_eq, Ex.same_iff, Rec.mk.injEq, and_assoc]
theorem Rec.same_refl (a : Rec) : a.same a = true := (Rec.same_iff a a).2 rfl
def Rec.right (r : Rec) : Bool := decide (1 ≤ r.k) && decide (r.k ≤ 7) && (decide (r.k ≠ 5) || r.p.right) && r.only.same r
theorem Rec.right_iff (r : Rec) : r.right = true ↔ r.rightP := by
 simp only [Rec.right, Bool.and_eq_true, Bool.or_eq_true, decide_eq_true_eq, Rec.same_iff, Rec.rightP, and_assoc]
 constructor
 ·rintro ⟨h1, h2, h3, h4⟩
  exact ⟨h1, h2, fun h => h3.resolve_left (fun hn => hn h), h4⟩
 ·rintro ⟨h1, h2, h3, h4⟩
  exact ⟨h1, h2, by by_cases h : r.k = 5; exact .inr (h3 h); exact .inl h, h4⟩
def Rec.text (r : Rec) : List UInt8 := if r.right then r.told else []
def Ent.cells (e : Ent) : List Value := [.int .u64 e.x, .int .u64 e.w, .int .u64 e.n, .bool e.m]
def aH : List Ent → List Value
 | [] => []
 | e :: es => e.cells ++ aH es
theorem dH : ∀ es : List Ent, (aH es).length = es.length * 4
 | [] => rfl
 | e :: es => by simp [aH, Ent.cells, dH es]; omega
theorem fF : ∀ a b : List Ent, aH (a ++ b) = aH a ++ aH b
 | [], b => rfl
 | e :: a, b => by simp [aH, fF a b]
theorem jD : ∀ es : List Ent, ∀ u ∈ aH es, u.oneCell' = true
 | [], u, h => by simp [aH] at h
 | e :: es, u, h => by
  simp only [aH, List.mem_append] at h
  rcases h with h | h
  ·simp only [Ent.cells, List.mem_cons, List.not_mem_nil, or_false] at h
   rcases h with rfl | rfl | rfl | rfl <;> rfl
  ·exact jD es u h
theorem jE : ∀ (es : List Ent) (i : Nat) (h : i < es.length), (aH es)[i * 4]? = some (.int .u64 es[i].x) ∧ (aH es)[i * 4 + 1]? = some (.int .u64 es[i].w) ∧ (aH es)[i * 4 + 2]? = some (.int .u64 es[i].n) ∧ (aH es)[i * 4 + 3]? = some (.bool es[i].m)
 | e :: es, 0, h => by simp [aH, Ent.cells]
 | e :: es, i + 1, h => by
  have := jE es i (by simpa using h)
  simp only [aH, Ent.cells, List.getElem_cons_succ]
  rw [show (i + 1) * 4 = i * 4 + 4 from by omega]
  simpa using this
def bZ (w : World) (S : Nat → Prop) (own : Bool) (es : List Ent) (v : Value) : Prop := Sl w S own 4 es.length (aH es) v
theorem bZ.keep {w w' : World} {S S' : Nat → Prop} {own : Bool} {es : List Ent} {v : Value} (h : bZ w S own es v) (hk : bB S w w') (hS : ∀ b, b < w.heap.size → S b → S' b) : bZ w' S' own es v := Sl.keep h (by omega) hk hS
theorem bZ.below {B : Nat} {w w' : World} {S : Nat → Prop} {own : Bool} {es : List Ent} {v : Value} (h : bZ w S own es v) (hb : Below B w w') (hB : w.heap.size ≤ B) : bZ w' S own es v := Sl.below h (by omega) hb hB
theorem bZ.shape {w : World} {S : Nat → Prop} {own : Bool} {es : List Ent} {v : Value} (h : bZ w S own es v) : es.length ≤ 9223372036854775807 ∧ ∃ ad cap, v = .slice ad es.length cap ∧ es.length ≤ cap := ⟨h.2.1, (Sl.shape h).2.2⟩
theorem bZ.part {w : World} {S : Nat → Prop} {own : Bool} {es : List Ent} {ad : Option Addr} {cap : Nat} (h : bZ w S own es (.slice ad es.length cap)) (i : Nat) (hi : i < es.length) :
  ∃ bl off, ad = some ⟨bl, off, none⟩ ∧ S bl ∧ w.cell? ⟨bl, off + i * 4, none⟩ = some (.int .u64 es[i].x) ∧ w.cell? ⟨bl, off + i * 4 + 1, none⟩ = some (.int .u64 es[i].w) ∧ w.cell? ⟨bl, off + i * 4 + 2, none⟩ = some (.int .u64 es[i].n) ∧
   w.cell? ⟨bl, off + i * 4 + 3, none⟩ = some (.bool es[i].m) ∧ (own = true → ∀ j, j < 4 → w.frozen? ⟨bl, off + i * 4 + j, none⟩ = false) := by
 obtain ⟨bl, off, ha, hS, hc⟩ := Sl.cells h (by omega)
 have hx := dH es
 obtain ⟨g0, g1, g2, g3⟩ := jE es i hi
 have q0 := hc (i * 4) (by omega)
 have q1 := hc (i * 4 + 1) (by omega)
 have q2 := hc (i * 4 + 2) (by omega)
 have q3 := hc (i * 4 + 3) (by omega)
 rw [List.getElem?_eq_getElem (by omega)] at g0 g1 g2 g3
 refine ⟨bl, off, ha, hS, by rw [q0.1]; exact g0, by rw [Nat.add_assoc, q1.1]; exact g1, by rw [Nat.add_assoc, q2.1]; exact g2, by rw [Nat.add_assoc, q3.1]; exact g3, fun ho j hj => ?_⟩
 have := (hc (i * 4 + j) (by omega)).2 ho
 rw [Nat.add_assoc]; exact this
def aI (w : World) (S : Nat → Prop) (own : Bool) (r : Rec) (v : Value) : Prop :=
 ∃ c0 c1 c2 c3 s, v = .agg #[.int .i64 r.k, .int .u64 r.t, .int .u64 r.x, .int .u64 r.w, .int .u64 r.n, .int .u64 r.v, c0, c1, c2, c3, s] ∧ -9223372036854775808 ≤ r.k ∧ r.k ≤ 9223372036854775807 ∧ r.nums ∧
  av w S own r.p (.agg #[c0, c1, c2, c3]) ∧ bZ w S own r.es s
theorem aI.keep {w w' : World} {S S' : Nat → Prop} {own : Bool} {r : Rec} {v : Value} (h : aI w S own r v) (hk : bB S w w') (hS : ∀ b, b < w.heap.size → S b → S' b) : aI w' S' own r v := by
 obtain ⟨c0, c1, c2, c3, s, h1, h2, h3, h4, h5, h6⟩ := h
 exact ⟨c0, c1, c2, c3, s, h1, h2, h3, h4, av.keep hk hS h5, h6.keep hk hS⟩
theorem aI.below {B : Nat} {w w' : World} {S : Nat → Prop} {own : Bool} {r : Rec} {v : Value} (h : aI w S own r v) (hb : Below B w w') (hB : w.heap.size ≤ B) : aI w' S own r v := h.keep (Below.keeps hb hB S) (fun _ _ h => h)
theorem aI.wider {w : World} {S S' : Nat → Prop} {own : Bool} {r : Rec} {v : Value} (h : aI w S own r v) (hS : ∀ b, b < w.heap.size → S b → S' b) : aI w S' own r v := h.keep (fun _ _ _ => rfl) hS
theorem aI.unown {w : World} {S : Nat → Prop} {own : Bool} {r : Rec} {v : Value} (h : aI w S own r v) : aI w S false r v := by
 obtain ⟨c0, c1, c2, c3, s, h1, h2, h3, h4, h5, h6⟩ := h
 exact ⟨c0, c1, c2, c3, s, h1, h2, h3, h4, h5.unown, Sl.unown h6⟩
theorem aI.conc {w : World} {S : Nat → Prop} {own : Bool} {r : Rec} {v : Value} (h : aI w S own r v) :
  ∃ k' a' b' ad' n' cap' ad2 cap2, v = .agg #[.int .i64 r.k, .int .u64 r.t, .int .u64 r.x, .int .u64 r.w, .int .u64 r.n, .int .u64 r.v, .int .i64 k', .int .u64 (a' : Nat), .int .u64 (b' : Nat), .slice ad' n' cap', .slice ad2 r.es.length cap2] ∧
   -9223372036854775808 ≤ r.k ∧ r.k ≤ 9223372036854775807 ∧ r.nums ∧ av w S own r.p (.agg #[.int .i64 k', .int .u64 (a' : Nat), .int .u64 (b' : Nat), .slice ad' n' cap']) ∧ bZ w S own r.es (.slice ad2 r.es.length cap2) := by
 obtain ⟨c0, c1, c2, c3, s, rfl, h2, h3, h4, h5, h6⟩ := h
 obtain ⟨k', a', b', ad', n', cap', he⟩ := h5.conc
 simp only [Value.agg.injEq, Array.mk.injEq, List.cons.injEq, and_true] at he
 obtain ⟨rfl, rfl, rfl, rfl⟩ := he
 obtain ⟨_, ad2, cap2, rfl, _⟩ := h6.shape
 exact ⟨_, _, _, _, _, _, _, _, rfl, h2, h3, h4, h5, h6⟩
theorem kZ {l : List UInt8} {v : Nat} (h : Lib.parseUintB 64 l = .ok v) : v < 18446744073709551616 ∧ (decide (Lib.decDigits v = l) = (aT l).isSome) ∧ ∀ n, aT l = some n → n = v := by
 have hv : v ≤ 2 ^ 64 - 1 := Lib.parseUintB_le h
 have hv2 : v < 18446744073709551616 := by omega
 have h2 : ∀ n, aT l = some n → n = v := fun n hn => by
  obtain ⟨rfl, hlt⟩ := aQ.1 hn
  rw [ek _ (eT n), if_neg (fH n), bO, if_pos hlt] at h
  injection h
 refine ⟨hv2, ?_, h2⟩
 by_cases hd : Lib.decDigits v = l
 ·rw [decide_eq_true hd, aQ.2 ⟨hd.symm, hv2⟩]; rfl
 ·rw [decide_eq_false hd]
  cases hn : aT l with
  | none => rfl
  | some n =>
   have := h2 n hn
   subst this
   exact absurd (aQ.1 hn).1.symm hd
theorem rO {l : List UInt8} (h : ∀ n, Lib.parseUintB 64 l ≠ .ok n) : aT l = none := by
 cases hn : aT l with
 | none => rfl
 | some n =>
  obtain ⟨rfl, hlt⟩ := aQ.1 hn
  exact absurd (by rw [ek _ (eT n), if_neg (fH n), bO, if_pos hlt]) (h n)
theorem qm (l : List UInt8) : (∃ u, Lib.parseUintB 64 l = .ok u) ∨ ((∀ n, Lib.parseUintB 64 l ≠ .ok n) ∧ (Lib.parseUintB 64 l = .range ∨ Lib.parseUintB 64 l = Lib.parseUintB 64 [])) := by
 cases h : Lib.parseUintB 64 l with
 | ok u => exact .inl ⟨u, rfl⟩
 | range => exact .inr ⟨(fun n h => by cases h), .inl rfl⟩
 | _ => exact .inr ⟨(fun n h => by cases h), .inr rfl⟩
theorem vO {c : UInt8} {l : List UInt8} (h : c ∈ l) : ∃ x r, Lib.cut l [c] = (x, r, true) ∧ l = x ++ c :: r ∧ c ∉ x := by
 obtain ⟨x, r, h1, h2, h3⟩ := fE h
 refine ⟨x, r, ?_, h1, h2⟩
 unfold Lib.cut
 rw [h3, if_pos (by omega)]
 subst h1
 simp only [Int.toNat_natCast, List.length_singleton]
 rw [List.take_left, show x.length + 1 = (x ++ [c]).length from by simp, show x ++ c :: r = (x ++ [c]) ++ r from by simp, List.drop_left]
theorem vP {c : UInt8} {l : List UInt8} (h : c ∉ l) : Lib.cut l [c] = (l, [], false) := by
 unfold Lib.cut
 rw [index_one, if_neg h, if_neg (by omega)]
theorem mK {l : List UInt8} (h : (46 : UInt8) ∉ l) : gT l = none := by
 unfold gT; rw [eB h]
theorem vQ {x r : List UInt8} (h : (46 : UInt8) ∉ x) : gT (x ++ 46 :: r) = (aT x).bind fun w => (aT r).map fun n => (w, n) := by
 unfold gT
 rw [iN _ h]
 cases hc : cuts 46 r with
 | nil => exact absurd hc (jB _ _)
 | cons a q =>
  have hj := jO 46 r
  rw [hc] at hj
  cases q with
  | nil =>
   rw [Lib.join_one] at hj
   subst hj
   rfl
  | cons b q =>
   have hn : aT r = none := by
    cases hn : aT r with
    | none => rfl
    | some n =>
     obtain ⟨rfl, _⟩ := aQ.1 hn
     rw [eB (bu (by decide))] at hc
     cases hc
   rw [hn]
   cases aT x <;> rfl
theorem kw (s : ByteArray) (c : UInt8) : ((Lib.splitB ⟨#[c]⟩ 0 (Lib.countB s ⟨#[c]⟩) s).map fun b => b.data.toList) = cuts c s.data.toList := by
 rw [Lib.splitB_data]
 exact ku c _ _ (iU c _ _ (by omega))
theorem rP (s : ByteArray) (c : UInt8) : Lib.countB s ⟨#[c]⟩ + 1 = (cuts c s.data.toList).length := by
 rw [← kw, List.length_map, Lib.splitB_all ⟨#[c]⟩ (by simp [ByteArray.size]) 0 _ s rfl]
def Ent.put (e : Ent) : List UInt8 := ay [e.x, e.w, e.n] ++ [if e.m then 1 else 0]
def aZ (es : List Ent) : List UInt8 := es.flatMap Ent.put
def Rec.body (r : Rec) : List UInt8 :=
 if r.k = 2 then ay [r.t, r.x, r.w, r.n] else if r.k = 3 then ay [r.t, r.x, r.v] else if r.k = 4 then ay [r.t, r.x]
 else if r.k = 5 then ay [r.t, r.p.put.length] ++ (r.p.put ++ (ay [r.es.length] ++ aZ r.es)) else ay [r.t]
theorem Ent.put_length (e : Ent) : e.put.length ≤ 31 := by
 have := aK [e.x, e.w, e.n]
 simp only [Ent.put, List.length_append, List.length_cons, List.length_nil] at this ⊢; omega
theorem gu : ∀ es : List Ent, (aZ es).length ≤ 31 * es.length
 | [] => by simp [aZ]
 | e :: es => by
  have h1 := e.put_length
  have h2 := gu es
  simp only [aZ, List.flatMap_cons, List.length_append, List.length_cons] at h2 ⊢; omega
theorem jF (es : List Ent) (k : Nat) (h : k < es.length) : aZ (es.take (k + 1)) = aZ (es.take k) ++ es[k].put := by
 unfold aZ; rw [List.take_succ_eq_append_getElem h, List.flatMap_append]; simp
theorem fG (es : List Ent) (k : Nat) : (aZ (es.take k)).length ≤ 31 * es.length := by
 have := gu (es.take k)
 have h2 : (es.take k).length ≤ es.length := by simp; omega
 omega
theorem gD {p : Ex} (h : p.right = true) : p.put.length ≤ 992 := by
 have h1 := p.st_length
 have h2 := (ko h).2.2
 unfold Ex.put; rw [if_pos h]; omega
def ex1 : Rec := ⟨2, 7, 300, 2, 1, 0, .zero, []⟩
def ex2 : Rec := ⟨5, 1, 0, 0, 0, 0, .mk 1 0 0 [], [⟨5, 0, 0, false⟩]⟩
theorem nk : ex1.right = true := by decide
theorem ul : ex2.right = true := by decide
theorem vR : ex1.body = [7, 172, 2, 2, 1] := by decide
theorem vS : ex2.body = [1, 1, 1, 1, 5, 0, 0, 0] := by decide
theorem yo : Lib.decDigits 300 = [51, 48, 48] := by simp [Lib.decDigits]
theorem vT : fe [114, 101, 97, 100, 32, 55, 32, 51, 48, 48, 32, 50, 46, 49] = some ex1 := by
 have h := rM (r := ex1) ((Rec.right_iff _).1 nk) ⟨by decide, by decide, by decide, by decide, by decide, fT, by simp [ex1]⟩
 have ht : ex1.told = [114, 101, 97, 100, 32, 55, 32, 51, 48, 48, 32, 50, 46, 49] := by
  have h7 : Lib.decDigits 7 = [55] := by simp [Lib.decDigits]
  have h2 : Lib.decDigits 2 = [50] := by simp [Lib.decDigits]
  have h1 : Lib.decDigits 1 = [49] := by simp [Lib.decDigits]
  unfold Rec.told Rec.words Rec.tail ex1
  simp only [dU, h7, h2, h1, yo]
  rfl
 rw [ht] at h
 exact h
theorem nu {s : List UInt8} (h : ∀ n, s ≠ Lib.decDigits n) : aT s = none := by
 cases hn : aT s with
 | none => rfl
 | some n => exact absurd ((aQ).1 hn).1 (h n)
theorem vU : aT [] = none := nu (fun n h => by
 have h5 := bO n
 rw [← h] at h5
 have h6 : n = 0 := by rw [← h5]; rfl
 subst h6
 rw [Lib.decDigits_one (by omega)] at h
 cases h)
theorem wU : aT [48, 49] = none := nu (fun n h => by
 have h5 := bO n
 rw [← h] at h5
 have h6 : n = 1 := by rw [← h5]; rfl
 subst h6
 rw [Lib.decDigits_one (by omega)] at h
 cases h)
theorem yt : fe [98, 101, 103, 105, 110, 32, 32, 49] = none := by
 have hc : cuts 32 [98, 101, 103, 105, 110, 32, 32, 49] = [[98, 101, 103, 105, 110], [], [49]] := by decide
 unfold fe
 rw [hc]
 simp only
 rw [vU]
 split <;> rfl
theorem yu : fe [114, 101, 97, 100, 32, 49, 32, 50, 32, 51] = none := by
 have hc : cuts 32 [114, 101, 97, 100, 32, 49, 32, 50, 32, 51] = [[114, 101, 97, 100], [49], [50], [51]] := by decide
 have hv : gT [51] = none := rfl
 have hk : kindOf [114, 101, 97, 100] = 2 := by decide
 unfold fe
 rw [hc]
 simp only
 rw [hk, if_neg (by omega)]
 cases aT [49] with
 | none => rfl
 | some t =>
  simp only [Option.bind_some, bL, if_true, hv]
  cases aT [50] <;> rfl
theorem yw : fe [119, 114, 105, 116, 101, 32, 48, 49, 32, 50, 32, 51] = none := by
 have hc : cuts 32 [119, 114, 105, 116, 101, 32, 48, 49, 32, 50, 32, 51] = [[119, 114, 105, 116, 101], [48, 49], [50], [51]] := by decide
 unfold fe
 rw [hc]
 simp only
 rw [wU]
 split <;> rfl
end Go.Proofs.YtmgbhhmipmgcpaaGreatDoor
