/- The examples of chapter 5. -/
import Derived.Test.YtmgbhhmipmgcpaaGreatDoorY31
import Derived.Lib.Split
import Derived.Lib.CutLaws
namespace Go.Proofs.YtmgbhhmipmgcpaaGreatDoor
open Go.RowKit Go
set_option linter.unusedVariables false
set_option linter.unusedSimpArgs false
def cuts (c : UInt8) : List UInt8 → List (List UInt8)
 | [] => [[]]
 | b :: l => if b = c then [] :: cuts c l else match cuts c l with
  | [] => [[b]]
  | x :: r => (b :: x) :: r
theorem lw (c : UInt8) (l : List UInt8) : cuts c l ≠ [] := by
 cases l with
 | nil => simp [cuts]
 | cons b l =>
  simp only [cuts]
  split
  ·simp
  ·split <;> simp
theorem kK {c b : UInt8} {l x : List UInt8} {r : List (List UInt8)} (hb : b ≠ c) (h : cuts c l = x :: r) : cuts c (b :: l) = (b :: x) :: r := by
 simp only [cuts]
 rw [if_neg hb, h]
theorem qF (c : UInt8) (l : List UInt8) : cuts c (c :: l) = [] :: cuts c l := by
 simp only [cuts, if_true]
theorem fD {c : UInt8} {l : List UInt8} (h : c ∉ l) : cuts c l = [l] := by
 induction l with
 | nil => rfl
 | cons b l ih =>
  simp only [List.mem_cons, not_or] at h
  exact kK (fun e => h.1 e.symm) (ih h.2)
theorem jX {c : UInt8} {x : List UInt8} (l : List UInt8) (h : c ∉ x) : cuts c (x ++ c :: l) = x :: cuts c l := by
 induction x with
 | nil => exact qF c l
 | cons b x ih =>
  simp only [List.mem_cons, not_or] at h
  exact kK (fun e => h.1 e.symm) (ih h.2)
theorem mf (c : UInt8) (l : List UInt8) : Lib.join (cuts c l) [c] = l := by
 induction l with
 | nil => simp [cuts, Lib.join_one]
 | cons b l ih =>
  by_cases hb : b = c
  ·subst hb
   rw [qF]
   cases hq : cuts b l with
   | nil => exact absurd hq (lw _ _)
   | cons x r =>
    rw [hq] at ih
    rw [Lib.join_cons] at ih ⊢
    simp only [Lib.joinTail, List.nil_append, List.singleton_append, List.append_assoc] at ih ⊢
    simp [Lib.joinTail, ih]
  ·cases hq : cuts c l with
   | nil => exact absurd hq (lw _ _)
   | cons x r =>
    rw [kK hb hq]
    rw [hq] at ih
    rw [Lib.join_cons] at ih ⊢
    simp only [List.cons_append]
    rw [ih]
theorem lC {c : UInt8} : ∀ {ws : List (List UInt8)}, ws ≠ [] → (∀ x ∈ ws, c ∉ x) → cuts c (Lib.join ws [c]) = ws
 | [], h, _ => absurd rfl h
 | [x], _, h => by rw [Lib.join_one]; exact fD (h x (by simp))
 | x :: y :: ws, _, h => by
  have ih := lC (c := c) (ws := y :: ws) (by simp) (fun z hz => h z (by simp only [List.mem_cons] at hz ⊢; exact .inr hz))
  rw [Lib.join_cons] at ih ⊢
  rw [show Lib.joinTail [c] (y :: ws) = c :: (y ++ Lib.joinTail [c] ws) from by simp [Lib.joinTail], jX _ (h x (by simp)), ih]
theorem index_one (c : UInt8) (l : List UInt8) : Lib.index l [c] = if c ∈ l then ((l.takeWhile (fun b => decide (b ≠ c))).length : Int) else -1 := by
 induction l with
 | nil => simp [Lib.index]
 | cons b l ih =>
  unfold Lib.index
  by_cases hb : b = c
  ·subst hb; simp
  ·have h1 : ([c].isPrefixOf (b :: l)) = false := by simp [List.isPrefixOf]; exact fun e => hb e.symm
   rw [h1, ih]
   by_cases hm : c ∈ l
   ·have e1 : (((l.takeWhile (fun b => decide (b ≠ c))).length : Int) == -1) = false := beq_eq_false_iff_ne.2 (by omega)
    have e2 : c ∈ b :: l := List.mem_cons_of_mem _ hm
    have e3 : (b :: l).takeWhile (fun b => decide (b ≠ c)) = b :: l.takeWhile (fun b => decide (b ≠ c)) := List.takeWhile_cons_of_pos (by simp [hb])
    simp only [hm, e2, if_true, Bool.false_eq_true, if_false, e1, e3, List.length_cons]
    omega
   ·have e2 : ¬ c ∈ b :: l := fun h => by
     rcases List.mem_cons.1 h with h | h
     ·exact hb h.symm
     ·exact hm h
    simp only [hm, e2, if_false, Bool.false_eq_true]
    rfl
theorem gF {c : UInt8} {l : List UInt8} (h : c ∈ l) : ∃ x r, l = x ++ c :: r ∧ c ∉ x ∧ Lib.index l [c] = x.length := by
 obtain ⟨x, r, h1, h2⟩ := List.eq_append_cons_of_mem h
 refine ⟨x, r, h1, h2, ?_⟩
 rw [index_one, if_pos h]
 subst h1
 rw [List.takeWhile_append_of_pos (by intro a ha; simp; intro e; subst e; exact h2 ha), List.takeWhile_cons_of_neg (by simp)]
 simp
theorem mU (c : UInt8) : ∀ (k : Nat) (l : List UInt8), l.count c ≤ k → Lib.splitK [c] 0 k l = cuts c l
 | 0, l, h => by
  have hn : c ∉ l := fun hm => by have := List.count_pos_iff.2 hm; omega
  rw [fD hn]; rfl
 | k + 1, l, h => by
  unfold Lib.splitK
  by_cases hm : c ∈ l
  ·obtain ⟨x, r, h1, h2, h3⟩ := gF hm
   rw [h3, if_neg (by simp <;> omega)]
   subst h1
   rw [jX _ h2]
   have hc : (x ++ c :: r).count c = r.count c + 1 := by
    rw [List.count_append, List.count_eq_zero.2 h2, List.count_cons_self]; omega
   simp only [Int.toNat_natCast, Nat.add_zero, List.length_singleton]
   rw [List.take_left, show x.length + 1 = (x ++ [c]).length from by simp, show x ++ c :: r = (x ++ [c]) ++ r from by simp, List.drop_left, mU c k r (by omega)]
  ·rw [index_one, if_neg hm, if_pos (by simp), fD hm]
theorem ky (c : UInt8) : ∀ (f : Nat) (l : List UInt8), l.length < f → l.count c ≤ Lib.countFrom [c] f l
 | 0, l, h => by omega
 | f + 1, l, h => by
  unfold Lib.countFrom
  by_cases hm : c ∈ l
  ·obtain ⟨x, r, h1, h2, h3⟩ := gF hm
   rw [h3, if_neg (by simp <;> omega)]
   subst h1
   simp only [Int.toNat_natCast, List.length_singleton]
   rw [show x.length + 1 = (x ++ [c]).length from by simp, show x ++ c :: r = (x ++ [c]) ++ r from by simp, List.drop_left]
   have := ky c f r (by simp at h; omega)
   rw [List.append_assoc, List.count_append, List.count_eq_zero.2 h2, List.singleton_append, List.count_cons_self]
   omega
  ·rw [List.count_eq_zero.2 hm]; omega
theorem uo {e : Ex} (h : e.right = true) (hn : e.nums) : dQ e.text = some e := by
 obtain ⟨h1, h2, _⟩ := mR h
 have ht : e.text = e.told := by unfold Ex.text; rw [if_pos h]
 have := ll e 8 [] h1 hn h2 (by intro c hc; cases hc)
 rw [List.append_nil, ← ht] at this
 rw [lZ this, if_pos ⟨rfl, h⟩]
structure Ent where
 x : Nat
 w : Nat
 n : Nat
 m : Bool
structure Rec where
 k : Int
 t : Nat
 x : Nat
 w : Nat
 n : Nat
 v : Nat
 p : Ex
 es : List Ent
def Rec.zero : Rec := ⟨0, 0, 0, 0, 0, 0, .zero, []⟩
def Ent.ok (e : Ent) : Prop := e.x < 18446744073709551616 ∧ e.w < 18446744073709551616 ∧ e.n < 18446744073709551616
def Rec.nums (r : Rec) : Prop := r.t < 18446744073709551616 ∧ r.x < 18446744073709551616 ∧ r.w < 18446744073709551616 ∧ r.n < 18446744073709551616 ∧ r.v < 18446744073709551616 ∧ r.p.nums ∧ ∀ e ∈ r.es, e.ok
def rO (w n : Nat) : List UInt8 := Lib.decDigits w ++ 46 :: Lib.decDigits n
def lD (m : Bool) : List UInt8 := if m then [49] else [48]
def Ent.told (e : Ent) : List UInt8 := Lib.decDigits e.x ++ 58 :: (rO e.w e.n ++ 58 :: lD e.m)
def bE (k : Int) : List UInt8 :=
 if k = 1 then [98, 101, 103, 105, 110] else if k = 2 then [114, 101, 97, 100] else if k = 3 then [119, 114, 105, 116, 101] else if k = 4 then [100, 101, 108, 101, 116, 101]
 else if k = 5 then [112, 114, 101, 100] else if k = 6 then [99, 111, 109, 109, 105, 116] else [97, 98, 111, 114, 116]
def kindOf (w : List UInt8) : Nat :=
 if w = bE 1 then 1 else if w = bE 2 then 2 else if w = bE 3 then 3 else if w = bE 4 then 4 else if w = bE 5 then 5 else if w = bE 6 then 6 else if w = bE 7 then 7 else 0
def Rec.tail (r : Rec) : List (List UInt8) :=
 if r.k = 2 then [Lib.decDigits r.x, rO r.w r.n] else if r.k = 3 then [Lib.decDigits r.x, Lib.decDigits r.v] else if r.k = 4 then [Lib.decDigits r.x] else if r.k = 5 then r.p.told :: r.es.map Ent.told else []
def Rec.words (r : Rec) : List (List UInt8) := bE r.k :: Lib.decDigits r.t :: r.tail
def Rec.told (r : Rec) : List UInt8 := Lib.join r.words [32]
def Rec.only (r : Rec) : Rec :=
 if r.k = 2 then ⟨r.k, r.t, r.x, r.w, r.n, 0, .zero, []⟩ else if r.k = 3 then ⟨r.k, r.t, r.x, 0, 0, r.v, .zero, []⟩ else if r.k = 4 then ⟨r.k, r.t, r.x, 0, 0, 0, .zero, []⟩
 else if r.k = 5 then ⟨r.k, r.t, 0, 0, 0, 0, r.p, r.es⟩ else ⟨r.k, r.t, 0, 0, 0, 0, .zero, []⟩
def Rec.rightP (r : Rec) : Prop := 1 ≤ r.k ∧ r.k ≤ 7 ∧ (r.k = 5 → r.p.right = true) ∧ r.only = r
def bf (s : List UInt8) : Option Nat := if Lib.decDigits (numOf s) = s ∧ numOf s < 18446744073709551616 then some (numOf s) else none
theorem aR {s : List UInt8} {n : Nat} : bf s = some n ↔ s = Lib.decDigits n ∧ n < 18446744073709551616 := by
 unfold bf
 constructor
 ·intro h
  split at h
  ·rename_i hc; injection h with h; subst h; exact ⟨hc.1.symm, hc.2⟩
  ·cases h
 ·rintro ⟨rfl, h⟩
  rw [cu, if_pos ⟨rfl, h⟩]
def jd (s : List UInt8) : Option (Nat × Nat) := match cuts 46 s with
 | [a, b] => (bf a).bind fun w => (bf b).map fun n => (w, n)
 | _ => none
def jI (s : List UInt8) : Option Ent := match cuts 58 s with
 | [a, b, f] => if f = [48] ∨ f = [49] then (bf a).bind fun x => (jd b).map fun v => ⟨x, v.1, v.2, decide (f = [49])⟩ else none
 | _ => none
def fV : List (List UInt8) → Option (List Ent)
 | [] => some []
 | s :: l => (jI s).bind fun e => (fV l).map fun es => e :: es
def bV (k t : Nat) (l : List (List UInt8)) : Option Rec :=
 if k = 2 then match l with
  | [a, b] => (bf a).bind fun x => (jd b).map fun v => ⟨2, t, x, v.1, v.2, 0, .zero, []⟩
  | _ => none
 else if k = 3 then match l with
  | [a, b] => (bf a).bind fun x => (bf b).map fun v => ⟨3, t, x, 0, 0, v, .zero, []⟩
  | _ => none
 else if k = 4 then match l with
  | [a] => (bf a).map fun x => ⟨4, t, x, 0, 0, 0, .zero, []⟩
  | _ => none
 else if k = 5 then match l with
  | a :: es => (dQ a).bind fun p => (fV es).map fun es => ⟨5, t, 0, 0, 0, 0, p, es⟩
  | _ => none
 else if l = [] then some ⟨k, t, 0, 0, 0, 0, .zero, []⟩ else none
def fZ (s : List UInt8) : Option Rec := match cuts 32 s with
 | w :: a :: l => if kindOf w = 0 then none else (bf a).bind fun t => bV (kindOf w) t l
 | _ => none
theorem bI {n : Nat} {c : UInt8} (hc : isD c = false) : c ∉ Lib.decDigits n := fun h => by
 have := fO n c h
 rw [hc] at this; cases this
theorem rP {w n : Nat} {c : UInt8} (hc : isD c = false) (h2 : c ≠ 46) : c ∉ rO w n := by
 unfold rO
 simp only [List.mem_append, List.mem_cons, not_or]
 exact ⟨bI hc, h2, bI hc⟩
theorem uq {m : Bool} {c : UInt8} (hc : isD c = false) : c ∉ lD m := by
 cases m
 ·simp only [lD, Bool.false_eq_true, if_false, List.mem_singleton]; intro e; subst e; cases hc
 ·simp only [lD, if_true, List.mem_singleton]; intro e; subst e; cases hc
theorem zZ {e : Ent} : (32 : UInt8) ∉ e.told := by
 unfold Ent.told
 simp only [List.mem_append, List.mem_cons, not_or]
 exact ⟨bI (by decide), by decide, rP (by decide) (by decide), by decide, uq (by decide)⟩
theorem qG {c : UInt8} (hc : c ≠ 44) : ∀ (l : List (List UInt8)), (∀ x ∈ l, c ∉ x) → c ∉ commas l
 | [], _ => by simp [commas, Lib.join_nil]
 | [x], h => by rw [ig]; exact h x (by simp)
 | x :: y :: l, h => by
  rw [jc]
  simp only [List.mem_append, List.mem_cons, not_or]
  exact ⟨h x (by simp), hc, qG hc (y :: l) (fun z hz => h z (List.mem_cons_of_mem _ hz))⟩
mutual
theorem wW : ∀ e : Ex, (32 : UInt8) ∉ e.told
 | .mk k a b ps => by
  have h1 := ut ps
  have h2 := qG (c := 32) (by decide) _ h1
  simp only [Ex.told, kZ]
  split
  ·decide
  split
  ·simp only [List.mem_append, not_or]; exact ⟨by decide, bI (by decide)⟩
  split
  ·simp only [List.mem_append, not_or]; exact ⟨by decide, bI (by decide)⟩
  split
  ·simp only [List.mem_append, not_or]; exact ⟨⟨⟨by decide, bI (by decide)⟩, by decide⟩, bI (by decide)⟩
  split
  ·simp only [List.mem_append, not_or]; exact ⟨by decide, h2⟩
  split
  ·simp only [List.mem_append, not_or]; exact ⟨⟨by decide, h2⟩, by decide⟩
  ·simp only [List.mem_append, not_or]; exact ⟨⟨by decide, h2⟩, by decide⟩
theorem ut : ∀ es : List Ex, ∀ x ∈ Ex.tolds es, (32 : UInt8) ∉ x
 | [], x, h => by simp [Ex.tolds] at h
 | e :: es, x, h => by
  simp only [Ex.tolds, List.mem_cons] at h
  rcases h with rfl | h
  ·exact wW e
  ·exact ut es x h
end
theorem kL {k : Int} (h1 : 1 ≤ k) (h7 : k ≤ 7) : k = 1 ∨ k = 2 ∨ k = 3 ∨ k = 4 ∨ k = 5 ∨ k = 6 ∨ k = 7 := by omega
theorem Aa {k : Int} (h1 : 1 ≤ k) (h7 : k ≤ 7) : (32 : UInt8) ∉ bE k := by
 rcases kL h1 h7 with rfl | rfl | rfl | rfl | rfl | rfl | rfl <;> decide
theorem jJ {k : Int} (h1 : 1 ≤ k) (h7 : k ≤ 7) : (kindOf (bE k) : Int) = k := by
 rcases kL h1 h7 with rfl | rfl | rfl | rfl | rfl | rfl | rfl <;> decide
theorem mV {w : List UInt8} (h : kindOf w ≠ 0) : w = bE (kindOf w) ∧ 1 ≤ kindOf w ∧ kindOf w ≤ 7 := by
 have key : ∀ k : Nat, 1 ≤ k → k ≤ 7 → w = bE k → w = bE (kindOf w) ∧ 1 ≤ kindOf w ∧ kindOf w ≤ 7 := fun k h1 h7 e => by
  have h2 := jJ (k := k) (by omega) (by omega)
  rw [← e] at h2
  exact ⟨by rw [h2]; exact e, by omega, by omega⟩
 by_cases e1 : w = bE 1
 ·exact key 1 (by omega) (by omega) e1
 by_cases e2 : w = bE 2
 ·exact key 2 (by omega) (by omega) e2
 by_cases e3 : w = bE 3
 ·exact key 3 (by omega) (by omega) e3
 by_cases e4 : w = bE 4
 ·exact key 4 (by omega) (by omega) e4
 by_cases e5 : w = bE 5
 ·exact key 5 (by omega) (by omega) e5
 by_cases e6 : w = bE 6
 ·exact key 6 (by omega) (by omega) e6
 by_cases e7 : w = bE 7
 ·exact key 7 (by omega) (by omega) e7
 exact absurd (by unfold kindOf; rw [if_neg e1, if_neg e2, if_neg e3, if_neg e4, if_neg e5, if_neg e6, if_neg e7]) h
theorem iR {s : List UInt8} {w n : Nat} : jd s = some (w, n) ↔ s = rO w n ∧ w < 18446744073709551616 ∧ n < 18446744073709551616 := by
 constructor
 ·intro h
  unfold jd at h
  split at h
  ·rename_i a b hc
   have hj := mf 46 s
   rw [hc] at hj
   simp only [Option.bind_eq_some_iff, Option.map_eq_some_iff, Prod.mk.injEq] at h
   obtain ⟨x, h1, y, h2, rfl, rfl⟩ := h
   obtain ⟨rfl, h3⟩ := aR.1 h1
   obtain ⟨rfl, h4⟩ := aR.1 h2
   exact ⟨by rw [← hj]; simp [Lib.join_cons, Lib.joinTail, rO], h3, h4⟩
  ·cases h
 ·rintro ⟨rfl, h1, h2⟩
  unfold jd rO
  rw [jX _ (bI (by decide)), fD (bI (by decide))]
  simp only [Option.bind_eq_some_iff, Option.map_eq_some_iff]
  exact ⟨w, aR.2 ⟨rfl, h1⟩, n, aR.2 ⟨rfl, h2⟩, rfl⟩
theorem qH {s : List UInt8} {e : Ent} : jI s = some e ↔ s = e.told ∧ e.ok := by
 constructor
 ·intro h
  unfold jI at h
  split at h
  ·rename_i a b f hc
   have hj := mf 58 s
   rw [hc] at hj
   split at h
   ·rename_i hf
    simp only [Option.bind_eq_some_iff, Option.map_eq_some_iff] at h
    obtain ⟨x, h1, ⟨v, u⟩, h2, rfl⟩ := h
    obtain ⟨rfl, h3⟩ := aR.1 h1
    obtain ⟨rfl, h4, h5⟩ := iR.1 h2
    refine ⟨?_, h3, h4, h5⟩
    rw [← hj]
    rcases hf with rfl | rfl <;> simp [Lib.join_cons, Lib.joinTail, Ent.told, lD]
   ·cases h
  ·cases h
 ·rintro ⟨rfl, h1, h2, h3⟩
  obtain ⟨x, w, n, m⟩ := e
  unfold jI Ent.told
  rw [jX _ (bI (by decide)), jX _ (rP (by decide) (by decide)), fD (uq (by decide))]
  have hf : lD m = [48] ∨ lD m = [49] := by cases m <;> simp [lD]
  have hm : decide (lD m = [49]) = m := by cases m <;> decide
  simp only
  rw [if_pos hf, hm]
  simp only [Option.bind_eq_some_iff, Option.map_eq_some_iff]
  exact ⟨x, aR.2 ⟨rfl, h1⟩, (w, n), iR.2 ⟨rfl, h2, h3⟩, rfl⟩
theorem il : ∀ {l : List (List UInt8)} {es : List Ent}, fV l = some es ↔ l = es.map Ent.told ∧ ∀ e ∈ es, e.ok
 | [], es => by
  simp only [fV, Option.some.injEq]
  constructor
  ·rintro rfl; simp
  ·rintro ⟨h, _⟩
   cases es with
   | nil => rfl
   | cons e es => simp at h
 | s :: l, es => by
  simp only [fV, Option.bind_eq_some_iff, Option.map_eq_some_iff]
  constructor
  ·rintro ⟨e, h1, es', h2, rfl⟩
   obtain ⟨rfl, h3⟩ := qH.1 h1
   obtain ⟨rfl, h4⟩ := il.1 h2
   exact ⟨rfl, fun z hz => by rcases List.mem_cons.1 hz with rfl | hz; exact h3; exact h4 z hz⟩
  ·rintro ⟨h, h2⟩
   cases es with
   | nil => simp at h
   | cons e es =>
    simp only [List.map_cons, List.cons.injEq] at h
    obtain ⟨rfl, rfl⟩ := h
    exact ⟨e, qH.2 ⟨rfl, h2 e (by simp)⟩, es, il.2 ⟨rfl, fun z hz => h2 z (by simp [hz])⟩, rfl⟩
theorem uu {e : Ex} (h : e.right = true) (hn : e.nums) : dQ e.told = some e := by
 have := uo h hn
 unfold Ex.text at this
 rwa [if_pos h] at this
theorem aU : Ex.zero.nums := by simp [Ex.zero, Ex.nums, Ex.numss]
theorem vL {r : Rec} (h : r.rightP) (hn : r.nums) : bV r.k.toNat r.t r.tail = some r := by
 obtain ⟨k, t, x, w, n, v, p, es⟩ := r
 obtain ⟨h1, h7, h5, ho⟩ := h
 obtain ⟨n1, n2, n3, n4, n5, n6, n7⟩ := hn
 simp only at h1 h7 h5 n1 n2 n3 n4 n5 n6 n7
 rcases kL h1 h7 with rfl | rfl | rfl | rfl | rfl | rfl | rfl
 all_goals simp [Rec.only] at ho
 ·obtain ⟨rfl, rfl, rfl, rfl, rfl, rfl⟩ := ho; rfl
 ·obtain ⟨rfl, rfl, rfl⟩ := ho
  show bV 2 t [Lib.decDigits x, rO w n] = _
  unfold bV
  rw [if_pos rfl]
  simp only [aR.2 ⟨rfl, n2⟩, iR.2 ⟨rfl, n3, n4⟩, Option.bind_some, Option.map_some]
 ·obtain ⟨rfl, rfl, rfl, rfl⟩ := ho
  show bV 3 t [Lib.decDigits x, Lib.decDigits v] = _
  unfold bV
  rw [if_neg (by decide), if_pos rfl]
  simp only [aR.2 ⟨rfl, n2⟩, aR.2 ⟨rfl, n5⟩, Option.bind_some, Option.map_some]
 ·obtain ⟨rfl, rfl, rfl, rfl, rfl⟩ := ho
  show bV 4 t [Lib.decDigits x] = _
  unfold bV
  rw [if_neg (by decide), if_neg (by decide), if_pos rfl]
  simp only [aR.2 ⟨rfl, n2⟩, Option.map_some]
 ·obtain ⟨rfl, rfl, rfl, rfl⟩ := ho
  show bV 5 t (p.told :: es.map Ent.told) = _
  unfold bV
  rw [if_neg (by decide), if_neg (by decide), if_neg (by decide), if_pos rfl]
  simp only [uu (h5 rfl) n6, il.2 ⟨rfl, n7⟩, Option.bind_some, Option.map_some]
 ·obtain ⟨rfl, rfl, rfl, rfl, rfl, rfl⟩ := ho; rfl
 ·obtain ⟨rfl, rfl, rfl, rfl, rfl, rfl⟩ := ho; rfl
theorem Ab {r : Rec} : ∀ x ∈ r.tail, (32 : UInt8) ∉ x := by
 intro x hx
 unfold Rec.tail at hx
 split at hx
 ·simp only [List.mem_cons, List.not_mem_nil, or_false] at hx
  rcases hx with rfl | rfl
  ·exact bI (by decide)
  ·exact rP (by decide) (by decide)
 split at hx
 ·simp only [List.mem_cons, List.not_mem_nil, or_false] at hx
  rcases hx with rfl | rfl <;> exact bI (by decide)
 split at hx
 ·simp only [List.mem_cons, List.not_mem_nil, or_false] at hx
  subst hx; exact bI (by decide)
 split at hx
 ·simp only [List.mem_cons, List.mem_map] at hx
  rcases hx with rfl | ⟨e, _, rfl⟩
  ·exact wW _
  ·exact zZ
 ·simp at hx
theorem xI {r : Rec} (h : r.rightP) : cuts 32 r.told = r.words := by
 refine lC (by simp [Rec.words]) (fun x hx => ?_)
 simp only [Rec.words, List.mem_cons] at hx
 rcases hx with rfl | rfl | hx
 ·exact Aa h.1 h.2.1
 ·exact bI (by decide)
 ·exact Ab x hx
theorem vM {r : Rec} (h : r.rightP) (hn : r.nums) : fZ r.told = some r := by
 unfold fZ
 rw [xI h]
 have hk := jJ h.1 h.2.1
 have hk0 : kindOf (bE r.k) ≠ 0 := by have := h.1; omega
 simp only [Rec.words]
 rw [if_neg hk0, aR.2 ⟨rfl, hn.1⟩, show kindOf (bE r.k) = r.k.toNat from by omega]
 simp only [Option.bind_some]
 exact vL h hn
instance : DecidableEq Ent := fun a b => decidable_of_iff (a.x = b.x ∧ a.w = b.w ∧ a.n = b.n ∧ a.m = b.m) (by cases a; cases b; simp)
def Rec.same (a b : Rec) : Bool := decide (a.k = b.k) && decide (a.t = b.t) && decide (a.x = b.x) && decide (a.w = b.w) && decide (a.n = b.n) && decide (a.v = b.v) && a.p.same b.p && decide (a.es = b.es)
theorem Rec.same_iff (a b : Rec) : a.same b = true ↔ a = b := by
 cases a; cases b
 simp only [Rec.same, Bool.and_eq_true, decide_eq_true_eq, Ex.same_iff, Rec.mk.injEq, and_assoc]
theorem Rec.same_refl (a : Rec) : a.same a = true := (Rec.same_iff a a).2 rfl
def Rec.right (r : Rec) : Bool := decide (1 ≤ r.k) && decide (r.k ≤ 7) && (decide (r.k ≠ 5) || r.p.right) && r.only.same r
theorem Rec.right_iff (r : Rec) : r.right = true ↔ r.rightP := by
 simp only [Rec.right, Bool.and_eq_true, Bool.or_eq_true, decide_eq_true_eq, Rec.same_iff, Rec.rightP, and_assoc]
 constructor
 ·rintro ⟨h1, h2, h3, h4⟩
  exact ⟨h1, h2, fun h => h3.resolve_left (fun hn => hn h), h4⟩
 ·rintro ⟨h1, h2, h3, h4⟩
  exact ⟨h1, h2, by by_cases h : r.k = 5; exact .inr (h3 h); exact .inl h, h4⟩
def Ent.put (e : Ent) : List UInt8 := aI [e.x, e.w, e.n] ++ [if e.m then 1 else 0]
def bW (es : List Ent) : List UInt8 := es.flatMap Ent.put
def Rec.body (r : Rec) : List UInt8 :=
 if r.k = 2 then aI [r.t, r.x, r.w, r.n] else if r.k = 3 then aI [r.t, r.x, r.v] else if r.k = 4 then aI [r.t, r.x]
 else if r.k = 5 then aI [r.t, r.p.put.length] ++ (r.p.put ++ (aI [r.es.length] ++ bW r.es)) else aI [r.t]
theorem Ent.put_length (e : Ent) : e.put.length ≤ 31 := by
 have := aT [e.x, e.w, e.n]
 simp only [Ent.put, List.length_append, List.length_cons, List.length_nil] at this ⊢; omega
theorem iq : ∀ es : List Ent, (bW es).length ≤ 31 * es.length
 | [] => by simp [bW]
 | e :: es => by
  have h1 := e.put_length
  have h2 := iq es
  simp only [bW, List.flatMap_cons, List.length_append, List.length_cons] at h2 ⊢; omega
theorem rQ (es : List Ent) (k : Nat) (h : k < es.length) : bW (es.take (k + 1)) = bW (es.take k) ++ es[k].put := by
 unfold bW; rw [List.take_succ_eq_append_getElem h, List.flatMap_append]; simp
theorem kr (es : List Ent) (k : Nat) : (bW (es.take k)).length ≤ 31 * es.length := by
 have := iq (es.take k)
 have h2 : (es.take k).length ≤ es.length := by simp; omega
 omega
def jK (l : List UInt8) : Option (Ent × List UInt8) := (aK l).bind fun x => (aK x.2).bind fun w => (aK w.2).bind fun n => match n.2 with
 | c :: r => if c.toNat ≤ 1 then some (⟨x.1, w.1, n.1, decide (c.toNat = 1)⟩, r) else none
 | [] => none
def dD : Nat → List UInt8 → Option (List Ent × List UInt8)
 | 0, l => some ([], l)
 | n + 1, l => (jK l).bind fun e => (dD n e.2).map fun es => (e.1 :: es.1, es.2)
def uw (k t : Nat) (l : List UInt8) : Option Rec :=
 if k = 2 then (aK l).bind fun x => (aK x.2).bind fun w => (aK w.2).bind fun n => if n.2 = [] then some ⟨2, t, x.1, w.1, n.1, 0, .zero, []⟩ else none
 else if k = 3 then (aK l).bind fun x => (aK x.2).bind fun v => if v.2 = [] then some ⟨3, t, x.1, 0, 0, v.1, .zero, []⟩ else none
 else if k = 4 then (aK l).bind fun x => if x.2 = [] then some ⟨4, t, x.1, 0, 0, 0, .zero, []⟩ else none
 else if k = 5 then (aK l).bind fun m => if m.1 ≤ m.2.length then (aZ (m.2.take m.1)).bind fun p => (aK (m.2.drop m.1)).bind fun c => (dD c.1 c.2).bind fun es => if es.2 = [] then some ⟨5, t, 0, 0, 0, 0, p, es.1⟩ else none else none
 else if l = [] then some ⟨k, t, 0, 0, 0, 0, .zero, []⟩ else none
def bP (k : Nat) (b : List UInt8) : Option Rec := if 1 ≤ k ∧ k ≤ 7 then (aK b).bind fun t => uw k t.1 t.2 else none
theorem kz {p : Ex} (h : p.right = true) : p.put.length ≤ 992 := by
 have h1 := p.st_length
 have h2 := (mR h).2.2
 unfold Ex.put; rw [if_pos h]; omega
theorem rR (tk : List UInt8 → Option (Ex × List UInt8)) (htk : ∀ s e r, tk s = some (e, r) → s = e.st ++ r ∧ e.nums) : ∀ n s es r, aJ tk n s = some (es, r) → s = Ex.sts es ++ r ∧ Ex.numss es ∧ es.length = n := by
 intro n
 induction n with
 | zero =>
  intro s es r h
  simp only [aJ, Option.some.injEq, Prod.mk.injEq] at h
  obtain ⟨rfl, rfl⟩ := h
  simp [Ex.sts, Ex.numss]
 | succ n ih =>
  intro s es r h
  rw [aJ] at h
  split at h
  ·cases h
  ·rename_i e q hq
   obtain ⟨h1, h2⟩ := htk _ _ _ hq
   obtain ⟨⟨a, b⟩, h3, h4⟩ := Option.map_eq_some_iff.1 h
   injection h4 with h5 h6
   subst h5 h6
   obtain ⟨h7, h8, h9⟩ := ih _ _ _ h3
   refine ⟨?_, by simp only [Ex.numss]; exact ⟨h2, h8⟩, by simp [h9]⟩
   rw [h1, h7]; simp [Ex.sts]
theorem gQ {o : Option (List UInt8)} {r : List UInt8} (h : dz o = some r) : o = some (bY (gX o) ++ r) := by
 unfold dz at h
 obtain ⟨x, h1, h2⟩ := Option.map_eq_some_iff.1 h
 have hn : gX o = x.1 := by unfold gX; rw [h1]
 obtain ⟨l, h3, h4⟩ := Option.bind_eq_some_iff.1 h1
 obtain ⟨h5, _⟩ := bi (n := x.1) (r := x.2) h4
 rw [hn, h3, h5, ← h2]
theorem vN (c : UInt8) : ((((c.toNat : Nat) : Int)) % 256).toNat.toUInt8 = c := by
 have := c.toNat_lt
 rw [show (((c.toNat : Nat) : Int) % 256).toNat = c.toNat from by omega]
 simp
theorem xJ (d : Nat) : ∀ s e r, tkE d s = some (e, r) → s = e.st ++ r ∧ e.nums := by
 induction d with
 | zero => intro s e r h; simp [tkE] at h
 | succ d ih =>
  intro s e r h
  cases s with
  | nil => simp [tkE] at h
  | cons c l =>
   rw [tkE] at h
   split at h
   ·rename_i hc
    obtain ⟨⟨ps, b⟩, h3, h4⟩ := Option.map_eq_some_iff.1 h
    injection h4 with h5 h6
    subst h5 h6
    unfold gY at h3
    obtain ⟨q, h7, h8⟩ := Option.bind_eq_some_iff.1 h3
    obtain ⟨h9, h10, h11⟩ := rR _ ih _ _ _ _ h8
    have hlt := xB c.toNat l
    refine ⟨?_, by simp only [Ex.nums]; exact ⟨hlt.1, hlt.2.1, h10⟩⟩
    simp only [Ex.st, jr, vN]
    have hc7 : c.toNat = 1 ∨ c.toNat = 2 ∨ c.toNat = 3 ∨ c.toNat = 4 ∨ c.toNat = 5 ∨ c.toNat = 6 ∨ c.toNat = 7 := by omega
    simp only [List.cons_append, List.cons.injEq, true_and]
    rcases hc7 with e | e | e | e | e | e | e
    ·rw [e] at h7 ⊢
     simp only [aY, show ¬ (1 = 2 ∨ 1 = 3) from by omega, show ¬ (1 = 4) from by omega, show ¬ (1 = 5) from by omega, show ¬ (1 = 6 ∨ 1 = 7) from by omega, if_false, Option.some.injEq] at h7 ⊢
     rw [h7, h9]; simp
    ·rw [e] at h7 ⊢
     simp only [aY, true_or, if_true] at h7 ⊢
     have h12 := gQ h7
     injection h12 with h12
     rw [h9] at h12
     conv => lhs; rw [h12]
     simp
    ·rw [e] at h7 ⊢
     simp only [aY, or_true, if_true] at h7 ⊢
     have h12 := gQ h7
     injection h12 with h12
     rw [h9] at h12
     conv => lhs; rw [h12]
     simp
    ·rw [e] at h7 ⊢
     simp only [aY, show ¬ (4 = 2 ∨ 4 = 3) from by omega, if_true, if_false] at h7 ⊢
     have h12 := gQ h7
     have h13 := gQ h12
     injection h13 with h13
     rw [h9] at h13
     conv => lhs; rw [h13]
     simp
    ·rw [e] at h7 ⊢
     simp only [aY, show ¬ (5 = 2 ∨ 5 = 3) from by omega, show ¬ (5 = 4) from by omega, if_true, if_false, Option.some.injEq] at h7 ⊢
     rw [h7, h9]; simp
    ·rw [e] at h7 h11 ⊢
     simp only [aY, show ¬ (6 = 2 ∨ 6 = 3) from by omega, show ¬ (6 = 4) from by omega, show ¬ (6 = 5) from by omega, true_or, if_true, if_false] at h7 h11 ⊢
     have h12 := gQ h7
     injection h12 with h12
     rw [h9] at h12
     conv => lhs; rw [h12]
     rw [← h11]
     simp
    ·rw [e] at h7 h11 ⊢
     simp only [aY, show ¬ (7 = 2 ∨ 7 = 3) from by omega, show ¬ (7 = 4) from by omega, show ¬ (7 = 5) from by omega, or_true, if_true, if_false] at h7 h11 ⊢
     have h12 := gQ h7
     injection h12 with h12
     rw [h9] at h12
     conv => lhs; rw [h12]
     rw [← h11]
     simp
   ·cases h
theorem mW {b : List UInt8} {e : Ex} (h : aZ b = some e) : e.right = true ∧ e.nums ∧ e.put = b := by
 unfold aZ at h
 split at h
 ·rename_i e2 n hq
  split at h
  ·rename_i hn
   injection h with h; subst h
   unfold kJ at hq
   split at hq
   ·split at hq
    ·rename_i e3 r hr
     split at hq
     ·rename_i hright
      injection hq with hq; injection hq with h1 h2
      subst h1
      obtain ⟨h3, h4⟩ := xJ 8 _ _ _ hr
      have hr0 : r = [] := by
       have := congrArg List.length h3
       simp only [Int.toNat_zero, List.drop_zero, List.length_append] at this
       exact List.eq_nil_of_length_eq_zero (by
        have h5 : e3.st.length + r.length = b.length := by simpa using this.symm
        have h6 : 0 < e3.st.length := by cases e3; simp [Ex.st, jr]
        omega)
      refine ⟨hright, h4, ?_⟩
      unfold Ex.put; rw [if_pos hright]
      subst hr0
      simpa using h3.symm
     ·cases hq
    ·cases hq
   ·cases hq
  ·cases h
 ·cases h
theorem xK {l r : List UInt8} {e : Ent} (h : jK l = some (e, r)) : l = e.put ++ r ∧ e.ok := by
 unfold jK at h
 simp only [Option.bind_eq_some_iff] at h
 obtain ⟨⟨x, l1⟩, h1, ⟨w, l2⟩, h2, ⟨n, l3⟩, h3, h4⟩ := h
 obtain ⟨rfl, hx⟩ := bi h1
 obtain ⟨e2, hw⟩ := bi h2
 obtain ⟨e3, hn⟩ := bi h3
 (try dsimp only at e2 e3 h4)
 subst e2 e3
 split at h4
 ·rename_i _ c r2
  split at h4
  ·rename_i h1c
   injection h4 with h4; injection h4 with h5 h6
   subst h5 h6
   refine ⟨?_, hx, hw, hn⟩
   have : c = if decide (c.toNat = 1) then 1 else 0 := by
    by_cases hc1 : c.toNat = 1
    ·simp only [hc1, decide_true, if_true]; exact UInt8.toNat.inj (by simpa using hc1)
    ·have h0 : c.toNat = 0 := by omega
     simp only [h0, show decide (0 = 1) = false from rfl, Bool.false_eq_true, if_false]; exact UInt8.toNat.inj (by simpa using h0)
   simp only [Ent.put, aI, List.flatMap_cons, List.flatMap_nil, List.append_nil, List.append_assoc, List.singleton_append]
   rw [← this]
  ·cases h4
 ·cases h4
theorem om : ∀ (n : Nat) (l r : List UInt8) (es : List Ent), dD n l = some (es, r) → l = bW es ++ r ∧ (∀ e ∈ es, e.ok) ∧ es.length = n
 | 0, l, r, es, h => by
  simp only [dD, Option.some.injEq, Prod.mk.injEq] at h
  obtain ⟨rfl, rfl⟩ := h
  simp [bW]
 | n + 1, l, r, es, h => by
  simp only [dD, Option.bind_eq_some_iff, Option.map_eq_some_iff] at h
  obtain ⟨⟨e, l1⟩, h1, ⟨es1, r1⟩, h2, h3⟩ := h
  injection h3 with h4 h5
  subst h4 h5
  obtain ⟨h6, h7⟩ := xK h1
  obtain ⟨h8, h9, h10⟩ := om n _ _ _ h2
  (try dsimp only at h8)
  refine ⟨by rw [h6, h8]; simp [bW], fun z hz => ?_, by simp [h10]⟩
  rcases List.mem_cons.1 hz with rfl | hz
  ·exact h7
  ·exact h9 z hz
theorem lF {k : Nat} {b : List UInt8} {r : Rec} (h : bP k b = some r) : r.k = k ∧ r.rightP ∧ r.nums ∧ r.body = b := by
 unfold bP at h
 split at h
 ·rename_i hk
  obtain ⟨⟨t, l⟩, h1, h2⟩ := Option.bind_eq_some_iff.1 h
  obtain ⟨rfl, ht⟩ := bi h1
  have hk7 : k = 1 ∨ k = 2 ∨ k = 3 ∨ k = 4 ∨ k = 5 ∨ k = 6 ∨ k = 7 := by omega
  simp only [uw] at h2
  rcases hk7 with rfl | rfl | rfl | rfl | rfl | rfl | rfl
  ·simp only [show ¬ (1 = 2) from by omega, show ¬ (1 = 3) from by omega, show ¬ (1 = 4) from by omega, show ¬ (1 = 5) from by omega, if_false] at h2
   split at h2
   ·rename_i hl
    injection h2 with h2; subst h2 hl
    exact ⟨rfl, ⟨by dsimp only; omega, by dsimp only; omega, fun h => absurd h (by dsimp only; omega), rfl⟩, ⟨ht, by dsimp only; omega, by dsimp only; omega, by dsimp only; omega, by dsimp only; omega, aU, by simp⟩, by simp [Rec.body, aI]⟩
   ·cases h2
  ·simp only [if_true, Option.bind_eq_some_iff] at h2
   obtain ⟨⟨x, l1⟩, h3, ⟨w, l2⟩, h4, ⟨n, l3⟩, h5, h6⟩ := h2
   obtain ⟨rfl, hx⟩ := bi h3
   obtain ⟨e4, hw⟩ := bi h4
   obtain ⟨e5, hn⟩ := bi h5
   (try dsimp only at e4 e5 h6)
   subst e4 e5
   split at h6
   ·rename_i hl
    injection h6 with h6; subst h6 hl
    exact ⟨rfl, ⟨by dsimp only; omega, by dsimp only; omega, fun h => absurd h (by dsimp only; omega), rfl⟩, ⟨ht, hx, hw, hn, by dsimp only; omega, aU, by simp⟩, by simp [Rec.body, aI]⟩
   ·cases h6
  ·simp only [show ¬ (3 = 2) from by omega, if_false, if_true, Option.bind_eq_some_iff] at h2
   obtain ⟨⟨x, l1⟩, h3, ⟨v, l2⟩, h4, h6⟩ := h2
   obtain ⟨rfl, hx⟩ := bi h3
   obtain ⟨e4, hv⟩ := bi h4
   (try dsimp only at e4 h6)
   subst e4
   split at h6
   ·rename_i hl
    injection h6 with h6; subst h6 hl
    exact ⟨rfl, ⟨by dsimp only; omega, by dsimp only; omega, fun h => absurd h (by dsimp only; omega), rfl⟩, ⟨ht, hx, by dsimp only; omega, by dsimp only; omega, hv, aU, by simp⟩, by simp [Rec.body, aI]⟩
   ·cases h6
  ·simp only [show ¬ (4 = 2) from by omega, show ¬ (4 = 3) from by omega, if_false, if_true, Option.bind_eq_some_iff] at h2
   obtain ⟨⟨x, l1⟩, h3, h6⟩ := h2
   obtain ⟨rfl, hx⟩ := bi h3
   (try dsimp only at h6)
   split at h6
   ·rename_i hl
    injection h6 with h6; subst h6 hl
    exact ⟨rfl, ⟨by dsimp only; omega, by dsimp only; omega, fun h => absurd h (by dsimp only; omega), rfl⟩, ⟨ht, hx, by dsimp only; omega, by dsimp only; omega, by dsimp only; omega, aU, by simp⟩, by simp [Rec.body, aI]⟩
   ·cases h6
  ·simp only [show ¬ (5 = 2) from by omega, show ¬ (5 = 3) from by omega, show ¬ (5 = 4) from by omega, if_false, if_true, Option.bind_eq_some_iff] at h2
   obtain ⟨⟨m, l1⟩, h3, h6⟩ := h2
   obtain ⟨rfl, hm⟩ := bi h3
   (try dsimp only at h6)
   split at h6
   ·rename_i hml
    simp only [Option.bind_eq_some_iff] at h6
    obtain ⟨p, h7, ⟨c, l2⟩, h8, ⟨es, l3⟩, h9, h10⟩ := h6
    obtain ⟨hr, hpn, hput⟩ := mW h7
    obtain ⟨e8, hc⟩ := bi h8
    obtain ⟨e9, hes, hlen⟩ := om _ _ _ _ h9
    (try dsimp only at e8 e9 h10 hlen)
    split at h10
    ·rename_i hl
     injection h10 with h10; subst h10 hl
     refine ⟨rfl, ⟨by dsimp only; omega, by dsimp only; omega, fun _ => hr, rfl⟩, ⟨ht, by dsimp only; omega, by dsimp only; omega, by dsimp only; omega, by dsimp only; omega, hpn, hes⟩, ?_⟩
     have hpl : p.put.length = m := by rw [hput]; simp; omega
     have hd : l1 = p.put ++ (bY es.length ++ bW es) := by
      rw [hlen]
      have := List.take_append_drop m l1
      rw [← this, ← hput, e8, e9]; simp
     simp only [Rec.body, show ¬ ((5 : Int) = 2) from by omega, show ¬ ((5 : Int) = 3) from by omega, show ¬ ((5 : Int) = 4) from by omega, if_false, if_true, aI, List.flatMap_cons, List.flatMap_nil, List.append_nil, List.append_assoc]
     rw [hpl, ← hd]
    ·cases h10
   ·cases h6
  ·simp only [show ¬ (6 = 2) from by omega, show ¬ (6 = 3) from by omega, show ¬ (6 = 4) from by omega, show ¬ (6 = 5) from by omega, if_false] at h2
   split at h2
   ·rename_i hl
    injection h2 with h2; subst h2 hl
    exact ⟨rfl, ⟨by dsimp only; omega, by dsimp only; omega, fun h => absurd h (by dsimp only; omega), rfl⟩, ⟨ht, by dsimp only; omega, by dsimp only; omega, by dsimp only; omega, by dsimp only; omega, aU, by simp⟩, by simp [Rec.body, aI]⟩
   ·cases h2
  ·simp only [show ¬ (7 = 2) from by omega, show ¬ (7 = 3) from by omega, show ¬ (7 = 4) from by omega, show ¬ (7 = 5) from by omega, if_false] at h2
   split at h2
   ·rename_i hl
    injection h2 with h2; subst h2 hl
    exact ⟨rfl, ⟨by dsimp only; omega, by dsimp only; omega, fun h => absurd h (by dsimp only; omega), rfl⟩, ⟨ht, by dsimp only; omega, by dsimp only; omega, by dsimp only; omega, by dsimp only; omega, aU, by simp⟩, by simp [Rec.body, aI]⟩
   ·cases h2
 ·cases h
def aW : Option (List UInt8) → Nat × Option (List UInt8)
 | none => (0, none)
 | some l => match aK l with
  | some x => (x.1, some x.2)
  | none => (0, none)
def bX (n : Nat) : Option (List UInt8) → List UInt8 × Option (List UInt8)
 | none => ([], none)
 | some l => if n ≤ l.length then (l.take n, some (l.drop n)) else ([], none)
def bR (s : Option (List UInt8)) : List UInt8 × Option (List UInt8) := bX (aW s).1 (aW s).2
def iw (s : Option (List UInt8)) : (Nat × Nat) × Option (List UInt8) := (((aW s).1, (aW (aW s).2).1), (aW (aW s).2).2)
def aM (b : List UInt8) : Bool := match b with
 | [c] => decide (1 < c.toNat)
 | _ => true
def bg (b : List UInt8) : Bool := match b with
 | [c] => decide (c.toNat = 1)
 | _ => false
def iJ (s : Option (List UInt8)) (f : Bool) : Ent × Option (List UInt8) × Bool :=
 let x := aW s
 let v := iw x.2
 let b := bX 1 v.2
 (⟨x.1, v.1.1, v.1.2, bg b.1⟩, b.2, f || aM b.1)
def bJ : Nat → Option (List UInt8) → Bool → List Ent × Option (List UInt8) × Bool
 | 0, s, f => ([], s, f)
 | n + 1, s, f => match s with
  | none => ([], none, f)
  | some l => ((iJ (some l) f).1 :: (bJ n (iJ (some l) f).2.1 (iJ (some l) f).2.2).1, (bJ n (iJ (some l) f).2.1 (iJ (some l) f).2.2).2)
def fu (s : Option (List UInt8)) (f : Bool) : Ex × Option (List UInt8) × Bool := ((aZ (bR s).1).getD .zero, (bR s).2, f || (aZ (bR s).1).isNone)
def eD (k t : Nat) (s : Option (List UInt8)) (f : Bool) : Rec × Option (List UInt8) × Bool :=
 if k = 2 then (⟨2, t, (aW s).1, (iw (aW s).2).1.1, (iw (aW s).2).1.2, 0, .zero, []⟩, (iw (aW s).2).2, f)
 else if k = 3 then (⟨3, t, (aW s).1, 0, 0, (aW (aW s).2).1, .zero, []⟩, (aW (aW s).2).2, f)
 else if k = 4 then (⟨4, t, (aW s).1, 0, 0, 0, .zero, []⟩, (aW s).2, f)
 else if k = 5 then (⟨5, t, 0, 0, 0, 0, (fu s f).1, (bJ (aW (fu s f).2.1).1 (aW (fu s f).2.1).2 (fu s f).2.2).1⟩, (bJ (aW (fu s f).2.1).1 (aW (fu s f).2.1).2 (fu s f).2.2).2)
 else (⟨k, t, 0, 0, 0, 0, .zero, []⟩, s, f)
def vO (k : Nat) (b : List UInt8) : Rec × Option (List UInt8) × Bool := eD k (aW (some b)).1 (aW (some b)).2 false
theorem aG {l r : List UInt8} {v : Nat} (h : aK l = some (v, r)) : aW (some l) = (v, some r) := by simp [aW, h]
theorem bM {l : List UInt8} (h : aK l = none) : aW (some l) = (0, none) := by simp [aW, h]
theorem dM : aW none = (0, none) := rfl
theorem dX (s : Option (List UInt8)) : (aW s).1 < 18446744073709551616 := by
 cases s with
 | none => simp [aW]
 | some l =>
  cases h : aK l with
  | none => simp [bM h]
  | some x => obtain ⟨v, r⟩ := x; rw [aG h]; exact (bi h).2
theorem nJ (s : Option (List UInt8)) : (iw s).1.1 < 18446744073709551616 ∧ (iw s).1.2 < 18446744073709551616 := ⟨dX s, dX _⟩
theorem qI {r r' : List UInt8} {e : Ent} (f : Bool) (h : jK r = some (e, r')) : iJ (some r) f = (e, some r', f) := by
 unfold jK at h
 cases h1 : aK r with
 | none => simp [h1] at h
 | some x =>
  obtain ⟨x, r1⟩ := x
  simp only [h1, Option.bind_some] at h
  cases h2 : aK r1 with
  | none => simp [h2] at h
  | some y =>
   obtain ⟨y, r2⟩ := y
   simp only [h2, Option.bind_some] at h
   cases h3 : aK r2 with
   | none => simp [h3] at h
   | some z =>
    obtain ⟨z, r3⟩ := z
    simp only [h3, Option.bind_some] at h
    cases r3 with
    | nil => simp at h
    | cons c r3 =>
     simp only at h
     by_cases hc : c.toNat ≤ 1
     ·rw [if_pos hc] at h
      simp only [Option.some.injEq, Prod.mk.injEq] at h
      obtain ⟨rfl, rfl⟩ := h
      have hb : aM [c] = false := by simp [aM]; omega
      simp [iJ, iw, aG h1, aG h2, aG h3, bX, hb, bg]
     ·rw [if_neg hc] at h; cases h
theorem yP {r : List UInt8} (f : Bool) (h : jK r = none) : (iJ (some r) f).2.1 = none ∨ (iJ (some r) f).2.2 = true := by
 unfold jK at h
 cases h1 : aK r with
 | none => left; simp [iJ, iw, bM h1, dM, bX]
 | some x =>
  obtain ⟨x, r1⟩ := x
  simp only [h1, Option.bind_some] at h
  cases h2 : aK r1 with
  | none => left; simp [iJ, iw, aG h1, bM h2, dM, bX]
  | some y =>
   obtain ⟨y, r2⟩ := y
   simp only [h2, Option.bind_some] at h
   cases h3 : aK r2 with
   | none => left; simp [iJ, iw, aG h1, aG h2, bM h3, bX]
   | some z =>
    obtain ⟨z, r3⟩ := z
    simp only [h3, Option.bind_some] at h
    cases r3 with
    | nil => left; simp [iJ, iw, aG h1, aG h2, aG h3, bX]
    | cons c r3 =>
     simp only at h
     by_cases hc : c.toNat ≤ 1
     ·rw [if_pos hc] at h; cases h
     ·have hb : aM [c] = true := by simp [aM]; omega
      right; simp [iJ, iw, aG h1, aG h2, aG h3, bX, hb]
theorem vP (s : Option (List UInt8)) : (iJ s true).2.2 = true := by simp [iJ]
theorem fE (n : Nat) (f : Bool) : bJ n none f = ([], none, f) := by cases n <;> rfl
theorem jL : ∀ (n : Nat) (s : Option (List UInt8)), (bJ n s true).2.2 = true
 | 0, s => rfl
 | n + 1, none => rfl
 | n + 1, some l => by
  simp only [bJ, vP]
  exact jL n _
theorem oo : ∀ (n : Nat) (r r' : List UInt8) (es : List Ent) (f : Bool), dD n r = some (es, r') → bJ n (some r) f = (es, some r', f)
 | 0, r, r', es, f, h => by
  simp only [dD, Option.some.injEq, Prod.mk.injEq] at h
  obtain ⟨rfl, rfl⟩ := h
  rfl
 | n + 1, r, r', es, f, h => by
  rw [dD] at h
  cases h1 : jK r with
  | none => simp [h1] at h
  | some e =>
   obtain ⟨e, r1⟩ := e
   simp only [h1, Option.bind_some] at h
   cases h2 : dD n r1 with
   | none => simp [h2] at h
   | some x =>
    obtain ⟨x, r2⟩ := x
    simp only [h2, Option.map_some, Option.some.injEq, Prod.mk.injEq] at h
    obtain ⟨rfl, rfl⟩ := h
    simp only [bJ, qI f h1]
    rw [oo n r1 r2 x f h2]
theorem qJ : ∀ (n : Nat) (r : List UInt8) (f : Bool), dD n r = none → (bJ n (some r) f).2.1 = none ∨ (bJ n (some r) f).2.2 = true
 | 0, r, f, h => by simp [dD] at h
 | n + 1, r, f, h => by
  rw [dD] at h
  simp only [bJ]
  cases h1 : jK r with
  | none =>
   rcases yP f h1 with h2 | h2
   ·left; rw [h2, fE]
   ·right; rw [h2]; exact jL n _
  | some e =>
   obtain ⟨e, r1⟩ := e
   simp only [h1, Option.bind_some] at h
   rw [qI f h1]
   exact qJ n r1 f (by cases h2 : dD n r1 with | none => rfl | some x => simp [h2] at h)
def je (x : Rec × Option (List UInt8) × Bool) : Option Rec := if x.2.2 = false ∧ x.2.1 = some [] then some x.1 else none
theorem gT {x : Rec × Option (List UInt8) × Bool} (h : x.2.1 = none ∨ x.2.2 = true) : je x = none := by
 unfold je
 rcases h with h | h <;> simp [h]
theorem vQ (k t : Nat) (f : Bool) : je (eD k t none f) = none := by
 apply gT
 left
 unfold eD
 repeat' split
 all_goals simp [dM, iw, fu, bR, bX, fE]
theorem vR (k t : Nat) (l : List UInt8) : je (eD k t (some l) false) = uw k t l := by
 unfold uw eD
 split
 ·cases h1 : aK l with
  | none => simp [bM h1, dM, iw, je]
  | some x =>
   obtain ⟨x, r1⟩ := x
   simp only [Option.bind_some, aG h1]
   cases h2 : aK r1 with
   | none => simp [bM h2, dM, iw, je]
   | some y =>
    obtain ⟨y, r2⟩ := y
    simp only [Option.bind_some]
    cases h3 : aK r2 with
    | none => simp [bM h3, aG h2, dM, iw, je]
    | some z => obtain ⟨z, r3⟩ := z; simp [aG h3, aG h2, iw, je]
 split
 ·cases h1 : aK l with
  | none => simp [bM h1, dM, je]
  | some x =>
   obtain ⟨x, r1⟩ := x
   simp only [Option.bind_some, aG h1]
   cases h2 : aK r1 with
   | none => simp [bM h2, je]
   | some y => obtain ⟨y, r2⟩ := y; simp [aG h2, je]
 split
 ·cases h1 : aK l with
  | none => simp [bM h1, je]
  | some x => obtain ⟨x, r1⟩ := x; simp [aG h1, je]
 split
 ·cases h1 : aK l with
  | none =>
   simp only [Option.bind_none]
   exact gT (.inl (by simp [fu, bR, bM h1, bX, dM, fE]))
  | some x =>
   obtain ⟨m, r1⟩ := x
   simp only [Option.bind_some]
   by_cases hm : m ≤ r1.length
   ·rw [if_pos hm]
    have ht : bR (some l) = (r1.take m, some (r1.drop m)) := by simp [bR, aG h1, bX, hm]
    cases h2 : aZ (r1.take m) with
    | none =>
     simp only [Option.bind_none]
     refine gT (.inr ?_)
     simp only [fu, ht, h2, Option.isNone_none, Bool.or_true]
     exact jL _ _
    | some p =>
     simp only [Option.bind_some]
     have hp : fu (some l) false = (p, some (r1.drop m), false) := by simp [fu, ht, h2]
     simp only [hp]
     cases h3 : aK (r1.drop m) with
     | none => simp only [Option.bind_none]; exact gT (.inl (by simp [bM h3, fE]))
     | some y =>
      obtain ⟨n, r3⟩ := y
      simp only [Option.bind_some, aG h3]
      cases h4 : dD n r3 with
      | none => simp only [Option.bind_none]; exact gT (qJ n r3 false h4)
      | some z =>
       obtain ⟨es, r4⟩ := z
       simp only [Option.bind_some]
       rw [oo n r3 r4 es false h4]
       simp [je]
   ·rw [if_neg hm]
    exact gT (.inl (by simp [fu, bR, aG h1, bX, hm, dM, fE]))
 ·simp [je]
theorem xL (k : Nat) (b : List UInt8) (h : 1 ≤ k ∧ k ≤ 7) : je (vO k b) = bP k b := by
 unfold vO bP
 rw [if_pos h]
 cases h1 : aK b with
 | none => rw [bM h1]; exact vQ k 0 false
 | some x => obtain ⟨t, r⟩ := x; rw [aG h1]; exact vR k t r
def Ent.cells (e : Ent) : List Value := [.int .u64 e.x, .int .u64 e.w, .int .u64 e.n, .bool e.m]
def az : List Ent → List Value
 | [] => []
 | e :: es => e.cells ++ az es
theorem jv : ∀ es : List Ent, (az es).length = es.length * 4
 | [] => rfl
 | e :: es => by simp [az, Ent.cells, jv es]; omega
theorem gG : ∀ a b : List Ent, az (a ++ b) = az a ++ az b
 | [], b => rfl
 | e :: a, b => by simp [az, gG a b]
theorem lG : ∀ (es : List Ent) (i : Nat) (h : i < es.length), (az es)[i * 4]? = some (.int .u64 es[i].x) ∧ (az es)[i * 4 + 1]? = some (.int .u64 es[i].w) ∧ (az es)[i * 4 + 2]? = some (.int .u64 es[i].n) ∧ (az es)[i * 4 + 3]? = some (.bool es[i].m)
 | e :: es, 0, h => by simp [az, Ent.cells]
 | e :: es, i + 1, h => by
  have := lG es i (by simpa using h)
  simp only [az, Ent.cells, List.getElem_cons_succ]
  rw [show (i + 1) * 4 = i * 4 + 4 from by omega]
  simpa using this
def ed (w : World) (S : Nat → Prop) (own : Bool) (es : List Ent) (v : Value) : Prop := Sl w S own 4 es.length (az es) v
theorem ed.keep {w w' : World} {S S' : Nat → Prop} {own : Bool} {es : List Ent} {v : Value} (h : ed w S own es v) (hk : bB S w w') (hS : ∀ b, b < w.heap.size → S b → S' b) : ed w' S' own es v := Sl.keep h (by omega) hk hS
theorem ed.below {B : Nat} {w w' : World} {S : Nat → Prop} {own : Bool} {es : List Ent} {v : Value} (h : ed w S own es v) (hb : Below B w w') (hB : w.heap.size ≤ B) : ed w' S own es v := Sl.below h (by omega) hb hB
theorem ed.shape {w : World} {S : Nat → Prop} {own : Bool} {es : List Ent} {v : Value} (h : ed w S own es v) : es.length ≤ 9223372036854775807 ∧ ∃ ad cap, v = .slice ad es.length cap ∧ es.length ≤ cap := ⟨h.2.1, (Sl.shape h).2.2⟩
theorem ed.part {w : World} {S : Nat → Prop} {own : Bool} {es : List Ent} {ad : Option Addr} {cap : Nat} (h : ed w S own es (.slice ad es.length cap)) (i : Nat) (hi : i < es.length) :
  ∃ bl off, ad = some ⟨bl, off, none⟩ ∧ S bl ∧ w.cell? ⟨bl, off + i * 4, none⟩ = some (.int .u64 es[i].x) ∧ w.cell? ⟨bl, off + i * 4 + 1, none⟩ = some (.int .u64 es[i].w) ∧ w.cell? ⟨bl, off + i * 4 + 2, none⟩ = some (.int .u64 es[i].n) ∧
   w.cell? ⟨bl, off + i * 4 + 3, none⟩ = some (.bool es[i].m) ∧ (own = true → ∀ j, j < 4 → w.frozen? ⟨bl, off + i * 4 + j, none⟩ = false) := by
 obtain ⟨bl, off, ha, hS, hc⟩ := Sl.cells h (by omega)
 have hx := jv es
 obtain ⟨g0, g1, g2, g3⟩ := lG es i hi
 have q0 := hc (i * 4) (by omega)
 have q1 := hc (i * 4 + 1) (by omega)
 have q2 := hc (i * 4 + 2) (by omega)
 have q3 := hc (i * 4 + 3) (by omega)
 rw [List.getElem?_eq_getElem (by omega)] at g0 g1 g2 g3
 refine ⟨bl, off, ha, hS, by rw [q0.1]; exact g0, by rw [Nat.add_assoc, q1.1]; exact g1, by rw [Nat.add_assoc, q2.1]; exact g2, by rw [Nat.add_assoc, q3.1]; exact g3, fun ho j hj => ?_⟩
 have := (hc (i * 4 + j) (by omega)).2 ho
 rw [Nat.add_assoc]; exact this
def bZ (w : World) (S : Nat → Prop) (own : Bool) (r : Rec) (v : Value) : Prop :=
 ∃ c0 c1 c2 c3 s, v = .agg #[.int .i64 r.k, .int .u64 r.t, .int .u64 r.x, .int .u64 r.w, .int .u64 r.n, .int .u64 r.v, c0, c1, c2, c3, s] ∧ -9223372036854775808 ≤ r.k ∧ r.k ≤ 9223372036854775807 ∧ r.nums ∧
  ak w S own r.p (.agg #[c0, c1, c2, c3]) ∧ ed w S own r.es s
theorem bZ.keep {w w' : World} {S S' : Nat → Prop} {own : Bool} {r : Rec} {v : Value} (h : bZ w S own r v) (hk : bB S w w') (hS : ∀ b, b < w.heap.size → S b → S' b) : bZ w' S' own r v := by
 obtain ⟨c0, c1, c2, c3, s, h1, h2, h3, h4, h5, h6⟩ := h
 exact ⟨c0, c1, c2, c3, s, h1, h2, h3, h4, ak.keep hk hS h5, h6.keep hk hS⟩
theorem bZ.below {B : Nat} {w w' : World} {S : Nat → Prop} {own : Bool} {r : Rec} {v : Value} (h : bZ w S own r v) (hb : Below B w w') (hB : w.heap.size ≤ B) : bZ w' S own r v := h.keep (Below.keeps hb hB S) (fun _ _ h => h)
theorem bZ.wider {w : World} {S S' : Nat → Prop} {own : Bool} {r : Rec} {v : Value} (h : bZ w S own r v) (hS : ∀ b, b < w.heap.size → S b → S' b) : bZ w S' own r v := h.keep (fun _ _ _ => rfl) hS
theorem bZ.conc {w : World} {S : Nat → Prop} {own : Bool} {r : Rec} {v : Value} (h : bZ w S own r v) :
  ∃ k' a' b' ad' n' cap' ad2 cap2, v = .agg #[.int .i64 r.k, .int .u64 r.t, .int .u64 r.x, .int .u64 r.w, .int .u64 r.n, .int .u64 r.v, .int .i64 k', .int .u64 (a' : Nat), .int .u64 (b' : Nat), .slice ad' n' cap', .slice ad2 r.es.length cap2] ∧
   -9223372036854775808 ≤ r.k ∧ r.k ≤ 9223372036854775807 ∧ r.nums ∧ ak w S own r.p (.agg #[.int .i64 k', .int .u64 (a' : Nat), .int .u64 (b' : Nat), .slice ad' n' cap']) ∧ ed w S own r.es (.slice ad2 r.es.length cap2) := by
 obtain ⟨c0, c1, c2, c3, s, rfl, h2, h3, h4, h5, h6⟩ := h
 obtain ⟨k', a', b', ad', n', cap', he⟩ := h5.conc
 simp only [Value.agg.injEq, Array.mk.injEq, List.cons.injEq, and_true] at he
 obtain ⟨rfl, rfl, rfl, rfl⟩ := he
 obtain ⟨_, ad2, cap2, rfl, _⟩ := h6.shape
 exact ⟨_, _, _, _, _, _, _, _, rfl, h2, h3, h4, h5, h6⟩
theorem oq {l : List UInt8} {v : Nat} (h : Lib.parseUintB 64 l = .ok v) : v < 18446744073709551616 ∧ (decide (Lib.decDigits v = l) = (bf l).isSome) ∧ ∀ n, bf l = some n → n = v := by
 have hv : v ≤ 2 ^ 64 - 1 := Lib.parseUintB_le h
 have hv2 : v < 18446744073709551616 := by omega
 have h2 : ∀ n, bf l = some n → n = v := fun n hn => by
  obtain ⟨rfl, hlt⟩ := aR.1 hn
  rw [fC _ (fO n), if_neg (gK n), cu, if_pos hlt] at h
  injection h
 refine ⟨hv2, ?_, h2⟩
 by_cases hd : Lib.decDigits v = l
 ·rw [decide_eq_true hd, aR.2 ⟨hd.symm, hv2⟩]; rfl
 ·rw [decide_eq_false hd]
  cases hn : bf l with
  | none => rfl
  | some n =>
   have := h2 n hn
   subst this
   exact absurd (aR.1 hn).1.symm hd
theorem vS {l : List UInt8} (h : ∀ n, Lib.parseUintB 64 l ≠ .ok n) : bf l = none := by
 cases hn : bf l with
 | none => rfl
 | some n =>
  obtain ⟨rfl, hlt⟩ := aR.1 hn
  exact absurd (by rw [fC _ (fO n), if_neg (gK n), cu, if_pos hlt]) (h n)
theorem uy (l : List UInt8) : (∃ u, Lib.parseUintB 64 l = .ok u) ∨ ((∀ n, Lib.parseUintB 64 l ≠ .ok n) ∧ (Lib.parseUintB 64 l = .range ∨ Lib.parseUintB 64 l = Lib.parseUintB 64 [])) := by
 cases h : Lib.parseUintB 64 l with
 | ok u => exact .inl ⟨u, rfl⟩
 | range => exact .inr ⟨(fun n h => by cases h), .inl rfl⟩
 | _ => exact .inr ⟨(fun n h => by cases h), .inr rfl⟩
theorem yQ {c : UInt8} {l : List UInt8} (h : c ∈ l) : ∃ x r, Lib.cut l [c] = (x, r, true) ∧ l = x ++ c :: r ∧ c ∉ x := by
 obtain ⟨x, r, h1, h2, h3⟩ := gF h
 refine ⟨x, r, ?_, h1, h2⟩
 unfold Lib.cut
 rw [h3, if_pos (by omega)]
 subst h1
 simp only [Int.toNat_natCast, List.length_singleton]
 rw [List.take_left, show x.length + 1 = (x ++ [c]).length from by simp, show x ++ c :: r = (x ++ [c]) ++ r from by simp, List.drop_left]
theorem yR {c : UInt8} {l : List UInt8} (h : c ∉ l) : Lib.cut l [c] = (l, [], false) := by
 unfold Lib.cut
 rw [index_one, if_neg h, if_neg (by omega)]
theorem qd {l : List UInt8} (h : (46 : UInt8) ∉ l) : jd l = none := by
 unfold jd; rw [fD h]
theorem yS {x r : List UInt8} (h : (46 : UInt8) ∉ x) : jd (x ++ 46 :: r) = (bf x).bind fun w => (bf r).map fun n => (w, n) := by
 unfold jd
 rw [jX _ h]
 cases hc : cuts 46 r with
 | nil => exact absurd hc (lw _ _)
 | cons a q =>
  have hj := mf 46 r
  rw [hc] at hj
  cases q with
  | nil =>
   rw [Lib.join_one] at hj
   subst hj
   rfl
  | cons b q =>
   have hn : bf r = none := by
    cases hn : bf r with
    | none => rfl
    | some n =>
     obtain ⟨rfl, _⟩ := aR.1 hn
     rw [fD (bI (by decide))] at hc
     cases hc
   rw [hn]
   cases bf x <;> rfl
theorem mX (s : ByteArray) (c : UInt8) : ((Lib.splitB ⟨#[c]⟩ 0 (Lib.countB s ⟨#[c]⟩) s).map fun b => b.data.toList) = cuts c s.data.toList := by
 rw [Lib.splitB_data]
 exact mU c _ _ (ky c _ _ (by omega))
theorem vT (s : ByteArray) (c : UInt8) : Lib.countB s ⟨#[c]⟩ + 1 = (cuts c s.data.toList).length := by
 rw [← mX, List.length_map, Lib.splitB_all ⟨#[c]⟩ (by simp [ByteArray.size]) 0 _ s rfl]
def ex1 : Rec := ⟨2, 7, 300, 2, 1, 0, .zero, []⟩
def ex2 : Rec := ⟨5, 1, 0, 0, 0, 0, .mk 1 0 0 [], [⟨5, 0, 0, false⟩]⟩
theorem qK : ex1.right = true := by decide
theorem xM : ex2.right = true := by decide
theorem yT : ex1.body = [7, 172, 2, 2, 1] := by decide
theorem yU : ex2.body = [1, 1, 1, 1, 5, 0, 0, 0] := by decide
theorem BH : Lib.decDigits 300 = [51, 48, 48] := by simp [Lib.decDigits]
theorem yV : fZ [114, 101, 97, 100, 32, 55, 32, 51, 48, 48, 32, 50, 46, 49] = some ex1 := by
 have h := vM (r := ex1) ((Rec.right_iff _).1 qK) ⟨by decide, by decide, by decide, by decide, by decide, aU, by simp [ex1]⟩
 have ht : ex1.told = [114, 101, 97, 100, 32, 55, 32, 51, 48, 48, 32, 50, 46, 49] := by
  have h7 : Lib.decDigits 7 = [55] := by simp [Lib.decDigits]
  have h2 : Lib.decDigits 2 = [50] := by simp [Lib.decDigits]
  have h1 : Lib.decDigits 1 = [49] := by simp [Lib.decDigits]
  unfold Rec.told Rec.words Rec.tail ex1
  simp only [rO, h7, h2, h1, BH]
  rfl
 rw [ht] at h
 exact h
theorem qL {s : List UInt8} (h : ∀ n, s ≠ Lib.decDigits n) : bf s = none := by
 cases hn : bf s with
 | none => rfl
 | some n => exact absurd ((aR).1 hn).1 (h n)
theorem yX : bf [] = none := qL (fun n h => by
 have h5 := cu n
 rw [← h] at h5
 have h6 : n = 0 := by rw [← h5]; rfl
 subst h6
 rw [Lib.decDigits_one (by omega)] at h
 cases h)
theorem Ac : bf [48, 49] = none := qL (fun n h => by
 have h5 := cu n
 rw [← h] at h5
 have h6 : n = 1 := by rw [← h5]; rfl
 subst h6
 rw [Lib.decDigits_one (by omega)] at h
 cases h)
theorem BI : fZ [98, 101, 103, 105, 110, 32, 32, 49] = none := by
 have hc : cuts 32 [98, 101, 103, 105, 110, 32, 32, 49] = [[98, 101, 103, 105, 110], [], [49]] := by decide
 unfold fZ
 rw [hc]
 simp only
 rw [yX]
 split <;> rfl
theorem BJ : fZ [114, 101, 97, 100, 32, 49, 32, 50, 32, 51] = none := by
 have hc : cuts 32 [114, 101, 97, 100, 32, 49, 32, 50, 32, 51] = [[114, 101, 97, 100], [49], [50], [51]] := by decide
 have hv : jd [51] = none := rfl
 have hk : kindOf [114, 101, 97, 100] = 2 := by decide
 unfold fZ
 rw [hc]
 simp only
 rw [hk, if_neg (by omega)]
 cases bf [49] with
 | none => rfl
 | some t =>
  simp only [Option.bind_some, bV, if_true, hv]
  cases bf [50] <;> rfl
theorem BK : fZ [119, 114, 105, 116, 101, 32, 48, 49, 32, 50, 32, 51] = none := by
 have hc : cuts 32 [119, 114, 105, 116, 101, 32, 48, 49, 32, 50, 32, 51] = [[119, 114, 105, 116, 101], [48, 49], [50], [51]] := by decide
 unfold fZ
 rw [hc]
 simp only
 rw [Ac]
 split <;> rfl
end Go.Proofs.YtmgbhhmipmgcpaaGreatDoor
