/- The records that lines tell are small as the lines are. -/
import Derived.Test.YtlpgokcapdjgjaaGreatDoorY31
import Derived.Lib.Split
import Derived.Lib.CutLaws
namespace Go.Proofs.YtlpgokcapdjgjaaGreatDoor
open Go.RowKit Go
set_option linter.unusedVariables false
set_option linter.unusedSimpArgs false
def cuts (c : UInt8) : List UInt8 → List (List UInt8)
 | [] => [[]]
 | b :: l => if b = c then [] :: cuts c l else match cuts c l with
  | [] => [[b]]
  | x :: r => (b :: x) :: r
theorem nP (c : UInt8) (l : List UInt8) : cuts c l ≠ [] := by
 cases l with
 | nil => simp [cuts]
 | cons b l =>
  simp only [cuts];split
  ·simp
  ·split <;> simp
theorem mR {c b : UInt8} {l x : List UInt8} {r : List (List UInt8)} (hb : b ≠ c) (h : cuts c l = x :: r) : cuts c (b :: l) = (b :: x) :: r := by
 simp only [cuts];rw [if_neg hb, h]
theorem uU (c : UInt8) (l : List UInt8) : cuts c (c :: l) = [] :: cuts c l := by
 simp only [cuts, if_true]
theorem iM {c : UInt8} {l : List UInt8} (h : c ∉ l) : cuts c l = [l] := by
 induction l with
 | nil => rfl
 | cons b l ih =>
  simp only [List.mem_cons, not_or] at h;exact mR (fun e => h.1 e.symm) (ih h.2)
theorem lW {c : UInt8} {x : List UInt8} (l : List UInt8) (h : c ∉ x) : cuts c (x ++ c :: l) = x :: cuts c l := by
 induction x with
 | nil => exact uU c l
 | cons b x ih =>
  simp only [List.mem_cons, not_or] at h;exact mR (fun e => h.1 e.symm) (ih h.2)
theorem uV (c : UInt8) (l : List UInt8) : Lib.join (cuts c l) [c] = l := by
 induction l with
 | nil => simp [cuts, Lib.join_one]
 | cons b l ih =>
  by_cases hb : b = c
  ·subst hb
   rw [uU];cases hq : cuts b l with
   | nil => exact absurd hq (nP _ _)
   | cons x r =>
    rw [hq] at ih;rw [Lib.join_cons] at ih ⊢;simp only [Lib.joinTail, List.nil_append, List.singleton_append, List.append_assoc] at ih ⊢;simp [Lib.joinTail, ih]
  ·cases hq : cuts c l with
   | nil => exact absurd hq (nP _ _)
   | cons x r =>
    rw [mR hb hq];rw [hq] at ih;rw [Lib.join_cons] at ih ⊢;simp only [List.cons_append];rw [ih]
theorem nQ {c : UInt8} : ∀ {ws : List (List UInt8)}, ws ≠ [] → (∀ x ∈ ws, c ∉ x) → cuts c (Lib.join ws [c]) = ws
 | [], h, _ => absurd rfl h
 | [x], _, h => by rw [Lib.join_one]; exact iM (h x (by simp))
 | x :: y :: ws, _, h => by
  have ih := nQ (c := c) (ws := y :: ws) (by simp) (fun z hz => h z (by simp only [List.mem_cons] at hz ⊢; exact .inr hz));rw [Lib.join_cons] at ih ⊢;rw [show Lib.joinTail [c] (y :: ws) = c :: (y ++ Lib.joinTail [c] ws) from by simp [Lib.joinTail], lW _ (h x (by simp)), ih]
theorem index_one (c : UInt8) (l : List UInt8) : Lib.index l [c] = if c ∈ l then ((l.takeWhile (fun b => decide (b ≠ c))).length : Int) else -1 := by
 induction l with
 | nil => simp [Lib.index]
 | cons b l ih =>
  unfold Lib.index;by_cases hb : b = c
  ·subst hb; simp
  ·have h1 : ([c].isPrefixOf (b :: l)) = false := by simp [List.isPrefixOf]; exact fun e => hb e.symm
   rw [h1, ih];by_cases hm : c ∈ l
   ·have e1 : (((l.takeWhile (fun b => decide (b ≠ c))).length : Int) == -1) = false := beq_eq_false_iff_ne.2 (by omega)
    have e2 : c ∈ b :: l := List.mem_cons_of_mem _ hm;have e3 : (b :: l).takeWhile (fun b => decide (b ≠ c)) = b :: l.takeWhile (fun b => decide (b ≠ c)) := List.takeWhile_cons_of_pos (by simp [hb]);simp only [hm, e2, if_true, Bool.false_eq_true, if_false, e1, e3, aJ];omega
   ·have e2 : ¬ c ∈ b :: l := fun h => by
     rcases List.mem_cons.1 h with h | h
     ·exact hb h.symm
     ·exact hm h
    simp only [hm, e2, if_false, Bool.false_eq_true];rfl
theorem iy {c : UInt8} {l : List UInt8} (h : c ∈ l) : ∃ x r, l = x ++ c :: r ∧ c ∉ x ∧ Lib.index l [c] = x.length := by
 obtain ⟨x, r, h1, h2⟩ := List.eq_append_cons_of_mem h;refine ⟨x, r, h1, h2, ?_⟩;rw [index_one, if_pos h];subst h1;rw [List.takeWhile_append_of_pos (by intro a ha; simp; intro e; subst e; exact h2 ha), List.takeWhile_cons_of_neg (by simp)];simp
theorem qh (c : UInt8) : ∀ (k : Nat) (l : List UInt8), l.count c ≤ k → Lib.splitK [c] 0 k l = cuts c l
 | 0, l, h => by
  have hn : c ∉ l := fun hm => by have := List.count_pos_iff.2 hm; omega
  rw [iM hn]; rfl
 | k + 1, l, h => by
  unfold Lib.splitK;by_cases hm : c ∈ l
  ·obtain ⟨x, r, h1, h2, h3⟩ := iy hm
   rw [h3, if_neg (by simp <;> omega)];subst h1;rw [lW _ h2];have hc : (x ++ c :: r).count c = r.count c + 1 := by
    rw [List.count_append, List.count_eq_zero.2 h2, List.count_cons_self]; omega
   simp only [Int.toNat_natCast, Nat.add_zero, List.length_singleton];rw [List.take_left, show x.length + 1 = (x ++ [c]).length from by simp, show x ++ c :: r = (x ++ [c]) ++ r from by simp, List.drop_left, qh c k r (by omega)]
  ·rw [index_one, if_neg hm, if_pos (by simp), iM hm]
theorem mD (c : UInt8) : ∀ (f : Nat) (l : List UInt8), l.length < f → l.count c ≤ Lib.countFrom [c] f l
 | 0, l, h => by omega
 | f + 1, l, h => by
  unfold Lib.countFrom;by_cases hm : c ∈ l
  ·obtain ⟨x, r, h1, h2, h3⟩ := iy hm
   rw [h3, if_neg (by simp <;> omega)];subst h1;simp only [Int.toNat_natCast, List.length_singleton];rw [show x.length + 1 = (x ++ [c]).length from by simp, show x ++ c :: r = (x ++ [c]) ++ r from by simp, List.drop_left];have := mD c f r (by simp at h; omega);rw [List.append_assoc, List.count_append, List.count_eq_zero.2 h2, List.singleton_append, List.count_cons_self];omega
  ·rw [List.count_eq_zero.2 hm]; omega
theorem xX {e : Ex} (h : e.right = true) (hn : e.nums) : rC e.text = some e := by
 obtain ⟨h1, h2, _⟩ := qg h;have ht : e.text = e.told := by unfold Ex.text; rw [if_pos h]
 have := nN e 8 [] h1 hn h2 (by intro c hc; cases hc);rw [List.append_nil, ← ht] at this;rw [Ce this, if_pos ⟨rfl, h⟩]
structure Ent where
 x : Nat
 w : Nat
 n : Nat
 m : Bool
structure Rec where
 k : Int
 t : Nat
 x : Nat
 w : Nat
 n : Nat
 v : Nat
 p : Ex
 es : List Ent
def Rec.zero : Rec := ⟨0, 0, 0, 0, 0, 0, .zero, []⟩
def Ent.ok (e : Ent) : Prop := e.x < 18446744073709551616 ∧ e.w < 18446744073709551616 ∧ e.n < 18446744073709551616
def Rec.nums (r : Rec) : Prop := r.t < 18446744073709551616 ∧ r.x < 18446744073709551616 ∧ r.w < 18446744073709551616 ∧ r.n < 18446744073709551616 ∧ r.v < 18446744073709551616 ∧ r.p.nums ∧ ∀ e ∈ r.es, e.ok
def xY (w n : Nat) : List UInt8 := Lib.decDigits w ++ 46 :: Lib.decDigits n
def nR (m : Bool) : List UInt8 := if m then [49] else [48]
def Ent.told (e : Ent) : List UInt8 := Lib.decDigits e.x ++ 58 :: (xY e.w e.n ++ 58 :: nR e.m)
def bB (k : Int) : List UInt8 :=
 if k = 1 then [98, 101, 103, 105, 110] else if k = 2 then [114, 101, 97, 100] else if k = 3 then [119, 114, 105, 116, 101] else if k = 4 then [100, 101, 108, 101, 116, 101]
 else if k = 5 then [112, 114, 101, 100] else if k = 6 then [99, 111, 109, 109, 105, 116] else [97, 98, 111, 114, 116]
def kindOf (w : List UInt8) : Nat :=
 if w = bB 1 then 1 else if w = bB 2 then 2 else if w = bB 3 then 3 else if w = bB 4 then 4 else if w = bB 5 then 5 else if w = bB 6 then 6 else if w = bB 7 then 7 else 0
def Rec.tail (r : Rec) : List (List UInt8) :=
 if r.k = 2 then [Lib.decDigits r.x, xY r.w r.n] else if r.k = 3 then [Lib.decDigits r.x, Lib.decDigits r.v] else if r.k = 4 then [Lib.decDigits r.x] else if r.k = 5 then r.p.told :: r.es.map Ent.told else []
def Rec.words (r : Rec) : List (List UInt8) := bB r.k :: Lib.decDigits r.t :: r.tail
def Rec.told (r : Rec) : List UInt8 := Lib.join r.words [32]
def Rec.only (r : Rec) : Rec :=
 if r.k = 2 then ⟨r.k, r.t, r.x, r.w, r.n, 0, .zero, []⟩ else if r.k = 3 then ⟨r.k, r.t, r.x, 0, 0, r.v, .zero, []⟩ else if r.k = 4 then ⟨r.k, r.t, r.x, 0, 0, 0, .zero, []⟩
 else if r.k = 5 then ⟨r.k, r.t, 0, 0, 0, 0, r.p, r.es⟩ else ⟨r.k, r.t, 0, 0, 0, 0, .zero, []⟩
def Rec.rightP (r : Rec) : Prop := 1 ≤ r.k ∧ r.k ≤ 7 ∧ (r.k = 5 → r.p.right = true) ∧ r.only = r
def eZ (s : List UInt8) : Option Nat := if Lib.decDigits (numOf s) = s ∧ numOf s < 18446744073709551616 then some (numOf s) else none
theorem bQ {s : List UInt8} {n : Nat} : eZ s = some n ↔ s = Lib.decDigits n ∧ n < 18446744073709551616 := by
 unfold eZ;constructor
 ·intro h
  split at h
  ·rename_i hc; injection h with h; subst h; exact ⟨hc.1.symm, hc.2⟩
  ·cases h
 ·rintro ⟨rfl, h⟩
  rw [dU, if_pos ⟨rfl, h⟩]
def DD (s : List UInt8) : Option (Nat × Nat) := match cuts 46 s with
 | [a, b] => (eZ a).bind fun w => (eZ b).map fun n => (w, n)
 | _ => none
def Ff (s : List UInt8) : Option Ent := match cuts 58 s with
 | [a, b, f] => if f = [48] ∨ f = [49] then (eZ a).bind fun x => (DD b).map fun v => ⟨x, v.1, v.2, decide (f = [49])⟩ else none
 | _ => none
def xZ : List (List UInt8) → Option (List Ent)
 | [] => some []
 | s :: l => (Ff s).bind fun e => (xZ l).map fun es => e :: es
def iC (k t : Nat) (l : List (List UInt8)) : Option Rec :=
 if k = 2 then match l with
  | [a, b] => (eZ a).bind fun x => (DD b).map fun v => ⟨2, t, x, v.1, v.2, 0, .zero, []⟩
  | _ => none
 else if k = 3 then match l with
  | [a, b] => (eZ a).bind fun x => (eZ b).map fun v => ⟨3, t, x, 0, 0, v, .zero, []⟩
  | _ => none
 else if k = 4 then match l with
  | [a] => (eZ a).map fun x => ⟨4, t, x, 0, 0, 0, .zero, []⟩
  | _ => none
 else if k = 5 then match l with
  | a :: es => (rC a).bind fun p => (xZ es).map fun es => ⟨5, t, 0, 0, 0, 0, p, es⟩
  | _ => none
 else if l = [] then some ⟨k, t, 0, 0, 0, 0, .zero, []⟩ else none
def eT (s : List UInt8) : Option Rec := match cuts 32 s with
 | w :: a :: l => if kindOf w = 0 then none else (eZ a).bind fun t => iC (kindOf w) t l
 | _ => none
theorem dh {n : Nat} {c : UInt8} (hc : isD c = false) : c ∉ Lib.decDigits n := fun h => by
 have := gW n c h;rw [hc] at this; cases this
theorem wF {w n : Nat} {c : UInt8} (hc : isD c = false) (h2 : c ≠ 46) : c ∉ xY w n := by
 unfold xY;simp only [List.mem_append, List.mem_cons, not_or];exact ⟨dh hc, h2, dh hc⟩
theorem yc {m : Bool} {c : UInt8} (hc : isD c = false) : c ∉ nR m := by
 cases m
 ·simp only [nR, Bool.false_eq_true, if_false, List.mem_singleton]; intro e; subst e; cases hc
 ·simp only [nR, if_true, List.mem_singleton]; intro e; subst e; cases hc
theorem Fg {e : Ent} : (32 : UInt8) ∉ e.told := by
 unfold Ent.told;simp only [List.mem_append, List.mem_cons, not_or];exact ⟨dh (by decide), by decide, wF (by decide) (by decide), by decide, yc (by decide)⟩
theorem uW {c : UInt8} (hc : c ≠ 44) : ∀ (l : List (List UInt8)), (∀ x ∈ l, c ∉ x) → c ∉ commas l
 | [], _ => by simp [commas, Lib.join_nil]
 | [x], h => by rw [iW]; exact h x (by simp)
 | x :: y :: l, h => by
  rw [jS];simp only [List.mem_append, List.mem_cons, not_or];exact ⟨h x (by simp), hc, uW hc (y :: l) (fun z hz => h z (List.mem_cons_of_mem _ hz))⟩
mutual
theorem Bo : ∀ e : Ex, (32 : UInt8) ∉ e.told
 | .mk k a b ps => by
  have h1 := yf ps;have h2 := uW (c := 32) (by decide) _ h1;simp only [Ex.told, nL];split
  ·decide
  split
  ·simp only [List.mem_append, not_or]; exact ⟨by decide, dh (by decide)⟩
  split
  ·simp only [List.mem_append, not_or]; exact ⟨by decide, dh (by decide)⟩
  split
  ·simp only [List.mem_append, not_or]; exact ⟨⟨⟨by decide, dh (by decide)⟩, by decide⟩, dh (by decide)⟩
  split
  ·simp only [List.mem_append, not_or]; exact ⟨by decide, h2⟩
  split
  ·simp only [List.mem_append, not_or]; exact ⟨⟨by decide, h2⟩, by decide⟩
  ·simp only [List.mem_append, not_or]; exact ⟨⟨by decide, h2⟩, by decide⟩
theorem yf : ∀ es : List Ex, ∀ x ∈ Ex.tolds es, (32 : UInt8) ∉ x
 | [], x, h => by simp [Ex.tolds] at h
 | e :: es, x, h => by
  simp only [Ex.tolds, List.mem_cons] at h;rcases h with rfl | h
  ·exact Bo e
  ·exact yf es x h
end
theorem mU {k : Int} (h1 : 1 ≤ k) (h7 : k ≤ 7) : k = 1 ∨ k = 2 ∨ k = 3 ∨ k = 4 ∨ k = 5 ∨ k = 6 ∨ k = 7 := by omega
theorem Fh {k : Int} (h1 : 1 ≤ k) (h7 : k ≤ 7) : (32 : UInt8) ∉ bB k := by
 rcases mU h1 h7 with rfl | rfl | rfl | rfl | rfl | rfl | rfl <;> decide
theorem kQ {k : Int} (h1 : 1 ≤ k) (h7 : k ≤ 7) : (kindOf (bB k) : Int) = k := by
 rcases mU h1 h7 with rfl | rfl | rfl | rfl | rfl | rfl | rfl <;> decide
theorem qi {w : List UInt8} (h : kindOf w ≠ 0) : w = bB (kindOf w) ∧ 1 ≤ kindOf w ∧ kindOf w ≤ 7 := by
 have key : ∀ k : Nat, 1 ≤ k → k ≤ 7 → w = bB k → w = bB (kindOf w) ∧ 1 ≤ kindOf w ∧ kindOf w ≤ 7 := fun k h1 h7 e => by
  have h2 := kQ (k := k) (by omega) (by omega);rw [← e] at h2;exact ⟨by rw [h2]; exact e, by omega, by omega⟩
 by_cases e1 : w = bB 1
 ·exact key 1 (by omega) (by omega) e1
 by_cases e2 : w = bB 2
 ·exact key 2 (by omega) (by omega) e2
 by_cases e3 : w = bB 3
 ·exact key 3 (by omega) (by omega) e3
 by_cases e4 : w = bB 4
 ·exact key 4 (by omega) (by omega) e4
 by_cases e5 : w = bB 5
 ·exact key 5 (by omega) (by omega) e5
 by_cases e6 : w = bB 6
 ·exact key 6 (by omega) (by omega) e6
 by_cases e7 : w = bB 7
 ·exact key 7 (by omega) (by omega) e7
 exact absurd (by unfold kindOf; rw [if_neg e1, if_neg e2, if_neg e3, if_neg e4, if_neg e5, if_neg e6, if_neg e7]) h
theorem oP {s : List UInt8} {w n : Nat} : DD s = some (w, n) ↔ s = xY w n ∧ w < 18446744073709551616 ∧ n < 18446744073709551616 := by
 constructor
 ·intro h
  unfold DD at h;split at h
  ·rename_i a b hc
   have hj := uV 46 s;rw [hc] at hj;simp only [Option.bind_eq_some_iff, Option.map_eq_some_iff, Prod.mk.injEq] at h;obtain ⟨x, h1, y, h2, rfl, rfl⟩ := h;obtain ⟨rfl, h3⟩ := bQ.1 h1;obtain ⟨rfl, h4⟩ := bQ.1 h2;exact ⟨by rw [← hj]; simp [Lib.join_cons, Lib.joinTail, xY], h3, h4⟩
  ·cases h
 ·rintro ⟨rfl, h1, h2⟩
  unfold DD xY;rw [lW _ (dh (by decide)), iM (dh (by decide))];simp only [Option.bind_eq_some_iff, Option.map_eq_some_iff];exact ⟨w, bQ.2 ⟨rfl, h1⟩, n, bQ.2 ⟨rfl, h2⟩, rfl⟩
theorem uX {s : List UInt8} {e : Ent} : Ff s = some e ↔ s = e.told ∧ e.ok := by
 constructor
 ·intro h
  unfold Ff at h;split at h
  ·rename_i a b f hc
   have hj := uV 58 s;rw [hc] at hj;split at h
   ·rename_i hf
    simp only [Option.bind_eq_some_iff, Option.map_eq_some_iff] at h;obtain ⟨x, h1, ⟨v, u⟩, h2, rfl⟩ := h;obtain ⟨rfl, h3⟩ := bQ.1 h1;obtain ⟨rfl, h4, h5⟩ := oP.1 h2;refine ⟨?_, h3, h4, h5⟩;rw [← hj];rcases hf with rfl | rfl <;> simp [Lib.join_cons, Lib.joinTail, Ent.told, nR]
   ·cases h
  ·cases h
 ·rintro ⟨rfl, h1, h2, h3⟩
  obtain ⟨x, w, n, m⟩ := e;unfold Ff Ent.told;rw [lW _ (dh (by decide)), lW _ (wF (by decide) (by decide)), iM (yc (by decide))];have hf : nR m = [48] ∨ nR m = [49] := by cases m <;> simp [nR]
  have hm : decide (nR m = [49]) = m := by cases m <;> decide
  simp only;rw [if_pos hf, hm];simp only [Option.bind_eq_some_iff, Option.map_eq_some_iff];exact ⟨x, bQ.2 ⟨rfl, h1⟩, (w, n), oP.2 ⟨rfl, h2, h3⟩, rfl⟩
theorem mV : ∀ {l : List (List UInt8)} {es : List Ent}, xZ l = some es ↔ l = es.map Ent.told ∧ ∀ e ∈ es, e.ok
 | [], es => by
  simp only [xZ, Option.some.injEq];constructor
  ·rintro rfl; simp
  ·rintro ⟨h, _⟩
   cases es with
   | nil => rfl
   | cons e es => simp at h
 | s :: l, es => by
  simp only [xZ, Option.bind_eq_some_iff, Option.map_eq_some_iff];constructor
  ·rintro ⟨e, h1, es', h2, rfl⟩
   obtain ⟨rfl, h3⟩ := uX.1 h1;obtain ⟨rfl, h4⟩ := mV.1 h2;exact ⟨rfl, fun z hz => by rcases List.mem_cons.1 hz with rfl | hz; exact h3; exact h4 z hz⟩
  ·rintro ⟨h, h2⟩
   cases es with
   | nil => simp at h
   | cons e es =>
    simp only [List.map_cons, List.cons.injEq] at h;obtain ⟨rfl, rfl⟩ := h;exact ⟨e, uX.2 ⟨rfl, h2 e (by simp)⟩, es, mV.2 ⟨rfl, fun z hz => h2 z (by simp [hz])⟩, rfl⟩
theorem yg {e : Ex} (h : e.right = true) (hn : e.nums) : rC e.told = some e := by
 have := xX h hn;unfold Ex.text at this
 rwa [if_pos h] at this
theorem bD : Ex.zero.nums := by simp [Ex.zero, Ex.nums, Ex.numss]
theorem zR {r : Rec} (h : r.rightP) (hn : r.nums) : iC r.k.toNat r.t r.tail = some r := by
 obtain ⟨k, t, x, w, n, v, p, es⟩ := r;obtain ⟨h1, h7, h5, ho⟩ := h;obtain ⟨n1, n2, n3, n4, n5, n6, n7⟩ := hn;simp only at h1 h7 h5 n1 n2 n3 n4 n5 n6 n7;rcases mU h1 h7 with rfl | rfl | rfl | rfl | rfl | rfl | rfl
 all_goals simp [Rec.only] at ho
 ·obtain ⟨rfl, rfl, rfl, rfl, rfl, rfl⟩ := ho; rfl
 ·obtain ⟨rfl, rfl, rfl⟩ := ho
  show iC 2 t [Lib.decDigits x, xY w n] = _;unfold iC;rw [if_pos rfl];simp only [bQ.2 ⟨rfl, n2⟩, oP.2 ⟨rfl, n3, n4⟩, ai, Option.map_some]
 ·obtain ⟨rfl, rfl, rfl, rfl⟩ := ho
  show iC 3 t [Lib.decDigits x, Lib.decDigits v] = _;unfold iC;rw [if_neg (by decide), if_pos rfl];simp only [bQ.2 ⟨rfl, n2⟩, bQ.2 ⟨rfl, n5⟩, ai, Option.map_some]
 ·obtain ⟨rfl, rfl, rfl, rfl, rfl⟩ := ho
  show iC 4 t [Lib.decDigits x] = _;unfold iC;rw [if_neg (by decide), if_neg (by decide), if_pos rfl];simp only [bQ.2 ⟨rfl, n2⟩, Option.map_some]
 ·obtain ⟨rfl, rfl, rfl, rfl⟩ := ho
  show iC 5 t (p.told :: es.map Ent.told) = _;unfold iC;rw [if_neg (by decide), if_neg (by decide), if_neg (by decide), if_pos rfl];simp only [yg (h5 rfl) n6, mV.2 ⟨rfl, n7⟩, ai, Option.map_some]
 ·obtain ⟨rfl, rfl, rfl, rfl, rfl, rfl⟩ := ho; rfl
 ·obtain ⟨rfl, rfl, rfl, rfl, rfl, rfl⟩ := ho; rfl
theorem Fj {r : Rec} : ∀ x ∈ r.tail, (32 : UInt8) ∉ x := by
 intro x hx;unfold Rec.tail at hx;split at hx
 ·simp only [List.mem_cons, List.not_mem_nil, or_false] at hx
  rcases hx with rfl | rfl
  ·exact dh (by decide)
  ·exact wF (by decide) (by decide)
 split at hx
 ·simp only [List.mem_cons, List.not_mem_nil, or_false] at hx
  rcases hx with rfl | rfl <;> exact dh (by decide)
 split at hx
 ·simp only [List.mem_cons, List.not_mem_nil, or_false] at hx
  subst hx; exact dh (by decide)
 split at hx
 ·simp only [List.mem_cons, List.mem_map] at hx
  rcases hx with rfl | ⟨e, _, rfl⟩
  ·exact Bo _
  ·exact Fg
 ·simp at hx
theorem Cf {r : Rec} (h : r.rightP) : cuts 32 r.told = r.words := by
 refine nQ (by simp [Rec.words]) (fun x hx => ?_);simp only [Rec.words, List.mem_cons] at hx;rcases hx with rfl | rfl | hx
 ·exact Fh h.1 h.2.1
 ·exact dh (by decide)
 ·exact Fj x hx
theorem zS {r : Rec} (h : r.rightP) (hn : r.nums) : eT r.told = some r := by
 unfold eT;rw [Cf h];have hk := kQ h.1 h.2.1;have hk0 : kindOf (bB r.k) ≠ 0 := by have := h.1; omega
 simp only [Rec.words];rw [if_neg hk0, bQ.2 ⟨rfl, hn.1⟩, show kindOf (bB r.k) = r.k.toNat from by omega];simp only [ai];exact zR h hn
instance : DecidableEq Ent := fun a b => decidable_of_iff (a.x = b.x ∧ a.w = b.w ∧ a.n = b.n ∧ a.m = b.m) (by cases a; cases b; simp)
def Rec.same (a b : Rec) : Bool := decide (a.k = b.k) && decide (a.t = b.t) && decide (a.x = b.x) && decide (a.w = b.w) && decide (a.n = b.n) && decide (a.v = b.v) && a.p.same b.p && decide (a.es = b.es)
theorem Rec.same_iff (a b : Rec) : a.same b = true ↔ a = b := by
 cases a; cases b
 simp only [Rec.same, aH, decide_eq_true_eq, Ex.same_iff, Rec.mk.injEq, and_assoc]
def Rec.right (r : Rec) : Bool := decide (1 ≤ r.k) && decide (r.k ≤ 7) && (decide (r.k ≠ 5) || r.p.right) && r.only.same r
theorem Rec.right_iff (r : Rec) : r.right = true ↔ r.rightP := by
 simp only [Rec.right, aH, Bool.or_eq_true, decide_eq_true_eq, Rec.same_iff, Rec.rightP, and_assoc];constructor
 ·rintro ⟨h1, h2, h3, h4⟩
  exact ⟨h1, h2, fun h => h3.resolve_left (fun hn => hn h), h4⟩
 ·rintro ⟨h1, h2, h3, h4⟩
  exact ⟨h1, h2, by by_cases h : r.k = 5; exact .inr (h3 h); exact .inl h, h4⟩
def GV (s : List UInt8) : Nat := s.foldl (fun n c => (n * 10 + (c.toNat + 208) % 256) % 18446744073709551616) 0
def verV (s : List UInt8) : Nat × Nat := match cuts 46 s with
 | [a, b] => (GV a, GV b)
 | _ => (0, 0)
def Ent.put (e : Ent) : List UInt8 := bO [e.x, e.w, e.n] ++ [if e.m then 1 else 0]
def gq (es : List Ent) : List UInt8 := es.flatMap Ent.put
def Rec.body (r : Rec) : List UInt8 :=
 if r.k = 2 then bO [r.t, r.x, r.w, r.n] else if r.k = 3 then bO [r.t, r.x, r.v] else if r.k = 4 then bO [r.t, r.x]
 else if r.k = 5 then bO [r.t, r.p.put.length] ++ (r.p.put ++ (bO [r.es.length] ++ gq r.es)) else bO [r.t]
theorem Ent.put_length (e : Ent) : e.put.length ≤ 31 := by
 have := bI [e.x, e.w, e.n];simp only [Ent.put, aI, aJ, List.length_nil] at this ⊢; omega
theorem kR : ∀ es : List Ent, (gq es).length ≤ 31 * es.length
 | [] => by simp [gq]
 | e :: es => by
  have h1 := e.put_length;have h2 := kR es;simp only [gq, List.flatMap_cons, aI, aJ] at h2 ⊢; omega
def kS (l : List UInt8) : Option (Ent × List UInt8) := (bf l).bind fun x => (bf x.2).bind fun w => (bf w.2).bind fun n => match n.2 with
 | c :: r => if c.toNat ≤ 1 then some (⟨x.1, w.1, n.1, decide (c.toNat = 1)⟩, r) else none
 | [] => none
def dZ : Nat → List UInt8 → Option (List Ent × List UInt8)
 | 0, l => some ([], l)
 | n + 1, l => (kS l).bind fun e => (dZ n e.2).map fun es => (e.1 :: es.1, es.2)
def yh (k t : Nat) (l : List UInt8) : Option Rec :=
 if k = 2 then (bf l).bind fun x => (bf x.2).bind fun w => (bf w.2).bind fun n => if n.2 = [] then some ⟨2, t, x.1, w.1, n.1, 0, .zero, []⟩ else none
 else if k = 3 then (bf l).bind fun x => (bf x.2).bind fun v => if v.2 = [] then some ⟨3, t, x.1, 0, 0, v.1, .zero, []⟩ else none
 else if k = 4 then (bf l).bind fun x => if x.2 = [] then some ⟨4, t, x.1, 0, 0, 0, .zero, []⟩ else none
 else if k = 5 then (bf l).bind fun m => if m.1 ≤ m.2.length then (bM (m.2.take m.1)).bind fun p => (bf (m.2.drop m.1)).bind fun c => (dZ c.1 c.2).bind fun es => if es.2 = [] then some ⟨5, t, 0, 0, 0, 0, p, es.1⟩ else none else none
 else if l = [] then some ⟨k, t, 0, 0, 0, 0, .zero, []⟩ else none
def bC (k : Nat) (b : List UInt8) : Option Rec := if 1 ≤ k ∧ k ≤ 7 then (bf b).bind fun t => yh k t.1 t.2 else none
theorem uw {p : Ex} (h : p.right = true) : p.put.length ≤ 992 := by
 have h1 := p.st_length;have h2 := (qg h).2.2;unfold Ex.put; rw [if_pos h]; omega
theorem wG (tk : List UInt8 → Option (Ex × List UInt8)) (htk : ∀ s e r, tk s = some (e, r) → s = e.st ++ r ∧ e.nums) : ∀ n s es r, bi tk n s = some (es, r) → s = Ex.sts es ++ r ∧ Ex.numss es ∧ es.length = n := by
 intro n
 induction n with
 | zero =>
  intro s es r h;simp only [bi, Option.some.injEq, Prod.mk.injEq] at h;obtain ⟨rfl, rfl⟩ := h;simp [Ex.sts, Ex.numss]
 | succ n ih =>
  intro s es r h;rw [bi] at h;split at h
  ·cases h
  ·rename_i e q hq
   obtain ⟨h1, h2⟩ := htk _ _ _ hq;obtain ⟨⟨a, b⟩, h3, h4⟩ := aa h;injection h4 with h5 h6
   subst h5 h6;obtain ⟨h7, h8, h9⟩ := ih _ _ _ h3;refine ⟨?_, by simp only [Ex.numss]; exact ⟨h2, h8⟩, by simp [h9]⟩;rw [h1, h7]; simp [Ex.sts]
theorem iN {o : Option (List UInt8)} {r : List UInt8} (h : dV o = some r) : o = some (dw (iT o) ++ r) := by
 unfold dV at h;obtain ⟨x, h1, h2⟩ := aa h;have hn : iT o = x.1 := by unfold iT; rw [h1]
 obtain ⟨l, h3, h4⟩ := ae h1;obtain ⟨h5, _⟩ := bF (n := x.1) (r := x.2) h4;rw [hn, h3, h5, ← h2]
theorem zT (c : UInt8) : ((((c.toNat : Nat) : Int)) % 256).toNat.toUInt8 = c := by
 have := c.toNat_lt;rw [show (((c.toNat : Nat) : Int) % 256).toNat = c.toNat from by omega];simp
theorem Cg (d : Nat) : ∀ s e r, tkE d s = some (e, r) → s = e.st ++ r ∧ e.nums := by
 induction d with
 | zero => intro s e r h; simp [tkE] at h
 | succ d ih =>
  intro s e r h;cases s with
  | nil => simp [tkE] at h
  | cons c l =>
   rw [tkE] at h;split at h
   ·rename_i hc
    obtain ⟨⟨ps, b⟩, h3, h4⟩ := aa h;injection h4 with h5 h6
    subst h5 h6;unfold iU at h3;obtain ⟨q, h7, h8⟩ := ae h3;obtain ⟨h9, h10, h11⟩ := wG _ ih _ _ _ _ h8;have hlt := BV c.toNat l;refine ⟨?_, by simp only [Ex.nums]; exact ⟨hlt.1, hlt.2.1, h10⟩⟩;simp only [Ex.st, xI, zT];have hc7 : c.toNat = 1 ∨ c.toNat = 2 ∨ c.toNat = 3 ∨ c.toNat = 4 ∨ c.toNat = 5 ∨ c.toNat = 6 ∨ c.toNat = 7 := (by omega);simp only [List.cons_append, List.cons.injEq, true_and];rcases hc7 with e | e | e | e | e | e | e
    ·rw [e] at h7 ⊢
     simp only [bK, show ¬ (1 = 2 ∨ 1 = 3) from by omega, show ¬ (1 = 4) from by omega, show ¬ (1 = 5) from by omega, show ¬ (1 = 6 ∨ 1 = 7) from by omega, if_false, Option.some.injEq] at h7 ⊢;rw [h7, h9]; simp
    ·rw [e] at h7 ⊢
     simp only [bK, true_or, if_true] at h7 ⊢;have h12 := iN h7;injection h12 with h12
     rw [h9] at h12
     conv => lhs; rw [h12]
     simp
    ·rw [e] at h7 ⊢
     simp only [bK, or_true, if_true] at h7 ⊢;have h12 := iN h7;injection h12 with h12
     rw [h9] at h12
     conv => lhs; rw [h12]
     simp
    ·rw [e] at h7 ⊢
     simp only [bK, show ¬ (4 = 2 ∨ 4 = 3) from by omega, if_true, if_false] at h7 ⊢;have h12 := iN h7;have h13 := iN h12;injection h13 with h13
     rw [h9] at h13
     conv => lhs; rw [h13]
     simp
    ·rw [e] at h7 ⊢
     simp only [bK, show ¬ (5 = 2 ∨ 5 = 3) from by omega, show ¬ (5 = 4) from by omega, if_true, if_false, Option.some.injEq] at h7 ⊢;rw [h7, h9]; simp
    ·rw [e] at h7 h11 ⊢
     simp only [bK, show ¬ (6 = 2 ∨ 6 = 3) from by omega, show ¬ (6 = 4) from by omega, show ¬ (6 = 5) from by omega, true_or, if_true, if_false] at h7 h11 ⊢;have h12 := iN h7;injection h12 with h12
     rw [h9] at h12
     conv => lhs; rw [h12]
     rw [← h11];simp
    ·rw [e] at h7 h11 ⊢
     simp only [bK, show ¬ (7 = 2 ∨ 7 = 3) from by omega, show ¬ (7 = 4) from by omega, show ¬ (7 = 5) from by omega, or_true, if_true, if_false] at h7 h11 ⊢;have h12 := iN h7;injection h12 with h12
     rw [h9] at h12
     conv => lhs; rw [h12]
     rw [← h11];simp
   ·cases h
theorem qj {b : List UInt8} {e : Ex} (h : bM b = some e) : e.right = true ∧ e.nums ∧ e.put = b := by
 unfold bM at h;split at h
 ·rename_i e2 n hq
  split at h
  ·rename_i hn
   injection h with h; subst h
   unfold mQ at hq;split at hq
   ·split at hq
    ·rename_i e3 r hr
     split at hq
     ·rename_i hright
      injection hq with hq; injection hq with h1 h2
      subst h1;obtain ⟨h3, h4⟩ := Cg 8 _ _ _ hr;have hr0 : r = [] := by
       have := congrArg List.length h3;simp only [Int.toNat_zero, List.drop_zero, aI] at this;exact List.eq_nil_of_length_eq_zero (by
        have h5 : e3.st.length + r.length = b.length := (by simpa using this.symm);have h6 : 0 < e3.st.length := (by cases e3; simp [Ex.st, xI]);omega)
      refine ⟨hright, h4, ?_⟩;unfold Ex.put; rw [if_pos hright];subst hr0;simpa using h3.symm
     ·cases hq
    ·cases hq
   ·cases hq
  ·cases h
 ·cases h
theorem Ch {l r : List UInt8} {e : Ent} (h : kS l = some (e, r)) : l = e.put ++ r ∧ e.ok := by
 unfold kS at h;simp only [Option.bind_eq_some_iff] at h;obtain ⟨⟨x, l1⟩, h1, ⟨w, l2⟩, h2, ⟨n, l3⟩, h3, h4⟩ := h;obtain ⟨rfl, hx⟩ := bF h1;obtain ⟨e2, hw⟩ := bF h2;obtain ⟨e3, hn⟩ := bF h3
 (try dsimp only at e2 e3 h4)
 subst e2 e3;split at h4
 ·rename_i _ c r2
  split at h4
  ·rename_i h1c
   injection h4 with h4; injection h4 with h5 h6
   subst h5 h6;refine ⟨?_, hx, hw, hn⟩;have : c = if decide (c.toNat = 1) then 1 else 0 := by
    by_cases hc1 : c.toNat = 1
    ·simp only [hc1, decide_true, if_true]; exact UInt8.toNat.inj (by simpa using hc1)
    ·have h0 : c.toNat = 0 := by omega
     simp only [h0, show decide (0 = 1) = false from rfl, Bool.false_eq_true, if_false]; exact UInt8.toNat.inj (by simpa using h0)
   simp only [Ent.put, bO, List.flatMap_cons, List.flatMap_nil, List.append_nil, List.append_assoc, List.singleton_append];rw [← this]
  ·cases h4
 ·cases h4
theorem rD : ∀ (n : Nat) (l r : List UInt8) (es : List Ent), dZ n l = some (es, r) → l = gq es ++ r ∧ (∀ e ∈ es, e.ok) ∧ es.length = n
 | 0, l, r, es, h => by
  simp only [dZ, Option.some.injEq, Prod.mk.injEq] at h;obtain ⟨rfl, rfl⟩ := h;simp [gq]
 | n + 1, l, r, es, h => by
  simp only [dZ, Option.bind_eq_some_iff, Option.map_eq_some_iff] at h;obtain ⟨⟨e, l1⟩, h1, ⟨es1, r1⟩, h2, h3⟩ := h;injection h3 with h4 h5
  subst h4 h5;obtain ⟨h6, h7⟩ := Ch h1;obtain ⟨h8, h9, h10⟩ := rD n _ _ _ h2
  (try dsimp only at h8)
  refine ⟨by rw [h6, h8]; simp [gq], fun z hz => ?_, by simp [h10]⟩;rcases List.mem_cons.1 hz with rfl | hz
  ·exact h7
  ·exact h9 z hz
theorem jT {k : Nat} {b : List UInt8} {r : Rec} (h : bC k b = some r) : r.k = k ∧ r.rightP ∧ r.nums ∧ r.body = b := by
 unfold bC at h;split at h
 ·rename_i hk
  obtain ⟨⟨t, l⟩, h1, h2⟩ := ae h;obtain ⟨rfl, ht⟩ := bF h1;have hk7 : k = 1 ∨ k = 2 ∨ k = 3 ∨ k = 4 ∨ k = 5 ∨ k = 6 ∨ k = 7 := by omega
  simp only [yh] at h2;rcases hk7 with rfl | rfl | rfl | rfl | rfl | rfl | rfl
  ·simp only [show ¬ (1 = 2) from by omega, show ¬ (1 = 3) from by omega, show ¬ (1 = 4) from by omega, show ¬ (1 = 5) from by omega, if_false] at h2
   split at h2
   ·rename_i hl
    injection h2 with h2; subst h2 hl
    exact ⟨rfl, ⟨by dsimp only; omega, by dsimp only; omega, fun h => absurd h (by dsimp only; omega), rfl⟩, ⟨ht, by dsimp only; omega, by dsimp only; omega, by dsimp only; omega, by dsimp only; omega, bD, by simp⟩, by simp [Rec.body, bO]⟩
   ·cases h2
  ·simp only [if_true, Option.bind_eq_some_iff] at h2
   obtain ⟨⟨x, l1⟩, h3, ⟨w, l2⟩, h4, ⟨n, l3⟩, h5, h6⟩ := h2;obtain ⟨rfl, hx⟩ := bF h3;obtain ⟨e4, hw⟩ := bF h4;obtain ⟨e5, hn⟩ := bF h5
   (try dsimp only at e4 e5 h6)
   subst e4 e5;split at h6
   ·rename_i hl
    injection h6 with h6; subst h6 hl
    exact ⟨rfl, ⟨by dsimp only; omega, by dsimp only; omega, fun h => absurd h (by dsimp only; omega), rfl⟩, ⟨ht, hx, hw, hn, by dsimp only; omega, bD, by simp⟩, by simp [Rec.body, bO]⟩
   ·cases h6
  ·simp only [show ¬ (3 = 2) from by omega, if_false, if_true, Option.bind_eq_some_iff] at h2
   obtain ⟨⟨x, l1⟩, h3, ⟨v, l2⟩, h4, h6⟩ := h2;obtain ⟨rfl, hx⟩ := bF h3;obtain ⟨e4, hv⟩ := bF h4
   (try dsimp only at e4 h6)
   subst e4;split at h6
   ·rename_i hl
    injection h6 with h6; subst h6 hl
    exact ⟨rfl, ⟨by dsimp only; omega, by dsimp only; omega, fun h => absurd h (by dsimp only; omega), rfl⟩, ⟨ht, hx, by dsimp only; omega, by dsimp only; omega, hv, bD, by simp⟩, by simp [Rec.body, bO]⟩
   ·cases h6
  ·simp only [show ¬ (4 = 2) from by omega, show ¬ (4 = 3) from by omega, if_false, if_true, Option.bind_eq_some_iff] at h2
   obtain ⟨⟨x, l1⟩, h3, h6⟩ := h2;obtain ⟨rfl, hx⟩ := bF h3
   (try dsimp only at h6)
   split at h6
   ·rename_i hl
    injection h6 with h6; subst h6 hl
    exact ⟨rfl, ⟨by dsimp only; omega, by dsimp only; omega, fun h => absurd h (by dsimp only; omega), rfl⟩, ⟨ht, hx, by dsimp only; omega, by dsimp only; omega, by dsimp only; omega, bD, by simp⟩, by simp [Rec.body, bO]⟩
   ·cases h6
  ·simp only [show ¬ (5 = 2) from by omega, show ¬ (5 = 3) from by omega, show ¬ (5 = 4) from by omega, if_false, if_true, Option.bind_eq_some_iff] at h2
   obtain ⟨⟨m, l1⟩, h3, h6⟩ := h2;obtain ⟨rfl, hm⟩ := bF h3
   (try dsimp only at h6)
   split at h6
   ·rename_i hml
    simp only [Option.bind_eq_some_iff] at h6;obtain ⟨p, h7, ⟨c, l2⟩, h8, ⟨es, l3⟩, h9, h10⟩ := h6;obtain ⟨hr, hpn, hput⟩ := qj h7;obtain ⟨e8, hc⟩ := bF h8;obtain ⟨e9, hes, hlen⟩ := rD _ _ _ _ h9
    (try dsimp only at e8 e9 h10 hlen)
    split at h10
    ·rename_i hl
     injection h10 with h10; subst h10 hl
     refine ⟨rfl, ⟨by dsimp only; omega, by dsimp only; omega, fun _ => hr, rfl⟩, ⟨ht, by dsimp only; omega, by dsimp only; omega, by dsimp only; omega, by dsimp only; omega, hpn, hes⟩, ?_⟩;have hpl : p.put.length = m := (by rw [hput]; simp; omega);have hd : l1 = p.put ++ (dw es.length ++ gq es) := by
      rw [hlen];have := List.take_append_drop m l1;rw [← this, ← hput, e8, e9]; simp
     simp only [Rec.body, show ¬ ((5 : Int) = 2) from by omega, show ¬ ((5 : Int) = 3) from by omega, show ¬ ((5 : Int) = 4) from by omega, if_false, if_true, bO, List.flatMap_cons, List.flatMap_nil, List.append_nil, List.append_assoc];rw [hpl, ← hd]
    ·cases h10
   ·cases h6
  ·simp only [show ¬ (6 = 2) from by omega, show ¬ (6 = 3) from by omega, show ¬ (6 = 4) from by omega, show ¬ (6 = 5) from by omega, if_false] at h2
   split at h2
   ·rename_i hl
    injection h2 with h2; subst h2 hl
    exact ⟨rfl, ⟨by dsimp only; omega, by dsimp only; omega, fun h => absurd h (by dsimp only; omega), rfl⟩, ⟨ht, by dsimp only; omega, by dsimp only; omega, by dsimp only; omega, by dsimp only; omega, bD, by simp⟩, by simp [Rec.body, bO]⟩
   ·cases h2
  ·simp only [show ¬ (7 = 2) from by omega, show ¬ (7 = 3) from by omega, show ¬ (7 = 4) from by omega, show ¬ (7 = 5) from by omega, if_false] at h2
   split at h2
   ·rename_i hl
    injection h2 with h2; subst h2 hl
    exact ⟨rfl, ⟨by dsimp only; omega, by dsimp only; omega, fun h => absurd h (by dsimp only; omega), rfl⟩, ⟨ht, by dsimp only; omega, by dsimp only; omega, by dsimp only; omega, by dsimp only; omega, bD, by simp⟩, by simp [Rec.body, bO]⟩
   ·cases h2
 ·cases h
def bG : Option (List UInt8) → Nat × Option (List UInt8)
 | none => (0, none)
 | some l => match bf l with
  | some x => (x.1, some x.2)
  | none => (0, none)
def dF (n : Nat) : Option (List UInt8) → List UInt8 × Option (List UInt8)
 | none => ([], none)
 | some l => if n ≤ l.length then (l.take n, some (l.drop n)) else ([], none)
def dD (s : Option (List UInt8)) : List UInt8 × Option (List UInt8) := dF (bG s).1 (bG s).2
def iX (s : Option (List UInt8)) : (Nat × Nat) × Option (List UInt8) := (((bG s).1, (bG (bG s).2).1), (bG (bG s).2).2)
def bq (b : List UInt8) : Bool := match b with
 | [c] => decide (1 < c.toNat)
 | _ => true
def bP (b : List UInt8) : Bool := match b with
 | [c] => decide (c.toNat = 1)
 | _ => false
def jw (s : Option (List UInt8)) (f : Bool) : Ent × Option (List UInt8) × Bool :=
 let x := bG s
 let v := iX x.2
 let b := dF 1 v.2
 (⟨x.1, v.1.1, v.1.2, bP b.1⟩, b.2, f || bq b.1)
def bZ : Nat → Option (List UInt8) → Bool → List Ent × Option (List UInt8) × Bool
 | 0, s, f => ([], s, f)
 | n + 1, s, f => match s with
  | none => ([], none, f)
  | some l => ((jw (some l) f).1 :: (bZ n (jw (some l) f).2.1 (jw (some l) f).2.2).1, (bZ n (jw (some l) f).2.1 (jw (some l) f).2.2).2)
def gI (s : Option (List UInt8)) (f : Bool) : Ex × Option (List UInt8) × Bool := ((bM (dD s).1).getD .zero, (dD s).2, f || (bM (dD s).1).isNone)
def fJ (k t : Nat) (s : Option (List UInt8)) (f : Bool) : Rec × Option (List UInt8) × Bool :=
 if k = 2 then (⟨2, t, (bG s).1, (iX (bG s).2).1.1, (iX (bG s).2).1.2, 0, .zero, []⟩, (iX (bG s).2).2, f)
 else if k = 3 then (⟨3, t, (bG s).1, 0, 0, (bG (bG s).2).1, .zero, []⟩, (bG (bG s).2).2, f)
 else if k = 4 then (⟨4, t, (bG s).1, 0, 0, 0, .zero, []⟩, (bG s).2, f)
 else if k = 5 then (⟨5, t, 0, 0, 0, 0, (gI s f).1, (bZ (bG (gI s f).2.1).1 (bG (gI s f).2.1).2 (gI s f).2.2).1⟩, (bZ (bG (gI s f).2.1).1 (bG (gI s f).2.1).2 (gI s f).2.2).2)
 else (⟨k, t, 0, 0, 0, 0, .zero, []⟩, s, f)
def zU (k : Nat) (b : List UInt8) : Rec × Option (List UInt8) × Bool := fJ k (bG (some b)).1 (bG (some b)).2 false
theorem aY {l r : List UInt8} {v : Nat} (h : bf l = some (v, r)) : bG (some l) = (v, some r) := by simp [bG, h]
theorem di {l : List UInt8} (h : bf l = none) : bG (some l) = (0, none) := by simp [bG, h]
theorem eG : bG none = (0, none) := rfl
theorem fC (s : Option (List UInt8)) : (bG s).1 < 18446744073709551616 := by
 cases s with
 | none => simp [bG]
 | some l =>
  cases h : bf l with
  | none => simp [di h]
  | some x => obtain ⟨v, r⟩ := x; rw [aY h]; exact (bF h).2
theorem qL (s : Option (List UInt8)) : (iX s).1.1 < 18446744073709551616 ∧ (iX s).1.2 < 18446744073709551616 := ⟨fC s, fC _⟩
theorem uY {r r' : List UInt8} {e : Ent} (f : Bool) (h : kS r = some (e, r')) : jw (some r) f = (e, some r', f) := by
 unfold kS at h;cases h1 : bf r with
 | none => simp [h1] at h
 | some x =>
  obtain ⟨x, r1⟩ := x;simp only [h1, ai] at h;cases h2 : bf r1 with
  | none => simp [h2] at h
  | some y =>
   obtain ⟨y, r2⟩ := y;simp only [h2, ai] at h;cases h3 : bf r2 with
   | none => simp [h3] at h
   | some z =>
    obtain ⟨z, r3⟩ := z;simp only [h3, ai] at h;cases r3 with
    | nil => simp at h
    | cons c r3 =>
     simp only at h;by_cases hc : c.toNat ≤ 1
     ·rw [if_pos hc] at h
      simp only [Option.some.injEq, Prod.mk.injEq] at h;obtain ⟨rfl, rfl⟩ := h;have hb : bq [c] = false := (by simp [bq]; omega);simp [jw, iX, aY h1, aY h2, aY h3, dF, hb, bP]
     ·rw [if_neg hc] at h; cases h
theorem DF {r : List UInt8} (f : Bool) (h : kS r = none) : (jw (some r) f).2.1 = none ∨ (jw (some r) f).2.2 = true := by
 unfold kS at h;cases h1 : bf r with
 | none => left; simp [jw, iX, di h1, eG, dF]
 | some x =>
  obtain ⟨x, r1⟩ := x;simp only [h1, ai] at h;cases h2 : bf r1 with
  | none => left; simp [jw, iX, aY h1, di h2, eG, dF]
  | some y =>
   obtain ⟨y, r2⟩ := y;simp only [h2, ai] at h;cases h3 : bf r2 with
   | none => left; simp [jw, iX, aY h1, aY h2, di h3, dF]
   | some z =>
    obtain ⟨z, r3⟩ := z;simp only [h3, ai] at h;cases r3 with
    | nil => left; simp [jw, iX, aY h1, aY h2, aY h3, dF]
    | cons c r3 =>
     simp only at h;by_cases hc : c.toNat ≤ 1
     ·rw [if_pos hc] at h; cases h
     ·have hb : bq [c] = true := by simp [bq]; omega
      right; simp [jw, iX, aY h1, aY h2, aY h3, dF, hb]
theorem zV (s : Option (List UInt8)) : (jw s true).2.2 = true := by simp [jw]
theorem gK (n : Nat) (f : Bool) : bZ n none f = ([], none, f) := by cases n <;> rfl
theorem kT : ∀ (n : Nat) (s : Option (List UInt8)), (bZ n s true).2.2 = true
 | 0, s => rfl
 | n + 1, none => rfl
 | n + 1, some l => by
  simp only [bZ, zV];exact kT n _
theorem rE : ∀ (n : Nat) (r r' : List UInt8) (es : List Ent) (f : Bool), dZ n r = some (es, r') → bZ n (some r) f = (es, some r', f)
 | 0, r, r', es, f, h => by
  simp only [dZ, Option.some.injEq, Prod.mk.injEq] at h;obtain ⟨rfl, rfl⟩ := h;rfl
 | n + 1, r, r', es, f, h => by
  rw [dZ] at h;cases h1 : kS r with
  | none => simp [h1] at h
  | some e =>
   obtain ⟨e, r1⟩ := e;simp only [h1, ai] at h;cases h2 : dZ n r1 with
   | none => simp [h2] at h
   | some x =>
    obtain ⟨x, r2⟩ := x;simp only [h2, Option.map_some, Option.some.injEq, Prod.mk.injEq] at h;obtain ⟨rfl, rfl⟩ := h;simp only [bZ, uY f h1];rw [rE n r1 r2 x f h2]
theorem uZ : ∀ (n : Nat) (r : List UInt8) (f : Bool), dZ n r = none → (bZ n (some r) f).2.1 = none ∨ (bZ n (some r) f).2.2 = true
 | 0, r, f, h => by simp [dZ] at h
 | n + 1, r, f, h => by
  rw [dZ] at h;simp only [bZ];cases h1 : kS r with
  | none =>
   rcases DF f h1 with h2 | h2
   ·left; rw [h2, gK]
   ·right; rw [h2]; exact kT n _
  | some e =>
   obtain ⟨e, r1⟩ := e;simp only [h1, ai] at h;rw [uY f h1];exact uZ n r1 f (by cases h2 : dZ n r1 with | none => rfl | some x => simp [h2] at h)
def jU (x : Rec × Option (List UInt8) × Bool) : Option Rec := if x.2.2 = false ∧ x.2.1 = some [] then some x.1 else none
theorem iO {x : Rec × Option (List UInt8) × Bool} (h : x.2.1 = none ∨ x.2.2 = true) : jU x = none := by
 unfold jU;rcases h with h | h <;> simp [h]
theorem zW (k t : Nat) (f : Bool) : jU (fJ k t none f) = none := by
 apply iO
 left
 unfold fJ
 repeat' split
 all_goals simp [eG, iX, gI, dD, dF, gK]
theorem zX (k t : Nat) (l : List UInt8) : jU (fJ k t (some l) false) = yh k t l := by
 unfold yh fJ;split
 ·cases h1 : bf l with
  | none => simp [di h1, eG, iX, jU]
  | some x =>
   obtain ⟨x, r1⟩ := x;simp only [ai, aY h1];cases h2 : bf r1 with
   | none => simp [di h2, eG, iX, jU]
   | some y =>
    obtain ⟨y, r2⟩ := y;simp only [ai];cases h3 : bf r2 with
    | none => simp [di h3, aY h2, eG, iX, jU]
    | some z => obtain ⟨z, r3⟩ := z; simp [aY h3, aY h2, iX, jU]
 split
 ·cases h1 : bf l with
  | none => simp [di h1, eG, jU]
  | some x =>
   obtain ⟨x, r1⟩ := x;simp only [ai, aY h1];cases h2 : bf r1 with
   | none => simp [di h2, jU]
   | some y => obtain ⟨y, r2⟩ := y; simp [aY h2, jU]
 split
 ·cases h1 : bf l with
  | none => simp [di h1, jU]
  | some x => obtain ⟨x, r1⟩ := x; simp [aY h1, jU]
 split
 ·cases h1 : bf l with
  | none =>
   simp only [Option.bind_none];exact iO (.inl (by simp [gI, dD, di h1, dF, eG, gK]))
  | some x =>
   obtain ⟨m, r1⟩ := x;simp only [ai];by_cases hm : m ≤ r1.length
   ·rw [if_pos hm]
    have ht : dD (some l) = (r1.take m, some (r1.drop m)) := (by simp [dD, aY h1, dF, hm]);cases h2 : bM (r1.take m) with
    | none =>
     simp only [Option.bind_none];refine iO (.inr ?_);simp only [gI, ht, h2, Option.isNone_none, Bool.or_true];exact kT _ _
    | some p =>
     simp only [ai];have hp : gI (some l) false = (p, some (r1.drop m), false) := (by simp [gI, ht, h2]);simp only [hp];cases h3 : bf (r1.drop m) with
     | none => simp only [Option.bind_none]; exact iO (.inl (by simp [di h3, gK]))
     | some y =>
      obtain ⟨n, r3⟩ := y;simp only [ai, aY h3];cases h4 : dZ n r3 with
      | none => simp only [Option.bind_none]; exact iO (uZ n r3 false h4)
      | some z =>
       obtain ⟨es, r4⟩ := z;simp only [ai];rw [rE n r3 r4 es false h4];simp [jU]
   ·rw [if_neg hm]
    exact iO (.inl (by simp [gI, dD, aY h1, dF, hm, eG, gK]))
 ·simp [jU]
theorem Ci (k : Nat) (b : List UInt8) (h : 1 ≤ k ∧ k ≤ 7) : jU (zU k b) = bC k b := by
 unfold zU bC;rw [if_pos h];cases h1 : bf b with
 | none => rw [di h1]; exact zW k 0 false
 | some x => obtain ⟨t, r⟩ := x; rw [aY h1]; exact zX k t r
theorem rF {l : List UInt8} {v : Nat} (h : Lib.parseUintB 64 l = .ok v) : v < 18446744073709551616 ∧ (decide (Lib.decDigits v = l) = (eZ l).isSome) ∧ ∀ n, eZ l = some n → n = v := by
 have hv : v ≤ 2 ^ 64 - 1 := Lib.parseUintB_le h;have hv2 : v < 18446744073709551616 := by omega
 have h2 : ∀ n, eZ l = some n → n = v := fun n hn => by
  obtain ⟨rfl, hlt⟩ := bQ.1 hn;rw [jC _ (gW n), if_neg (jP n), dU, if_pos hlt] at h;injection h
 refine ⟨hv2, ?_, h2⟩;by_cases hd : Lib.decDigits v = l
 ·rw [decide_eq_true hd, bQ.2 ⟨hd.symm, hv2⟩]; rfl
 ·rw [decide_eq_false hd]
  cases hn : eZ l with
  | none => rfl
  | some n =>
   have := h2 n hn;subst this;exact absurd (bQ.1 hn).1.symm hd
theorem zY {l : List UInt8} (h : ∀ n, Lib.parseUintB 64 l ≠ .ok n) : eZ l = none := by
 cases hn : eZ l with
 | none => rfl
 | some n =>
  obtain ⟨rfl, hlt⟩ := bQ.1 hn;exact absurd (by rw [jC _ (gW n), if_neg (jP n), dU, if_pos hlt]) (h n)
theorem yj (l : List UInt8) : (∃ u, Lib.parseUintB 64 l = .ok u) ∨ ((∀ n, Lib.parseUintB 64 l ≠ .ok n) ∧ (Lib.parseUintB 64 l = .range ∨ Lib.parseUintB 64 l = Lib.parseUintB 64 [])) := by
 cases h : Lib.parseUintB 64 l with
 | ok u => exact .inl ⟨u, rfl⟩
 | range => exact .inr ⟨(fun n h => by cases h), .inl rfl⟩
 | _ => exact .inr ⟨(fun n h => by cases h), .inr rfl⟩
def Ent.cells (e : Ent) : List Value := [.int .u64 e.x, .int .u64 e.w, .int .u64 e.n, .bool e.m]
def aZ : List Ent → List Value
 | [] => []
 | e :: es => e.cells ++ aZ es
theorem kz : ∀ es : List Ent, (aZ es).length = es.length * 4
 | [] => rfl
 | e :: es => by simp [aZ, Ent.cells, kz es]; omega
theorem iA : ∀ a b : List Ent, aZ (a ++ b) = aZ a ++ aZ b
 | [], b => rfl
 | e :: a, b => by simp [aZ, iA a b]
theorem nS : ∀ (es : List Ent) (i : Nat) (h : i < es.length), (aZ es)[i * 4]? = some (.int .u64 es[i].x) ∧ (aZ es)[i * 4 + 1]? = some (.int .u64 es[i].w) ∧ (aZ es)[i * 4 + 2]? = some (.int .u64 es[i].n) ∧ (aZ es)[i * 4 + 3]? = some (.bool es[i].m)
 | e :: es, 0, h => by simp [aZ, Ent.cells]
 | e :: es, i + 1, h => by
  have := nS es i (by simpa using h);simp only [aZ, Ent.cells, List.getElem_cons_succ];rw [show (i + 1) * 4 = i * 4 + 4 from by omega];simpa using this
def fQ (w : World) (S : Nat → Prop) (own : Bool) (es : List Ent) (v : Value) : Prop := Sl w S own 4 es.length (aZ es) v
theorem fQ.keep {w w' : World} {S S' : Nat → Prop} {own : Bool} {es : List Ent} {v : Value} (h : fQ w S own es v) (hk : cz S w w') (hS : ∀ b, b < w.1.size → S b → S' b) : fQ w' S' own es v := Sl.keep h (by omega) hk hS
theorem fQ.below {B : Nat} {w w' : World} {S : Nat → Prop} {own : Bool} {es : List Ent} {v : Value} (h : fQ w S own es v) (hb : Below B w w') (hB : w.1.size ≤ B) : fQ w' S own es v := Sl.below h (by omega) hb hB
theorem fQ.shape {w : World} {S : Nat → Prop} {own : Bool} {es : List Ent} {v : Value} (h : fQ w S own es v) : es.length ≤ 9223372036854775807 ∧ ∃ ad cap, v = .slice ad es.length cap ∧ es.length ≤ cap := ⟨h.2.1, (Sl.shape h).2.2⟩
theorem fQ.part {w : World} {S : Nat → Prop} {own : Bool} {es : List Ent} {ad : Option Addr} {cap : Nat} (h : fQ w S own es (.slice ad es.length cap)) (i : Nat) (hi : i < es.length) :
  ∃ bl off, ad = some ⟨bl, off, none⟩ ∧ S bl ∧ w.cell? ⟨bl, off + i * 4, none⟩ = some (.int .u64 es[i].x) ∧ w.cell? ⟨bl, off + i * 4 + 1, none⟩ = some (.int .u64 es[i].w) ∧ w.cell? ⟨bl, off + i * 4 + 2, none⟩ = some (.int .u64 es[i].n) ∧
   w.cell? ⟨bl, off + i * 4 + 3, none⟩ = some (.bool es[i].m) ∧ (own = true → ∀ j, j < 4 → w.frozen? ⟨bl, off + i * 4 + j, none⟩ = false) := by
 obtain ⟨bl, off, ha, hS, hc⟩ := Sl.cells h (by omega);have hx := kz es;obtain ⟨g0, g1, g2, g3⟩ := nS es i hi;have q0 := hc (i * 4) (by omega);have q1 := hc (i * 4 + 1) (by omega);have q2 := hc (i * 4 + 2) (by omega);have q3 := hc (i * 4 + 3) (by omega);rw [af (by omega)] at g0 g1 g2 g3;refine ⟨bl, off, ha, hS, by rw [q0.1]; exact g0, by rw [Nat.add_assoc, q1.1]; exact g1, by rw [Nat.add_assoc, q2.1]; exact g2, by rw [Nat.add_assoc, q3.1]; exact g3, fun ho j hj => ?_⟩;have := (hc (i * 4 + j) (by omega)).2 ho;rw [Nat.add_assoc]; exact this
def bL (w : World) (S : Nat → Prop) (own : Bool) (r : Rec) (v : Value) : Prop :=
 ∃ c0 c1 c2 c3 s, v = .agg #[.int .i64 r.k, .int .u64 r.t, .int .u64 r.x, .int .u64 r.w, .int .u64 r.n, .int .u64 r.v, c0, c1, c2, c3, s] ∧ -9223372036854775808 ≤ r.k ∧ r.k ≤ 9223372036854775807 ∧ r.nums ∧
  aT w S own r.p (.agg #[c0, c1, c2, c3]) ∧ fQ w S own r.es s
theorem bL.keep {w w' : World} {S S' : Nat → Prop} {own : Bool} {r : Rec} {v : Value} (h : bL w S own r v) (hk : cz S w w') (hS : ∀ b, b < w.1.size → S b → S' b) : bL w' S' own r v := by
 obtain ⟨c0, c1, c2, c3, s, h1, h2, h3, h4, h5, h6⟩ := h;exact ⟨c0, c1, c2, c3, s, h1, h2, h3, h4, aT.keep hk hS h5, h6.keep hk hS⟩
theorem bL.below {B : Nat} {w w' : World} {S : Nat → Prop} {own : Bool} {r : Rec} {v : Value} (h : bL w S own r v) (hb : Below B w w') (hB : w.1.size ≤ B) : bL w' S own r v := h.keep (Below.keeps hb hB S) (fun _ _ h => h)
theorem bL.wider {w : World} {S S' : Nat → Prop} {own : Bool} {r : Rec} {v : Value} (h : bL w S own r v) (hS : ∀ b, b < w.1.size → S b → S' b) : bL w S' own r v := h.keep (fun _ _ _ => rfl) hS
theorem bL.conc {w : World} {S : Nat → Prop} {own : Bool} {r : Rec} {v : Value} (h : bL w S own r v) :
  ∃ k' a' b' ad' n' cap' ad2 cap2, v = .agg #[.int .i64 r.k, .int .u64 r.t, .int .u64 r.x, .int .u64 r.w, .int .u64 r.n, .int .u64 r.v, .int .i64 k', .int .u64 (a' : Nat), .int .u64 (b' : Nat), .slice ad' n' cap', .slice ad2 r.es.length cap2] ∧
   -9223372036854775808 ≤ r.k ∧ r.k ≤ 9223372036854775807 ∧ r.nums ∧ aT w S own r.p (.agg #[.int .i64 k', .int .u64 (a' : Nat), .int .u64 (b' : Nat), .slice ad' n' cap']) ∧ fQ w S own r.es (.slice ad2 r.es.length cap2) := by
 obtain ⟨c0, c1, c2, c3, s, rfl, h2, h3, h4, h5, h6⟩ := h;obtain ⟨k', a', b', ad', n', cap', he⟩ := h5.conc;simp only [Value.agg.injEq, Array.mk.injEq, List.cons.injEq, and_true] at he;obtain ⟨rfl, rfl, rfl, rfl⟩ := he;obtain ⟨_, ad2, cap2, rfl, _⟩ := h6.shape;exact ⟨_, _, _, _, _, _, _, _, rfl, h2, h3, h4, h5, h6⟩
theorem ql (s : ByteArray) (c : UInt8) : ((Lib.splitB ⟨#[c]⟩ 0 (Lib.countB s ⟨#[c]⟩) s).map fun b => b.data.toList) = cuts c s.data.toList := by
 rw [Lib.splitB_data];exact qh c _ _ (mD c _ _ (by omega))
theorem zZ (s : ByteArray) (c : UInt8) : Lib.countB s ⟨#[c]⟩ + 1 = (cuts c s.data.toList).length := by
 rw [← ql, List.length_map, Lib.splitB_all ⟨#[c]⟩ (by simp [ByteArray.size]) 0 _ s rfl]
def lns (s : List UInt8) : List (List UInt8) := if (cuts 10 s).getLast? = some [] then (cuts 10 s).dropLast else cuts 10 s
theorem Bp : lns [] = [] := rfl
theorem Fp {s : List UInt8} (h : (10 : UInt8) ∉ s) (hs : s ≠ []) : lns s = [s] := by
 unfold lns;rw [iM h, if_neg (by simpa using hs)]
theorem DI {x : List UInt8} (r : List UInt8) (h : (10 : UInt8) ∉ x) : lns (x ++ 10 :: r) = x :: lns r := by
 unfold lns;rw [lW r h];have hne := nP 10 r;obtain ⟨y, z, hy⟩ : ∃ y z, cuts 10 r = y :: z := by
  cases hc : cuts 10 r with
  | nil => exact absurd hc hne
  | cons y z => exact ⟨y, z, rfl⟩
 rw [hy, List.getLast?_cons_cons];split
 ·rw [List.dropLast_cons_cons]
 ·rfl
def gy : List (List UInt8) → Nat → List Rec → List Rec × Nat × Int
 | [], n, acc => (acc, n, 0)
 | x :: r, n, acc => if x = [] ∨ x.head? = some 35 then gy r (n + 1) acc else match eT x with
  | none => ([], n + 1, 50)
  | some q => gy r (n + 1) (acc ++ [q])
theorem Cj (n : Nat) (acc : List Rec) : gy [] n acc = (acc, n, 0) := rfl
theorem mW {x : List UInt8} (r : List (List UInt8)) (n : Nat) (acc : List Rec) (h : x = [] ∨ x.head? = some 35) : gy (x :: r) n acc = gy r (n + 1) acc := by
 rw [gy, if_pos h]
theorem ve {x : List UInt8} (r : List (List UInt8)) (n : Nat) (acc : List Rec) (h : ¬ (x = [] ∨ x.head? = some 35)) (hb : eT x = none) : gy (x :: r) n acc = ([], n + 1, 50) := by
 rw [gy, if_neg h, hb]
theorem rG {x : List UInt8} {q : Rec} (r : List (List UInt8)) (n : Nat) (acc : List Rec) (h : ¬ (x = [] ∨ x.head? = some 35)) (hb : eT x = some q) : gy (x :: r) n acc = gy r (n + 1) (acc ++ [q]) := by
 rw [gy, if_neg h, hb]
def mute (x : List UInt8) : Prop := x = [] ∨ x.head? = some 35
instance (x : List UInt8) : Decidable (mute x) := by unfold mute; infer_instance
def jD : List (List UInt8) → Option (List Rec)
 | [] => some []
 | x :: r => if mute x then jD r else (eT x).bind fun q => (jD r).map fun l => q :: l
theorem iY {x : List UInt8} (h : mute x) : ∀ {a : List (List UInt8)} {rs : List Rec}, jD a = some rs → jD (a ++ [x]) = some rs
 | [], rs, ha => by rw [List.nil_append, jD, if_pos h]; exact ha
 | y :: a, rs, ha => by
  rw [List.cons_append, jD];rw [jD] at ha;split at ha
  ·rename_i hm
   rw [if_pos hm];exact iY h ha
  ·rename_i hm
   rw [if_neg hm];obtain ⟨q, hq, h2⟩ := ae ha;obtain ⟨l, hl, rfl⟩ := aa h2;rw [hq, ai, iY h hl];rfl
theorem oQ {x : List UInt8} {p : Rec} (h : ¬ mute x) (hp : eT x = some p) : ∀ {a : List (List UInt8)} {rs : List Rec}, jD a = some rs → jD (a ++ [x]) = some (rs ++ [p])
 | [], rs, ha => by
  cases ha
  rw [List.nil_append, jD, if_neg h, hp];rfl
 | y :: a, rs, ha => by
  rw [List.cons_append, jD];rw [jD] at ha;split at ha
  ·rename_i hm
   rw [if_pos hm];exact oQ h hp ha
  ·rename_i hm
   rw [if_neg hm];obtain ⟨q, hq, h2⟩ := ae ha;obtain ⟨l, hl, rfl⟩ := aa h2;rw [hq, ai, oQ h hp hl];rfl
theorem iH (b : List (List UInt8)) : ∀ (a : List (List UInt8)) (rs : List Rec) (n : Nat) (acc : List Rec), jD a = some rs → gy (a ++ b) n acc = gy b (n + a.length) (acc ++ rs)
 | [], rs, n, acc, h => by cases h; simp
 | x :: a, rs, n, acc, h => by
  rw [jD] at h;rw [List.cons_append, aJ];split at h
  ·rename_i hm
   rw [mW _ _ _ hm, iH b a rs _ _ h]
   congr 1
   omega
  ·rename_i hm
   obtain ⟨q, hq, h2⟩ := ae h;obtain ⟨l, hl, rfl⟩ := aa h2;rw [rG _ _ _ hm hq, iH b a l _ _ hl, List.append_assoc, List.singleton_append]
   congr 1
   omega
theorem Ck {a : List (List UInt8)} {rs : List Rec} (h : jD a = some rs) : gy a 0 [] = (rs, a.length, 0) := by
 have := iH [] a rs 0 [] h;rw [List.append_nil] at this;rw [this, Cj];simp
theorem Aa {a b : List (List UInt8)} {x : List UInt8} {rs : List Rec} (h : jD a = some rs) (hm : ¬ mute x) (hb : eT x = none) : gy (a ++ x :: b) 0 [] = ([], a.length + 1, 50) := by
 rw [iH _ a rs 0 [] h, ve _ _ _ hm hb, Nat.zero_add]
theorem Cm {s : List UInt8} (h : ∀ n, s ≠ Lib.decDigits n) : eZ s = none := by
 cases hn : eZ s with
 | none => rfl
 | some n => exact absurd ((bQ).1 hn).1 (h n)
theorem nT {r : Rec} (h : r.rightP) : r.p.size ≤ 900 ∧ r.p.depth ≤ 900 := by
 obtain ⟨q1, q7, hp, ho⟩ := h;by_cases h5 : r.k = 5
 ·have hr := hp h5
  have hd := r.p.depth_le_size;simp only [Ex.right, aH, decide_eq_true_eq] at hr;exact ⟨by omega, by omega⟩
 ·have hz : r.p = .zero := by
   rw [← ho];unfold Rec.only;rw [if_neg h5];split
   ·rfl
   split
   ·rfl
   split <;> rfl
  rw [hz];exact ⟨by decide, by decide⟩
end Go.Proofs.YtlpgokcapdjgjaaGreatDoor
