/- The records that lines tell are small as the lines are. -/
import Derived.Test.YtlpgokcapdjgjaaGreatDoorY31
import Derived.Lib.Split
import Derived.Lib.CutLaws
namespace Go.Proofs.YtlpgokcapdjgjaaGreatDoor
open Go.RowKit Go
set_option linter.unusedVariables false
set_option linter.unusedSimpArgs false
theorem pre_eq {t s : List UInt8} (h : pre t s = true) : s = t ++ s.drop t.length := by
 unfold pre at h
 rw [List.isPrefixOf_iff_prefix] at h
 obtain ⟨r, rfl⟩ := h
 simp
theorem ul (rd : List UInt8 → Option (Ex × List UInt8)) (hrd : ∀ s e r, rd s = some (e, r) → s = e.told ++ r ∧ e.nums) : ∀ f s es r, bT rd f s = some (es, r) → s = commas (Ex.tolds es) ++ 41 :: r ∧ Ex.numss es ∧ es ≠ [] := by
 intro f
 induction f with
 | zero => intro s es r h; simp [bT] at h
 | succ f ih =>
  intro s es r h
  rw [bT] at h
  split at h
  ·cases h
  ·rename_i e q hq
   obtain ⟨h1, h1n⟩ := hrd _ _ _ hq
   split at h
   ·rename_i hp
    have hp2 := pre_eq hp
    injection h with h; injection h with h2 h3
    subst h2 h3
    refine ⟨?_, by simp only [Ex.numss]; exact ⟨h1n, trivial⟩, by simp⟩
    simp only [Ex.tolds, fq]
    rw [h1]
    congr 1
   ·split at h
    ·rename_i hp
     have hp2 := pre_eq hp
     simp only [Option.map_eq_some_iff] at h
     obtain ⟨⟨a, b⟩, h3, h4⟩ := h
     injection h4 with h5 h4; subst h4 h5
     obtain ⟨h6, h7, h8⟩ := ih _ _ _ h3
     refine ⟨?_, by simp only [Ex.numss]; exact ⟨h1n, h7⟩, by simp⟩
     cases a with
     | nil => exact absurd rfl h8
     | cons e2 es2 =>
      simp only [Ex.tolds, iC] at h6 ⊢
      rw [h1, hp2]
      simp only [List.length_singleton, List.singleton_append, List.append_assoc, List.cons_append] at h6 ⊢
      rw [h6]; simp
    ·cases h
theorem kQ (rd : List UInt8 → Option (Ex × List UInt8)) (hrd : ∀ s e r, rd s = some (e, r) → s = e.told ++ r ∧ e.nums) (s : List UInt8) (es : List Ex) (r : List UInt8) (h : bq rd s = some (es, r)) : s = commas (Ex.tolds es) ++ 41 :: r ∧ Ex.numss es := by
 unfold bq at h
 split at h
 ·rename_i hp
  have hp2 := pre_eq hp
  injection h with h; injection h with h2 h; subst h h2
  exact ⟨by simpa [Ex.tolds, commas, Lib.join_nil] using hp2, by simp only [Ex.numss]⟩
 ·obtain ⟨h1, h2, _⟩ := ul rd hrd _ _ _ _ h
  exact ⟨h1, h2⟩
theorem Ac (d : Nat) : ∀ s e r, rfE d s = some (e, r) → s = e.told ++ r ∧ e.nums := by
 induction d with
 | zero => intro s e r h; simp [rfE] at h
 | succ d ih =>
  intro s e r h
  rw [rfE] at h
  split at h
  ·rename_i hp
   have hp2 := pre_eq hp
   injection h with h; injection h with h1 h; subst h h1
   exact ⟨by simpa [Ex.told, cO] using hp2, by simp [Ex.nums, Ex.numss]⟩
  split at h
  ·rename_i hp
   have hp2 := pre_eq hp
   simp only [Option.map_eq_some_iff] at h; obtain ⟨⟨a, b⟩, h3, h4⟩ := h; injection h4 with h5 h4; subst h4 h5
   obtain ⟨h6, h7, _⟩ := iA h3
   exact ⟨by rw [hp2]; simp only [List.length_cons, List.length_nil] at h6 ⊢; rw [h6]; simp [Ex.told, cO], by simp [Ex.nums, Ex.numss]; exact h7⟩
  split at h
  ·rename_i hp
   have hp2 := pre_eq hp
   simp only [Option.map_eq_some_iff] at h; obtain ⟨⟨a, b⟩, h3, h4⟩ := h; injection h4 with h5 h4; subst h4 h5
   obtain ⟨h6, h7, _⟩ := iA h3
   exact ⟨by rw [hp2]; simp only [List.length_cons, List.length_nil] at h6 ⊢; rw [h6]; simp [Ex.told, cO], by simp [Ex.nums, Ex.numss]; exact h7⟩
  split at h
  ·rename_i hp
   have hp2 := pre_eq hp
   split at h
   ·cases h
   ·rename_i a q hq
    obtain ⟨h1, h2, _⟩ := iA hq
    split at h
    ·rename_i hpp
     have hp3 := pre_eq hpp
     simp only [Option.map_eq_some_iff] at h; obtain ⟨⟨a2, b⟩, h3, h4⟩ := h; injection h4 with h5 h4; subst h4 h5
     obtain ⟨h6, h7, _⟩ := iA h3
     exact ⟨by rw [hp2]; simp only [List.length_cons, List.length_nil] at h1 h6 hp3 ⊢; rw [h1, hp3, h6]; simp [Ex.told, cO], by simp [Ex.nums, Ex.numss]; exact ⟨h2, h7⟩⟩
    ·cases h
  split at h
  ·rename_i hp
   have hp2 := pre_eq hp
   simp only [Option.map_eq_some_iff] at h; obtain ⟨⟨a, b⟩, h3, h4⟩ := h; injection h4 with h5 h4; subst h4 h5
   obtain ⟨h6, h7⟩ := ih _ _ _ h3
   exact ⟨by rw [hp2]; simp only [List.length_cons, List.length_nil] at h6 ⊢; rw [h6]; simp [Ex.told, Ex.tolds, cO, fq], by simp [Ex.nums, Ex.numss]; exact h7⟩
  split at h
  ·rename_i hp
   have hp2 := pre_eq hp
   simp only [Option.map_eq_some_iff] at h; obtain ⟨⟨a, b⟩, h3, h4⟩ := h; injection h4 with h5 h4; subst h4 h5
   obtain ⟨h6, h7⟩ := kQ _ ih _ _ _ h3
   exact ⟨by rw [hp2]; simp only [List.length_cons, List.length_nil] at h6 ⊢; rw [h6]; simp [Ex.told, cO], by simp [Ex.nums]; exact h7⟩
  split at h
  ·rename_i hp
   have hp2 := pre_eq hp
   simp only [Option.map_eq_some_iff] at h; obtain ⟨⟨a, b⟩, h3, h4⟩ := h; injection h4 with h5 h4; subst h4 h5
   obtain ⟨h6, h7⟩ := kQ _ ih _ _ _ h3
   exact ⟨by rw [hp2]; simp only [List.length_cons, List.length_nil] at h6 ⊢; rw [h6]; simp [Ex.told, cO], by simp [Ex.nums]; exact h7⟩
  ·cases h
theorem gT {s : List UInt8} {e : Ex} (h : bU s = some e) : e.right = true ∧ e.nums ∧ e.told = s := by
 unfold bU at h
 split at h
 ·rename_i e2 hq
  split at h
  ·rename_i hr
   injection h with h; subst h
   obtain ⟨h1, h2⟩ := Ac 8 _ _ _ hq
   exact ⟨hr, h2, by simpa using h1.symm⟩
  ·cases h
 ·cases h
def cuts (c : UInt8) : List UInt8 → List (List UInt8)
 | [] => [[]]
 | b :: l => if b = c then [] :: cuts c l else match cuts c l with
  | [] => [[b]]
  | x :: r => (b :: x) :: r
theorem dR (c : UInt8) (l : List UInt8) : cuts c l ≠ [] := by
 cases l with
 | nil => simp [cuts]
 | cons b l =>
  simp only [cuts]
  split
  ·simp
  ·split <;> simp
theorem dX {c b : UInt8} {l x : List UInt8} {r : List (List UInt8)} (hb : b ≠ c) (h : cuts c l = x :: r) : cuts c (b :: l) = (b :: x) :: r := by
 simp only [cuts]
 rw [if_neg hb, h]
theorem iR (c : UInt8) (l : List UInt8) : cuts c (c :: l) = [] :: cuts c l := by
 simp only [cuts, if_true]
theorem dO {c : UInt8} {l : List UInt8} (h : c ∉ l) : cuts c l = [l] := by
 induction l with
 | nil => rfl
 | cons b l ih =>
  simp only [List.mem_cons, not_or] at h
  exact dX (fun e => h.1 e.symm) (ih h.2)
theorem gD {c : UInt8} {x : List UInt8} (l : List UInt8) (h : c ∉ x) : cuts c (x ++ c :: l) = x :: cuts c l := by
 induction x with
 | nil => exact iR c l
 | cons b x ih =>
  simp only [List.mem_cons, not_or] at h
  exact dX (fun e => h.1 e.symm) (ih h.2)
theorem kK (c : UInt8) (l : List UInt8) : Lib.join (cuts c l) [c] = l := by
 induction l with
 | nil => simp [cuts, Lib.join_one]
 | cons b l ih =>
  by_cases hb : b = c
  ·subst hb
   rw [iR]
   cases hq : cuts b l with
   | nil => exact absurd hq (dR _ _)
   | cons x r =>
    rw [hq] at ih
    rw [Lib.join_cons] at ih ⊢
    simp only [Lib.joinTail, List.nil_append, List.singleton_append, List.append_assoc] at ih ⊢
    simp [Lib.joinTail, ih]
  ·cases hq : cuts c l with
   | nil => exact absurd hq (dR _ _)
   | cons x r =>
    rw [dX hb hq]
    rw [hq] at ih
    rw [Lib.join_cons] at ih ⊢
    simp only [List.cons_append]
    rw [ih]
theorem mi {c : UInt8} : ∀ {ws : List (List UInt8)}, ws ≠ [] → (∀ x ∈ ws, c ∉ x) → cuts c (Lib.join ws [c]) = ws
 | [], h, _ => absurd rfl h
 | [x], _, h => by rw [Lib.join_one]; exact dO (h x (by simp))
 | x :: y :: ws, _, h => by
  have ih := mi (c := c) (ws := y :: ws) (by simp) (fun z hz => h z (by simp only [List.mem_cons] at hz ⊢; exact .inr hz))
  rw [Lib.join_cons] at ih ⊢
  rw [show Lib.joinTail [c] (y :: ws) = c :: (y ++ Lib.joinTail [c] ws) from by simp [Lib.joinTail], gD _ (h x (by simp)), ih]
theorem pI (c : UInt8) (l : List UInt8) : cuts c (l ++ [c]) = cuts c l ++ [[]] := by
 induction l with
 | nil => simp [cuts]
 | cons b l ih =>
  rw [List.cons_append]
  by_cases hb : b = c
  ·subst hb; rw [iR, iR, ih, List.cons_append]
  ·cases hq : cuts c l with
   | nil => exact absurd hq (dR _ _)
   | cons x r =>
    rw [dX hb hq]
    rw [hq] at ih
    rw [dX hb (by rw [ih]; rfl)]
    rfl
theorem oC {c b : UInt8} (hb : b ≠ c) (l : List UInt8) : ∀ {x : List UInt8} {r : List (List UInt8)}, cuts c l = r ++ [x] → cuts c (l ++ [b]) = r ++ [x ++ [b]] := by
 induction l with
 | nil =>
  intro x r h
  simp only [cuts] at h
  have : r = [] ∧ x = [] := by
   cases r with
   | nil => simpa using h.symm
   | cons a r => simp at h
  obtain ⟨rfl, rfl⟩ := this
  simp [cuts, hb]
 | cons a l ih =>
  intro x r h
  rw [List.cons_append]
  by_cases ha : a = c
  ·subst ha
   rw [iR] at h ⊢
   cases r with
   | nil =>
    simp only [List.nil_append, List.cons.injEq] at h
    exact absurd h.2 (dR _ _)
   | cons y r =>
    simp only [List.cons_append, List.cons.injEq] at h ⊢
    exact ⟨h.1, ih h.2⟩
  ·cases hq : cuts c l with
   | nil => exact absurd hq (dR _ _)
   | cons y q =>
    rw [dX ha hq] at h
    cases r with
    | nil =>
     simp only [List.nil_append, List.cons.injEq] at h
     obtain ⟨rfl, rfl⟩ := h
     have := ih (x := y) (r := []) (by rw [hq]; rfl)
     rw [dX ha (by rw [this]; rfl)]
     rfl
    | cons z r =>
     simp only [List.cons_append, List.cons.injEq] at h
     obtain ⟨rfl, rfl⟩ := h
     have := ih (x := x) (r := y :: r) (by rw [hq]; rfl)
     rw [dX ha (by rw [this]; rfl)]
     rfl
theorem index_one (c : UInt8) (l : List UInt8) : Lib.index l [c] = if c ∈ l then ((l.takeWhile (fun b => decide (b ≠ c))).length : Int) else -1 := by
 induction l with
 | nil => simp [Lib.index]
 | cons b l ih =>
  unfold Lib.index
  by_cases hb : b = c
  ·subst hb; simp
  ·have h1 : ([c].isPrefixOf (b :: l)) = false := by simp [List.isPrefixOf]; exact fun e => hb e.symm
   rw [h1, ih]
   by_cases hm : c ∈ l
   ·have e1 : (((l.takeWhile (fun b => decide (b ≠ c))).length : Int) == -1) = false := beq_eq_false_iff_ne.2 (by omega)
    have e2 : c ∈ b :: l := List.mem_cons_of_mem _ hm
    have e3 : (b :: l).takeWhile (fun b => decide (b ≠ c)) = b :: l.takeWhile (fun b => decide (b ≠ c)) := List.takeWhile_cons_of_pos (by simp [hb])
    simp only [hm, e2, if_true, Bool.false_eq_true, if_false, e1, e3, List.length_cons]
    omega
   ·have e2 : ¬ c ∈ b :: l := fun h => by
     rcases List.mem_cons.1 h with h | h
     ·exact hb h.symm
     ·exact hm h
    simp only [hm, e2, if_false, Bool.false_eq_true]
    rfl
theorem fe {c : UInt8} {l : List UInt8} (h : c ∈ l) : ∃ x r, l = x ++ c :: r ∧ c ∉ x ∧ Lib.index l [c] = x.length := by
 obtain ⟨x, r, h1, h2⟩ := List.eq_append_cons_of_mem h
 refine ⟨x, r, h1, h2, ?_⟩
 rw [index_one, if_pos h]
 subst h1
 rw [List.takeWhile_append_of_pos (by intro a ha; simp; intro e; subst e; exact h2 ha), List.takeWhile_cons_of_neg (by simp)]
 simp
theorem nS (c : UInt8) : ∀ (k : Nat) (l : List UInt8), l.count c ≤ k → Lib.splitK [c] 0 k l = cuts c l
 | 0, l, h => by
  have hn : c ∉ l := fun hm => by have := List.count_pos_iff.2 hm; omega
  rw [dO hn]; rfl
 | k + 1, l, h => by
  unfold Lib.splitK
  by_cases hm : c ∈ l
  ·obtain ⟨x, r, h1, h2, h3⟩ := fe hm
   rw [h3, if_neg (by simp <;> omega)]
   subst h1
   rw [gD _ h2]
   have hc : (x ++ c :: r).count c = r.count c + 1 := by
    rw [List.count_append, List.count_eq_zero.2 h2, List.count_cons_self]; omega
   simp only [Int.toNat_natCast, Nat.add_zero, List.length_singleton]
   rw [List.take_left, show x.length + 1 = (x ++ [c]).length from by simp, show x ++ c :: r = (x ++ [c]) ++ r from by simp, List.drop_left, nS c k r (by omega)]
  ·rw [index_one, if_neg hm, if_pos (by simp), dO hm]
theorem kR (c : UInt8) : ∀ (f : Nat) (l : List UInt8), l.length < f → l.count c ≤ Lib.countFrom [c] f l
 | 0, l, h => by omega
 | f + 1, l, h => by
  unfold Lib.countFrom
  by_cases hm : c ∈ l
  ·obtain ⟨x, r, h1, h2, h3⟩ := fe hm
   rw [h3, if_neg (by simp <;> omega)]
   subst h1
   simp only [Int.toNat_natCast, List.length_singleton]
   rw [show x.length + 1 = (x ++ [c]).length from by simp, show x ++ c :: r = (x ++ [c]) ++ r from by simp, List.drop_left]
   have := kR c f r (by simp at h; omega)
   rw [List.append_assoc, List.count_append, List.count_eq_zero.2 h2, List.singleton_append, List.count_cons_self]
   omega
  ·rw [List.count_eq_zero.2 hm]; omega
theorem vV {e : Ex} (h : e.right = true) (hn : e.nums) : bU e.text = some e := by
 obtain ⟨h1, h2, _⟩ := nR h
 have ht : e.text = e.told := by unfold Ex.text; rw [if_pos h]
 have := mg e 8 [] h1 hn h2 (by intro c hc; cases hc)
 rw [List.append_nil, ← ht] at this
 rw [kJ this, if_pos ⟨rfl, h⟩]
structure Ent where
 x : Nat
 w : Nat
 n : Nat
 m : Bool
structure Rec where
 k : Int
 t : Nat
 x : Nat
 w : Nat
 n : Nat
 v : Nat
 p : Ex
 es : List Ent
def Rec.zero : Rec := ⟨0, 0, 0, 0, 0, 0, .zero, []⟩
def Ent.ok (e : Ent) : Prop := e.x < 18446744073709551616 ∧ e.w < 18446744073709551616 ∧ e.n < 18446744073709551616
def Rec.nums (r : Rec) : Prop := r.t < 18446744073709551616 ∧ r.x < 18446744073709551616 ∧ r.w < 18446744073709551616 ∧ r.n < 18446744073709551616 ∧ r.v < 18446744073709551616 ∧ r.p.nums ∧ ∀ e ∈ r.es, e.ok
def jO (w n : Nat) : List UInt8 := Lib.decDigits w ++ 46 :: Lib.decDigits n
def jy (m : Bool) : List UInt8 := if m then [49] else [48]
def Ent.told (e : Ent) : List UInt8 := Lib.decDigits e.x ++ 58 :: (jO e.w e.n ++ 58 :: jy e.m)
def ay (k : Int) : List UInt8 :=
 if k = 1 then [98, 101, 103, 105, 110] else if k = 2 then [114, 101, 97, 100] else if k = 3 then [119, 114, 105, 116, 101] else if k = 4 then [100, 101, 108, 101, 116, 101]
 else if k = 5 then [112, 114, 101, 100] else if k = 6 then [99, 111, 109, 109, 105, 116] else [97, 98, 111, 114, 116]
def kindOf (w : List UInt8) : Nat :=
 if w = ay 1 then 1 else if w = ay 2 then 2 else if w = ay 3 then 3 else if w = ay 4 then 4 else if w = ay 5 then 5 else if w = ay 6 then 6 else if w = ay 7 then 7 else 0
def Rec.tail (r : Rec) : List (List UInt8) :=
 if r.k = 2 then [Lib.decDigits r.x, jO r.w r.n] else if r.k = 3 then [Lib.decDigits r.x, Lib.decDigits r.v] else if r.k = 4 then [Lib.decDigits r.x] else if r.k = 5 then r.p.told :: r.es.map Ent.told else []
def Rec.words (r : Rec) : List (List UInt8) := ay r.k :: Lib.decDigits r.t :: r.tail
def Rec.told (r : Rec) : List UInt8 := Lib.join r.words [32]
def Rec.only (r : Rec) : Rec :=
 if r.k = 2 then ⟨r.k, r.t, r.x, r.w, r.n, 0, .zero, []⟩ else if r.k = 3 then ⟨r.k, r.t, r.x, 0, 0, r.v, .zero, []⟩ else if r.k = 4 then ⟨r.k, r.t, r.x, 0, 0, 0, .zero, []⟩
 else if r.k = 5 then ⟨r.k, r.t, 0, 0, 0, 0, r.p, r.es⟩ else ⟨r.k, r.t, 0, 0, 0, 0, .zero, []⟩
def Rec.rightP (r : Rec) : Prop := 1 ≤ r.k ∧ r.k ≤ 7 ∧ (r.k = 5 → r.p.right = true) ∧ r.only = r
def bE (s : List UInt8) : Option Nat := if Lib.decDigits (numOf s) = s ∧ numOf s < 18446744073709551616 then some (numOf s) else none
theorem aK {s : List UInt8} {n : Nat} : bE s = some n ↔ s = Lib.decDigits n ∧ n < 18446744073709551616 := by
 unfold bE
 constructor
 ·intro h
  split at h
  ·rename_i hc; injection h with h; subst h; exact ⟨hc.1.symm, hc.2⟩
  ·cases h
 ·rintro ⟨rfl, h⟩
  rw [dJ, if_pos ⟨rfl, h⟩]
def jH (s : List UInt8) : Option (Nat × Nat) := match cuts 46 s with
 | [a, b] => (bE a).bind fun w => (bE b).map fun n => (w, n)
 | _ => none
def jP (s : List UInt8) : Option Ent := match cuts 58 s with
 | [a, b, f] => if f = [48] ∨ f = [49] then (bE a).bind fun x => (jH b).map fun v => ⟨x, v.1, v.2, decide (f = [49])⟩ else none
 | _ => none
def gI : List (List UInt8) → Option (List Ent)
 | [] => some []
 | s :: l => (jP s).bind fun e => (gI l).map fun es => e :: es
def bX (k t : Nat) (l : List (List UInt8)) : Option Rec :=
 if k = 2 then match l with
  | [a, b] => (bE a).bind fun x => (jH b).map fun v => ⟨2, t, x, v.1, v.2, 0, .zero, []⟩
  | _ => none
 else if k = 3 then match l with
  | [a, b] => (bE a).bind fun x => (bE b).map fun v => ⟨3, t, x, 0, 0, v, .zero, []⟩
  | _ => none
 else if k = 4 then match l with
  | [a] => (bE a).map fun x => ⟨4, t, x, 0, 0, 0, .zero, []⟩
  | _ => none
 else if k = 5 then match l with
  | a :: es => (bU a).bind fun p => (gI es).map fun es => ⟨5, t, 0, 0, 0, 0, p, es⟩
  | _ => none
 else if l = [] then some ⟨k, t, 0, 0, 0, 0, .zero, []⟩ else none
def aM (s : List UInt8) : Option Rec := match cuts 32 s with
 | w :: a :: l => if kindOf w = 0 then none else (bE a).bind fun t => bX (kindOf w) t l
 | _ => none
theorem bu {n : Nat} {c : UInt8} (hc : isD c = false) : c ∉ Lib.decDigits n := fun h => by
 have := gz n c h
 rw [hc] at this; cases this
theorem oJ {w n : Nat} {c : UInt8} (hc : isD c = false) (h2 : c ≠ 46) : c ∉ jO w n := by
 unfold jO
 simp only [List.mem_append, List.mem_cons, not_or]
 exact ⟨bu hc, h2, bu hc⟩
theorem pJ {m : Bool} {c : UInt8} (hc : isD c = false) : c ∉ jy m := by
 cases m
 ·simp only [jy, Bool.false_eq_true, if_false, List.mem_singleton]; intro e; subst e; cases hc
 ·simp only [jy, if_true, List.mem_singleton]; intro e; subst e; cases hc
theorem CW {e : Ent} : (32 : UInt8) ∉ e.told := by
 unfold Ent.told
 simp only [List.mem_append, List.mem_cons, not_or]
 exact ⟨bu (by decide), by decide, oJ (by decide) (by decide), by decide, pJ (by decide)⟩
theorem su {c : UInt8} (hc : c ≠ 44) : ∀ (l : List (List UInt8)), (∀ x ∈ l, c ∉ x) → c ∉ commas l
 | [], _ => by simp [commas, Lib.join_nil]
 | [x], h => by rw [fq]; exact h x (by simp)
 | x :: y :: l, h => by
  rw [iC]
  simp only [List.mem_append, List.mem_cons, not_or]
  exact ⟨h x (by simp), hc, su hc (y :: l) (fun z hz => h z (List.mem_cons_of_mem _ hz))⟩
mutual
theorem zm : ∀ e : Ex, (32 : UInt8) ∉ e.told
 | .mk k a b ps => by
  have h1 := vW ps
  have h2 := su (c := 32) (by decide) _ h1
  simp only [Ex.told, cO]
  split
  ·decide
  split
  ·simp only [List.mem_append, not_or]; exact ⟨by decide, bu (by decide)⟩
  split
  ·simp only [List.mem_append, not_or]; exact ⟨by decide, bu (by decide)⟩
  split
  ·simp only [List.mem_append, not_or]; exact ⟨⟨⟨by decide, bu (by decide)⟩, by decide⟩, bu (by decide)⟩
  split
  ·simp only [List.mem_append, not_or]; exact ⟨by decide, h2⟩
  split
  ·simp only [List.mem_append, not_or]; exact ⟨⟨by decide, h2⟩, by decide⟩
  ·simp only [List.mem_append, not_or]; exact ⟨⟨by decide, h2⟩, by decide⟩
theorem vW : ∀ es : List Ex, ∀ x ∈ Ex.tolds es, (32 : UInt8) ∉ x
 | [], x, h => by simp [Ex.tolds] at h
 | e :: es, x, h => by
  simp only [Ex.tolds, List.mem_cons] at h
  rcases h with rfl | h
  ·exact zm e
  ·exact vW es x h
end
theorem jc {k : Int} (h1 : 1 ≤ k) (h7 : k ≤ 7) : k = 1 ∨ k = 2 ∨ k = 3 ∨ k = 4 ∨ k = 5 ∨ k = 6 ∨ k = 7 := by omega
theorem CX {k : Int} (h1 : 1 ≤ k) (h7 : k ≤ 7) : (32 : UInt8) ∉ ay k := by
 rcases jc h1 h7 with rfl | rfl | rfl | rfl | rfl | rfl | rfl <;> decide
theorem iK {k : Int} (h1 : 1 ≤ k) (h7 : k ≤ 7) : (kindOf (ay k) : Int) = k := by
 rcases jc h1 h7 with rfl | rfl | rfl | rfl | rfl | rfl | rfl <;> decide
theorem jQ {w : List UInt8} (h : kindOf w ≠ 0) : w = ay (kindOf w) ∧ 1 ≤ kindOf w ∧ kindOf w ≤ 7 := by
 have key : ∀ k : Nat, 1 ≤ k → k ≤ 7 → w = ay k → w = ay (kindOf w) ∧ 1 ≤ kindOf w ∧ kindOf w ≤ 7 := fun k h1 h7 e => by
  have h2 := iK (k := k) (by omega) (by omega)
  rw [← e] at h2
  exact ⟨by rw [h2]; exact e, by omega, by omega⟩
 by_cases e1 : w = ay 1
 ·exact key 1 (by omega) (by omega) e1
 by_cases e2 : w = ay 2
 ·exact key 2 (by omega) (by omega) e2
 by_cases e3 : w = ay 3
 ·exact key 3 (by omega) (by omega) e3
 by_cases e4 : w = ay 4
 ·exact key 4 (by omega) (by omega) e4
 by_cases e5 : w = ay 5
 ·exact key 5 (by omega) (by omega) e5
 by_cases e6 : w = ay 6
 ·exact key 6 (by omega) (by omega) e6
 by_cases e7 : w = ay 7
 ·exact key 7 (by omega) (by omega) e7
 exact absurd (by unfold kindOf; rw [if_neg e1, if_neg e2, if_neg e3, if_neg e4, if_neg e5, if_neg e6, if_neg e7]) h
theorem ic {s : List UInt8} {w n : Nat} : jH s = some (w, n) ↔ s = jO w n ∧ w < 18446744073709551616 ∧ n < 18446744073709551616 := by
 constructor
 ·intro h
  unfold jH at h
  split at h
  ·rename_i a b hc
   have hj := kK 46 s
   rw [hc] at hj
   simp only [Option.bind_eq_some_iff, Option.map_eq_some_iff, Prod.mk.injEq] at h
   obtain ⟨x, h1, y, h2, rfl, rfl⟩ := h
   obtain ⟨rfl, h3⟩ := aK.1 h1
   obtain ⟨rfl, h4⟩ := aK.1 h2
   exact ⟨by rw [← hj]; simp [Lib.join_cons, Lib.joinTail, jO], h3, h4⟩
  ·cases h
 ·rintro ⟨rfl, h1, h2⟩
  unfold jH jO
  rw [gD _ (bu (by decide)), dO (bu (by decide))]
  simp only [Option.bind_eq_some_iff, Option.map_eq_some_iff]
  exact ⟨w, aK.2 ⟨rfl, h1⟩, n, aK.2 ⟨rfl, h2⟩, rfl⟩
theorem sw {s : List UInt8} {e : Ent} : jP s = some e ↔ s = e.told ∧ e.ok := by
 constructor
 ·intro h
  unfold jP at h
  split at h
  ·rename_i a b f hc
   have hj := kK 58 s
   rw [hc] at hj
   split at h
   ·rename_i hf
    simp only [Option.bind_eq_some_iff, Option.map_eq_some_iff] at h
    obtain ⟨x, h1, ⟨v, u⟩, h2, rfl⟩ := h
    obtain ⟨rfl, h3⟩ := aK.1 h1
    obtain ⟨rfl, h4, h5⟩ := ic.1 h2
    refine ⟨?_, h3, h4, h5⟩
    rw [← hj]
    rcases hf with rfl | rfl <;> simp [Lib.join_cons, Lib.joinTail, Ent.told, jy]
   ·cases h
  ·cases h
 ·rintro ⟨rfl, h1, h2, h3⟩
  obtain ⟨x, w, n, m⟩ := e
  unfold jP Ent.told
  rw [gD _ (bu (by decide)), gD _ (oJ (by decide) (by decide)), dO (pJ (by decide))]
  have hf : jy m = [48] ∨ jy m = [49] := by cases m <;> simp [jy]
  have hm : decide (jy m = [49]) = m := by cases m <;> decide
  simp only
  rw [if_pos hf, hm]
  simp only [Option.bind_eq_some_iff, Option.map_eq_some_iff]
  exact ⟨x, aK.2 ⟨rfl, h1⟩, (w, n), ic.2 ⟨rfl, h2, h3⟩, rfl⟩
theorem fZ : ∀ {l : List (List UInt8)} {es : List Ent}, gI l = some es ↔ l = es.map Ent.told ∧ ∀ e ∈ es, e.ok
 | [], es => by
  simp only [gI, Option.some.injEq]
  constructor
  ·rintro rfl; simp
  ·rintro ⟨h, _⟩
   cases es with
   | nil => rfl
   | cons e es => simp at h
 | s :: l, es => by
  simp only [gI, Option.bind_eq_some_iff, Option.map_eq_some_iff]
  constructor
  ·rintro ⟨e, h1, es', h2, rfl⟩
   obtain ⟨rfl, h3⟩ := sw.1 h1
   obtain ⟨rfl, h4⟩ := fZ.1 h2
   exact ⟨rfl, fun z hz => by rcases List.mem_cons.1 hz with rfl | hz; exact h3; exact h4 z hz⟩
  ·rintro ⟨h, h2⟩
   cases es with
   | nil => simp at h
   | cons e es =>
    simp only [List.map_cons, List.cons.injEq] at h
    obtain ⟨rfl, rfl⟩ := h
    exact ⟨e, sw.2 ⟨rfl, h2 e (by simp)⟩, es, fZ.2 ⟨rfl, fun z hz => h2 z (by simp [hz])⟩, rfl⟩
theorem nT {e : Ex} (h : e.right = true) (hn : e.nums) : bU e.told = some e := by
 have := vV h hn
 unfold Ex.text at this
 rwa [if_pos h] at this
theorem aY : Ex.zero.nums := by simp [Ex.zero, Ex.nums, Ex.numss]
theorem vX {k t : Nat} {l : List (List UInt8)} {r : Rec} (h1 : 1 ≤ k) (h7 : k ≤ 7) (ht : t < 18446744073709551616) (h : bX k t l = some r) : r.k = k ∧ r.t = t ∧ r.rightP ∧ r.nums ∧ l = r.tail := by
 unfold bX at h
 split at h
 ·rename_i hk; subst hk
  split at h
  ·simp only [Option.bind_eq_some_iff, Option.map_eq_some_iff] at h
   obtain ⟨x, h2, ⟨v, u⟩, h3, rfl⟩ := h
   obtain ⟨rfl, h4⟩ := aK.1 h2
   obtain ⟨rfl, h5, h6⟩ := ic.1 h3
   exact ⟨rfl, rfl, ⟨by dsimp only; omega, by dsimp only; omega, fun h => absurd h (by dsimp only; omega), rfl⟩, ⟨ht, h4, h5, h6, by dsimp only; omega, aY, by simp⟩, rfl⟩
  ·cases h
 split at h
 ·rename_i hk; subst hk
  split at h
  ·simp only [Option.bind_eq_some_iff, Option.map_eq_some_iff] at h
   obtain ⟨x, h2, v, h3, rfl⟩ := h
   obtain ⟨rfl, h4⟩ := aK.1 h2
   obtain ⟨rfl, h5⟩ := aK.1 h3
   exact ⟨rfl, rfl, ⟨by dsimp only; omega, by dsimp only; omega, fun h => absurd h (by dsimp only; omega), rfl⟩, ⟨ht, h4, by dsimp only; omega, by dsimp only; omega, h5, aY, by simp⟩, rfl⟩
  ·cases h
 split at h
 ·rename_i hk; subst hk
  split at h
  ·simp only [Option.map_eq_some_iff] at h
   obtain ⟨x, h2, rfl⟩ := h
   obtain ⟨rfl, h4⟩ := aK.1 h2
   exact ⟨rfl, rfl, ⟨by dsimp only; omega, by dsimp only; omega, fun h => absurd h (by dsimp only; omega), rfl⟩, ⟨ht, h4, by dsimp only; omega, by dsimp only; omega, by dsimp only; omega, aY, by simp⟩, rfl⟩
  ·cases h
 split at h
 ·rename_i hk; subst hk
  split at h
  ·simp only [Option.bind_eq_some_iff, Option.map_eq_some_iff] at h
   obtain ⟨p, h2, es, h3, rfl⟩ := h
   obtain ⟨h4, h5, rfl⟩ := gT h2
   obtain ⟨rfl, h6⟩ := fZ.1 h3
   exact ⟨rfl, rfl, ⟨by dsimp only; omega, by dsimp only; omega, fun _ => h4, rfl⟩, ⟨ht, by dsimp only; omega, by dsimp only; omega, by dsimp only; omega, by dsimp only; omega, h5, h6⟩, rfl⟩
  ·cases h
 split at h
 ·rename_i n2 n3 n4 n5 hl
  injection h with h; subst h hl
  have hk : k = 1 ∨ k = 6 ∨ k = 7 := by omega
  rcases hk with rfl | rfl | rfl
  all_goals exact ⟨rfl, rfl, ⟨by dsimp only; omega, by dsimp only; omega, fun h => absurd h (by dsimp only; omega), rfl⟩, ⟨ht, by dsimp only; omega, by dsimp only; omega, by dsimp only; omega, by dsimp only; omega, aY, by simp⟩, rfl⟩
 ·cases h
theorem xK {r : Rec} (h : r.rightP) (hn : r.nums) : bX r.k.toNat r.t r.tail = some r := by
 obtain ⟨k, t, x, w, n, v, p, es⟩ := r
 obtain ⟨h1, h7, h5, ho⟩ := h
 obtain ⟨n1, n2, n3, n4, n5, n6, n7⟩ := hn
 simp only at h1 h7 h5 n1 n2 n3 n4 n5 n6 n7
 rcases jc h1 h7 with rfl | rfl | rfl | rfl | rfl | rfl | rfl
 all_goals simp [Rec.only] at ho
 ·obtain ⟨rfl, rfl, rfl, rfl, rfl, rfl⟩ := ho; rfl
 ·obtain ⟨rfl, rfl, rfl⟩ := ho
  show bX 2 t [Lib.decDigits x, jO w n] = _
  unfold bX
  rw [if_pos rfl]
  simp only [aK.2 ⟨rfl, n2⟩, ic.2 ⟨rfl, n3, n4⟩, Option.bind_some, Option.map_some]
 ·obtain ⟨rfl, rfl, rfl, rfl⟩ := ho
  show bX 3 t [Lib.decDigits x, Lib.decDigits v] = _
  unfold bX
  rw [if_neg (by decide), if_pos rfl]
  simp only [aK.2 ⟨rfl, n2⟩, aK.2 ⟨rfl, n5⟩, Option.bind_some, Option.map_some]
 ·obtain ⟨rfl, rfl, rfl, rfl, rfl⟩ := ho
  show bX 4 t [Lib.decDigits x] = _
  unfold bX
  rw [if_neg (by decide), if_neg (by decide), if_pos rfl]
  simp only [aK.2 ⟨rfl, n2⟩, Option.map_some]
 ·obtain ⟨rfl, rfl, rfl, rfl⟩ := ho
  show bX 5 t (p.told :: es.map Ent.told) = _
  unfold bX
  rw [if_neg (by decide), if_neg (by decide), if_neg (by decide), if_pos rfl]
  simp only [nT (h5 rfl) n6, fZ.2 ⟨rfl, n7⟩, Option.bind_some, Option.map_some]
 ·obtain ⟨rfl, rfl, rfl, rfl, rfl, rfl⟩ := ho; rfl
 ·obtain ⟨rfl, rfl, rfl, rfl, rfl, rfl⟩ := ho; rfl
theorem nU {s : List UInt8} {r : Rec} (h : aM s = some r) : r.rightP ∧ r.nums ∧ r.told = s := by
 unfold aM at h
 split at h
 ·rename_i w a l hc
  have hj := kK 32 s
  rw [hc] at hj
  split at h
  ·cases h
  ·rename_i hk
   obtain ⟨hw, h1, h7⟩ := jQ hk
   simp only [Option.bind_eq_some_iff] at h
   obtain ⟨t, h2, h3⟩ := h
   obtain ⟨rfl, h4⟩ := aK.1 h2
   obtain ⟨e1, e2, h5, h6, h8⟩ := vX h1 h7 h4 h3
   refine ⟨h5, h6, ?_⟩
   rw [← hj]
   unfold Rec.told Rec.words
   rw [e1, e2, ← h8, ← hw]
 ·cases h
theorem CY {r : Rec} : ∀ x ∈ r.tail, (32 : UInt8) ∉ x := by
 intro x hx
 unfold Rec.tail at hx
 split at hx
 ·simp only [List.mem_cons, List.not_mem_nil, or_false] at hx
  rcases hx with rfl | rfl
  ·exact bu (by decide)
  ·exact oJ (by decide) (by decide)
 split at hx
 ·simp only [List.mem_cons, List.not_mem_nil, or_false] at hx
  rcases hx with rfl | rfl <;> exact bu (by decide)
 split at hx
 ·simp only [List.mem_cons, List.not_mem_nil, or_false] at hx
  subst hx; exact bu (by decide)
 split at hx
 ·simp only [List.mem_cons, List.mem_map] at hx
  rcases hx with rfl | ⟨e, _, rfl⟩
  ·exact zm _
  ·exact CW
 ·simp at hx
theorem sD {r : Rec} (h : r.rightP) : cuts 32 r.told = r.words := by
 refine mi (by simp [Rec.words]) (fun x hx => ?_)
 simp only [Rec.words, List.mem_cons] at hx
 rcases hx with rfl | rfl | hx
 ·exact CX h.1 h.2.1
 ·exact bu (by decide)
 ·exact CY x hx
theorem pK {r : Rec} (h : r.rightP) (hn : r.nums) : aM r.told = some r := by
 unfold aM
 rw [sD h]
 have hk := iK h.1 h.2.1
 have hk0 : kindOf (ay r.k) ≠ 0 := by have := h.1; omega
 simp only [Rec.words]
 rw [if_neg hk0, aK.2 ⟨rfl, hn.1⟩, show kindOf (ay r.k) = r.k.toNat from by omega]
 simp only [Option.bind_some]
 exact xK h hn
theorem pM {l : List UInt8} {v : Nat} (h : Lib.parseUintB 64 l = .ok v) : v < 18446744073709551616 ∧ (decide (Lib.decDigits v = l) = (bE l).isSome) ∧ ∀ n, bE l = some n → n = v := by
 have hv : v ≤ 2 ^ 64 - 1 := Lib.parseUintB_le h
 have hv2 : v < 18446744073709551616 := by omega
 have h2 : ∀ n, bE l = some n → n = v := fun n hn => by
  obtain ⟨rfl, hlt⟩ := aK.1 hn
  rw [fV _ (gz n), if_neg (gP n), dJ, if_pos hlt] at h
  injection h
 refine ⟨hv2, ?_, h2⟩
 by_cases hd : Lib.decDigits v = l
 ·rw [decide_eq_true hd, aK.2 ⟨hd.symm, hv2⟩]; rfl
 ·rw [decide_eq_false hd]
  cases hn : bE l with
  | none => rfl
  | some n =>
   have := h2 n hn
   subst this
   exact absurd (aK.1 hn).1.symm hd
theorem xL {l : List UInt8} (h : ∀ n, Lib.parseUintB 64 l ≠ .ok n) : bE l = none := by
 cases hn : bE l with
 | none => rfl
 | some n =>
  obtain ⟨rfl, hlt⟩ := aK.1 hn
  exact absurd (by rw [fV _ (gz n), if_neg (gP n), dJ, if_pos hlt]) (h n)
theorem vY (l : List UInt8) : (∃ u, Lib.parseUintB 64 l = .ok u) ∨ ((∀ n, Lib.parseUintB 64 l ≠ .ok n) ∧ (Lib.parseUintB 64 l = .range ∨ Lib.parseUintB 64 l = Lib.parseUintB 64 [])) := by
 cases h : Lib.parseUintB 64 l with
 | ok u => exact .inl ⟨u, rfl⟩
 | range => exact .inr ⟨(fun n h => by cases h), .inl rfl⟩
 | _ => exact .inr ⟨(fun n h => by cases h), .inr rfl⟩
instance : DecidableEq Ent := fun a b => decidable_of_iff (a.x = b.x ∧ a.w = b.w ∧ a.n = b.n ∧ a.m = b.m) (by cases a; cases b; simp)
def Rec.same (a b : Rec) : Bool := decide (a.k = b.k) && decide (a.t = b.t) && decide (a.x = b.x) && decide (a.w = b.w) && decide (a.n = b.n) && decide (a.v = b.v) && a.p.same b.p && decide (a.es = b.es)
theorem Rec.same_iff (a b : Rec) : a.same b = true ↔ a = b := by
 cases a; cases b
 simp only [Rec.same, Bool.and_eq_true, decide_eq_true_eq, Ex.same_iff, Rec.mk.injEq, and_assoc]
def Rec.right (r : Rec) : Bool := decide (1 ≤ r.k) && decide (r.k ≤ 7) && (decide (r.k ≠ 5) || r.p.right) && r.only.same r
theorem Rec.right_iff (r : Rec) : r.right = true ↔ r.rightP := by
 simp only [Rec.right, Bool.and_eq_true, Bool.or_eq_true, decide_eq_true_eq, Rec.same_iff, Rec.rightP, and_assoc]
 constructor
 ·rintro ⟨h1, h2, h3, h4⟩
  exact ⟨h1, h2, fun h => h3.resolve_left (fun hn => hn h), h4⟩
 ·rintro ⟨h1, h2, h3, h4⟩
  exact ⟨h1, h2, by by_cases h : r.k = 5; exact .inr (h3 h); exact .inl h, h4⟩
def Rec.text (r : Rec) : List UInt8 := if r.right then r.told else []
def aj (s : List UInt8) : Nat := s.foldl (fun n c => (n * 10 + (c.toNat + 208) % 256) % 18446744073709551616) 0
theorem BI : aj [] = 0 := rfl
theorem kL (s : List UInt8) (c : UInt8) : aj (s ++ [c]) = (aj s * 10 + (c.toNat + 208) % 256) % 18446744073709551616 := by simp [aj]
theorem cK (s : List UInt8) : aj s < 18446744073709551616 := by
 rcases List.eq_nil_or_concat s with rfl | ⟨l, c, rfl⟩
 ·decide
 ·rw [List.concat_eq_append, kL]; exact Nat.mod_lt _ (by decide)
theorem dG (n : Nat) (h : n < 18446744073709551616) : aj (Lib.decDigits n) = n := by
 induction n using Nat.strongRecOn with
 | _ n ih =>
  rw [Lib.decDigits]
  split
  ·rw [show ([UInt8.ofNat (48 + n)] : List UInt8) = [] ++ [UInt8.ofNat (48 + n)] from rfl, kL, BI]; simp [UInt8.toNat_ofNat']; omega
  ·rw [kL, ih (n / 10) (by omega) (by omega)]; simp [UInt8.toNat_ofNat']; omega
def bV (s : List UInt8) : Nat × Nat := match cuts 46 s with
 | [a, b] => (aj a, aj b)
 | _ => (0, 0)
def lh (s : List UInt8) : Option Ent := match cuts 58 s with
 | [a, b, f] => some ⟨aj a, (bV b).1, (bV b).2, decide (f = [49])⟩
 | _ => none
def fP : List (List UInt8) → Option (List Ent)
 | [] => some []
 | s :: l => (lh s).bind fun e => (fP l).map fun es => e :: es
def iD (k t : Nat) (l : List (List UInt8)) : Option Rec :=
 if k = 2 then match l with
  | [a, b] => some ⟨2, t, aj a, (bV b).1, (bV b).2, 0, .zero, []⟩
  | _ => none
 else if k = 3 then match l with
  | [a, b] => some ⟨3, t, aj a, 0, 0, aj b, .zero, []⟩
  | _ => none
 else if k = 4 then match l with
  | [a] => some ⟨4, t, aj a, 0, 0, 0, .zero, []⟩
  | _ => none
 else if k = 5 then match l with
  | a :: es => (bU a).bind fun p => (fP es).map fun es => ⟨5, t, 0, 0, 0, 0, p, es⟩
  | _ => none
 else if l = [] then some ⟨k, t, 0, 0, 0, 0, .zero, []⟩ else none
def dS (s : List UInt8) : Option Rec := match cuts 32 s with
 | w :: a :: l => if kindOf w = 0 then none else iD (kindOf w) (aj a) l
 | _ => none
theorem sF {w n : Nat} (h1 : w < 18446744073709551616) (h2 : n < 18446744073709551616) : bV (jO w n) = (w, n) := by
 unfold bV jO
 rw [gD _ (bu (by decide)), dO (bu (by decide))]
 simp only [dG _ h1, dG _ h2]
theorem kM (s : List UInt8) : (bV s).1 < 18446744073709551616 ∧ (bV s).2 < 18446744073709551616 := by
 unfold bV
 split
 ·exact ⟨cK _, cK _⟩
 ·exact ⟨by decide, by decide⟩
theorem Ad {e : Ent} (h : e.ok) : lh e.told = some e := by
 obtain ⟨h1, h2, h3⟩ := h
 obtain ⟨x, w, n, m⟩ := e
 unfold lh Ent.told
 rw [gD _ (bu (by decide)), gD _ (oJ (by decide) (by decide)), dO (pJ (by decide))]
 have hm : decide (jy m = [49]) = m := by cases m <;> decide
 simp only [dG _ h1, sF h2 h3, hm]
theorem pO : ∀ {es : List Ent}, (∀ e ∈ es, e.ok) → fP (es.map Ent.told) = some es
 | [], _ => rfl
 | e :: es, h => by
  simp only [List.map_cons, fP, Ad (h e (by simp)), pO (fun z hz => h z (List.mem_cons_of_mem _ hz)), Option.bind_some, Option.map_some]
theorem pQ : ∀ {l : List (List UInt8)} {es : List Ent}, fP l = some es → ∀ e ∈ es, e.ok
 | [], es, h => by simp only [fP, Option.some.injEq] at h; subst h; simp
 | s :: l, es, h => by
  simp only [fP, Option.bind_eq_some_iff, Option.map_eq_some_iff] at h
  obtain ⟨e, h1, es', h2, rfl⟩ := h
  intro z hz
  rcases List.mem_cons.1 hz with rfl | hz
  ·unfold lh at h1
   split at h1
   ·injection h1 with h1; subst h1
    exact ⟨cK _, (kM _).1, (kM _).2⟩
   ·cases h1
  ·exact pQ h2 z hz
theorem xM {r : Rec} (h : r.rightP) (hn : r.nums) : iD r.k.toNat r.t r.tail = some r := by
 obtain ⟨k, t, x, w, n, v, p, es⟩ := r
 obtain ⟨h1, h7, h5, ho⟩ := h
 obtain ⟨n1, n2, n3, n4, n5, n6, n7⟩ := hn
 simp only at h1 h7 h5 n1 n2 n3 n4 n5 n6 n7
 rcases jc h1 h7 with rfl | rfl | rfl | rfl | rfl | rfl | rfl
 all_goals simp [Rec.only] at ho
 ·obtain ⟨rfl, rfl, rfl, rfl, rfl, rfl⟩ := ho; rfl
 ·obtain ⟨rfl, rfl, rfl⟩ := ho
  show iD 2 t [Lib.decDigits x, jO w n] = _
  unfold iD
  rw [if_pos rfl]
  simp only [dG _ n2, sF n3 n4]
 ·obtain ⟨rfl, rfl, rfl, rfl⟩ := ho
  show iD 3 t [Lib.decDigits x, Lib.decDigits v] = _
  unfold iD
  rw [if_neg (by decide), if_pos rfl]
  simp only [dG _ n2, dG _ n5]
 ·obtain ⟨rfl, rfl, rfl, rfl, rfl⟩ := ho
  show iD 4 t [Lib.decDigits x] = _
  unfold iD
  rw [if_neg (by decide), if_neg (by decide), if_pos rfl]
  simp only [dG _ n2]
 ·obtain ⟨rfl, rfl, rfl, rfl⟩ := ho
  show iD 5 t (p.told :: es.map Ent.told) = _
  unfold iD
  rw [if_neg (by decide), if_neg (by decide), if_neg (by decide), if_pos rfl]
  simp only [nT (h5 rfl) n6, pO n7, Option.bind_some, Option.map_some]
 ·obtain ⟨rfl, rfl, rfl, rfl, rfl, rfl⟩ := ho; rfl
 ·obtain ⟨rfl, rfl, rfl, rfl, rfl, rfl⟩ := ho; rfl
theorem xN {r : Rec} (h : r.rightP) (hn : r.nums) : dS r.told = some r := by
 unfold dS
 rw [sD h]
 have hk := iK h.1 h.2.1
 have hk0 : kindOf (ay r.k) ≠ 0 := by have := h.1; omega
 simp only [Rec.words]
 rw [if_neg hk0, dG _ hn.1, show kindOf (ay r.k) = r.k.toNat from by omega]
 exact xM h hn
theorem xO {k t : Nat} {l : List (List UInt8)} {r : Rec} (ht : t < 18446744073709551616) (h : iD k t l = some r) : r.nums := by
 unfold iD at h
 split at h
 ·split at h
  ·injection h with h; subst h
   exact ⟨ht, cK _, (kM _).1, (kM _).2, by dsimp only; omega, aY, by simp⟩
  ·cases h
 split at h
 ·split at h
  ·injection h with h; subst h
   exact ⟨ht, cK _, by dsimp only; omega, by dsimp only; omega, cK _, aY, by simp⟩
  ·cases h
 split at h
 ·split at h
  ·injection h with h; subst h
   exact ⟨ht, cK _, by dsimp only; omega, by dsimp only; omega, by dsimp only; omega, aY, by simp⟩
  ·cases h
 split at h
 ·split at h
  ·simp only [Option.bind_eq_some_iff, Option.map_eq_some_iff] at h
   obtain ⟨p, h2, es, h3, rfl⟩ := h
   exact ⟨ht, by dsimp only; omega, by dsimp only; omega, by dsimp only; omega, by dsimp only; omega, (gT h2).2.1, pQ h3⟩
  ·cases h
 split at h
 ·injection h with h; subst h
  exact ⟨ht, by dsimp only; omega, by dsimp only; omega, by dsimp only; omega, by dsimp only; omega, aY, by simp⟩
 ·cases h
theorem xP {s : List UInt8} {r : Rec} (h : dS s = some r) : r.nums ∧ s ≠ [] := by
 refine ⟨?_, fun hs => ?_⟩
 ·unfold dS at h
  split at h
  ·split at h
   ·cases h
   ·exact xO (cK _) h
  ·cases h
 ·subst hs; simp [dS, cuts] at h
theorem dU (s : List UInt8) : ((dS s).bind fun r => if r.text = s then some r else none) = aM s := by
 cases hl : aM s with
 | some r =>
  obtain ⟨h1, h2, rfl⟩ := nU hl
  rw [xN h1 h2]
  simp only [Option.bind_some]
  rw [if_pos (by unfold Rec.text; rw [if_pos ((Rec.right_iff r).2 h1)])]
 | none =>
  cases hc : dS s with
  | none => rfl
  | some r =>
   simp only [Option.bind_some]
   rw [if_neg]
   intro ht
   obtain ⟨hn, hs⟩ := xP hc
   unfold Rec.text at ht
   split at ht
   ·rename_i hr
    have := pK ((Rec.right_iff r).1 hr) hn
    rw [ht, hl] at this
    cases this
   ·exact hs ht.symm
def Ent.cells (e : Ent) : List Value := [.int .u64 e.x, .int .u64 e.w, .int .u64 e.n, .bool e.m]
def aN : List Ent → List Value
 | [] => []
 | e :: es => e.cells ++ aN es
theorem jA : ∀ es : List Ent, (aN es).length = es.length * 4
 | [] => rfl
 | e :: es => by simp [aN, Ent.cells, jA es]; omega
theorem jB : ∀ a b : List Ent, aN (a ++ b) = aN a ++ aN b
 | [], b => rfl
 | e :: a, b => by simp [aN, jB a b]
theorem mo : ∀ (es : List Ent) (i : Nat) (h : i < es.length), (aN es)[i * 4]? = some (.int .u64 es[i].x) ∧ (aN es)[i * 4 + 1]? = some (.int .u64 es[i].w) ∧ (aN es)[i * 4 + 2]? = some (.int .u64 es[i].n) ∧ (aN es)[i * 4 + 3]? = some (.bool es[i].m)
 | e :: es, 0, h => by simp [aN, Ent.cells]
 | e :: es, i + 1, h => by
  have := mo es i (by simpa using h)
  simp only [aN, Ent.cells, List.getElem_cons_succ]
  rw [show (i + 1) * 4 = i * 4 + 4 from by omega]
  simpa using this
def eX (w : World) (S : Nat → Prop) (own : Bool) (es : List Ent) (v : Value) : Prop := Sl w S own 4 es.length (aN es) v
theorem eX.keep {w w' : World} {S S' : Nat → Prop} {own : Bool} {es : List Ent} {v : Value} (h : eX w S own es v) (hk : dz S w w') (hS : ∀ b, b < w.heap.size → S b → S' b) : eX w' S' own es v := Sl.keep h (by omega) hk hS
theorem eX.below {B : Nat} {w w' : World} {S : Nat → Prop} {own : Bool} {es : List Ent} {v : Value} (h : eX w S own es v) (hb : Below B w w') (hB : w.heap.size ≤ B) : eX w' S own es v := Sl.below h (by omega) hb hB
theorem eX.shape {w : World} {S : Nat → Prop} {own : Bool} {es : List Ent} {v : Value} (h : eX w S own es v) : es.length ≤ 9223372036854775807 ∧ ∃ ad cap, v = .slice ad es.length cap ∧ es.length ≤ cap := ⟨h.2.1, (Sl.shape h).2.2⟩
theorem eX.part {w : World} {S : Nat → Prop} {own : Bool} {es : List Ent} {ad : Option Addr} {cap : Nat} (h : eX w S own es (.slice ad es.length cap)) (i : Nat) (hi : i < es.length) :
  ∃ bl off, ad = some ⟨bl, off, none⟩ ∧ S bl ∧ w.cell? ⟨bl, off + i * 4, none⟩ = some (.int .u64 es[i].x) ∧ w.cell? ⟨bl, off + i * 4 + 1, none⟩ = some (.int .u64 es[i].w) ∧ w.cell? ⟨bl, off + i * 4 + 2, none⟩ = some (.int .u64 es[i].n) ∧
   w.cell? ⟨bl, off + i * 4 + 3, none⟩ = some (.bool es[i].m) ∧ (own = true → ∀ j, j < 4 → w.frozen? ⟨bl, off + i * 4 + j, none⟩ = false) := by
 obtain ⟨bl, off, ha, hS, hc⟩ := Sl.cells h (by omega)
 have hx := jA es
 obtain ⟨g0, g1, g2, g3⟩ := mo es i hi
 have q0 := hc (i * 4) (by omega)
 have q1 := hc (i * 4 + 1) (by omega)
 have q2 := hc (i * 4 + 2) (by omega)
 have q3 := hc (i * 4 + 3) (by omega)
 rw [List.getElem?_eq_getElem (by omega)] at g0 g1 g2 g3
 refine ⟨bl, off, ha, hS, by rw [q0.1]; exact g0, by rw [Nat.add_assoc, q1.1]; exact g1, by rw [Nat.add_assoc, q2.1]; exact g2, by rw [Nat.add_assoc, q3.1]; exact g3, fun ho j hj => ?_⟩
 have := (hc (i * 4 + j) (by omega)).2 ho
 rw [Nat.add_assoc]; exact this
def aI (w : World) (S : Nat → Prop) (own : Bool) (r : Rec) (v : Value) : Prop :=
 ∃ c0 c1 c2 c3 s, v = .agg #[.int .i64 r.k, .int .u64 r.t, .int .u64 r.x, .int .u64 r.w, .int .u64 r.n, .int .u64 r.v, c0, c1, c2, c3, s] ∧ -9223372036854775808 ≤ r.k ∧ r.k ≤ 9223372036854775807 ∧ r.nums ∧
  ax w S own r.p (.agg #[c0, c1, c2, c3]) ∧ eX w S own r.es s
theorem aI.keep {w w' : World} {S S' : Nat → Prop} {own : Bool} {r : Rec} {v : Value} (h : aI w S own r v) (hk : dz S w w') (hS : ∀ b, b < w.heap.size → S b → S' b) : aI w' S' own r v := by
 obtain ⟨c0, c1, c2, c3, s, h1, h2, h3, h4, h5, h6⟩ := h
 exact ⟨c0, c1, c2, c3, s, h1, h2, h3, h4, ax.keep hk hS h5, h6.keep hk hS⟩
theorem aI.below {B : Nat} {w w' : World} {S : Nat → Prop} {own : Bool} {r : Rec} {v : Value} (h : aI w S own r v) (hb : Below B w w') (hB : w.heap.size ≤ B) : aI w' S own r v := h.keep (Below.keeps hb hB S) (fun _ _ h => h)
theorem aI.wider {w : World} {S S' : Nat → Prop} {own : Bool} {r : Rec} {v : Value} (h : aI w S own r v) (hS : ∀ b, b < w.heap.size → S b → S' b) : aI w S' own r v := h.keep (fun _ _ _ => rfl) hS
theorem aI.conc {w : World} {S : Nat → Prop} {own : Bool} {r : Rec} {v : Value} (h : aI w S own r v) :
  ∃ k' a' b' ad' n' cap' ad2 cap2, v = .agg #[.int .i64 r.k, .int .u64 r.t, .int .u64 r.x, .int .u64 r.w, .int .u64 r.n, .int .u64 r.v, .int .i64 k', .int .u64 (a' : Nat), .int .u64 (b' : Nat), .slice ad' n' cap', .slice ad2 r.es.length cap2] ∧
   -9223372036854775808 ≤ r.k ∧ r.k ≤ 9223372036854775807 ∧ r.nums ∧ ax w S own r.p (.agg #[.int .i64 k', .int .u64 (a' : Nat), .int .u64 (b' : Nat), .slice ad' n' cap']) ∧ eX w S own r.es (.slice ad2 r.es.length cap2) := by
 obtain ⟨c0, c1, c2, c3, s, rfl, h2, h3, h4, h5, h6⟩ := h
 obtain ⟨k', a', b', ad', n', cap', he⟩ := h5.conc
 simp only [Value.agg.injEq, Array.mk.injEq, List.cons.injEq, and_true] at he
 obtain ⟨rfl, rfl, rfl, rfl⟩ := he
 obtain ⟨_, ad2, cap2, rfl, _⟩ := h6.shape
 exact ⟨_, _, _, _, _, _, _, _, rfl, h2, h3, h4, h5, h6⟩
theorem BJ {c : UInt8} {l : List UInt8} (h : c ∈ l) : ∃ x r, Lib.cut l [c] = (x, r, true) ∧ l = x ++ c :: r ∧ c ∉ x := by
 obtain ⟨x, r, h1, h2, h3⟩ := fe h
 refine ⟨x, r, ?_, h1, h2⟩
 unfold Lib.cut
 rw [h3, if_pos (by omega)]
 subst h1
 simp only [Int.toNat_natCast, List.length_singleton]
 rw [List.take_left, show x.length + 1 = (x ++ [c]).length from by simp, show x ++ c :: r = (x ++ [c]) ++ r from by simp, List.drop_left]
theorem BK {c : UInt8} {l : List UInt8} (h : c ∉ l) : Lib.cut l [c] = (l, [], false) := by
 unfold Lib.cut
 rw [index_one, if_neg h, if_neg (by omega)]
theorem rA {l : List UInt8} (h : (46 : UInt8) ∉ l) : jH l = none := by
 unfold jH; rw [dO h]
theorem BM {x r : List UInt8} (h : (46 : UInt8) ∉ x) : jH (x ++ 46 :: r) = (bE x).bind fun w => (bE r).map fun n => (w, n) := by
 unfold jH
 rw [gD _ h]
 cases hc : cuts 46 r with
 | nil => exact absurd hc (dR _ _)
 | cons a q =>
  have hj := kK 46 r
  rw [hc] at hj
  cases q with
  | nil =>
   rw [Lib.join_one] at hj
   subst hj
   rfl
  | cons b q =>
   have hn : bE r = none := by
    cases hn : bE r with
    | none => rfl
    | some n =>
     obtain ⟨rfl, _⟩ := aK.1 hn
     rw [dO (bu (by decide))] at hc
     cases hc
   rw [hn]
   cases bE x <;> rfl
theorem nV (s : ByteArray) (c : UInt8) : ((Lib.splitB ⟨#[c]⟩ 0 (Lib.countB s ⟨#[c]⟩) s).map fun b => b.data.toList) = cuts c s.data.toList := by
 rw [Lib.splitB_data]
 exact nS c _ _ (kR c _ _ (by omega))
theorem xQ (s : ByteArray) (c : UInt8) : Lib.countB s ⟨#[c]⟩ + 1 = (cuts c s.data.toList).length := by
 rw [← nV, List.length_map, Lib.splitB_all ⟨#[c]⟩ (by simp [ByteArray.size]) 0 _ s rfl]
def lns (s : List UInt8) : List (List UInt8) := if (cuts 10 s).getLast? = some [] then (cuts 10 s).dropLast else cuts 10 s
theorem zo : lns [] = [] := rfl
theorem CZ {s : List UInt8} (h : (10 : UInt8) ∉ s) (hs : s ≠ []) : lns s = [s] := by
 unfold lns
 rw [dO h, if_neg (by simpa using hs)]
theorem BN {x : List UInt8} (r : List UInt8) (h : (10 : UInt8) ∉ x) : lns (x ++ 10 :: r) = x :: lns r := by
 unfold lns
 rw [gD r h]
 have hne := dR 10 r
 obtain ⟨y, z, hy⟩ : ∃ y z, cuts 10 r = y :: z := by
  cases hc : cuts 10 r with
  | nil => exact absurd hc hne
  | cons y z => exact ⟨y, z, rfl⟩
 rw [hy, List.getLast?_cons_cons]
 split
 ·rw [List.dropLast_cons_cons]
 ·rfl
theorem vZ (c : UInt8) : ∀ s : List UInt8, ((cuts c s).map List.length).sum + (cuts c s).length = s.length + 1
 | [] => rfl
 | b :: l => by
  have ih := vZ c l
  rw [cuts]
  split
  ·simp only [List.map_cons, List.sum_cons, List.length_cons, List.length_nil]
   omega
  ·cases h : cuts c l with
   | nil => exact absurd h (dR c l)
   | cons x r =>
    rw [h] at ih
    simp only [List.map_cons, List.sum_cons, List.length_cons] at ih ⊢
    omega
theorem xR (s : List UInt8) : (lns s).length ≤ s.length := by
 have h := vZ 10 s
 unfold lns
 split
 ·rw [List.length_dropLast]; omega
 ·rename_i hl
  have hne := dR 10 s
  have hm : (cuts 10 s).getLast hne ∈ cuts 10 s := List.getLast_mem hne
  have h0 : (cuts 10 s).getLast hne ≠ [] := fun e => hl (by rw [List.getLast?_eq_some_getLast hne, e])
  have h1 : 0 < ((cuts 10 s).getLast hne).length := List.length_pos_iff.2 h0
  have h2 : ∀ (l : List (List UInt8)) (x : List UInt8), x ∈ l → x.length ≤ (l.map List.length).sum := by
   intro l
   induction l with
   | nil => intro x hx; cases hx
   | cons a l ih =>
    intro x hx
    simp only [List.map_cons, List.sum_cons]
    rcases List.mem_cons.1 hx with rfl | hx
    ·omega
    ·have := ih x hx; omega
  have := h2 _ _ hm
  omega
def dK : List (List UInt8) → Nat → List Rec → List Rec × Nat × Int
 | [], n, acc => (acc, n, 0)
 | x :: r, n, acc => if x = [] ∨ x.head? = some 35 then dK r (n + 1) acc else match aM x with
  | none => ([], n + 1, 50)
  | some q => dK r (n + 1) (acc ++ [q])
theorem Ae (n : Nat) (acc : List Rec) : dK [] n acc = (acc, n, 0) := rfl
theorem ll {x : List UInt8} (r : List (List UInt8)) (n : Nat) (acc : List Rec) (h : x = [] ∨ x.head? = some 35) : dK (x :: r) n acc = dK r (n + 1) acc := by
 rw [dK, if_pos h]
theorem sG {x : List UInt8} (r : List (List UInt8)) (n : Nat) (acc : List Rec) (h : ¬ (x = [] ∨ x.head? = some 35)) (hb : aM x = none) : dK (x :: r) n acc = ([], n + 1, 50) := by
 rw [dK, if_neg h, hb]
theorem pR {x : List UInt8} {q : Rec} (r : List (List UInt8)) (n : Nat) (acc : List Rec) (h : ¬ (x = [] ∨ x.head? = some 35)) (hb : aM x = some q) : dK (x :: r) n acc = dK r (n + 1) (acc ++ [q]) := by
 rw [dK, if_neg h, hb]
def mute (x : List UInt8) : Prop := x = [] ∨ x.head? = some 35
instance (x : List UInt8) : Decidable (mute x) := by unfold mute; infer_instance
def iI : List (List UInt8) → Option (List Rec)
 | [] => some []
 | x :: r => if mute x then iI r else (aM x).bind fun q => (iI r).map fun l => q :: l
theorem cz {x : List UInt8} (h : mute x) : ∀ {a : List (List UInt8)} {rs : List Rec}, iI a = some rs → iI (a ++ [x]) = some rs
 | [], rs, ha => by rw [List.nil_append, iI, if_pos h]; exact ha
 | y :: a, rs, ha => by
  rw [List.cons_append, iI]
  rw [iI] at ha
  split at ha
  ·rename_i hm
   rw [if_pos hm]
   exact cz h ha
  ·rename_i hm
   rw [if_neg hm]
   obtain ⟨q, hq, h2⟩ := Option.bind_eq_some_iff.1 ha
   obtain ⟨l, hl, rfl⟩ := Option.map_eq_some_iff.1 h2
   rw [hq, Option.bind_some, cz h hl]
   rfl
theorem iT {x : List UInt8} {p : Rec} (h : ¬ mute x) (hp : aM x = some p) : ∀ {a : List (List UInt8)} {rs : List Rec}, iI a = some rs → iI (a ++ [x]) = some (rs ++ [p])
 | [], rs, ha => by
  cases ha
  rw [List.nil_append, iI, if_neg h, hp]
  rfl
 | y :: a, rs, ha => by
  rw [List.cons_append, iI]
  rw [iI] at ha
  split at ha
  ·rename_i hm
   rw [if_pos hm]
   exact iT h hp ha
  ·rename_i hm
   rw [if_neg hm]
   obtain ⟨q, hq, h2⟩ := Option.bind_eq_some_iff.1 ha
   obtain ⟨l, hl, rfl⟩ := Option.map_eq_some_iff.1 h2
   rw [hq, Option.bind_some, iT h hp hl]
   rfl
theorem gU (b : List (List UInt8)) : ∀ (a : List (List UInt8)) (rs : List Rec) (n : Nat) (acc : List Rec), iI a = some rs → dK (a ++ b) n acc = dK b (n + a.length) (acc ++ rs)
 | [], rs, n, acc, h => by cases h; simp
 | x :: a, rs, n, acc, h => by
  rw [iI] at h
  rw [List.cons_append, List.length_cons]
  split at h
  ·rename_i hm
   rw [ll _ _ _ hm, gU b a rs _ _ h]
   congr 1
   omega
  ·rename_i hm
   obtain ⟨q, hq, h2⟩ := Option.bind_eq_some_iff.1 h
   obtain ⟨l, hl, rfl⟩ := Option.map_eq_some_iff.1 h2
   rw [pR _ _ _ hm hq, gU b a l _ _ hl, List.append_assoc, List.singleton_append]
   congr 1
   omega
theorem mV {a : List (List UInt8)} {rs : List Rec} (h : iI a = some rs) : dK a 0 [] = (rs, a.length, 0) := by
 have := gU [] a rs 0 [] h
 rw [List.append_nil] at this
 rw [this, Ae]
 simp
theorem lq {a b : List (List UInt8)} {x : List UInt8} {rs : List Rec} (h : iI a = some rs) (hm : ¬ mute x) (hb : aM x = none) : dK (a ++ x :: b) 0 [] = ([], a.length + 1, 50) := by
 rw [gU _ a rs 0 [] h, sG _ _ _ hm hb, Nat.zero_add]
def Ent.put (e : Ent) : List UInt8 := bC [e.x, e.w, e.n] ++ [if e.m then 1 else 0]
def gV (es : List Ent) : List UInt8 := es.flatMap Ent.put
def Rec.body (r : Rec) : List UInt8 :=
 if r.k = 2 then bC [r.t, r.x, r.w, r.n] else if r.k = 3 then bC [r.t, r.x, r.v] else if r.k = 4 then bC [r.t, r.x]
 else if r.k = 5 then bC [r.t, r.p.put.length] ++ (r.p.put ++ (bC [r.es.length] ++ gV r.es)) else bC [r.t]
theorem Ent.put_length (e : Ent) : e.put.length ≤ 31 := by
 have := bA [e.x, e.w, e.n]
 simp only [Ent.put, List.length_append, List.length_cons, List.length_nil] at this ⊢; omega
theorem jR : ∀ es : List Ent, (gV es).length ≤ 31 * es.length
 | [] => by simp [gV]
 | e :: es => by
  have h1 := e.put_length
  have h2 := jR es
  simp only [gV, List.flatMap_cons, List.length_append, List.length_cons] at h2 ⊢; omega
def um (l : List UInt8) : Option (Ent × List UInt8) := (bB l).bind fun x => (bB x.2).bind fun w => (bB w.2).bind fun n => match n.2 with
 | c :: r => if c.toNat ≤ 1 then some (⟨x.1, w.1, n.1, decide (c.toNat = 1)⟩, r) else none
 | [] => none
def iL : Nat → List UInt8 → Option (List Ent × List UInt8)
 | 0, l => some ([], l)
 | n + 1, l => (um l).bind fun e => (iL n e.2).map fun es => (e.1 :: es.1, es.2)
def zq (k t : Nat) (l : List UInt8) : Option Rec :=
 if k = 2 then (bB l).bind fun x => (bB x.2).bind fun w => (bB w.2).bind fun n => if n.2 = [] then some ⟨2, t, x.1, w.1, n.1, 0, .zero, []⟩ else none
 else if k = 3 then (bB l).bind fun x => (bB x.2).bind fun v => if v.2 = [] then some ⟨3, t, x.1, 0, 0, v.1, .zero, []⟩ else none
 else if k = 4 then (bB l).bind fun x => if x.2 = [] then some ⟨4, t, x.1, 0, 0, 0, .zero, []⟩ else none
 else if k = 5 then (bB l).bind fun m => if m.1 ≤ m.2.length then (si (m.2.take m.1)).bind fun p => (bB (m.2.drop m.1)).bind fun c => (iL c.1 c.2).bind fun es => if es.2 = [] then some ⟨5, t, 0, 0, 0, 0, p, es.1⟩ else none else none
 else if l = [] then some ⟨k, t, 0, 0, 0, 0, .zero, []⟩ else none
def bW (k : Nat) (b : List UInt8) : Option Rec := if 1 ≤ k ∧ k ≤ 7 then (bB b).bind fun t => zq k t.1 t.2 else none
theorem rC {p : Ex} (h : p.right = true) : p.put.length ≤ 992 := by
 have h1 := p.st_length
 have h2 := (nR h).2.2
 unfold Ex.put; rw [if_pos h]; omega
theorem uo (tk : List UInt8 → Option (Ex × List UInt8)) (htk : ∀ s e r, tk s = some (e, r) → s = e.st ++ r ∧ e.nums) : ∀ n s es r, pE tk n s = some (es, r) → s = Ex.sts es ++ r ∧ Ex.numss es ∧ es.length = n := by
 intro n
 induction n with
 | zero =>
  intro s es r h
  simp only [pE, Option.some.injEq, Prod.mk.injEq] at h
  obtain ⟨rfl, rfl⟩ := h
  simp [Ex.sts, Ex.numss]
 | succ n ih =>
  intro s es r h
  rw [pE] at h
  split at h
  ·cases h
  ·rename_i e q hq
   obtain ⟨h1, h2⟩ := htk _ _ _ hq
   obtain ⟨⟨a, b⟩, h3, h4⟩ := Option.map_eq_some_iff.1 h
   injection h4 with h5 h6
   subst h5 h6
   obtain ⟨h7, h8, h9⟩ := ih _ _ _ h3
   refine ⟨?_, by simp only [Ex.numss]; exact ⟨h2, h8⟩, by simp [h9]⟩
   rw [h1, h7]; simp [Ex.sts]
theorem ig {o : Option (List UInt8)} {r : List UInt8} (h : lZ o = some r) : o = some (dA (lY o) ++ r) := by
 unfold lZ at h
 obtain ⟨x, h1, h2⟩ := Option.map_eq_some_iff.1 h
 have hn : lY o = x.1 := by unfold lY; rw [h1]
 obtain ⟨l, h3, h4⟩ := Option.bind_eq_some_iff.1 h1
 obtain ⟨h5, _⟩ := bi (n := x.1) (r := x.2) h4
 rw [hn, h3, h5, ← h2]
theorem xS (c : UInt8) : ((((c.toNat : Nat) : Int)) % 256).toNat.toUInt8 = c := by
 have := c.toNat_lt
 rw [show (((c.toNat : Nat) : Int) % 256).toNat = c.toNat from by omega]
 simp
theorem Af (d : Nat) : ∀ s e r, tkE d s = some (e, r) → s = e.st ++ r ∧ e.nums := by
 induction d with
 | zero => intro s e r h; simp [tkE] at h
 | succ d ih =>
  intro s e r h
  cases s with
  | nil => simp [tkE] at h
  | cons c l =>
   rw [tkE] at h
   split at h
   ·rename_i hc
    obtain ⟨⟨ps, b⟩, h3, h4⟩ := Option.map_eq_some_iff.1 h
    injection h4 with h5 h6
    subst h5 h6
    unfold BA at h3
    obtain ⟨q, h7, h8⟩ := Option.bind_eq_some_iff.1 h3
    obtain ⟨h9, h10, h11⟩ := uo _ ih _ _ _ _ h8
    have hlt := Ab c.toNat l
    refine ⟨?_, by simp only [Ex.nums]; exact ⟨hlt.1, hlt.2.1, h10⟩⟩
    simp only [Ex.st, vD, xS]
    have hc7 : c.toNat = 1 ∨ c.toNat = 2 ∨ c.toNat = 3 ∨ c.toNat = 4 ∨ c.toNat = 5 ∨ c.toNat = 6 ∨ c.toNat = 7 := by omega
    simp only [List.cons_append, List.cons.injEq, true_and]
    rcases hc7 with e | e | e | e | e | e | e
    ·rw [e] at h7 ⊢
     simp only [fM, show ¬ (1 = 2 ∨ 1 = 3) from by omega, show ¬ (1 = 4) from by omega, show ¬ (1 = 5) from by omega, show ¬ (1 = 6 ∨ 1 = 7) from by omega, if_false, Option.some.injEq] at h7 ⊢
     rw [h7, h9]; simp
    ·rw [e] at h7 ⊢
     simp only [fM, true_or, if_true] at h7 ⊢
     have h12 := ig h7
     injection h12 with h12
     rw [h9] at h12
     conv => lhs; rw [h12]
     simp
    ·rw [e] at h7 ⊢
     simp only [fM, or_true, if_true] at h7 ⊢
     have h12 := ig h7
     injection h12 with h12
     rw [h9] at h12
     conv => lhs; rw [h12]
     simp
    ·rw [e] at h7 ⊢
     simp only [fM, show ¬ (4 = 2 ∨ 4 = 3) from by omega, if_true, if_false] at h7 ⊢
     have h12 := ig h7
     have h13 := ig h12
     injection h13 with h13
     rw [h9] at h13
     conv => lhs; rw [h13]
     simp
    ·rw [e] at h7 ⊢
     simp only [fM, show ¬ (5 = 2 ∨ 5 = 3) from by omega, show ¬ (5 = 4) from by omega, if_true, if_false, Option.some.injEq] at h7 ⊢
     rw [h7, h9]; simp
    ·rw [e] at h7 h11 ⊢
     simp only [fM, show ¬ (6 = 2 ∨ 6 = 3) from by omega, show ¬ (6 = 4) from by omega, show ¬ (6 = 5) from by omega, true_or, if_true, if_false] at h7 h11 ⊢
     have h12 := ig h7
     injection h12 with h12
     rw [h9] at h12
     conv => lhs; rw [h12]
     rw [← h11]
     simp
    ·rw [e] at h7 h11 ⊢
     simp only [fM, show ¬ (7 = 2 ∨ 7 = 3) from by omega, show ¬ (7 = 4) from by omega, show ¬ (7 = 5) from by omega, or_true, if_true, if_false] at h7 h11 ⊢
     have h12 := ig h7
     injection h12 with h12
     rw [h9] at h12
     conv => lhs; rw [h12]
     rw [← h11]
     simp
   ·cases h
theorem wh {b : List UInt8} {e : Ex} (h : si b = some e) : e.right = true ∧ e.nums ∧ e.put = b := by
 unfold si at h
 split at h
 ·rename_i e2 n hq
  split at h
  ·rename_i hn
   injection h with h; subst h
   unfold EU at hq
   split at hq
   ·split at hq
    ·rename_i e3 r hr
     split at hq
     ·rename_i hright
      injection hq with hq; injection hq with h1 h2
      subst h1
      obtain ⟨h3, h4⟩ := Af 8 _ _ _ hr
      have hr0 : r = [] := by
       have := congrArg List.length h3
       simp only [Int.toNat_zero, List.drop_zero, List.length_append] at this
       exact List.eq_nil_of_length_eq_zero (by
        have h5 : e3.st.length + r.length = b.length := by simpa using this.symm
        have h6 : 0 < e3.st.length := by cases e3; simp [Ex.st, vD]
        omega)
      refine ⟨hright, h4, ?_⟩
      unfold Ex.put; rw [if_pos hright]
      subst hr0
      simpa using h3.symm
     ·cases hq
    ·cases hq
   ·cases hq
  ·cases h
 ·cases h
theorem Ag {l r : List UInt8} {e : Ent} (h : um l = some (e, r)) : l = e.put ++ r ∧ e.ok := by
 unfold um at h
 simp only [Option.bind_eq_some_iff] at h
 obtain ⟨⟨x, l1⟩, h1, ⟨w, l2⟩, h2, ⟨n, l3⟩, h3, h4⟩ := h
 obtain ⟨rfl, hx⟩ := bi h1
 obtain ⟨e2, hw⟩ := bi h2
 obtain ⟨e3, hn⟩ := bi h3
 (try dsimp only at e2 e3 h4)
 subst e2 e3
 split at h4
 ·rename_i _ c r2
  split at h4
  ·rename_i h1c
   injection h4 with h4; injection h4 with h5 h6
   subst h5 h6
   refine ⟨?_, hx, hw, hn⟩
   have : c = if decide (c.toNat = 1) then 1 else 0 := by
    by_cases hc1 : c.toNat = 1
    ·simp only [hc1, decide_true, if_true]; exact UInt8.toNat.inj (by simpa using hc1)
    ·have h0 : c.toNat = 0 := by omega
     simp only [h0, show decide (0 = 1) = false from rfl, Bool.false_eq_true, if_false]; exact UInt8.toNat.inj (by simpa using h0)
   simp only [Ent.put, bC, List.flatMap_cons, List.flatMap_nil, List.append_nil, List.append_assoc, List.singleton_append]
   rw [← this]
  ·cases h4
 ·cases h4
theorem pU : ∀ (n : Nat) (l r : List UInt8) (es : List Ent), iL n l = some (es, r) → l = gV es ++ r ∧ (∀ e ∈ es, e.ok) ∧ es.length = n
 | 0, l, r, es, h => by
  simp only [iL, Option.some.injEq, Prod.mk.injEq] at h
  obtain ⟨rfl, rfl⟩ := h
  simp [gV]
 | n + 1, l, r, es, h => by
  simp only [iL, Option.bind_eq_some_iff, Option.map_eq_some_iff] at h
  obtain ⟨⟨e, l1⟩, h1, ⟨es1, r1⟩, h2, h3⟩ := h
  injection h3 with h4 h5
  subst h4 h5
  obtain ⟨h6, h7⟩ := Ag h1
  obtain ⟨h8, h9, h10⟩ := pU n _ _ _ h2
  (try dsimp only at h8)
  refine ⟨by rw [h6, h8]; simp [gV], fun z hz => ?_, by simp [h10]⟩
  rcases List.mem_cons.1 hz with rfl | hz
  ·exact h7
  ·exact h9 z hz
theorem uq {k : Nat} {b : List UInt8} {r : Rec} (h : bW k b = some r) : r.k = k ∧ r.rightP ∧ r.nums ∧ r.body = b := by
 unfold bW at h
 split at h
 ·rename_i hk
  obtain ⟨⟨t, l⟩, h1, h2⟩ := Option.bind_eq_some_iff.1 h
  obtain ⟨rfl, ht⟩ := bi h1
  have hk7 : k = 1 ∨ k = 2 ∨ k = 3 ∨ k = 4 ∨ k = 5 ∨ k = 6 ∨ k = 7 := by omega
  simp only [zq] at h2
  rcases hk7 with rfl | rfl | rfl | rfl | rfl | rfl | rfl
  ·simp only [show ¬ (1 = 2) from by omega, show ¬ (1 = 3) from by omega, show ¬ (1 = 4) from by omega, show ¬ (1 = 5) from by omega, if_false] at h2
   split at h2
   ·rename_i hl
    injection h2 with h2; subst h2 hl
    exact ⟨rfl, ⟨by dsimp only; omega, by dsimp only; omega, fun h => absurd h (by dsimp only; omega), rfl⟩, ⟨ht, by dsimp only; omega, by dsimp only; omega, by dsimp only; omega, by dsimp only; omega, aY, by simp⟩, by simp [Rec.body, bC]⟩
   ·cases h2
  ·simp only [if_true, Option.bind_eq_some_iff] at h2
   obtain ⟨⟨x, l1⟩, h3, ⟨w, l2⟩, h4, ⟨n, l3⟩, h5, h6⟩ := h2
   obtain ⟨rfl, hx⟩ := bi h3
   obtain ⟨e4, hw⟩ := bi h4
   obtain ⟨e5, hn⟩ := bi h5
   (try dsimp only at e4 e5 h6)
   subst e4 e5
   split at h6
   ·rename_i hl
    injection h6 with h6; subst h6 hl
    exact ⟨rfl, ⟨by dsimp only; omega, by dsimp only; omega, fun h => absurd h (by dsimp only; omega), rfl⟩, ⟨ht, hx, hw, hn, by dsimp only; omega, aY, by simp⟩, by simp [Rec.body, bC]⟩
   ·cases h6
  ·simp only [show ¬ (3 = 2) from by omega, if_false, if_true, Option.bind_eq_some_iff] at h2
   obtain ⟨⟨x, l1⟩, h3, ⟨v, l2⟩, h4, h6⟩ := h2
   obtain ⟨rfl, hx⟩ := bi h3
   obtain ⟨e4, hv⟩ := bi h4
   (try dsimp only at e4 h6)
   subst e4
   split at h6
   ·rename_i hl
    injection h6 with h6; subst h6 hl
    exact ⟨rfl, ⟨by dsimp only; omega, by dsimp only; omega, fun h => absurd h (by dsimp only; omega), rfl⟩, ⟨ht, hx, by dsimp only; omega, by dsimp only; omega, hv, aY, by simp⟩, by simp [Rec.body, bC]⟩
   ·cases h6
  ·simp only [show ¬ (4 = 2) from by omega, show ¬ (4 = 3) from by omega, if_false, if_true, Option.bind_eq_some_iff] at h2
   obtain ⟨⟨x, l1⟩, h3, h6⟩ := h2
   obtain ⟨rfl, hx⟩ := bi h3
   (try dsimp only at h6)
   split at h6
   ·rename_i hl
    injection h6 with h6; subst h6 hl
    exact ⟨rfl, ⟨by dsimp only; omega, by dsimp only; omega, fun h => absurd h (by dsimp only; omega), rfl⟩, ⟨ht, hx, by dsimp only; omega, by dsimp only; omega, by dsimp only; omega, aY, by simp⟩, by simp [Rec.body, bC]⟩
   ·cases h6
  ·simp only [show ¬ (5 = 2) from by omega, show ¬ (5 = 3) from by omega, show ¬ (5 = 4) from by omega, if_false, if_true, Option.bind_eq_some_iff] at h2
   obtain ⟨⟨m, l1⟩, h3, h6⟩ := h2
   obtain ⟨rfl, hm⟩ := bi h3
   (try dsimp only at h6)
   split at h6
   ·rename_i hml
    simp only [Option.bind_eq_some_iff] at h6
    obtain ⟨p, h7, ⟨c, l2⟩, h8, ⟨es, l3⟩, h9, h10⟩ := h6
    obtain ⟨hr, hpn, hput⟩ := wh h7
    obtain ⟨e8, hc⟩ := bi h8
    obtain ⟨e9, hes, hlen⟩ := pU _ _ _ _ h9
    (try dsimp only at e8 e9 h10 hlen)
    split at h10
    ·rename_i hl
     injection h10 with h10; subst h10 hl
     refine ⟨rfl, ⟨by dsimp only; omega, by dsimp only; omega, fun _ => hr, rfl⟩, ⟨ht, by dsimp only; omega, by dsimp only; omega, by dsimp only; omega, by dsimp only; omega, hpn, hes⟩, ?_⟩
     have hpl : p.put.length = m := by rw [hput]; simp; omega
     have hd : l1 = p.put ++ (dA es.length ++ gV es) := by
      rw [hlen]
      have := List.take_append_drop m l1
      rw [← this, ← hput, e8, e9]; simp
     simp only [Rec.body, show ¬ ((5 : Int) = 2) from by omega, show ¬ ((5 : Int) = 3) from by omega, show ¬ ((5 : Int) = 4) from by omega, if_false, if_true, bC, List.flatMap_cons, List.flatMap_nil, List.append_nil, List.append_assoc]
     rw [hpl, ← hd]
    ·cases h10
   ·cases h6
  ·simp only [show ¬ (6 = 2) from by omega, show ¬ (6 = 3) from by omega, show ¬ (6 = 4) from by omega, show ¬ (6 = 5) from by omega, if_false] at h2
   split at h2
   ·rename_i hl
    injection h2 with h2; subst h2 hl
    exact ⟨rfl, ⟨by dsimp only; omega, by dsimp only; omega, fun h => absurd h (by dsimp only; omega), rfl⟩, ⟨ht, by dsimp only; omega, by dsimp only; omega, by dsimp only; omega, by dsimp only; omega, aY, by simp⟩, by simp [Rec.body, bC]⟩
   ·cases h2
  ·simp only [show ¬ (7 = 2) from by omega, show ¬ (7 = 3) from by omega, show ¬ (7 = 4) from by omega, show ¬ (7 = 5) from by omega, if_false] at h2
   split at h2
   ·rename_i hl
    injection h2 with h2; subst h2 hl
    exact ⟨rfl, ⟨by dsimp only; omega, by dsimp only; omega, fun h => absurd h (by dsimp only; omega), rfl⟩, ⟨ht, by dsimp only; omega, by dsimp only; omega, by dsimp only; omega, by dsimp only; omega, aY, by simp⟩, by simp [Rec.body, bC]⟩
   ·cases h2
 ·cases h
def dW : Option (List UInt8) → Nat × Option (List UInt8)
 | none => (0, none)
 | some l => match bB l with
  | some x => (x.1, some x.2)
  | none => (0, none)
def oD (n : Nat) : Option (List UInt8) → List UInt8 × Option (List UInt8)
 | none => ([], none)
 | some l => if n ≤ l.length then (l.take n, some (l.drop n)) else ([], none)
def nY (s : Option (List UInt8)) : List UInt8 × Option (List UInt8) := oD (dW s).1 (dW s).2
def lu (s : Option (List UInt8)) : (Nat × Nat) × Option (List UInt8) := (((dW s).1, (dW (dW s).2).1), (dW (dW s).2).2)
def mr (b : List UInt8) : Bool := match b with
 | [c] => decide (1 < c.toNat)
 | _ => true
def BO (b : List UInt8) : Bool := match b with
 | [c] => decide (c.toNat = 1)
 | _ => false
def kN (s : Option (List UInt8)) (f : Bool) : Ent × Option (List UInt8) × Bool :=
 let x := dW s
 let v := lu x.2
 let b := oD 1 v.2
 (⟨x.1, v.1.1, v.1.2, BO b.1⟩, b.2, f || mr b.1)
def jC : Nat → Option (List UInt8) → Bool → List Ent × Option (List UInt8) × Bool
 | 0, s, f => ([], s, f)
 | n + 1, s, f => match s with
  | none => ([], none, f)
  | some l => ((kN (some l) f).1 :: (jC n (kN (some l) f).2.1 (kN (some l) f).2.2).1, (jC n (kN (some l) f).2.1 (kN (some l) f).2.2).2)
def iU (s : Option (List UInt8)) (f : Bool) : Ex × Option (List UInt8) × Bool := ((si (nY s).1).getD .zero, (nY s).2, f || (si (nY s).1).isNone)
def jD (k t : Nat) (s : Option (List UInt8)) (f : Bool) : Rec × Option (List UInt8) × Bool :=
 if k = 2 then (⟨2, t, (dW s).1, (lu (dW s).2).1.1, (lu (dW s).2).1.2, 0, .zero, []⟩, (lu (dW s).2).2, f)
 else if k = 3 then (⟨3, t, (dW s).1, 0, 0, (dW (dW s).2).1, .zero, []⟩, (dW (dW s).2).2, f)
 else if k = 4 then (⟨4, t, (dW s).1, 0, 0, 0, .zero, []⟩, (dW s).2, f)
 else if k = 5 then (⟨5, t, 0, 0, 0, 0, (iU s f).1, (jC (dW (iU s f).2.1).1 (dW (iU s f).2.1).2 (iU s f).2.2).1⟩, (jC (dW (iU s f).2.1).1 (dW (iU s f).2.1).2 (iU s f).2.2).2)
 else (⟨k, t, 0, 0, 0, 0, .zero, []⟩, s, f)
def xU (k : Nat) (b : List UInt8) : Rec × Option (List UInt8) × Bool := jD k (dW (some b)).1 (dW (some b)).2 false
theorem aU {l r : List UInt8} {v : Nat} (h : bB l = some (v, r)) : dW (some l) = (v, some r) := by simp [dW, h]
theorem dV {l : List UInt8} (h : bB l = none) : dW (some l) = (0, none) := by simp [dW, h]
theorem eB : dW none = (0, none) := rfl
theorem Da (s : Option (List UInt8)) : (dW s).1 < 18446744073709551616 := by
 cases s with
 | none => simp [dW]
 | some l =>
  cases h : bB l with
  | none => simp [dV h]
  | some x => obtain ⟨v, r⟩ := x; rw [aU h]; exact (bi h).2
theorem sH {r r' : List UInt8} {e : Ent} (f : Bool) (h : um r = some (e, r')) : kN (some r) f = (e, some r', f) := by
 unfold um at h
 cases h1 : bB r with
 | none => simp [h1] at h
 | some x =>
  obtain ⟨x, r1⟩ := x
  simp only [h1, Option.bind_some] at h
  cases h2 : bB r1 with
  | none => simp [h2] at h
  | some y =>
   obtain ⟨y, r2⟩ := y
   simp only [h2, Option.bind_some] at h
   cases h3 : bB r2 with
   | none => simp [h3] at h
   | some z =>
    obtain ⟨z, r3⟩ := z
    simp only [h3, Option.bind_some] at h
    cases r3 with
    | nil => simp at h
    | cons c r3 =>
     simp only at h
     by_cases hc : c.toNat ≤ 1
     ·rw [if_pos hc] at h
      simp only [Option.some.injEq, Prod.mk.injEq] at h
      obtain ⟨rfl, rfl⟩ := h
      have hb : mr [c] = false := by simp [mr]; omega
      simp [kN, lu, aU h1, aU h2, aU h3, oD, hb, BO]
     ·rw [if_neg hc] at h; cases h
theorem BP {r : List UInt8} (f : Bool) (h : um r = none) : (kN (some r) f).2.1 = none ∨ (kN (some r) f).2.2 = true := by
 unfold um at h
 cases h1 : bB r with
 | none => left; simp [kN, lu, dV h1, eB, oD]
 | some x =>
  obtain ⟨x, r1⟩ := x
  simp only [h1, Option.bind_some] at h
  cases h2 : bB r1 with
  | none => left; simp [kN, lu, aU h1, dV h2, eB, oD]
  | some y =>
   obtain ⟨y, r2⟩ := y
   simp only [h2, Option.bind_some] at h
   cases h3 : bB r2 with
   | none => left; simp [kN, lu, aU h1, aU h2, dV h3, oD]
   | some z =>
    obtain ⟨z, r3⟩ := z
    simp only [h3, Option.bind_some] at h
    cases r3 with
    | nil => left; simp [kN, lu, aU h1, aU h2, aU h3, oD]
    | cons c r3 =>
     simp only at h
     by_cases hc : c.toNat ≤ 1
     ·rw [if_pos hc] at h; cases h
     ·have hb : mr [c] = true := by simp [mr]; omega
      right; simp [kN, lu, aU h1, aU h2, aU h3, oD, hb]
theorem xV (s : Option (List UInt8)) : (kN s true).2.2 = true := by simp [kN]
theorem iE (n : Nat) (f : Bool) : jC n none f = ([], none, f) := by cases n <;> rfl
theorem jS : ∀ (n : Nat) (s : Option (List UInt8)), (jC n s true).2.2 = true
 | 0, s => rfl
 | n + 1, none => rfl
 | n + 1, some l => by
  simp only [jC, xV]
  exact jS n _
theorem pV : ∀ (n : Nat) (r r' : List UInt8) (es : List Ent) (f : Bool), iL n r = some (es, r') → jC n (some r) f = (es, some r', f)
 | 0, r, r', es, f, h => by
  simp only [iL, Option.some.injEq, Prod.mk.injEq] at h
  obtain ⟨rfl, rfl⟩ := h
  rfl
 | n + 1, r, r', es, f, h => by
  rw [iL] at h
  cases h1 : um r with
  | none => simp [h1] at h
  | some e =>
   obtain ⟨e, r1⟩ := e
   simp only [h1, Option.bind_some] at h
   cases h2 : iL n r1 with
   | none => simp [h2] at h
   | some x =>
    obtain ⟨x, r2⟩ := x
    simp only [h2, Option.map_some, Option.some.injEq, Prod.mk.injEq] at h
    obtain ⟨rfl, rfl⟩ := h
    simp only [jC, sH f h1]
    rw [pV n r1 r2 x f h2]
theorem sI : ∀ (n : Nat) (r : List UInt8) (f : Bool), iL n r = none → (jC n (some r) f).2.1 = none ∨ (jC n (some r) f).2.2 = true
 | 0, r, f, h => by simp [iL] at h
 | n + 1, r, f, h => by
  rw [iL] at h
  simp only [jC]
  cases h1 : um r with
  | none =>
   rcases BP f h1 with h2 | h2
   ·left; rw [h2, iE]
   ·right; rw [h2]; exact jS n _
  | some e =>
   obtain ⟨e, r1⟩ := e
   simp only [h1, Option.bind_some] at h
   rw [sH f h1]
   exact sI n r1 f (by cases h2 : iL n r1 with | none => rfl | some x => simp [h2] at h)
def jd (x : Rec × Option (List UInt8) × Bool) : Option Rec := if x.2.2 = false ∧ x.2.1 = some [] then some x.1 else none
theorem ik {x : Rec × Option (List UInt8) × Bool} (h : x.2.1 = none ∨ x.2.2 = true) : jd x = none := by
 unfold jd
 rcases h with h | h <;> simp [h]
theorem xW (k t : Nat) (f : Bool) : jd (jD k t none f) = none := by
 apply ik
 left
 unfold jD
 repeat' split
 all_goals simp [eB, lu, iU, nY, oD, iE]
theorem xX (k t : Nat) (l : List UInt8) : jd (jD k t (some l) false) = zq k t l := by
 unfold zq jD
 split
 ·cases h1 : bB l with
  | none => simp [dV h1, eB, lu, jd]
  | some x =>
   obtain ⟨x, r1⟩ := x
   simp only [Option.bind_some, aU h1]
   cases h2 : bB r1 with
   | none => simp [dV h2, eB, lu, jd]
   | some y =>
    obtain ⟨y, r2⟩ := y
    simp only [Option.bind_some]
    cases h3 : bB r2 with
    | none => simp [dV h3, aU h2, eB, lu, jd]
    | some z => obtain ⟨z, r3⟩ := z; simp [aU h3, aU h2, lu, jd]
 split
 ·cases h1 : bB l with
  | none => simp [dV h1, eB, jd]
  | some x =>
   obtain ⟨x, r1⟩ := x
   simp only [Option.bind_some, aU h1]
   cases h2 : bB r1 with
   | none => simp [dV h2, jd]
   | some y => obtain ⟨y, r2⟩ := y; simp [aU h2, jd]
 split
 ·cases h1 : bB l with
  | none => simp [dV h1, jd]
  | some x => obtain ⟨x, r1⟩ := x; simp [aU h1, jd]
 split
 ·cases h1 : bB l with
  | none =>
   simp only [Option.bind_none]
   exact ik (.inl (by simp [iU, nY, dV h1, oD, eB, iE]))
  | some x =>
   obtain ⟨m, r1⟩ := x
   simp only [Option.bind_some]
   by_cases hm : m ≤ r1.length
   ·rw [if_pos hm]
    have ht : nY (some l) = (r1.take m, some (r1.drop m)) := by simp [nY, aU h1, oD, hm]
    cases h2 : si (r1.take m) with
    | none =>
     simp only [Option.bind_none]
     refine ik (.inr ?_)
     simp only [iU, ht, h2, Option.isNone_none, Bool.or_true]
     exact jS _ _
    | some p =>
     simp only [Option.bind_some]
     have hp : iU (some l) false = (p, some (r1.drop m), false) := by simp [iU, ht, h2]
     simp only [hp]
     cases h3 : bB (r1.drop m) with
     | none => simp only [Option.bind_none]; exact ik (.inl (by simp [dV h3, iE]))
     | some y =>
      obtain ⟨n, r3⟩ := y
      simp only [Option.bind_some, aU h3]
      cases h4 : iL n r3 with
      | none => simp only [Option.bind_none]; exact ik (sI n r3 false h4)
      | some z =>
       obtain ⟨es, r4⟩ := z
       simp only [Option.bind_some]
       rw [pV n r3 r4 es false h4]
       simp [jd]
   ·rw [if_neg hm]
    exact ik (.inl (by simp [iU, nY, aU h1, oD, hm, eB, iE]))
 ·simp [jd]
theorem Ah (k : Nat) (b : List UInt8) (h : 1 ≤ k ∧ k ≤ 7) : jd (xU k b) = bW k b := by
 unfold xU bW
 rw [if_pos h]
 cases h1 : bB b with
 | none => rw [dV h1]; exact xW k 0 false
 | some x => obtain ⟨t, r⟩ := x; rw [aU h1]; exact xX k t r
theorem Ai {s : List UInt8} (h : ∀ n, s ≠ Lib.decDigits n) : bE s = none := by
 cases hn : bE s with
 | none => rfl
 | some n => exact absurd ((aK).1 hn).1 (h n)
theorem ut {r : Rec} (h : r.rightP) : r.p.size ≤ 900 ∧ r.p.depth ≤ 900 := by
 obtain ⟨q1, q7, hp, ho⟩ := h
 by_cases h5 : r.k = 5
 ·have hr := hp h5
  have hd := r.p.depth_le_size
  simp only [Ex.right, Bool.and_eq_true, decide_eq_true_eq] at hr
  exact ⟨by omega, by omega⟩
 ·have hz : r.p = .zero := by
   rw [← ho]
   unfold Rec.only
   rw [if_neg h5]
   split
   ·rfl
   split
   ·rfl
   split <;> rfl
  rw [hz]
  exact ⟨by decide, by decide⟩
theorem xY {r : Rec} (h : r.rightP) : r.es.length ≤ r.told.length := by
 obtain ⟨q1, q7, hp, ho⟩ := h
 by_cases h5 : r.k = 5
 ·unfold Rec.told Rec.words
  have ht : r.tail = r.p.told :: r.es.map Ent.told := by unfold Rec.tail; simp [h5]
  rw [ht, Lib.join_cons]
  have key : ∀ l : List (List UInt8), l.length ≤ (Lib.joinTail [32] l).length := by
   intro l
   induction l with
   | nil => simp
   | cons a l ih => simp only [Lib.joinTail, List.map_cons, List.flatten_cons, List.length_append, List.length_cons, List.length_nil] at ih ⊢; omega
  have := key (Lib.decDigits r.t :: r.p.told :: r.es.map Ent.told)
  simp only [List.length_append, List.length_cons, List.length_map] at this ⊢
  omega
 ·have hz : r.es = [] := by
   rw [← ho]
   unfold Rec.only
   rw [if_neg h5]
   split
   ·rfl
   split
   ·rfl
   split <;> rfl
  rw [hz]
  simp
theorem wm {s : List UInt8} {y : Rec} (h : aM s = some y) : y.p.size ≤ 900 ∧ y.p.depth ≤ 900 ∧ y.es.length ≤ s.length := by
 obtain ⟨h1, h2, h3⟩ := nU h
 have h4 := ut h1
 have h5 := xY h1
 rw [h3] at h5
 exact ⟨h4.1, h4.2, h5⟩
theorem mW : ∀ (l : List (List UInt8)) (n : Nat) (acc : List Rec) (q : Rec), q ∈ (dK l n acc).1 → q ∈ acc ∨ ∃ y ∈ l, aM y = some q
 | [], n, acc, q, h => .inl h
 | x :: r, n, acc, q, h => by
  rw [dK] at h
  split at h
  ·rcases mW r _ _ q h with h | ⟨y, hy, h⟩
   ·exact .inl h
   ·exact .inr ⟨y, List.mem_cons_of_mem _ hy, h⟩
  ·cases hb : aM x with
   | none => rw [hb] at h; cases h
   | some p =>
    rw [hb] at h
    rcases mW r _ _ q h with h | ⟨y, hy, h⟩
    ·rcases List.mem_append.1 h with h | h
     ·exact .inl h
     ·rw [List.mem_singleton] at h
      subst h
      exact .inr ⟨x, List.mem_cons_self, hb⟩
    ·exact .inr ⟨y, List.mem_cons_of_mem _ hy, h⟩
theorem Db {s x : List UInt8} (h : x ∈ lns s) : x ∈ cuts 10 s := by
 unfold lns at h
 split at h
 ·exact (List.dropLast_subset _) h
 ·exact h
theorem mX : ∀ (l : List (List UInt8)) (n : Nat) (acc : List Rec), (dK l n acc).1.length ≤ acc.length + l.length
 | [], n, acc => by simp [dK]
 | x :: r, n, acc => by
  rw [dK]
  split
  ·have := mX r (n + 1) acc
   simp only [List.length_cons]
   omega
  ·cases hb : aM x with
   | none => simp
   | some p =>
    have := mX r (n + 1) (acc ++ [p])
    simp only [List.length_cons, List.length_append, List.length_nil] at this ⊢
    omega
end Go.Proofs.YtlpgokcapdjgjaaGreatDoor
