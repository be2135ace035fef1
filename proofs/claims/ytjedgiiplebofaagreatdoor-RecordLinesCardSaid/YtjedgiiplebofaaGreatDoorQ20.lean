/- Records in memory: rows of entries, a record's cells. Plain lemmas, no program. Ahead of it: What is read as a predicate was told so: plain Lean. A text cut at a byte, and words joined by one: plain Lean. Texts told and read, what is turned, both: plain Lean. A right predicate's text and bytes: how long. Plain Lean. Records, how they are told, and the record of a text: plain Lean. The record that words might tell, by the reference: plain Lean. -/
import Derived.Test.YtjedgiiplebofaaGreatDoorQ9
import Derived.Test.YtjedgiiplebofaaGreatDoorQ35
import Derived.Test.YtjedgiiplebofaaGreatDoorQ31
import Derived.Test.YtjedgiiplebofaaGreatDoorQ19
import Derived.Lib.Split
import Derived.Lib.Join
namespace Go.Proofs.YtjedgiiplebofaaGreatDoor
open Go.RowKit Go
set_option linter.unusedVariables false
set_option linter.unusedSimpArgs false
theorem pre_eq {t s : List UInt8} (h : pre t s = true) : s = t ++ s.drop t.length := by
  unfold pre at h
  rw [List.isPrefixOf_iff_prefix] at h
  obtain ⟨r, rfl⟩ := h
  simp
theorem rfLoop_sound (rd : List UInt8 → Option (Ex × List UInt8)) (hrd : ∀ s e r, rd s = some (e, r) → s = e.told ++ r ∧ e.nums) : ∀ f s es r, rfLoop rd f s = some (es, r) → s = commas (Ex.tolds es) ++ 41 :: r ∧ Ex.numss es ∧ es ≠ [] := by
  intro f
  induction f with
  | zero => intro s es r h; simp [rfLoop] at h
  | succ f ih =>
    intro s es r h
    rw [rfLoop] at h
    split at h
    · cases h
    · rename_i e q hq
      obtain ⟨h1, h1n⟩ := hrd _ _ _ hq
      split at h
      · rename_i hp
        have hp2 := pre_eq hp
        injection h with h; injection h with h2 h3
        subst h2 h3
        refine ⟨?_, by simp only [Ex.numss]; exact ⟨h1n, trivial⟩, by simp⟩
        simp only [Ex.tolds, commas_one]
        rw [h1]
        congr 1
      · split at h
        · rename_i hp
          have hp2 := pre_eq hp
          simp only [Option.map_eq_some_iff] at h
          obtain ⟨⟨a, b⟩, h3, h4⟩ := h
          injection h4 with h5 h4; subst h4 h5
          obtain ⟨h6, h7, h8⟩ := ih _ _ _ h3
          refine ⟨?_, by simp only [Ex.numss]; exact ⟨h1n, h7⟩, by simp⟩
          cases a with
          | nil => exact absurd rfl h8
          | cons e2 es2 =>
            simp only [Ex.tolds, commas_two] at h6 ⊢
            rw [h1, hp2]
            simp only [List.length_singleton, List.singleton_append, List.append_assoc, List.cons_append] at h6 ⊢
            rw [h6]; simp
        · cases h
theorem rfParts_sound (rd : List UInt8 → Option (Ex × List UInt8)) (hrd : ∀ s e r, rd s = some (e, r) → s = e.told ++ r ∧ e.nums) (s : List UInt8) (es : List Ex) (r : List UInt8) (h : rfParts rd s = some (es, r)) : s = commas (Ex.tolds es) ++ 41 :: r ∧ Ex.numss es := by
  unfold rfParts at h
  split at h
  · rename_i hp
    have hp2 := pre_eq hp
    injection h with h; injection h with h2 h; subst h h2
    exact ⟨by simpa [Ex.tolds, commas, Lib.join_nil] using hp2, by simp only [Ex.numss]⟩
  · obtain ⟨h1, h2, _⟩ := rfLoop_sound rd hrd _ _ _ _ h
    exact ⟨h1, h2⟩
theorem rfE_sound (d : Nat) : ∀ s e r, rfE d s = some (e, r) → s = e.told ++ r ∧ e.nums := by
  induction d with
  | zero => intro s e r h; simp [rfE] at h
  | succ d ih =>
    intro s e r h
    rw [rfE] at h
    split at h
    · rename_i hp
      have hp2 := pre_eq hp
      injection h with h; injection h with h1 h; subst h h1
      exact ⟨by simpa [Ex.told, tellN] using hp2, by simp [Ex.nums, Ex.numss]⟩
    split at h
    · rename_i hp
      have hp2 := pre_eq hp
      simp only [Option.map_eq_some_iff] at h; obtain ⟨⟨a, b⟩, h3, h4⟩ := h; injection h4 with h5 h4; subst h4 h5
      obtain ⟨h6, h7, _⟩ := rdNum_some h3
      exact ⟨by rw [hp2]; simp only [List.length_cons, List.length_nil] at h6 ⊢; rw [h6]; simp [Ex.told, tellN], by simp [Ex.nums, Ex.numss]; exact h7⟩
    split at h
    · rename_i hp
      have hp2 := pre_eq hp
      simp only [Option.map_eq_some_iff] at h; obtain ⟨⟨a, b⟩, h3, h4⟩ := h; injection h4 with h5 h4; subst h4 h5
      obtain ⟨h6, h7, _⟩ := rdNum_some h3
      exact ⟨by rw [hp2]; simp only [List.length_cons, List.length_nil] at h6 ⊢; rw [h6]; simp [Ex.told, tellN], by simp [Ex.nums, Ex.numss]; exact h7⟩
    split at h
    · rename_i hp
      have hp2 := pre_eq hp
      split at h
      · cases h
      · rename_i a q hq
        obtain ⟨h1, h2, _⟩ := rdNum_some hq
        split at h
        · rename_i hpp
          have hp3 := pre_eq hpp
          simp only [Option.map_eq_some_iff] at h; obtain ⟨⟨a2, b⟩, h3, h4⟩ := h; injection h4 with h5 h4; subst h4 h5
          obtain ⟨h6, h7, _⟩ := rdNum_some h3
          exact ⟨by rw [hp2]; simp only [List.length_cons, List.length_nil] at h1 h6 hp3 ⊢; rw [h1, hp3, h6]; simp [Ex.told, tellN], by simp [Ex.nums, Ex.numss]; exact ⟨h2, h7⟩⟩
        · cases h
    split at h
    · rename_i hp
      have hp2 := pre_eq hp
      simp only [Option.map_eq_some_iff] at h; obtain ⟨⟨a, b⟩, h3, h4⟩ := h; injection h4 with h5 h4; subst h4 h5
      obtain ⟨h6, h7⟩ := ih _ _ _ h3
      exact ⟨by rw [hp2]; simp only [List.length_cons, List.length_nil] at h6 ⊢; rw [h6]; simp [Ex.told, Ex.tolds, tellN, commas_one], by simp [Ex.nums, Ex.numss]; exact h7⟩
    split at h
    · rename_i hp
      have hp2 := pre_eq hp
      simp only [Option.map_eq_some_iff] at h; obtain ⟨⟨a, b⟩, h3, h4⟩ := h; injection h4 with h5 h4; subst h4 h5
      obtain ⟨h6, h7⟩ := rfParts_sound _ ih _ _ _ h3
      exact ⟨by rw [hp2]; simp only [List.length_cons, List.length_nil] at h6 ⊢; rw [h6]; simp [Ex.told, tellN], by simp [Ex.nums]; exact h7⟩
    split at h
    · rename_i hp
      have hp2 := pre_eq hp
      simp only [Option.map_eq_some_iff] at h; obtain ⟨⟨a, b⟩, h3, h4⟩ := h; injection h4 with h5 h4; subst h4 h5
      obtain ⟨h6, h7⟩ := rfParts_sound _ ih _ _ _ h3
      exact ⟨by rw [hp2]; simp only [List.length_cons, List.length_nil] at h6 ⊢; rw [h6]; simp [Ex.told, tellN], by simp [Ex.nums]; exact h7⟩
    · cases h
theorem rdText_sound {s : List UInt8} {e : Ex} (h : rdText s = some e) : e.right = true ∧ e.nums ∧ e.told = s := by
  unfold rdText at h
  split at h
  · rename_i e2 hq
    split at h
    · rename_i hr
      injection h with h; subst h
      obtain ⟨h1, h2⟩ := rfE_sound 8 _ _ _ hq
      exact ⟨hr, h2, by simpa using h1.symm⟩
    · cases h
  · cases h
end Go.Proofs.YtjedgiiplebofaaGreatDoor
namespace Go.Proofs.YtjedgiiplebofaaGreatDoor
open Go.RowKit Go
set_option linter.unusedVariables false
set_option linter.unusedSimpArgs false
def cuts (c : UInt8) : List UInt8 → List (List UInt8)
  | [] => [[]]
  | b :: l => if b = c then [] :: cuts c l else match cuts c l with
    | [] => [[b]]
    | x :: r => (b :: x) :: r
theorem cuts_ne (c : UInt8) (l : List UInt8) : cuts c l ≠ [] := by
  cases l with
  | nil => simp [cuts]
  | cons b l =>
    simp only [cuts]
    split
    · simp
    · split <;> simp
theorem cuts_other {c b : UInt8} {l x : List UInt8} {r : List (List UInt8)} (hb : b ≠ c) (h : cuts c l = x :: r) : cuts c (b :: l) = (b :: x) :: r := by
  simp only [cuts]
  rw [if_neg hb, h]
theorem cuts_here (c : UInt8) (l : List UInt8) : cuts c (c :: l) = [] :: cuts c l := by
  simp only [cuts, if_true]
theorem cuts_none {c : UInt8} {l : List UInt8} (h : c ∉ l) : cuts c l = [l] := by
  induction l with
  | nil => rfl
  | cons b l ih =>
    simp only [List.mem_cons, not_or] at h
    exact cuts_other (fun e => h.1 e.symm) (ih h.2)
theorem cuts_at {c : UInt8} {x : List UInt8} (l : List UInt8) (h : c ∉ x) : cuts c (x ++ c :: l) = x :: cuts c l := by
  induction x with
  | nil => exact cuts_here c l
  | cons b x ih =>
    simp only [List.mem_cons, not_or] at h
    exact cuts_other (fun e => h.1 e.symm) (ih h.2)
theorem cuts_join (c : UInt8) (l : List UInt8) : Lib.join (cuts c l) [c] = l := by
  induction l with
  | nil => simp [cuts, Lib.join_one]
  | cons b l ih =>
    by_cases hb : b = c
    · subst hb
      rw [cuts_here]
      cases hq : cuts b l with
      | nil => exact absurd hq (cuts_ne _ _)
      | cons x r =>
        rw [hq] at ih
        rw [Lib.join_cons] at ih ⊢
        simp only [Lib.joinTail, List.nil_append, List.singleton_append, List.append_assoc] at ih ⊢
        simp [Lib.joinTail, ih]
    · cases hq : cuts c l with
      | nil => exact absurd hq (cuts_ne _ _)
      | cons x r =>
        rw [cuts_other hb hq]
        rw [hq] at ih
        rw [Lib.join_cons] at ih ⊢
        simp only [List.cons_append]
        rw [ih]
theorem cuts_of_join {c : UInt8} : ∀ {ws : List (List UInt8)}, ws ≠ [] → (∀ x ∈ ws, c ∉ x) → cuts c (Lib.join ws [c]) = ws
  | [], h, _ => absurd rfl h
  | [x], _, h => by rw [Lib.join_one]; exact cuts_none (h x (by simp))
  | x :: y :: ws, _, h => by
    have ih := cuts_of_join (c := c) (ws := y :: ws) (by simp) (fun z hz => h z (by simp only [List.mem_cons] at hz ⊢; exact .inr hz))
    rw [Lib.join_cons] at ih ⊢
    rw [show Lib.joinTail [c] (y :: ws) = c :: (y ++ Lib.joinTail [c] ws) from by simp [Lib.joinTail], cuts_at _ (h x (by simp)), ih]
theorem cuts_snoc_here (c : UInt8) (l : List UInt8) : cuts c (l ++ [c]) = cuts c l ++ [[]] := by
  induction l with
  | nil => simp [cuts]
  | cons b l ih =>
    rw [List.cons_append]
    by_cases hb : b = c
    · subst hb; rw [cuts_here, cuts_here, ih, List.cons_append]
    · cases hq : cuts c l with
      | nil => exact absurd hq (cuts_ne _ _)
      | cons x r =>
        rw [cuts_other hb hq]
        rw [hq] at ih
        rw [cuts_other hb (by rw [ih]; rfl)]
        rfl
theorem cuts_snoc_other {c b : UInt8} (hb : b ≠ c) (l : List UInt8) : ∀ {x : List UInt8} {r : List (List UInt8)}, cuts c l = r ++ [x] → cuts c (l ++ [b]) = r ++ [x ++ [b]] := by
  induction l with
  | nil =>
    intro x r h
    simp only [cuts] at h
    have : r = [] ∧ x = [] := by
      cases r with
      | nil => simpa using h.symm
      | cons a r => simp at h
    obtain ⟨rfl, rfl⟩ := this
    simp [cuts, hb]
  | cons a l ih =>
    intro x r h
    rw [List.cons_append]
    by_cases ha : a = c
    · subst ha
      rw [cuts_here] at h ⊢
      cases r with
      | nil =>
        simp only [List.nil_append, List.cons.injEq] at h
        exact absurd h.2 (cuts_ne _ _)
      | cons y r =>
        simp only [List.cons_append, List.cons.injEq] at h ⊢
        exact ⟨h.1, ih h.2⟩
    · cases hq : cuts c l with
      | nil => exact absurd hq (cuts_ne _ _)
      | cons y q =>
        rw [cuts_other ha hq] at h
        cases r with
        | nil =>
          simp only [List.nil_append, List.cons.injEq] at h
          obtain ⟨rfl, rfl⟩ := h
          have := ih (x := y) (r := []) (by rw [hq]; rfl)
          rw [cuts_other ha (by rw [this]; rfl)]
          rfl
        | cons z r =>
          simp only [List.cons_append, List.cons.injEq] at h
          obtain ⟨rfl, rfl⟩ := h
          have := ih (x := x) (r := y :: r) (by rw [hq]; rfl)
          rw [cuts_other ha (by rw [this]; rfl)]
          rfl
theorem index_one (c : UInt8) (l : List UInt8) : Lib.index l [c] = if c ∈ l then ((l.takeWhile (fun b => decide (b ≠ c))).length : Int) else -1 := by
  induction l with
  | nil => simp [Lib.index]
  | cons b l ih =>
    unfold Lib.index
    by_cases hb : b = c
    · subst hb; simp
    · have h1 : ([c].isPrefixOf (b :: l)) = false := by simp [List.isPrefixOf]; exact fun e => hb e.symm
      rw [h1, ih]
      by_cases hm : c ∈ l
      · have e1 : (((l.takeWhile (fun b => decide (b ≠ c))).length : Int) == -1) = false := beq_eq_false_iff_ne.2 (by omega)
        have e2 : c ∈ b :: l := List.mem_cons_of_mem _ hm
        have e3 : (b :: l).takeWhile (fun b => decide (b ≠ c)) = b :: l.takeWhile (fun b => decide (b ≠ c)) := List.takeWhile_cons_of_pos (by simp [hb])
        simp only [hm, e2, if_true, Bool.false_eq_true, if_false, e1, e3, List.length_cons]
        omega
      · have e2 : ¬ c ∈ b :: l := fun h => by
          rcases List.mem_cons.1 h with h | h
          · exact hb h.symm
          · exact hm h
        simp only [hm, e2, if_false, Bool.false_eq_true]
        rfl
theorem takeWhile_split {c : UInt8} {l : List UInt8} (h : c ∈ l) : ∃ x r, l = x ++ c :: r ∧ c ∉ x ∧ Lib.index l [c] = x.length := by
  obtain ⟨x, r, h1, h2⟩ := List.eq_append_cons_of_mem h
  refine ⟨x, r, h1, h2, ?_⟩
  rw [index_one, if_pos h]
  subst h1
  rw [List.takeWhile_append_of_pos (by intro a ha; simp; intro e; subst e; exact h2 ha), List.takeWhile_cons_of_neg (by simp)]
  simp
theorem splitK_cuts (c : UInt8) : ∀ (k : Nat) (l : List UInt8), l.count c ≤ k → Lib.splitK [c] 0 k l = cuts c l
  | 0, l, h => by
    have hn : c ∉ l := fun hm => by have := List.count_pos_iff.2 hm; omega
    rw [cuts_none hn]; rfl
  | k + 1, l, h => by
    unfold Lib.splitK
    by_cases hm : c ∈ l
    · obtain ⟨x, r, h1, h2, h3⟩ := takeWhile_split hm
      rw [h3, if_neg (by simp <;> omega)]
      subst h1
      rw [cuts_at _ h2]
      have hc : (x ++ c :: r).count c = r.count c + 1 := by
        rw [List.count_append, List.count_eq_zero.2 h2, List.count_cons_self]; omega
      simp only [Int.toNat_natCast, Nat.add_zero, List.length_singleton]
      rw [List.take_left, show x.length + 1 = (x ++ [c]).length from by simp, show x ++ c :: r = (x ++ [c]) ++ r from by simp, List.drop_left, splitK_cuts c k r (by omega)]
    · rw [index_one, if_neg hm, if_pos (by simp), cuts_none hm]
theorem countFrom_one (c : UInt8) : ∀ (f : Nat) (l : List UInt8), l.length < f → l.count c ≤ Lib.countFrom [c] f l
  | 0, l, h => by omega
  | f + 1, l, h => by
    unfold Lib.countFrom
    by_cases hm : c ∈ l
    · obtain ⟨x, r, h1, h2, h3⟩ := takeWhile_split hm
      rw [h3, if_neg (by simp <;> omega)]
      subst h1
      simp only [Int.toNat_natCast, List.length_singleton]
      rw [show x.length + 1 = (x ++ [c]).length from by simp, show x ++ c :: r = (x ++ [c]) ++ r from by simp, List.drop_left]
      have := countFrom_one c f r (by simp at h; omega)
      rw [List.append_assoc, List.count_append, List.count_eq_zero.2 h2, List.singleton_append, List.count_cons_self]
      omega
    · rw [List.count_eq_zero.2 hm]; omega
end Go.Proofs.YtjedgiiplebofaaGreatDoor
namespace Go.Proofs.YtjedgiiplebofaaGreatDoor
open Go.RowKit Go
set_option linter.unusedVariables false
set_option linter.unusedSimpArgs false
theorem rdText_text {e : Ex} (h : e.right = true) (hn : e.nums) : rdText e.text = some e := by
  obtain ⟨h1, h2, _⟩ := right_parts h
  have ht : e.text = e.told := by unfold Ex.text; rw [if_pos h]
  have := rfE_told e 8 [] h1 hn h2 (by intro c hc; cases hc)
  rw [List.append_nil, ← ht] at this
  rw [rdText_of this, if_pos ⟨rfl, h⟩]
end Go.Proofs.YtjedgiiplebofaaGreatDoor
namespace Go.Proofs.YtjedgiiplebofaaGreatDoor
open Go.RowKit Go
set_option linter.unusedVariables false
set_option linter.unusedSimpArgs false
end Go.Proofs.YtjedgiiplebofaaGreatDoor
namespace Go.Proofs.YtjedgiiplebofaaGreatDoor
open Go.RowKit Go
set_option linter.unusedVariables false
set_option linter.unusedSimpArgs false
structure Ent where
  x : Nat
  w : Nat
  n : Nat
  m : Bool
structure Rec where
  k : Int
  t : Nat
  x : Nat
  w : Nat
  n : Nat
  v : Nat
  p : Ex
  es : List Ent
def Rec.zero : Rec := ⟨0, 0, 0, 0, 0, 0, .zero, []⟩
def Ent.ok (e : Ent) : Prop := e.x < 18446744073709551616 ∧ e.w < 18446744073709551616 ∧ e.n < 18446744073709551616
def Rec.nums (r : Rec) : Prop := r.t < 18446744073709551616 ∧ r.x < 18446744073709551616 ∧ r.w < 18446744073709551616 ∧ r.n < 18446744073709551616 ∧ r.v < 18446744073709551616 ∧ r.p.nums ∧ ∀ e ∈ r.es, e.ok
def verT (w n : Nat) : List UInt8 := Lib.decDigits w ++ 46 :: Lib.decDigits n
def flagT (m : Bool) : List UInt8 := if m then [49] else [48]
def Ent.told (e : Ent) : List UInt8 := Lib.decDigits e.x ++ 58 :: (verT e.w e.n ++ 58 :: flagT e.m)
def wordOf (k : Int) : List UInt8 :=
  if k = 1 then [98, 101, 103, 105, 110] else if k = 2 then [114, 101, 97, 100] else if k = 3 then [119, 114, 105, 116, 101] else if k = 4 then [100, 101, 108, 101, 116, 101]
  else if k = 5 then [112, 114, 101, 100] else if k = 6 then [99, 111, 109, 109, 105, 116] else [97, 98, 111, 114, 116]
def kindOf (w : List UInt8) : Nat :=
  if w = wordOf 1 then 1 else if w = wordOf 2 then 2 else if w = wordOf 3 then 3 else if w = wordOf 4 then 4 else if w = wordOf 5 then 5 else if w = wordOf 6 then 6 else if w = wordOf 7 then 7 else 0
def Rec.tail (r : Rec) : List (List UInt8) :=
  if r.k = 2 then [Lib.decDigits r.x, verT r.w r.n] else if r.k = 3 then [Lib.decDigits r.x, Lib.decDigits r.v] else if r.k = 4 then [Lib.decDigits r.x] else if r.k = 5 then r.p.told :: r.es.map Ent.told else []
def Rec.words (r : Rec) : List (List UInt8) := wordOf r.k :: Lib.decDigits r.t :: r.tail
def Rec.told (r : Rec) : List UInt8 := Lib.join r.words [32]
/-- A record of its kind's parts alone. -/
def Rec.only (r : Rec) : Rec :=
  if r.k = 2 then ⟨r.k, r.t, r.x, r.w, r.n, 0, .zero, []⟩ else if r.k = 3 then ⟨r.k, r.t, r.x, 0, 0, r.v, .zero, []⟩ else if r.k = 4 then ⟨r.k, r.t, r.x, 0, 0, 0, .zero, []⟩
  else if r.k = 5 then ⟨r.k, r.t, 0, 0, 0, 0, r.p, r.es⟩ else ⟨r.k, r.t, 0, 0, 0, 0, .zero, []⟩
def Rec.rightP (r : Rec) : Prop := 1 ≤ r.k ∧ r.k ≤ 7 ∧ (r.k = 5 → r.p.right = true) ∧ r.only = r
/-! Numbers, versions, entries of a text -/
def numB (s : List UInt8) : Option Nat := if Lib.decDigits (numOf s) = s ∧ numOf s < 18446744073709551616 then some (numOf s) else none
theorem numB_some {s : List UInt8} {n : Nat} : numB s = some n ↔ s = Lib.decDigits n ∧ n < 18446744073709551616 := by
  unfold numB
  constructor
  · intro h
    split at h
    · rename_i hc; injection h with h; subst h; exact ⟨hc.1.symm, hc.2⟩
    · cases h
  · rintro ⟨rfl, h⟩
    rw [numOf_decDigits, if_pos ⟨rfl, h⟩]
def verB (s : List UInt8) : Option (Nat × Nat) := match cuts 46 s with
  | [a, b] => (numB a).bind fun w => (numB b).map fun n => (w, n)
  | _ => none
def entB (s : List UInt8) : Option Ent := match cuts 58 s with
  | [a, b, f] => if f = [48] ∨ f = [49] then (numB a).bind fun x => (verB b).map fun v => ⟨x, v.1, v.2, decide (f = [49])⟩ else none
  | _ => none
def entsB : List (List UInt8) → Option (List Ent)
  | [] => some []
  | s :: l => (entB s).bind fun e => (entsB l).map fun es => e :: es
def tailB (k t : Nat) (l : List (List UInt8)) : Option Rec :=
  if k = 2 then match l with
    | [a, b] => (numB a).bind fun x => (verB b).map fun v => ⟨2, t, x, v.1, v.2, 0, .zero, []⟩
    | _ => none
  else if k = 3 then match l with
    | [a, b] => (numB a).bind fun x => (numB b).map fun v => ⟨3, t, x, 0, 0, v, .zero, []⟩
    | _ => none
  else if k = 4 then match l with
    | [a] => (numB a).map fun x => ⟨4, t, x, 0, 0, 0, .zero, []⟩
    | _ => none
  else if k = 5 then match l with
    | a :: es => (rdText a).bind fun p => (entsB es).map fun es => ⟨5, t, 0, 0, 0, 0, p, es⟩
    | _ => none
  else if l = [] then some ⟨k, t, 0, 0, 0, 0, .zero, []⟩ else none
/-- The record of a text. -/
def lineB (s : List UInt8) : Option Rec := match cuts 32 s with
  | w :: a :: l => if kindOf w = 0 then none else (numB a).bind fun t => tailB (kindOf w) t l
  | _ => none
/-! No word holds what parts it from the next one -/
theorem digits_no {n : Nat} {c : UInt8} (hc : isD c = false) : c ∉ Lib.decDigits n := fun h => by
  have := decDigits_isD n c h
  rw [hc] at this; cases this
theorem verT_no {w n : Nat} {c : UInt8} (hc : isD c = false) (h2 : c ≠ 46) : c ∉ verT w n := by
  unfold verT
  simp only [List.mem_append, List.mem_cons, not_or]
  exact ⟨digits_no hc, h2, digits_no hc⟩
theorem flagT_no {m : Bool} {c : UInt8} (hc : isD c = false) : c ∉ flagT m := by
  cases m
  · simp only [flagT, Bool.false_eq_true, if_false, List.mem_singleton]; intro e; subst e; cases hc
  · simp only [flagT, if_true, List.mem_singleton]; intro e; subst e; cases hc
theorem entT_no {e : Ent} : (32 : UInt8) ∉ e.told := by
  unfold Ent.told
  simp only [List.mem_append, List.mem_cons, not_or]
  exact ⟨digits_no (by decide), by decide, verT_no (by decide) (by decide), by decide, flagT_no (by decide)⟩
theorem commas_no {c : UInt8} (hc : c ≠ 44) : ∀ (l : List (List UInt8)), (∀ x ∈ l, c ∉ x) → c ∉ commas l
  | [], _ => by simp [commas, Lib.join_nil]
  | [x], h => by rw [commas_one]; exact h x (by simp)
  | x :: y :: l, h => by
    rw [commas_two]
    simp only [List.mem_append, List.mem_cons, not_or]
    exact ⟨h x (by simp), hc, commas_no hc (y :: l) (fun z hz => h z (List.mem_cons_of_mem _ hz))⟩
mutual
theorem told_no : ∀ e : Ex, (32 : UInt8) ∉ e.told
  | .mk k a b ps => by
    have h1 := tolds_no ps
    have h2 := commas_no (c := 32) (by decide) _ h1
    simp only [Ex.told, tellN]
    split
    · decide
    split
    · simp only [List.mem_append, not_or]; exact ⟨by decide, digits_no (by decide)⟩
    split
    · simp only [List.mem_append, not_or]; exact ⟨by decide, digits_no (by decide)⟩
    split
    · simp only [List.mem_append, not_or]; exact ⟨⟨⟨by decide, digits_no (by decide)⟩, by decide⟩, digits_no (by decide)⟩
    split
    · simp only [List.mem_append, not_or]; exact ⟨by decide, h2⟩
    split
    · simp only [List.mem_append, not_or]; exact ⟨⟨by decide, h2⟩, by decide⟩
    · simp only [List.mem_append, not_or]; exact ⟨⟨by decide, h2⟩, by decide⟩
theorem tolds_no : ∀ es : List Ex, ∀ x ∈ Ex.tolds es, (32 : UInt8) ∉ x
  | [], x, h => by simp [Ex.tolds] at h
  | e :: es, x, h => by
    simp only [Ex.tolds, List.mem_cons] at h
    rcases h with rfl | h
    · exact told_no e
    · exact tolds_no es x h
end
theorem kind_seven {k : Int} (h1 : 1 ≤ k) (h7 : k ≤ 7) : k = 1 ∨ k = 2 ∨ k = 3 ∨ k = 4 ∨ k = 5 ∨ k = 6 ∨ k = 7 := by omega
theorem word_no {k : Int} (h1 : 1 ≤ k) (h7 : k ≤ 7) : (32 : UInt8) ∉ wordOf k := by
  rcases kind_seven h1 h7 with rfl | rfl | rfl | rfl | rfl | rfl | rfl <;> decide
theorem kindOf_word {k : Int} (h1 : 1 ≤ k) (h7 : k ≤ 7) : (kindOf (wordOf k) : Int) = k := by
  rcases kind_seven h1 h7 with rfl | rfl | rfl | rfl | rfl | rfl | rfl <;> decide
theorem kindOf_some {w : List UInt8} (h : kindOf w ≠ 0) : w = wordOf (kindOf w) ∧ 1 ≤ kindOf w ∧ kindOf w ≤ 7 := by
  have key : ∀ k : Nat, 1 ≤ k → k ≤ 7 → w = wordOf k → w = wordOf (kindOf w) ∧ 1 ≤ kindOf w ∧ kindOf w ≤ 7 := fun k h1 h7 e => by
    have h2 := kindOf_word (k := k) (by omega) (by omega)
    rw [← e] at h2
    exact ⟨by rw [h2]; exact e, by omega, by omega⟩
  by_cases e1 : w = wordOf 1
  · exact key 1 (by omega) (by omega) e1
  by_cases e2 : w = wordOf 2
  · exact key 2 (by omega) (by omega) e2
  by_cases e3 : w = wordOf 3
  · exact key 3 (by omega) (by omega) e3
  by_cases e4 : w = wordOf 4
  · exact key 4 (by omega) (by omega) e4
  by_cases e5 : w = wordOf 5
  · exact key 5 (by omega) (by omega) e5
  by_cases e6 : w = wordOf 6
  · exact key 6 (by omega) (by omega) e6
  by_cases e7 : w = wordOf 7
  · exact key 7 (by omega) (by omega) e7
  exact absurd (by unfold kindOf; rw [if_neg e1, if_neg e2, if_neg e3, if_neg e4, if_neg e5, if_neg e6, if_neg e7]) h
theorem verB_some {s : List UInt8} {w n : Nat} : verB s = some (w, n) ↔ s = verT w n ∧ w < 18446744073709551616 ∧ n < 18446744073709551616 := by
  constructor
  · intro h
    unfold verB at h
    split at h
    · rename_i a b hc
      have hj := cuts_join 46 s
      rw [hc] at hj
      simp only [Option.bind_eq_some_iff, Option.map_eq_some_iff, Prod.mk.injEq] at h
      obtain ⟨x, h1, y, h2, rfl, rfl⟩ := h
      obtain ⟨rfl, h3⟩ := numB_some.1 h1
      obtain ⟨rfl, h4⟩ := numB_some.1 h2
      exact ⟨by rw [← hj]; simp [Lib.join_cons, Lib.joinTail, verT], h3, h4⟩
    · cases h
  · rintro ⟨rfl, h1, h2⟩
    unfold verB verT
    rw [cuts_at _ (digits_no (by decide)), cuts_none (digits_no (by decide))]
    simp only [Option.bind_eq_some_iff, Option.map_eq_some_iff]
    exact ⟨w, numB_some.2 ⟨rfl, h1⟩, n, numB_some.2 ⟨rfl, h2⟩, rfl⟩
theorem entB_some {s : List UInt8} {e : Ent} : entB s = some e ↔ s = e.told ∧ e.ok := by
  constructor
  · intro h
    unfold entB at h
    split at h
    · rename_i a b f hc
      have hj := cuts_join 58 s
      rw [hc] at hj
      split at h
      · rename_i hf
        simp only [Option.bind_eq_some_iff, Option.map_eq_some_iff] at h
        obtain ⟨x, h1, ⟨v, u⟩, h2, rfl⟩ := h
        obtain ⟨rfl, h3⟩ := numB_some.1 h1
        obtain ⟨rfl, h4, h5⟩ := verB_some.1 h2
        refine ⟨?_, h3, h4, h5⟩
        rw [← hj]
        rcases hf with rfl | rfl <;> simp [Lib.join_cons, Lib.joinTail, Ent.told, flagT]
      · cases h
    · cases h
  · rintro ⟨rfl, h1, h2, h3⟩
    obtain ⟨x, w, n, m⟩ := e
    unfold entB Ent.told
    rw [cuts_at _ (digits_no (by decide)), cuts_at _ (verT_no (by decide) (by decide)), cuts_none (flagT_no (by decide))]
    have hf : flagT m = [48] ∨ flagT m = [49] := by cases m <;> simp [flagT]
    have hm : decide (flagT m = [49]) = m := by cases m <;> decide
    simp only
    rw [if_pos hf, hm]
    simp only [Option.bind_eq_some_iff, Option.map_eq_some_iff]
    exact ⟨x, numB_some.2 ⟨rfl, h1⟩, (w, n), verB_some.2 ⟨rfl, h2, h3⟩, rfl⟩
theorem entsB_some : ∀ {l : List (List UInt8)} {es : List Ent}, entsB l = some es ↔ l = es.map Ent.told ∧ ∀ e ∈ es, e.ok
  | [], es => by
    simp only [entsB, Option.some.injEq]
    constructor
    · rintro rfl; simp
    · rintro ⟨h, _⟩
      cases es with
      | nil => rfl
      | cons e es => simp at h
  | s :: l, es => by
    simp only [entsB, Option.bind_eq_some_iff, Option.map_eq_some_iff]
    constructor
    · rintro ⟨e, h1, es', h2, rfl⟩
      obtain ⟨rfl, h3⟩ := entB_some.1 h1
      obtain ⟨rfl, h4⟩ := entsB_some.1 h2
      exact ⟨rfl, fun z hz => by rcases List.mem_cons.1 hz with rfl | hz; exact h3; exact h4 z hz⟩
    · rintro ⟨h, h2⟩
      cases es with
      | nil => simp at h
      | cons e es =>
        simp only [List.map_cons, List.cons.injEq] at h
        obtain ⟨rfl, rfl⟩ := h
        exact ⟨e, entB_some.2 ⟨rfl, h2 e (by simp)⟩, es, entsB_some.2 ⟨rfl, fun z hz => h2 z (by simp [hz])⟩, rfl⟩
theorem rdText_told {e : Ex} (h : e.right = true) (hn : e.nums) : rdText e.told = some e := by
  have := rdText_text h hn
  unfold Ex.text at this
  rwa [if_pos h] at this
theorem zero_nums : Ex.zero.nums := by simp [Ex.zero, Ex.nums, Ex.numss]
/-- What stands behind T. -/
theorem tailB_sound {k t : Nat} {l : List (List UInt8)} {r : Rec} (h1 : 1 ≤ k) (h7 : k ≤ 7) (ht : t < 18446744073709551616) (h : tailB k t l = some r) : r.k = k ∧ r.t = t ∧ r.rightP ∧ r.nums ∧ l = r.tail := by
  unfold tailB at h
  split at h
  · rename_i hk; subst hk
    split at h
    · simp only [Option.bind_eq_some_iff, Option.map_eq_some_iff] at h
      obtain ⟨x, h2, ⟨v, u⟩, h3, rfl⟩ := h
      obtain ⟨rfl, h4⟩ := numB_some.1 h2
      obtain ⟨rfl, h5, h6⟩ := verB_some.1 h3
      exact ⟨rfl, rfl, ⟨by dsimp only; omega, by dsimp only; omega, fun h => absurd h (by dsimp only; omega), rfl⟩, ⟨ht, h4, h5, h6, by dsimp only; omega, zero_nums, by simp⟩, rfl⟩
    · cases h
  split at h
  · rename_i hk; subst hk
    split at h
    · simp only [Option.bind_eq_some_iff, Option.map_eq_some_iff] at h
      obtain ⟨x, h2, v, h3, rfl⟩ := h
      obtain ⟨rfl, h4⟩ := numB_some.1 h2
      obtain ⟨rfl, h5⟩ := numB_some.1 h3
      exact ⟨rfl, rfl, ⟨by dsimp only; omega, by dsimp only; omega, fun h => absurd h (by dsimp only; omega), rfl⟩, ⟨ht, h4, by dsimp only; omega, by dsimp only; omega, h5, zero_nums, by simp⟩, rfl⟩
    · cases h
  split at h
  · rename_i hk; subst hk
    split at h
    · simp only [Option.map_eq_some_iff] at h
      obtain ⟨x, h2, rfl⟩ := h
      obtain ⟨rfl, h4⟩ := numB_some.1 h2
      exact ⟨rfl, rfl, ⟨by dsimp only; omega, by dsimp only; omega, fun h => absurd h (by dsimp only; omega), rfl⟩, ⟨ht, h4, by dsimp only; omega, by dsimp only; omega, by dsimp only; omega, zero_nums, by simp⟩, rfl⟩
    · cases h
  split at h
  · rename_i hk; subst hk
    split at h
    · simp only [Option.bind_eq_some_iff, Option.map_eq_some_iff] at h
      obtain ⟨p, h2, es, h3, rfl⟩ := h
      obtain ⟨h4, h5, rfl⟩ := rdText_sound h2
      obtain ⟨rfl, h6⟩ := entsB_some.1 h3
      exact ⟨rfl, rfl, ⟨by dsimp only; omega, by dsimp only; omega, fun _ => h4, rfl⟩, ⟨ht, by dsimp only; omega, by dsimp only; omega, by dsimp only; omega, by dsimp only; omega, h5, h6⟩, rfl⟩
    · cases h
  split at h
  · rename_i n2 n3 n4 n5 hl
    injection h with h; subst h hl
    have hk : k = 1 ∨ k = 6 ∨ k = 7 := by omega
    rcases hk with rfl | rfl | rfl
    all_goals exact ⟨rfl, rfl, ⟨by dsimp only; omega, by dsimp only; omega, fun h => absurd h (by dsimp only; omega), rfl⟩, ⟨ht, by dsimp only; omega, by dsimp only; omega, by dsimp only; omega, by dsimp only; omega, zero_nums, by simp⟩, rfl⟩
  · cases h
theorem tailB_tail {r : Rec} (h : r.rightP) (hn : r.nums) : tailB r.k.toNat r.t r.tail = some r := by
  obtain ⟨k, t, x, w, n, v, p, es⟩ := r
  obtain ⟨h1, h7, h5, ho⟩ := h
  obtain ⟨n1, n2, n3, n4, n5, n6, n7⟩ := hn
  simp only at h1 h7 h5 n1 n2 n3 n4 n5 n6 n7
  rcases kind_seven h1 h7 with rfl | rfl | rfl | rfl | rfl | rfl | rfl
  all_goals simp [Rec.only] at ho
  · obtain ⟨rfl, rfl, rfl, rfl, rfl, rfl⟩ := ho; rfl
  · obtain ⟨rfl, rfl, rfl⟩ := ho
    show tailB 2 t [Lib.decDigits x, verT w n] = _
    unfold tailB
    rw [if_pos rfl]
    simp only [numB_some.2 ⟨rfl, n2⟩, verB_some.2 ⟨rfl, n3, n4⟩, Option.bind_some, Option.map_some]
  · obtain ⟨rfl, rfl, rfl, rfl⟩ := ho
    show tailB 3 t [Lib.decDigits x, Lib.decDigits v] = _
    unfold tailB
    rw [if_neg (by decide), if_pos rfl]
    simp only [numB_some.2 ⟨rfl, n2⟩, numB_some.2 ⟨rfl, n5⟩, Option.bind_some, Option.map_some]
  · obtain ⟨rfl, rfl, rfl, rfl, rfl⟩ := ho
    show tailB 4 t [Lib.decDigits x] = _
    unfold tailB
    rw [if_neg (by decide), if_neg (by decide), if_pos rfl]
    simp only [numB_some.2 ⟨rfl, n2⟩, Option.map_some]
  · obtain ⟨rfl, rfl, rfl, rfl⟩ := ho
    show tailB 5 t (p.told :: es.map Ent.told) = _
    unfold tailB
    rw [if_neg (by decide), if_neg (by decide), if_neg (by decide), if_pos rfl]
    simp only [rdText_told (h5 rfl) n6, entsB_some.2 ⟨rfl, n7⟩, Option.bind_some, Option.map_some]
  · obtain ⟨rfl, rfl, rfl, rfl, rfl, rfl⟩ := ho; rfl
  · obtain ⟨rfl, rfl, rfl, rfl, rfl, rfl⟩ := ho; rfl
/-- What is read as a record is right, and was told so. -/
theorem lineB_sound {s : List UInt8} {r : Rec} (h : lineB s = some r) : r.rightP ∧ r.nums ∧ r.told = s := by
  unfold lineB at h
  split at h
  · rename_i w a l hc
    have hj := cuts_join 32 s
    rw [hc] at hj
    split at h
    · cases h
    · rename_i hk
      obtain ⟨hw, h1, h7⟩ := kindOf_some hk
      simp only [Option.bind_eq_some_iff] at h
      obtain ⟨t, h2, h3⟩ := h
      obtain ⟨rfl, h4⟩ := numB_some.1 h2
      obtain ⟨e1, e2, h5, h6, h8⟩ := tailB_sound h1 h7 h4 h3
      refine ⟨h5, h6, ?_⟩
      rw [← hj]
      unfold Rec.told Rec.words
      rw [e1, e2, ← h8, ← hw]
  · cases h
theorem tail_no {r : Rec} : ∀ x ∈ r.tail, (32 : UInt8) ∉ x := by
  intro x hx
  unfold Rec.tail at hx
  split at hx
  · simp only [List.mem_cons, List.not_mem_nil, or_false] at hx
    rcases hx with rfl | rfl
    · exact digits_no (by decide)
    · exact verT_no (by decide) (by decide)
  split at hx
  · simp only [List.mem_cons, List.not_mem_nil, or_false] at hx
    rcases hx with rfl | rfl <;> exact digits_no (by decide)
  split at hx
  · simp only [List.mem_cons, List.not_mem_nil, or_false] at hx
    subst hx; exact digits_no (by decide)
  split at hx
  · simp only [List.mem_cons, List.mem_map] at hx
    rcases hx with rfl | ⟨e, _, rfl⟩
    · exact told_no _
    · exact entT_no
  · simp at hx
theorem cuts_told {r : Rec} (h : r.rightP) : cuts 32 r.told = r.words := by
  refine cuts_of_join (by simp [Rec.words]) (fun x hx => ?_)
  simp only [Rec.words, List.mem_cons] at hx
  rcases hx with rfl | rfl | hx
  · exact word_no h.1 h.2.1
  · exact digits_no (by decide)
  · exact tail_no x hx
/-- What is told of a right record is read as it. -/
theorem lineB_told {r : Rec} (h : r.rightP) (hn : r.nums) : lineB r.told = some r := by
  unfold lineB
  rw [cuts_told h]
  have hk := kindOf_word h.1 h.2.1
  have hk0 : kindOf (wordOf r.k) ≠ 0 := by have := h.1; omega
  simp only [Rec.words]
  rw [if_neg hk0, numB_some.2 ⟨rfl, hn.1⟩, show kindOf (wordOf r.k) = r.k.toNat from by omega]
  simp only [Option.bind_some]
  exact tailB_tail h hn
end Go.Proofs.YtjedgiiplebofaaGreatDoor
namespace Go.Proofs.YtjedgiiplebofaaGreatDoor
open Go.RowKit Go
set_option linter.unusedVariables false
set_option linter.unusedSimpArgs false
instance : DecidableEq Ent := fun a b => decidable_of_iff (a.x = b.x ∧ a.w = b.w ∧ a.n = b.n ∧ a.m = b.m) (by cases a; cases b; simp)
def Rec.same (a b : Rec) : Bool := decide (a.k = b.k) && decide (a.t = b.t) && decide (a.x = b.x) && decide (a.w = b.w) && decide (a.n = b.n) && decide (a.v = b.v) && a.p.same b.p && decide (a.es = b.es)
theorem Rec.same_iff (a b : Rec) : a.same b = true ↔ a = b := by
  cases a; cases b
  simp only [Rec.same, Bool.and_eq_true, decide_eq_true_eq, Ex.same_iff, Rec.mk.injEq, and_assoc]
theorem Rec.same_refl (a : Rec) : a.same a = true := (Rec.same_iff a a).2 rfl
def Rec.right (r : Rec) : Bool := decide (1 ≤ r.k) && decide (r.k ≤ 7) && (decide (r.k ≠ 5) || r.p.right) && r.only.same r
theorem Rec.right_iff (r : Rec) : r.right = true ↔ r.rightP := by
  simp only [Rec.right, Bool.and_eq_true, Bool.or_eq_true, decide_eq_true_eq, Rec.same_iff, Rec.rightP, and_assoc]
  constructor
  · rintro ⟨h1, h2, h3, h4⟩
    exact ⟨h1, h2, fun h => h3.resolve_left (fun hn => hn h), h4⟩
  · rintro ⟨h1, h2, h3, h4⟩
    exact ⟨h1, h2, by by_cases h : r.k = 5; exact .inr (h3 h); exact .inl h, h4⟩
def Rec.text (r : Rec) : List UInt8 := if r.right then r.told else []
def valW (s : List UInt8) : Nat := s.foldl (fun n c => (n * 10 + (c.toNat + 208) % 256) % 18446744073709551616) 0
theorem valW_nil : valW [] = 0 := rfl
theorem valW_snoc (s : List UInt8) (c : UInt8) : valW (s ++ [c]) = (valW s * 10 + (c.toNat + 208) % 256) % 18446744073709551616 := by simp [valW]
theorem valW_lt (s : List UInt8) : valW s < 18446744073709551616 := by
  rcases List.eq_nil_or_concat s with rfl | ⟨l, c, rfl⟩
  · decide
  · rw [List.concat_eq_append, valW_snoc]; exact Nat.mod_lt _ (by decide)
theorem valW_digits (n : Nat) (h : n < 18446744073709551616) : valW (Lib.decDigits n) = n := by
  induction n using Nat.strongRecOn with
  | _ n ih =>
    rw [Lib.decDigits]
    split
    · rw [show ([UInt8.ofNat (48 + n)] : List UInt8) = [] ++ [UInt8.ofNat (48 + n)] from rfl, valW_snoc, valW_nil]; simp [UInt8.toNat_ofNat']; omega
    · rw [valW_snoc, ih (n / 10) (by omega) (by omega)]; simp [UInt8.toNat_ofNat']; omega
def verV (s : List UInt8) : Nat × Nat := match cuts 46 s with
  | [a, b] => (valW a, valW b)
  | _ => (0, 0)
def entV (s : List UInt8) : Option Ent := match cuts 58 s with
  | [a, b, f] => some ⟨valW a, (verV b).1, (verV b).2, decide (f = [49])⟩
  | _ => none
def entsV : List (List UInt8) → Option (List Ent)
  | [] => some []
  | s :: l => (entV s).bind fun e => (entsV l).map fun es => e :: es
def candT (k t : Nat) (l : List (List UInt8)) : Option Rec :=
  if k = 2 then match l with
    | [a, b] => some ⟨2, t, valW a, (verV b).1, (verV b).2, 0, .zero, []⟩
    | _ => none
  else if k = 3 then match l with
    | [a, b] => some ⟨3, t, valW a, 0, 0, valW b, .zero, []⟩
    | _ => none
  else if k = 4 then match l with
    | [a] => some ⟨4, t, valW a, 0, 0, 0, .zero, []⟩
    | _ => none
  else if k = 5 then match l with
    | a :: es => (rdText a).bind fun p => (entsV es).map fun es => ⟨5, t, 0, 0, 0, 0, p, es⟩
    | _ => none
  else if l = [] then some ⟨k, t, 0, 0, 0, 0, .zero, []⟩ else none
def candB (s : List UInt8) : Option Rec := match cuts 32 s with
  | w :: a :: l => if kindOf w = 0 then none else candT (kindOf w) (valW a) l
  | _ => none
theorem verV_told {w n : Nat} (h1 : w < 18446744073709551616) (h2 : n < 18446744073709551616) : verV (verT w n) = (w, n) := by
  unfold verV verT
  rw [cuts_at _ (digits_no (by decide)), cuts_none (digits_no (by decide))]
  simp only [valW_digits _ h1, valW_digits _ h2]
theorem verV_lt (s : List UInt8) : (verV s).1 < 18446744073709551616 ∧ (verV s).2 < 18446744073709551616 := by
  unfold verV
  split
  · exact ⟨valW_lt _, valW_lt _⟩
  · exact ⟨by decide, by decide⟩
theorem entV_told {e : Ent} (h : e.ok) : entV e.told = some e := by
  obtain ⟨h1, h2, h3⟩ := h
  obtain ⟨x, w, n, m⟩ := e
  unfold entV Ent.told
  rw [cuts_at _ (digits_no (by decide)), cuts_at _ (verT_no (by decide) (by decide)), cuts_none (flagT_no (by decide))]
  have hm : decide (flagT m = [49]) = m := by cases m <;> decide
  simp only [valW_digits _ h1, verV_told h2 h3, hm]
theorem entsV_told : ∀ {es : List Ent}, (∀ e ∈ es, e.ok) → entsV (es.map Ent.told) = some es
  | [], _ => rfl
  | e :: es, h => by
    simp only [List.map_cons, entsV, entV_told (h e (by simp)), entsV_told (fun z hz => h z (List.mem_cons_of_mem _ hz)), Option.bind_some, Option.map_some]
theorem entsV_ok : ∀ {l : List (List UInt8)} {es : List Ent}, entsV l = some es → ∀ e ∈ es, e.ok
  | [], es, h => by simp only [entsV, Option.some.injEq] at h; subst h; simp
  | s :: l, es, h => by
    simp only [entsV, Option.bind_eq_some_iff, Option.map_eq_some_iff] at h
    obtain ⟨e, h1, es', h2, rfl⟩ := h
    intro z hz
    rcases List.mem_cons.1 hz with rfl | hz
    · unfold entV at h1
      split at h1
      · injection h1 with h1; subst h1
        exact ⟨valW_lt _, (verV_lt _).1, (verV_lt _).2⟩
      · cases h1
    · exact entsV_ok h2 z hz
theorem candT_tail {r : Rec} (h : r.rightP) (hn : r.nums) : candT r.k.toNat r.t r.tail = some r := by
  obtain ⟨k, t, x, w, n, v, p, es⟩ := r
  obtain ⟨h1, h7, h5, ho⟩ := h
  obtain ⟨n1, n2, n3, n4, n5, n6, n7⟩ := hn
  simp only at h1 h7 h5 n1 n2 n3 n4 n5 n6 n7
  rcases kind_seven h1 h7 with rfl | rfl | rfl | rfl | rfl | rfl | rfl
  all_goals simp [Rec.only] at ho
  · obtain ⟨rfl, rfl, rfl, rfl, rfl, rfl⟩ := ho; rfl
  · obtain ⟨rfl, rfl, rfl⟩ := ho
    show candT 2 t [Lib.decDigits x, verT w n] = _
    unfold candT
    rw [if_pos rfl]
    simp only [valW_digits _ n2, verV_told n3 n4]
  · obtain ⟨rfl, rfl, rfl, rfl⟩ := ho
    show candT 3 t [Lib.decDigits x, Lib.decDigits v] = _
    unfold candT
    rw [if_neg (by decide), if_pos rfl]
    simp only [valW_digits _ n2, valW_digits _ n5]
  · obtain ⟨rfl, rfl, rfl, rfl, rfl⟩ := ho
    show candT 4 t [Lib.decDigits x] = _
    unfold candT
    rw [if_neg (by decide), if_neg (by decide), if_pos rfl]
    simp only [valW_digits _ n2]
  · obtain ⟨rfl, rfl, rfl, rfl⟩ := ho
    show candT 5 t (p.told :: es.map Ent.told) = _
    unfold candT
    rw [if_neg (by decide), if_neg (by decide), if_neg (by decide), if_pos rfl]
    simp only [rdText_told (h5 rfl) n6, entsV_told n7, Option.bind_some, Option.map_some]
  · obtain ⟨rfl, rfl, rfl, rfl, rfl, rfl⟩ := ho; rfl
  · obtain ⟨rfl, rfl, rfl, rfl, rfl, rfl⟩ := ho; rfl
theorem candB_told {r : Rec} (h : r.rightP) (hn : r.nums) : candB r.told = some r := by
  unfold candB
  rw [cuts_told h]
  have hk := kindOf_word h.1 h.2.1
  have hk0 : kindOf (wordOf r.k) ≠ 0 := by have := h.1; omega
  simp only [Rec.words]
  rw [if_neg hk0, valW_digits _ hn.1, show kindOf (wordOf r.k) = r.k.toNat from by omega]
  exact candT_tail h hn
theorem candT_nums {k t : Nat} {l : List (List UInt8)} {r : Rec} (ht : t < 18446744073709551616) (h : candT k t l = some r) : r.nums := by
  unfold candT at h
  split at h
  · split at h
    · injection h with h; subst h
      exact ⟨ht, valW_lt _, (verV_lt _).1, (verV_lt _).2, by dsimp only; omega, zero_nums, by simp⟩
    · cases h
  split at h
  · split at h
    · injection h with h; subst h
      exact ⟨ht, valW_lt _, by dsimp only; omega, by dsimp only; omega, valW_lt _, zero_nums, by simp⟩
    · cases h
  split at h
  · split at h
    · injection h with h; subst h
      exact ⟨ht, valW_lt _, by dsimp only; omega, by dsimp only; omega, by dsimp only; omega, zero_nums, by simp⟩
    · cases h
  split at h
  · split at h
    · simp only [Option.bind_eq_some_iff, Option.map_eq_some_iff] at h
      obtain ⟨p, h2, es, h3, rfl⟩ := h
      exact ⟨ht, by dsimp only; omega, by dsimp only; omega, by dsimp only; omega, by dsimp only; omega, (rdText_sound h2).2.1, entsV_ok h3⟩
    · cases h
  split at h
  · injection h with h; subst h
    exact ⟨ht, by dsimp only; omega, by dsimp only; omega, by dsimp only; omega, by dsimp only; omega, zero_nums, by simp⟩
  · cases h
theorem candB_nums {s : List UInt8} {r : Rec} (h : candB s = some r) : r.nums ∧ s ≠ [] := by
  refine ⟨?_, fun hs => ?_⟩
  · unfold candB at h
    split at h
    · split at h
      · cases h
      · exact candT_nums (valW_lt _) h
    · cases h
  · subst hs; simp [candB, cuts] at h
/-- The reference's record of a text is the program's. -/
theorem refB_eq (s : List UInt8) : ((candB s).bind fun r => if r.text = s then some r else none) = lineB s := by
  cases hl : lineB s with
  | some r =>
    obtain ⟨h1, h2, rfl⟩ := lineB_sound hl
    rw [candB_told h1 h2]
    simp only [Option.bind_some]
    rw [if_pos (by unfold Rec.text; rw [if_pos ((Rec.right_iff r).2 h1)])]
  | none =>
    cases hc : candB s with
    | none => rfl
    | some r =>
      simp only [Option.bind_some]
      rw [if_neg]
      intro ht
      obtain ⟨hn, hs⟩ := candB_nums hc
      unfold Rec.text at ht
      split at ht
      · rename_i hr
        have := lineB_told ((Rec.right_iff r).1 hr) hn
        rw [ht, hl] at this
        cases this
      · exact hs ht.symm
end Go.Proofs.YtjedgiiplebofaaGreatDoor
namespace Go.Proofs.YtjedgiiplebofaaGreatDoor
open Go.RowKit Go
set_option linter.unusedVariables false
set_option linter.unusedSimpArgs false
def Ent.cells (e : Ent) : List Value := [.int .u64 e.x, .int .u64 e.w, .int .u64 e.n, .bool e.m]
def entCells : List Ent → List Value
  | [] => []
  | e :: es => e.cells ++ entCells es
theorem entCells_length : ∀ es : List Ent, (entCells es).length = es.length * 4
  | [] => rfl
  | e :: es => by simp [entCells, Ent.cells, entCells_length es]; omega
theorem entCells_append : ∀ a b : List Ent, entCells (a ++ b) = entCells a ++ entCells b
  | [], b => rfl
  | e :: a, b => by simp [entCells, entCells_append a b]
theorem entCells_get : ∀ (es : List Ent) (i : Nat) (h : i < es.length), (entCells es)[i * 4]? = some (.int .u64 es[i].x) ∧ (entCells es)[i * 4 + 1]? = some (.int .u64 es[i].w) ∧ (entCells es)[i * 4 + 2]? = some (.int .u64 es[i].n) ∧ (entCells es)[i * 4 + 3]? = some (.bool es[i].m)
  | e :: es, 0, h => by simp [entCells, Ent.cells]
  | e :: es, i + 1, h => by
    have := entCells_get es i (by simpa using h)
    simp only [entCells, Ent.cells, List.getElem_cons_succ]
    rw [show (i + 1) * 4 = i * 4 + 4 from by omega]
    simpa using this
/-- The slice v holds the entries es. -/
def RepN (w : World) (S : Nat → Prop) (own : Bool) (es : List Ent) (v : Value) : Prop := Sl w S own 4 es.length (entCells es) v
theorem RepN.keep {w w' : World} {S S' : Nat → Prop} {own : Bool} {es : List Ent} {v : Value} (h : RepN w S own es v) (hk : Keeps S w w') (hS : ∀ b, b < w.heap.size → S b → S' b) : RepN w' S' own es v := Sl.keep h (by omega) hk hS
theorem RepN.below {B : Nat} {w w' : World} {S : Nat → Prop} {own : Bool} {es : List Ent} {v : Value} (h : RepN w S own es v) (hb : Below B w w') (hB : w.heap.size ≤ B) : RepN w' S own es v := Sl.below h (by omega) hb hB
theorem RepN.shape {w : World} {S : Nat → Prop} {own : Bool} {es : List Ent} {v : Value} (h : RepN w S own es v) : es.length ≤ 9223372036854775807 ∧ ∃ ad cap, v = .slice ad es.length cap ∧ es.length ≤ cap := ⟨h.2.1, (Sl.shape h).2.2⟩
/-- Entry i: where its four cells lie. -/
theorem RepN.part {w : World} {S : Nat → Prop} {own : Bool} {es : List Ent} {ad : Option Addr} {cap : Nat} (h : RepN w S own es (.slice ad es.length cap)) (i : Nat) (hi : i < es.length) :
    ∃ bl off, ad = some ⟨bl, off, none⟩ ∧ S bl ∧ w.cell? ⟨bl, off + i * 4, none⟩ = some (.int .u64 es[i].x) ∧ w.cell? ⟨bl, off + i * 4 + 1, none⟩ = some (.int .u64 es[i].w) ∧ w.cell? ⟨bl, off + i * 4 + 2, none⟩ = some (.int .u64 es[i].n) ∧
      w.cell? ⟨bl, off + i * 4 + 3, none⟩ = some (.bool es[i].m) ∧ (own = true → ∀ j, j < 4 → w.frozen? ⟨bl, off + i * 4 + j, none⟩ = false) := by
  obtain ⟨bl, off, ha, hS, hc⟩ := Sl.cells h (by omega)
  have hx := entCells_length es
  obtain ⟨g0, g1, g2, g3⟩ := entCells_get es i hi
  have q0 := hc (i * 4) (by omega)
  have q1 := hc (i * 4 + 1) (by omega)
  have q2 := hc (i * 4 + 2) (by omega)
  have q3 := hc (i * 4 + 3) (by omega)
  rw [List.getElem?_eq_getElem (by omega)] at g0 g1 g2 g3
  refine ⟨bl, off, ha, hS, by rw [q0.1]; exact g0, by rw [Nat.add_assoc, q1.1]; exact g1, by rw [Nat.add_assoc, q2.1]; exact g2, by rw [Nat.add_assoc, q3.1]; exact g3, fun ho j hj => ?_⟩
  have := (hc (i * 4 + j) (by omega)).2 ho
  rw [Nat.add_assoc]; exact this
/-- The value v is the record r. -/
def RepR (w : World) (S : Nat → Prop) (own : Bool) (r : Rec) (v : Value) : Prop :=
  ∃ c0 c1 c2 c3 s, v = .agg #[.int .i64 r.k, .int .u64 r.t, .int .u64 r.x, .int .u64 r.w, .int .u64 r.n, .int .u64 r.v, c0, c1, c2, c3, s] ∧ -9223372036854775808 ≤ r.k ∧ r.k ≤ 9223372036854775807 ∧ r.nums ∧
    RepE w S own r.p (.agg #[c0, c1, c2, c3]) ∧ RepN w S own r.es s
theorem RepR.keep {w w' : World} {S S' : Nat → Prop} {own : Bool} {r : Rec} {v : Value} (h : RepR w S own r v) (hk : Keeps S w w') (hS : ∀ b, b < w.heap.size → S b → S' b) : RepR w' S' own r v := by
  obtain ⟨c0, c1, c2, c3, s, h1, h2, h3, h4, h5, h6⟩ := h
  exact ⟨c0, c1, c2, c3, s, h1, h2, h3, h4, RepE.keep hk hS h5, h6.keep hk hS⟩
theorem RepR.below {B : Nat} {w w' : World} {S : Nat → Prop} {own : Bool} {r : Rec} {v : Value} (h : RepR w S own r v) (hb : Below B w w') (hB : w.heap.size ≤ B) : RepR w' S own r v := h.keep (Below.keeps hb hB S) (fun _ _ h => h)
theorem RepR.wider {w : World} {S S' : Nat → Prop} {own : Bool} {r : Rec} {v : Value} (h : RepR w S own r v) (hS : ∀ b, b < w.heap.size → S b → S' b) : RepR w S' own r v := h.keep (fun _ _ _ => rfl) hS
theorem RepR.unown {w : World} {S : Nat → Prop} {own : Bool} {r : Rec} {v : Value} (h : RepR w S own r v) : RepR w S false r v := by
  obtain ⟨c0, c1, c2, c3, s, h1, h2, h3, h4, h5, h6⟩ := h
  exact ⟨c0, c1, c2, c3, s, h1, h2, h3, h4, h5.unown, Sl.unown h6⟩
/-- Its cells, one by one. -/
theorem RepR.conc {w : World} {S : Nat → Prop} {own : Bool} {r : Rec} {v : Value} (h : RepR w S own r v) :
    ∃ k' a' b' ad' n' cap' ad2 cap2, v = .agg #[.int .i64 r.k, .int .u64 r.t, .int .u64 r.x, .int .u64 r.w, .int .u64 r.n, .int .u64 r.v, .int .i64 k', .int .u64 (a' : Nat), .int .u64 (b' : Nat), .slice ad' n' cap', .slice ad2 r.es.length cap2] ∧
      -9223372036854775808 ≤ r.k ∧ r.k ≤ 9223372036854775807 ∧ r.nums ∧ RepE w S own r.p (.agg #[.int .i64 k', .int .u64 (a' : Nat), .int .u64 (b' : Nat), .slice ad' n' cap']) ∧ RepN w S own r.es (.slice ad2 r.es.length cap2) := by
  obtain ⟨c0, c1, c2, c3, s, rfl, h2, h3, h4, h5, h6⟩ := h
  obtain ⟨k', a', b', ad', n', cap', he⟩ := h5.conc
  simp only [Value.agg.injEq, Array.mk.injEq, List.cons.injEq, and_true] at he
  obtain ⟨rfl, rfl, rfl, rfl⟩ := he
  obtain ⟨_, ad2, cap2, rfl, _⟩ := h6.shape
  exact ⟨_, _, _, _, _, _, _, _, rfl, h2, h3, h4, h5, h6⟩
end Go.Proofs.YtjedgiiplebofaaGreatDoor
