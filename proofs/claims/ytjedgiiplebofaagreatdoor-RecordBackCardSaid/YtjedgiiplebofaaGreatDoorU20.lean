/- The examples of chapter 5: plain Lean. Ahead of it: What is read as a predicate was told so: plain Lean. A text cut at a byte, and words joined by one: plain Lean. Texts told and read, what is turned, both: plain Lean. A right predicate's text and bytes: how long. Plain Lean. Records, how they are told, and the record of a text: plain Lean. The record that words might tell, by the reference: plain Lean. Records as they stand, and the record of a payload: plain Lean. What is parsed as a predicate, or a record, stood so: plain Lean. ParseUint's answer at any text, against the numbers that are told so: plain Lean. Records in memory: rows of entries, a record's cells. Plain lemmas, no program. strings.Cut and strings.Split, as a record's text asks them: plain Lean. A payload's reader as a plain machine (what is left; none: it failed), and that it is the record of the frame: plain Lean. -/
import Derived.Test.YtjedgiiplebofaaGreatDoorU9
import Derived.Test.YtjedgiiplebofaaGreatDoorU35
import Derived.Test.YtjedgiiplebofaaGreatDoorU31
import Derived.Test.YtjedgiiplebofaaGreatDoorU47
import Derived.Test.YtjedgiiplebofaaGreatDoorU19
import Derived.Lib.Split
import Derived.Lib.Join
import Derived.Lib.CutLaws
namespace Go.Proofs.YtjedgiiplebofaaGreatDoor
open Go.RowKit Go
set_option linter.unusedVariables false
set_option linter.unusedSimpArgs false
theorem pre_eq {t s : List UInt8} (h : pre t s = true) : s = t ++ s.drop t.length := by
  unfold pre at h
  rw [List.isPrefixOf_iff_prefix] at h
  obtain ⟨r, rfl⟩ := h
  simp
theorem rfLoop_sound (rd : List UInt8 → Option (Ex × List UInt8)) (hrd : ∀ s e r, rd s = some (e, r) → s = e.told ++ r ∧ e.nums) : ∀ f s es r, rfLoop rd f s = some (es, r) → s = commas (Ex.tolds es) ++ 41 :: r ∧ Ex.numss es ∧ es ≠ [] := by
  intro f
  induction f with
  | zero => intro s es r h; simp [rfLoop] at h
  | succ f ih =>
    intro s es r h
    rw [rfLoop] at h
    split at h
    · cases h
    · rename_i e q hq
      obtain ⟨h1, h1n⟩ := hrd _ _ _ hq
      split at h
      · rename_i hp
        have hp2 := pre_eq hp
        injection h with h; injection h with h2 h3
        subst h2 h3
        refine ⟨?_, by simp only [Ex.numss]; exact ⟨h1n, trivial⟩, by simp⟩
        simp only [Ex.tolds, commas_one]
        rw [h1]
        congr 1
      · split at h
        · rename_i hp
          have hp2 := pre_eq hp
          simp only [Option.map_eq_some_iff] at h
          obtain ⟨⟨a, b⟩, h3, h4⟩ := h
          injection h4 with h5 h4; subst h4 h5
          obtain ⟨h6, h7, h8⟩ := ih _ _ _ h3
          refine ⟨?_, by simp only [Ex.numss]; exact ⟨h1n, h7⟩, by simp⟩
          cases a with
          | nil => exact absurd rfl h8
          | cons e2 es2 =>
            simp only [Ex.tolds, commas_two] at h6 ⊢
            rw [h1, hp2]
            simp only [List.length_singleton, List.singleton_append, List.append_assoc, List.cons_append] at h6 ⊢
            rw [h6]; simp
        · cases h
theorem rfParts_sound (rd : List UInt8 → Option (Ex × List UInt8)) (hrd : ∀ s e r, rd s = some (e, r) → s = e.told ++ r ∧ e.nums) (s : List UInt8) (es : List Ex) (r : List UInt8) (h : rfParts rd s = some (es, r)) : s = commas (Ex.tolds es) ++ 41 :: r ∧ Ex.numss es := by
  unfold rfParts at h
  split at h
  · rename_i hp
    have hp2 := pre_eq hp
    injection h with h; injection h with h2 h; subst h h2
    exact ⟨by simpa [Ex.tolds, commas, Lib.join_nil] using hp2, by simp only [Ex.numss]⟩
  · obtain ⟨h1, h2, _⟩ := rfLoop_sound rd hrd _ _ _ _ h
    exact ⟨h1, h2⟩
theorem rfE_sound (d : Nat) : ∀ s e r, rfE d s = some (e, r) → s = e.told ++ r ∧ e.nums := by
  induction d with
  | zero => intro s e r h; simp [rfE] at h
  | succ d ih =>
    intro s e r h
    rw [rfE] at h
    split at h
    · rename_i hp
      have hp2 := pre_eq hp
      injection h with h; injection h with h1 h; subst h h1
      exact ⟨by simpa [Ex.told, tellN] using hp2, by simp [Ex.nums, Ex.numss]⟩
    split at h
    · rename_i hp
      have hp2 := pre_eq hp
      simp only [Option.map_eq_some_iff] at h; obtain ⟨⟨a, b⟩, h3, h4⟩ := h; injection h4 with h5 h4; subst h4 h5
      obtain ⟨h6, h7, _⟩ := rdNum_some h3
      exact ⟨by rw [hp2]; simp only [List.length_cons, List.length_nil] at h6 ⊢; rw [h6]; simp [Ex.told, tellN], by simp [Ex.nums, Ex.numss]; exact h7⟩
    split at h
    · rename_i hp
      have hp2 := pre_eq hp
      simp only [Option.map_eq_some_iff] at h; obtain ⟨⟨a, b⟩, h3, h4⟩ := h; injection h4 with h5 h4; subst h4 h5
      obtain ⟨h6, h7, _⟩ := rdNum_some h3
      exact ⟨by rw [hp2]; simp only [List.length_cons, List.length_nil] at h6 ⊢; rw [h6]; simp [Ex.told, tellN], by simp [Ex.nums, Ex.numss]; exact h7⟩
    split at h
    · rename_i hp
      have hp2 := pre_eq hp
      split at h
      · cases h
      · rename_i a q hq
        obtain ⟨h1, h2, _⟩ := rdNum_some hq
        split at h
        · rename_i hpp
          have hp3 := pre_eq hpp
          simp only [Option.map_eq_some_iff] at h; obtain ⟨⟨a2, b⟩, h3, h4⟩ := h; injection h4 with h5 h4; subst h4 h5
          obtain ⟨h6, h7, _⟩ := rdNum_some h3
          exact ⟨by rw [hp2]; simp only [List.length_cons, List.length_nil] at h1 h6 hp3 ⊢; rw [h1, hp3, h6]; simp [Ex.told, tellN], by simp [Ex.nums, Ex.numss]; exact ⟨h2, h7⟩⟩
        · cases h
    split at h
    · rename_i hp
      have hp2 := pre_eq hp
      simp only [Option.map_eq_some_iff] at h; obtain ⟨⟨a, b⟩, h3, h4⟩ := h; injection h4 with h5 h4; subst h4 h5
      obtain ⟨h6, h7⟩ := ih _ _ _ h3
      exact ⟨by rw [hp2]; simp only [List.length_cons, List.length_nil] at h6 ⊢; rw [h6]; simp [Ex.told, Ex.tolds, tellN, commas_one], by simp [Ex.nums, Ex.numss]; exact h7⟩
    split at h
    · rename_i hp
      have hp2 := pre_eq hp
      simp only [Option.map_eq_some_iff] at h; obtain ⟨⟨a, b⟩, h3, h4⟩ := h; injection h4 with h5 h4; subst h4 h5
      obtain ⟨h6, h7⟩ := rfParts_sound _ ih _ _ _ h3
      exact ⟨by rw [hp2]; simp only [List.length_cons, List.length_nil] at h6 ⊢; rw [h6]; simp [Ex.told, tellN], by simp [Ex.nums]; exact h7⟩
    split at h
    · rename_i hp
      have hp2 := pre_eq hp
      simp only [Option.map_eq_some_iff] at h; obtain ⟨⟨a, b⟩, h3, h4⟩ := h; injection h4 with h5 h4; subst h4 h5
      obtain ⟨h6, h7⟩ := rfParts_sound _ ih _ _ _ h3
      exact ⟨by rw [hp2]; simp only [List.length_cons, List.length_nil] at h6 ⊢; rw [h6]; simp [Ex.told, tellN], by simp [Ex.nums]; exact h7⟩
    · cases h
theorem rdText_sound {s : List UInt8} {e : Ex} (h : rdText s = some e) : e.right = true ∧ e.nums ∧ e.told = s := by
  unfold rdText at h
  split at h
  · rename_i e2 hq
    split at h
    · rename_i hr
      injection h with h; subst h
      obtain ⟨h1, h2⟩ := rfE_sound 8 _ _ _ hq
      exact ⟨hr, h2, by simpa using h1.symm⟩
    · cases h
  · cases h
end Go.Proofs.YtjedgiiplebofaaGreatDoor
namespace Go.Proofs.YtjedgiiplebofaaGreatDoor
open Go.RowKit Go
set_option linter.unusedVariables false
set_option linter.unusedSimpArgs false
def cuts (c : UInt8) : List UInt8 → List (List UInt8)
  | [] => [[]]
  | b :: l => if b = c then [] :: cuts c l else match cuts c l with
    | [] => [[b]]
    | x :: r => (b :: x) :: r
theorem cuts_ne (c : UInt8) (l : List UInt8) : cuts c l ≠ [] := by
  cases l with
  | nil => simp [cuts]
  | cons b l =>
    simp only [cuts]
    split
    · simp
    · split <;> simp
theorem cuts_other {c b : UInt8} {l x : List UInt8} {r : List (List UInt8)} (hb : b ≠ c) (h : cuts c l = x :: r) : cuts c (b :: l) = (b :: x) :: r := by
  simp only [cuts]
  rw [if_neg hb, h]
theorem cuts_here (c : UInt8) (l : List UInt8) : cuts c (c :: l) = [] :: cuts c l := by
  simp only [cuts, if_true]
theorem cuts_none {c : UInt8} {l : List UInt8} (h : c ∉ l) : cuts c l = [l] := by
  induction l with
  | nil => rfl
  | cons b l ih =>
    simp only [List.mem_cons, not_or] at h
    exact cuts_other (fun e => h.1 e.symm) (ih h.2)
theorem cuts_at {c : UInt8} {x : List UInt8} (l : List UInt8) (h : c ∉ x) : cuts c (x ++ c :: l) = x :: cuts c l := by
  induction x with
  | nil => exact cuts_here c l
  | cons b x ih =>
    simp only [List.mem_cons, not_or] at h
    exact cuts_other (fun e => h.1 e.symm) (ih h.2)
theorem cuts_join (c : UInt8) (l : List UInt8) : Lib.join (cuts c l) [c] = l := by
  induction l with
  | nil => simp [cuts, Lib.join_one]
  | cons b l ih =>
    by_cases hb : b = c
    · subst hb
      rw [cuts_here]
      cases hq : cuts b l with
      | nil => exact absurd hq (cuts_ne _ _)
      | cons x r =>
        rw [hq] at ih
        rw [Lib.join_cons] at ih ⊢
        simp only [Lib.joinTail, List.nil_append, List.singleton_append, List.append_assoc] at ih ⊢
        simp [Lib.joinTail, ih]
    · cases hq : cuts c l with
      | nil => exact absurd hq (cuts_ne _ _)
      | cons x r =>
        rw [cuts_other hb hq]
        rw [hq] at ih
        rw [Lib.join_cons] at ih ⊢
        simp only [List.cons_append]
        rw [ih]
theorem cuts_of_join {c : UInt8} : ∀ {ws : List (List UInt8)}, ws ≠ [] → (∀ x ∈ ws, c ∉ x) → cuts c (Lib.join ws [c]) = ws
  | [], h, _ => absurd rfl h
  | [x], _, h => by rw [Lib.join_one]; exact cuts_none (h x (by simp))
  | x :: y :: ws, _, h => by
    have ih := cuts_of_join (c := c) (ws := y :: ws) (by simp) (fun z hz => h z (by simp only [List.mem_cons] at hz ⊢; exact .inr hz))
    rw [Lib.join_cons] at ih ⊢
    rw [show Lib.joinTail [c] (y :: ws) = c :: (y ++ Lib.joinTail [c] ws) from by simp [Lib.joinTail], cuts_at _ (h x (by simp)), ih]
theorem index_one (c : UInt8) (l : List UInt8) : Lib.index l [c] = if c ∈ l then ((l.takeWhile (fun b => decide (b ≠ c))).length : Int) else -1 := by
  induction l with
  | nil => simp [Lib.index]
  | cons b l ih =>
    unfold Lib.index
    by_cases hb : b = c
    · subst hb; simp
    · have h1 : ([c].isPrefixOf (b :: l)) = false := by simp [List.isPrefixOf]; exact fun e => hb e.symm
      rw [h1, ih]
      by_cases hm : c ∈ l
      · have e1 : (((l.takeWhile (fun b => decide (b ≠ c))).length : Int) == -1) = false := beq_eq_false_iff_ne.2 (by omega)
        have e2 : c ∈ b :: l := List.mem_cons_of_mem _ hm
        have e3 : (b :: l).takeWhile (fun b => decide (b ≠ c)) = b :: l.takeWhile (fun b => decide (b ≠ c)) := List.takeWhile_cons_of_pos (by simp [hb])
        simp only [hm, e2, if_true, Bool.false_eq_true, if_false, e1, e3, List.length_cons]
        omega
      · have e2 : ¬ c ∈ b :: l := fun h => by
          rcases List.mem_cons.1 h with h | h
          · exact hb h.symm
          · exact hm h
        simp only [hm, e2, if_false, Bool.false_eq_true]
        rfl
theorem takeWhile_split {c : UInt8} {l : List UInt8} (h : c ∈ l) : ∃ x r, l = x ++ c :: r ∧ c ∉ x ∧ Lib.index l [c] = x.length := by
  obtain ⟨x, r, h1, h2⟩ := List.eq_append_cons_of_mem h
  refine ⟨x, r, h1, h2, ?_⟩
  rw [index_one, if_pos h]
  subst h1
  rw [List.takeWhile_append_of_pos (by intro a ha; simp; intro e; subst e; exact h2 ha), List.takeWhile_cons_of_neg (by simp)]
  simp
theorem splitK_cuts (c : UInt8) : ∀ (k : Nat) (l : List UInt8), l.count c ≤ k → Lib.splitK [c] 0 k l = cuts c l
  | 0, l, h => by
    have hn : c ∉ l := fun hm => by have := List.count_pos_iff.2 hm; omega
    rw [cuts_none hn]; rfl
  | k + 1, l, h => by
    unfold Lib.splitK
    by_cases hm : c ∈ l
    · obtain ⟨x, r, h1, h2, h3⟩ := takeWhile_split hm
      rw [h3, if_neg (by simp <;> omega)]
      subst h1
      rw [cuts_at _ h2]
      have hc : (x ++ c :: r).count c = r.count c + 1 := by
        rw [List.count_append, List.count_eq_zero.2 h2, List.count_cons_self]; omega
      simp only [Int.toNat_natCast, Nat.add_zero, List.length_singleton]
      rw [List.take_left, show x.length + 1 = (x ++ [c]).length from by simp, show x ++ c :: r = (x ++ [c]) ++ r from by simp, List.drop_left, splitK_cuts c k r (by omega)]
    · rw [index_one, if_neg hm, if_pos (by simp), cuts_none hm]
theorem countFrom_one (c : UInt8) : ∀ (f : Nat) (l : List UInt8), l.length < f → l.count c ≤ Lib.countFrom [c] f l
  | 0, l, h => by omega
  | f + 1, l, h => by
    unfold Lib.countFrom
    by_cases hm : c ∈ l
    · obtain ⟨x, r, h1, h2, h3⟩ := takeWhile_split hm
      rw [h3, if_neg (by simp <;> omega)]
      subst h1
      simp only [Int.toNat_natCast, List.length_singleton]
      rw [show x.length + 1 = (x ++ [c]).length from by simp, show x ++ c :: r = (x ++ [c]) ++ r from by simp, List.drop_left]
      have := countFrom_one c f r (by simp at h; omega)
      rw [List.append_assoc, List.count_append, List.count_eq_zero.2 h2, List.singleton_append, List.count_cons_self]
      omega
    · rw [List.count_eq_zero.2 hm]; omega
end Go.Proofs.YtjedgiiplebofaaGreatDoor
namespace Go.Proofs.YtjedgiiplebofaaGreatDoor
open Go.RowKit Go
set_option linter.unusedVariables false
set_option linter.unusedSimpArgs false
theorem rdText_text {e : Ex} (h : e.right = true) (hn : e.nums) : rdText e.text = some e := by
  obtain ⟨h1, h2, _⟩ := right_parts h
  have ht : e.text = e.told := by unfold Ex.text; rw [if_pos h]
  have := rfE_told e 8 [] h1 hn h2 (by intro c hc; cases hc)
  rw [List.append_nil, ← ht] at this
  rw [rdText_of this, if_pos ⟨rfl, h⟩]
end Go.Proofs.YtjedgiiplebofaaGreatDoor
namespace Go.Proofs.YtjedgiiplebofaaGreatDoor
open Go.RowKit Go
set_option linter.unusedVariables false
set_option linter.unusedSimpArgs false
end Go.Proofs.YtjedgiiplebofaaGreatDoor
namespace Go.Proofs.YtjedgiiplebofaaGreatDoor
open Go.RowKit Go
set_option linter.unusedVariables false
set_option linter.unusedSimpArgs false
structure Ent where
  x : Nat
  w : Nat
  n : Nat
  m : Bool
structure Rec where
  k : Int
  t : Nat
  x : Nat
  w : Nat
  n : Nat
  v : Nat
  p : Ex
  es : List Ent
def Rec.zero : Rec := ⟨0, 0, 0, 0, 0, 0, .zero, []⟩
def Ent.ok (e : Ent) : Prop := e.x < 18446744073709551616 ∧ e.w < 18446744073709551616 ∧ e.n < 18446744073709551616
def Rec.nums (r : Rec) : Prop := r.t < 18446744073709551616 ∧ r.x < 18446744073709551616 ∧ r.w < 18446744073709551616 ∧ r.n < 18446744073709551616 ∧ r.v < 18446744073709551616 ∧ r.p.nums ∧ ∀ e ∈ r.es, e.ok
def verT (w n : Nat) : List UInt8 := Lib.decDigits w ++ 46 :: Lib.decDigits n
def flagT (m : Bool) : List UInt8 := if m then [49] else [48]
def Ent.told (e : Ent) : List UInt8 := Lib.decDigits e.x ++ 58 :: (verT e.w e.n ++ 58 :: flagT e.m)
def wordOf (k : Int) : List UInt8 :=
  if k = 1 then [98, 101, 103, 105, 110] else if k = 2 then [114, 101, 97, 100] else if k = 3 then [119, 114, 105, 116, 101] else if k = 4 then [100, 101, 108, 101, 116, 101]
  else if k = 5 then [112, 114, 101, 100] else if k = 6 then [99, 111, 109, 109, 105, 116] else [97, 98, 111, 114, 116]
def kindOf (w : List UInt8) : Nat :=
  if w = wordOf 1 then 1 else if w = wordOf 2 then 2 else if w = wordOf 3 then 3 else if w = wordOf 4 then 4 else if w = wordOf 5 then 5 else if w = wordOf 6 then 6 else if w = wordOf 7 then 7 else 0
def Rec.tail (r : Rec) : List (List UInt8) :=
  if r.k = 2 then [Lib.decDigits r.x, verT r.w r.n] else if r.k = 3 then [Lib.decDigits r.x, Lib.decDigits r.v] else if r.k = 4 then [Lib.decDigits r.x] else if r.k = 5 then r.p.told :: r.es.map Ent.told else []
def Rec.words (r : Rec) : List (List UInt8) := wordOf r.k :: Lib.decDigits r.t :: r.tail
def Rec.told (r : Rec) : List UInt8 := Lib.join r.words [32]
def Rec.only (r : Rec) : Rec :=
  if r.k = 2 then ⟨r.k, r.t, r.x, r.w, r.n, 0, .zero, []⟩ else if r.k = 3 then ⟨r.k, r.t, r.x, 0, 0, r.v, .zero, []⟩ else if r.k = 4 then ⟨r.k, r.t, r.x, 0, 0, 0, .zero, []⟩
  else if r.k = 5 then ⟨r.k, r.t, 0, 0, 0, 0, r.p, r.es⟩ else ⟨r.k, r.t, 0, 0, 0, 0, .zero, []⟩
def Rec.rightP (r : Rec) : Prop := 1 ≤ r.k ∧ r.k ≤ 7 ∧ (r.k = 5 → r.p.right = true) ∧ r.only = r
/-! Numbers, versions, entries of a text -/
def numB (s : List UInt8) : Option Nat := if Lib.decDigits (numOf s) = s ∧ numOf s < 18446744073709551616 then some (numOf s) else none
theorem numB_some {s : List UInt8} {n : Nat} : numB s = some n ↔ s = Lib.decDigits n ∧ n < 18446744073709551616 := by
  unfold numB
  constructor
  · intro h
    split at h
    · rename_i hc; injection h with h; subst h; exact ⟨hc.1.symm, hc.2⟩
    · cases h
  · rintro ⟨rfl, h⟩
    rw [numOf_decDigits, if_pos ⟨rfl, h⟩]
def verB (s : List UInt8) : Option (Nat × Nat) := match cuts 46 s with
  | [a, b] => (numB a).bind fun w => (numB b).map fun n => (w, n)
  | _ => none
def entB (s : List UInt8) : Option Ent := match cuts 58 s with
  | [a, b, f] => if f = [48] ∨ f = [49] then (numB a).bind fun x => (verB b).map fun v => ⟨x, v.1, v.2, decide (f = [49])⟩ else none
  | _ => none
def entsB : List (List UInt8) → Option (List Ent)
  | [] => some []
  | s :: l => (entB s).bind fun e => (entsB l).map fun es => e :: es
def tailB (k t : Nat) (l : List (List UInt8)) : Option Rec :=
  if k = 2 then match l with
    | [a, b] => (numB a).bind fun x => (verB b).map fun v => ⟨2, t, x, v.1, v.2, 0, .zero, []⟩
    | _ => none
  else if k = 3 then match l with
    | [a, b] => (numB a).bind fun x => (numB b).map fun v => ⟨3, t, x, 0, 0, v, .zero, []⟩
    | _ => none
  else if k = 4 then match l with
    | [a] => (numB a).map fun x => ⟨4, t, x, 0, 0, 0, .zero, []⟩
    | _ => none
  else if k = 5 then match l with
    | a :: es => (rdText a).bind fun p => (entsB es).map fun es => ⟨5, t, 0, 0, 0, 0, p, es⟩
    | _ => none
  else if l = [] then some ⟨k, t, 0, 0, 0, 0, .zero, []⟩ else none
def lineB (s : List UInt8) : Option Rec := match cuts 32 s with
  | w :: a :: l => if kindOf w = 0 then none else (numB a).bind fun t => tailB (kindOf w) t l
  | _ => none
/-! No word holds what parts it from the next one -/
theorem digits_no {n : Nat} {c : UInt8} (hc : isD c = false) : c ∉ Lib.decDigits n := fun h => by
  have := decDigits_isD n c h
  rw [hc] at this; cases this
theorem verT_no {w n : Nat} {c : UInt8} (hc : isD c = false) (h2 : c ≠ 46) : c ∉ verT w n := by
  unfold verT
  simp only [List.mem_append, List.mem_cons, not_or]
  exact ⟨digits_no hc, h2, digits_no hc⟩
theorem flagT_no {m : Bool} {c : UInt8} (hc : isD c = false) : c ∉ flagT m := by
  cases m
  · simp only [flagT, Bool.false_eq_true, if_false, List.mem_singleton]; intro e; subst e; cases hc
  · simp only [flagT, if_true, List.mem_singleton]; intro e; subst e; cases hc
theorem entT_no {e : Ent} : (32 : UInt8) ∉ e.told := by
  unfold Ent.told
  simp only [List.mem_append, List.mem_cons, not_or]
  exact ⟨digits_no (by decide), by decide, verT_no (by decide) (by decide), by decide, flagT_no (by decide)⟩
theorem commas_no {c : UInt8} (hc : c ≠ 44) : ∀ (l : List (List UInt8)), (∀ x ∈ l, c ∉ x) → c ∉ commas l
  | [], _ => by simp [commas, Lib.join_nil]
  | [x], h => by rw [commas_one]; exact h x (by simp)
  | x :: y :: l, h => by
    rw [commas_two]
    simp only [List.mem_append, List.mem_cons, not_or]
    exact ⟨h x (by simp), hc, commas_no hc (y :: l) (fun z hz => h z (List.mem_cons_of_mem _ hz))⟩
mutual
theorem told_no : ∀ e : Ex, (32 : UInt8) ∉ e.told
  | .mk k a b ps => by
    have h1 := tolds_no ps
    have h2 := commas_no (c := 32) (by decide) _ h1
    simp only [Ex.told, tellN]
    split
    · decide
    split
    · simp only [List.mem_append, not_or]; exact ⟨by decide, digits_no (by decide)⟩
    split
    · simp only [List.mem_append, not_or]; exact ⟨by decide, digits_no (by decide)⟩
    split
    · simp only [List.mem_append, not_or]; exact ⟨⟨⟨by decide, digits_no (by decide)⟩, by decide⟩, digits_no (by decide)⟩
    split
    · simp only [List.mem_append, not_or]; exact ⟨by decide, h2⟩
    split
    · simp only [List.mem_append, not_or]; exact ⟨⟨by decide, h2⟩, by decide⟩
    · simp only [List.mem_append, not_or]; exact ⟨⟨by decide, h2⟩, by decide⟩
theorem tolds_no : ∀ es : List Ex, ∀ x ∈ Ex.tolds es, (32 : UInt8) ∉ x
  | [], x, h => by simp [Ex.tolds] at h
  | e :: es, x, h => by
    simp only [Ex.tolds, List.mem_cons] at h
    rcases h with rfl | h
    · exact told_no e
    · exact tolds_no es x h
end
theorem kind_seven {k : Int} (h1 : 1 ≤ k) (h7 : k ≤ 7) : k = 1 ∨ k = 2 ∨ k = 3 ∨ k = 4 ∨ k = 5 ∨ k = 6 ∨ k = 7 := by omega
theorem word_no {k : Int} (h1 : 1 ≤ k) (h7 : k ≤ 7) : (32 : UInt8) ∉ wordOf k := by
  rcases kind_seven h1 h7 with rfl | rfl | rfl | rfl | rfl | rfl | rfl <;> decide
theorem kindOf_word {k : Int} (h1 : 1 ≤ k) (h7 : k ≤ 7) : (kindOf (wordOf k) : Int) = k := by
  rcases kind_seven h1 h7 with rfl | rfl | rfl | rfl | rfl | rfl | rfl <;> decide
theorem kindOf_some {w : List UInt8} (h : kindOf w ≠ 0) : w = wordOf (kindOf w) ∧ 1 ≤ kindOf w ∧ kindOf w ≤ 7 := by
  have key : ∀ k : Nat, 1 ≤ k → k ≤ 7 → w = wordOf k → w = wordOf (kindOf w) ∧ 1 ≤ kindOf w ∧ kindOf w ≤ 7 := fun k h1 h7 e => by
    have h2 := kindOf_word (k := k) (by omega) (by omega)
    rw [← e] at h2
    exact ⟨by rw [h2]; exact e, by omega, by omega⟩
  by_cases e1 : w = wordOf 1
  · exact key 1 (by omega) (by omega) e1
  by_cases e2 : w = wordOf 2
  · exact key 2 (by omega) (by omega) e2
  by_cases e3 : w = wordOf 3
  · exact key 3 (by omega) (by omega) e3
  by_cases e4 : w = wordOf 4
  · exact key 4 (by omega) (by omega) e4
  by_cases e5 : w = wordOf 5
  · exact key 5 (by omega) (by omega) e5
  by_cases e6 : w = wordOf 6
  · exact key 6 (by omega) (by omega) e6
  by_cases e7 : w = wordOf 7
  · exact key 7 (by omega) (by omega) e7
  exact absurd (by unfold kindOf; rw [if_neg e1, if_neg e2, if_neg e3, if_neg e4, if_neg e5, if_neg e6, if_neg e7]) h
theorem verB_some {s : List UInt8} {w n : Nat} : verB s = some (w, n) ↔ s = verT w n ∧ w < 18446744073709551616 ∧ n < 18446744073709551616 := by
  constructor
  · intro h
    unfold verB at h
    split at h
    · rename_i a b hc
      have hj := cuts_join 46 s
      rw [hc] at hj
      simp only [Option.bind_eq_some_iff, Option.map_eq_some_iff, Prod.mk.injEq] at h
      obtain ⟨x, h1, y, h2, rfl, rfl⟩ := h
      obtain ⟨rfl, h3⟩ := numB_some.1 h1
      obtain ⟨rfl, h4⟩ := numB_some.1 h2
      exact ⟨by rw [← hj]; simp [Lib.join_cons, Lib.joinTail, verT], h3, h4⟩
    · cases h
  · rintro ⟨rfl, h1, h2⟩
    unfold verB verT
    rw [cuts_at _ (digits_no (by decide)), cuts_none (digits_no (by decide))]
    simp only [Option.bind_eq_some_iff, Option.map_eq_some_iff]
    exact ⟨w, numB_some.2 ⟨rfl, h1⟩, n, numB_some.2 ⟨rfl, h2⟩, rfl⟩
theorem entB_some {s : List UInt8} {e : Ent} : entB s = some e ↔ s = e.told ∧ e.ok := by
  constructor
  · intro h
    unfold entB at h
    split at h
    · rename_i a b f hc
      have hj := cuts_join 58 s
      rw [hc] at hj
      split at h
      · rename_i hf
        simp only [Option.bind_eq_some_iff, Option.map_eq_some_iff] at h
        obtain ⟨x, h1, ⟨v, u⟩, h2, rfl⟩ := h
        obtain ⟨rfl, h3⟩ := numB_some.1 h1
        obtain ⟨rfl, h4, h5⟩ := verB_some.1 h2
        refine ⟨?_, h3, h4, h5⟩
        rw [← hj]
        rcases hf with rfl | rfl <;> simp [Lib.join_cons, Lib.joinTail, Ent.told, flagT]
      · cases h
    · cases h
  · rintro ⟨rfl, h1, h2, h3⟩
    obtain ⟨x, w, n, m⟩ := e
    unfold entB Ent.told
    rw [cuts_at _ (digits_no (by decide)), cuts_at _ (verT_no (by decide) (by decide)), cuts_none (flagT_no (by decide))]
    have hf : flagT m = [48] ∨ flagT m = [49] := by cases m <;> simp [flagT]
    have hm : decide (flagT m = [49]) = m := by cases m <;> decide
    simp only
    rw [if_pos hf, hm]
    simp only [Option.bind_eq_some_iff, Option.map_eq_some_iff]
    exact ⟨x, numB_some.2 ⟨rfl, h1⟩, (w, n), verB_some.2 ⟨rfl, h2, h3⟩, rfl⟩
theorem entsB_some : ∀ {l : List (List UInt8)} {es : List Ent}, entsB l = some es ↔ l = es.map Ent.told ∧ ∀ e ∈ es, e.ok
  | [], es => by
    simp only [entsB, Option.some.injEq]
    constructor
    · rintro rfl; simp
    · rintro ⟨h, _⟩
      cases es with
      | nil => rfl
      | cons e es => simp at h
  | s :: l, es => by
    simp only [entsB, Option.bind_eq_some_iff, Option.map_eq_some_iff]
    constructor
    · rintro ⟨e, h1, es', h2, rfl⟩
      obtain ⟨rfl, h3⟩ := entB_some.1 h1
      obtain ⟨rfl, h4⟩ := entsB_some.1 h2
      exact ⟨rfl, fun z hz => by rcases List.mem_cons.1 hz with rfl | hz; exact h3; exact h4 z hz⟩
    · rintro ⟨h, h2⟩
      cases es with
      | nil => simp at h
      | cons e es =>
        simp only [List.map_cons, List.cons.injEq] at h
        obtain ⟨rfl, rfl⟩ := h
        exact ⟨e, entB_some.2 ⟨rfl, h2 e (by simp)⟩, es, entsB_some.2 ⟨rfl, fun z hz => h2 z (by simp [hz])⟩, rfl⟩
theorem rdText_told {e : Ex} (h : e.right = true) (hn : e.nums) : rdText e.told = some e := by
  have := rdText_text h hn
  unfold Ex.text at this
  rwa [if_pos h] at this
theorem zero_nums : Ex.zero.nums := by simp [Ex.zero, Ex.nums, Ex.numss]
theorem tailB_sound {k t : Nat} {l : List (List UInt8)} {r : Rec} (h1 : 1 ≤ k) (h7 : k ≤ 7) (ht : t < 18446744073709551616) (h : tailB k t l = some r) : r.k = k ∧ r.t = t ∧ r.rightP ∧ r.nums ∧ l = r.tail := by
  unfold tailB at h
  split at h
  · rename_i hk; subst hk
    split at h
    · simp only [Option.bind_eq_some_iff, Option.map_eq_some_iff] at h
      obtain ⟨x, h2, ⟨v, u⟩, h3, rfl⟩ := h
      obtain ⟨rfl, h4⟩ := numB_some.1 h2
      obtain ⟨rfl, h5, h6⟩ := verB_some.1 h3
      exact ⟨rfl, rfl, ⟨by dsimp only; omega, by dsimp only; omega, fun h => absurd h (by dsimp only; omega), rfl⟩, ⟨ht, h4, h5, h6, by dsimp only; omega, zero_nums, by simp⟩, rfl⟩
    · cases h
  split at h
  · rename_i hk; subst hk
    split at h
    · simp only [Option.bind_eq_some_iff, Option.map_eq_some_iff] at h
      obtain ⟨x, h2, v, h3, rfl⟩ := h
      obtain ⟨rfl, h4⟩ := numB_some.1 h2
      obtain ⟨rfl, h5⟩ := numB_some.1 h3
      exact ⟨rfl, rfl, ⟨by dsimp only; omega, by dsimp only; omega, fun h => absurd h (by dsimp only; omega), rfl⟩, ⟨ht, h4, by dsimp only; omega, by dsimp only; omega, h5, zero_nums, by simp⟩, rfl⟩
    · cases h
  split at h
  · rename_i hk; subst hk
    split at h
    · simp only [Option.map_eq_some_iff] at h
      obtain ⟨x, h2, rfl⟩ := h
      obtain ⟨rfl, h4⟩ := numB_some.1 h2
      exact ⟨rfl, rfl, ⟨by dsimp only; omega, by dsimp only; omega, fun h => absurd h (by dsimp only; omega), rfl⟩, ⟨ht, h4, by dsimp only; omega, by dsimp only; omega, by dsimp only; omega, zero_nums, by simp⟩, rfl⟩
    · cases h
  split at h
  · rename_i hk; subst hk
    split at h
    · simp only [Option.bind_eq_some_iff, Option.map_eq_some_iff] at h
      obtain ⟨p, h2, es, h3, rfl⟩ := h
      obtain ⟨h4, h5, rfl⟩ := rdText_sound h2
      obtain ⟨rfl, h6⟩ := entsB_some.1 h3
      exact ⟨rfl, rfl, ⟨by dsimp only; omega, by dsimp only; omega, fun _ => h4, rfl⟩, ⟨ht, by dsimp only; omega, by dsimp only; omega, by dsimp only; omega, by dsimp only; omega, h5, h6⟩, rfl⟩
    · cases h
  split at h
  · rename_i n2 n3 n4 n5 hl
    injection h with h; subst h hl
    have hk : k = 1 ∨ k = 6 ∨ k = 7 := by omega
    rcases hk with rfl | rfl | rfl
    all_goals exact ⟨rfl, rfl, ⟨by dsimp only; omega, by dsimp only; omega, fun h => absurd h (by dsimp only; omega), rfl⟩, ⟨ht, by dsimp only; omega, by dsimp only; omega, by dsimp only; omega, by dsimp only; omega, zero_nums, by simp⟩, rfl⟩
  · cases h
theorem tailB_tail {r : Rec} (h : r.rightP) (hn : r.nums) : tailB r.k.toNat r.t r.tail = some r := by
  obtain ⟨k, t, x, w, n, v, p, es⟩ := r
  obtain ⟨h1, h7, h5, ho⟩ := h
  obtain ⟨n1, n2, n3, n4, n5, n6, n7⟩ := hn
  simp only at h1 h7 h5 n1 n2 n3 n4 n5 n6 n7
  rcases kind_seven h1 h7 with rfl | rfl | rfl | rfl | rfl | rfl | rfl
  all_goals simp [Rec.only] at ho
  · obtain ⟨rfl, rfl, rfl, rfl, rfl, rfl⟩ := ho; rfl
  · obtain ⟨rfl, rfl, rfl⟩ := ho
    show tailB 2 t [Lib.decDigits x, verT w n] = _
    unfold tailB
    rw [if_pos rfl]
    simp only [numB_some.2 ⟨rfl, n2⟩, verB_some.2 ⟨rfl, n3, n4⟩, Option.bind_some, Option.map_some]
  · obtain ⟨rfl, rfl, rfl, rfl⟩ := ho
    show tailB 3 t [Lib.decDigits x, Lib.decDigits v] = _
    unfold tailB
    rw [if_neg (by decide), if_pos rfl]
    simp only [numB_some.2 ⟨rfl, n2⟩, numB_some.2 ⟨rfl, n5⟩, Option.bind_some, Option.map_some]
  · obtain ⟨rfl, rfl, rfl, rfl, rfl⟩ := ho
    show tailB 4 t [Lib.decDigits x] = _
    unfold tailB
    rw [if_neg (by decide), if_neg (by decide), if_pos rfl]
    simp only [numB_some.2 ⟨rfl, n2⟩, Option.map_some]
  · obtain ⟨rfl, rfl, rfl, rfl⟩ := ho
    show tailB 5 t (p.told :: es.map Ent.told) = _
    unfold tailB
    rw [if_neg (by decide), if_neg (by decide), if_neg (by decide), if_pos rfl]
    simp only [rdText_told (h5 rfl) n6, entsB_some.2 ⟨rfl, n7⟩, Option.bind_some, Option.map_some]
  · obtain ⟨rfl, rfl, rfl, rfl, rfl, rfl⟩ := ho; rfl
  · obtain ⟨rfl, rfl, rfl, rfl, rfl, rfl⟩ := ho; rfl
theorem lineB_sound {s : List UInt8} {r : Rec} (h : lineB s = some r) : r.rightP ∧ r.nums ∧ r.told = s := by
  unfold lineB at h
  split at h
  · rename_i w a l hc
    have hj := cuts_join 32 s
    rw [hc] at hj
    split at h
    · cases h
    · rename_i hk
      obtain ⟨hw, h1, h7⟩ := kindOf_some hk
      simp only [Option.bind_eq_some_iff] at h
      obtain ⟨t, h2, h3⟩ := h
      obtain ⟨rfl, h4⟩ := numB_some.1 h2
      obtain ⟨e1, e2, h5, h6, h8⟩ := tailB_sound h1 h7 h4 h3
      refine ⟨h5, h6, ?_⟩
      rw [← hj]
      unfold Rec.told Rec.words
      rw [e1, e2, ← h8, ← hw]
  · cases h
theorem tail_no {r : Rec} : ∀ x ∈ r.tail, (32 : UInt8) ∉ x := by
  intro x hx
  unfold Rec.tail at hx
  split at hx
  · simp only [List.mem_cons, List.not_mem_nil, or_false] at hx
    rcases hx with rfl | rfl
    · exact digits_no (by decide)
    · exact verT_no (by decide) (by decide)
  split at hx
  · simp only [List.mem_cons, List.not_mem_nil, or_false] at hx
    rcases hx with rfl | rfl <;> exact digits_no (by decide)
  split at hx
  · simp only [List.mem_cons, List.not_mem_nil, or_false] at hx
    subst hx; exact digits_no (by decide)
  split at hx
  · simp only [List.mem_cons, List.mem_map] at hx
    rcases hx with rfl | ⟨e, _, rfl⟩
    · exact told_no _
    · exact entT_no
  · simp at hx
theorem cuts_told {r : Rec} (h : r.rightP) : cuts 32 r.told = r.words := by
  refine cuts_of_join (by simp [Rec.words]) (fun x hx => ?_)
  simp only [Rec.words, List.mem_cons] at hx
  rcases hx with rfl | rfl | hx
  · exact word_no h.1 h.2.1
  · exact digits_no (by decide)
  · exact tail_no x hx
theorem lineB_told {r : Rec} (h : r.rightP) (hn : r.nums) : lineB r.told = some r := by
  unfold lineB
  rw [cuts_told h]
  have hk := kindOf_word h.1 h.2.1
  have hk0 : kindOf (wordOf r.k) ≠ 0 := by have := h.1; omega
  simp only [Rec.words]
  rw [if_neg hk0, numB_some.2 ⟨rfl, hn.1⟩, show kindOf (wordOf r.k) = r.k.toNat from by omega]
  simp only [Option.bind_some]
  exact tailB_tail h hn
end Go.Proofs.YtjedgiiplebofaaGreatDoor
namespace Go.Proofs.YtjedgiiplebofaaGreatDoor
open Go.RowKit Go
set_option linter.unusedVariables false
set_option linter.unusedSimpArgs false
instance : DecidableEq Ent := fun a b => decidable_of_iff (a.x = b.x ∧ a.w = b.w ∧ a.n = b.n ∧ a.m = b.m) (by cases a; cases b; simp)
def Rec.same (a b : Rec) : Bool := decide (a.k = b.k) && decide (a.t = b.t) && decide (a.x = b.x) && decide (a.w = b.w) && decide (a.n = b.n) && decide (a.v = b.v) && a.p.same b.p && decide (a.es = b.es)
theorem Rec.same_iff (a b : Rec) : a.same b = true ↔ a = b := by
  cases a; cases b
  simp only [Rec.same, Bool.and_eq_true, decide_eq_true_eq, Ex.same_iff, Rec.mk.injEq, and_assoc]
theorem Rec.same_refl (a : Rec) : a.same a = true := (Rec.same_iff a a).2 rfl
def Rec.right (r : Rec) : Bool := decide (1 ≤ r.k) && decide (r.k ≤ 7) && (decide (r.k ≠ 5) || r.p.right) && r.only.same r
theorem Rec.right_iff (r : Rec) : r.right = true ↔ r.rightP := by
  simp only [Rec.right, Bool.and_eq_true, Bool.or_eq_true, decide_eq_true_eq, Rec.same_iff, Rec.rightP, and_assoc]
  constructor
  · rintro ⟨h1, h2, h3, h4⟩
    exact ⟨h1, h2, fun h => h3.resolve_left (fun hn => hn h), h4⟩
  · rintro ⟨h1, h2, h3, h4⟩
    exact ⟨h1, h2, by by_cases h : r.k = 5; exact .inr (h3 h); exact .inl h, h4⟩
def Rec.text (r : Rec) : List UInt8 := if r.right then r.told else []
end Go.Proofs.YtjedgiiplebofaaGreatDoor
namespace Go.Proofs.YtjedgiiplebofaaGreatDoor
open Go.RowKit Go
set_option linter.unusedVariables false
set_option linter.unusedSimpArgs false
def Ent.put (e : Ent) : List UInt8 := putVs [e.x, e.w, e.n] ++ [if e.m then 1 else 0]
def entPuts (es : List Ent) : List UInt8 := es.flatMap Ent.put
def Rec.body (r : Rec) : List UInt8 :=
  if r.k = 2 then putVs [r.t, r.x, r.w, r.n] else if r.k = 3 then putVs [r.t, r.x, r.v] else if r.k = 4 then putVs [r.t, r.x]
  else if r.k = 5 then putVs [r.t, r.p.put.length] ++ (r.p.put ++ (putVs [r.es.length] ++ entPuts r.es)) else putVs [r.t]
theorem Ent.put_length (e : Ent) : e.put.length ≤ 31 := by
  have := putVs_length [e.x, e.w, e.n]
  simp only [Ent.put, List.length_append, List.length_cons, List.length_nil] at this ⊢; omega
theorem entPuts_length : ∀ es : List Ent, (entPuts es).length ≤ 31 * es.length
  | [] => by simp [entPuts]
  | e :: es => by
    have h1 := e.put_length
    have h2 := entPuts_length es
    simp only [entPuts, List.flatMap_cons, List.length_append, List.length_cons] at h2 ⊢; omega
theorem entPuts_take (es : List Ent) (k : Nat) (h : k < es.length) : entPuts (es.take (k + 1)) = entPuts (es.take k) ++ es[k].put := by
  unfold entPuts; rw [List.take_succ_eq_append_getElem h, List.flatMap_append]; simp
theorem entPuts_take_length (es : List Ent) (k : Nat) : (entPuts (es.take k)).length ≤ 31 * es.length := by
  have := entPuts_length (es.take k)
  have h2 : (es.take k).length ≤ es.length := by simp; omega
  omega
def entG (l : List UInt8) : Option (Ent × List UInt8) := (getV l).bind fun x => (getV x.2).bind fun w => (getV w.2).bind fun n => match n.2 with
  | c :: r => if c.toNat ≤ 1 then some (⟨x.1, w.1, n.1, decide (c.toNat = 1)⟩, r) else none
  | [] => none
def entsG : Nat → List UInt8 → Option (List Ent × List UInt8)
  | 0, l => some ([], l)
  | n + 1, l => (entG l).bind fun e => (entsG n e.2).map fun es => (e.1 :: es.1, es.2)
def tailG (k t : Nat) (l : List UInt8) : Option Rec :=
  if k = 2 then (getV l).bind fun x => (getV x.2).bind fun w => (getV w.2).bind fun n => if n.2 = [] then some ⟨2, t, x.1, w.1, n.1, 0, .zero, []⟩ else none
  else if k = 3 then (getV l).bind fun x => (getV x.2).bind fun v => if v.2 = [] then some ⟨3, t, x.1, 0, 0, v.1, .zero, []⟩ else none
  else if k = 4 then (getV l).bind fun x => if x.2 = [] then some ⟨4, t, x.1, 0, 0, 0, .zero, []⟩ else none
  else if k = 5 then (getV l).bind fun m => if m.1 ≤ m.2.length then (tkAll (m.2.take m.1)).bind fun p => (getV (m.2.drop m.1)).bind fun c => (entsG c.1 c.2).bind fun es => if es.2 = [] then some ⟨5, t, 0, 0, 0, 0, p, es.1⟩ else none else none
  else if l = [] then some ⟨k, t, 0, 0, 0, 0, .zero, []⟩ else none
def frameG (k : Nat) (b : List UInt8) : Option Rec := if 1 ≤ k ∧ k ≤ 7 then (getV b).bind fun t => tailG k t.1 t.2 else none
theorem entG_put (e : Ent) (h : e.ok) (r : List UInt8) : entG (e.put ++ r) = some (e, r) := by
  obtain ⟨x, w, n, m⟩ := e
  obtain ⟨h1, h2, h3⟩ := h
  simp only at h1 h2 h3
  have e1 : (Ent.put ⟨x, w, n, m⟩) ++ r = putV x ++ (putV w ++ (putV n ++ ((if m then 1 else 0) :: r))) := by simp [Ent.put, putVs]
  rw [e1]
  unfold entG
  rw [getV_put x _ h1]; simp only [Option.bind_some]
  rw [getV_put w _ h2]; simp only [Option.bind_some]
  rw [getV_put n _ h3]; simp only [Option.bind_some]
  cases m <;> simp
theorem entsG_put : ∀ (es : List Ent) (r : List UInt8), (∀ e ∈ es, e.ok) → entsG es.length (entPuts es ++ r) = some (es, r)
  | [], r, _ => by simp [entsG, entPuts]
  | e :: es, r, h => by
    have e1 : entPuts (e :: es) ++ r = e.put ++ (entPuts es ++ r) := by simp [entPuts]
    rw [e1, List.length_cons, entsG, entG_put e (h e (by simp))]
    simp only [Option.bind_some]
    rw [entsG_put es r (fun z hz => h z (List.mem_cons_of_mem _ hz))]
    rfl
theorem put_length_lt {p : Ex} (h : p.right = true) : p.put.length ≤ 992 := by
  have h1 := p.st_length
  have h2 := (right_parts h).2.2
  unfold Ex.put; rw [if_pos h]; omega
theorem frameG_put {r : Rec} (h : r.rightP) (hn : r.nums) (he : r.es.length < 18446744073709551616) : frameG r.k.toNat r.body = some r := by
  obtain ⟨k, t, x, w, n, v, p, es⟩ := r
  obtain ⟨h1, h7, h5, ho⟩ := h
  obtain ⟨n1, n2, n3, n4, n5, n6, n7⟩ := hn
  simp only at h1 h7 h5 n1 n2 n3 n4 n5 n6 n7 he
  have key : ∀ l, (getV (putV t ++ l)).bind (fun u => tailG k.toNat u.1 u.2) = tailG k.toNat t l := fun l => by rw [getV_put t l n1]; rfl
  have hf : ∀ b, frameG k.toNat b = (getV b).bind fun u => tailG k.toNat u.1 u.2 := fun b => by unfold frameG; rw [if_pos (by omega)]
  show frameG k.toNat _ = _
  rw [hf]
  rcases kind_seven h1 h7 with rfl | rfl | rfl | rfl | rfl | rfl | rfl
  all_goals simp [Rec.only] at ho
  · obtain ⟨rfl, rfl, rfl, rfl, rfl, rfl⟩ := ho
    rw [show Rec.body ⟨1, t, 0, 0, 0, 0, .zero, []⟩ = putV t ++ [] from by simp [Rec.body, putVs], key]; rfl
  · obtain ⟨rfl, rfl, rfl⟩ := ho
    rw [show Rec.body ⟨2, t, x, w, n, 0, .zero, []⟩ = putV t ++ (putV x ++ (putV w ++ (putV n ++ []))) from by simp [Rec.body, putVs], key]
    simp [tailG, getV_put x _ n2, getV_put w _ n3, getV_put n _ n4, -List.append_nil]
  · obtain ⟨rfl, rfl, rfl, rfl⟩ := ho
    rw [show Rec.body ⟨3, t, x, 0, 0, v, .zero, []⟩ = putV t ++ (putV x ++ (putV v ++ [])) from by simp [Rec.body, putVs], key]
    simp [tailG, getV_put x _ n2, getV_put v _ n5, -List.append_nil]
  · obtain ⟨rfl, rfl, rfl, rfl, rfl⟩ := ho
    rw [show Rec.body ⟨4, t, x, 0, 0, 0, .zero, []⟩ = putV t ++ (putV x ++ []) from by simp [Rec.body, putVs], key]
    simp [tailG, getV_put x _ n2, -List.append_nil]
  · obtain ⟨rfl, rfl, rfl, rfl⟩ := ho
    have hp := put_length_lt (h5 rfl)
    rw [show Rec.body ⟨5, t, 0, 0, 0, 0, p, es⟩ = putV t ++ (putV p.put.length ++ (p.put ++ (putV es.length ++ (entPuts es ++ [])))) from by simp [Rec.body, putVs], key]
    simp only [show (5 : Int).toNat = 5 from rfl, tailG, show ¬ (5 = 2) from by omega, show ¬ (5 = 3) from by omega, show ¬ (5 = 4) from by omega, if_false, if_true]
    rw [getV_put _ _ (by omega)]
    simp only [Option.bind_some]
    rw [if_pos (by simp), List.take_left, tkAll_put (h5 rfl) n6, List.drop_left]
    simp only [Option.bind_some]
    rw [getV_put _ _ he]
    simp only [Option.bind_some]
    rw [entsG_put es [] n7]
    rfl
  · obtain ⟨rfl, rfl, rfl, rfl, rfl, rfl⟩ := ho
    rw [show Rec.body ⟨6, t, 0, 0, 0, 0, .zero, []⟩ = putV t ++ [] from by simp [Rec.body, putVs], key]; rfl
  · obtain ⟨rfl, rfl, rfl, rfl, rfl, rfl⟩ := ho
    rw [show Rec.body ⟨7, t, 0, 0, 0, 0, .zero, []⟩ = putV t ++ [] from by simp [Rec.body, putVs], key]; rfl
end Go.Proofs.YtjedgiiplebofaaGreatDoor
namespace Go.Proofs.YtjedgiiplebofaaGreatDoor
open Go.RowKit Go
set_option linter.unusedVariables false
set_option linter.unusedSimpArgs false
theorem tkLoop_sound (tk : List UInt8 → Option (Ex × List UInt8)) (htk : ∀ s e r, tk s = some (e, r) → s = e.st ++ r ∧ e.nums) : ∀ n s es r, tkLoop tk n s = some (es, r) → s = Ex.sts es ++ r ∧ Ex.numss es ∧ es.length = n := by
  intro n
  induction n with
  | zero =>
    intro s es r h
    simp only [tkLoop, Option.some.injEq, Prod.mk.injEq] at h
    obtain ⟨rfl, rfl⟩ := h
    simp [Ex.sts, Ex.numss]
  | succ n ih =>
    intro s es r h
    rw [tkLoop] at h
    split at h
    · cases h
    · rename_i e q hq
      obtain ⟨h1, h2⟩ := htk _ _ _ hq
      obtain ⟨⟨a, b⟩, h3, h4⟩ := Option.map_eq_some_iff.1 h
      injection h4 with h5 h6
      subst h5 h6
      obtain ⟨h7, h8, h9⟩ := ih _ _ _ h3
      refine ⟨?_, by simp only [Ex.numss]; exact ⟨h2, h8⟩, by simp [h9]⟩
      rw [h1, h7]; simp [Ex.sts]
theorem getO_some {o : Option (List UInt8)} {r : List UInt8} (h : getOR o = some r) : o = some (putV (getON o) ++ r) := by
  unfold getOR at h
  obtain ⟨x, h1, h2⟩ := Option.map_eq_some_iff.1 h
  have hn : getON o = x.1 := by unfold getON; rw [h1]
  obtain ⟨l, h3, h4⟩ := Option.bind_eq_some_iff.1 h1
  obtain ⟨h5, _⟩ := getV_some (n := x.1) (r := x.2) h4
  rw [hn, h3, h5, ← h2]
theorem toUInt8_of (c : UInt8) : ((((c.toNat : Nat) : Int)) % 256).toNat.toUInt8 = c := by
  have := c.toNat_lt
  rw [show (((c.toNat : Nat) : Int) % 256).toNat = c.toNat from by omega]
  simp
theorem tkE_sound (d : Nat) : ∀ s e r, tkE d s = some (e, r) → s = e.st ++ r ∧ e.nums := by
  induction d with
  | zero => intro s e r h; simp [tkE] at h
  | succ d ih =>
    intro s e r h
    cases s with
    | nil => simp [tkE] at h
    | cons c l =>
      rw [tkE] at h
      split at h
      · rename_i hc
        obtain ⟨⟨ps, b⟩, h3, h4⟩ := Option.map_eq_some_iff.1 h
        injection h4 with h5 h6
        subst h5 h6
        unfold tkTail at h3
        obtain ⟨q, h7, h8⟩ := Option.bind_eq_some_iff.1 h3
        obtain ⟨h9, h10, h11⟩ := tkLoop_sound _ ih _ _ _ _ h8
        have hlt := tkHead_lt c.toNat l
        refine ⟨?_, by simp only [Ex.nums]; exact ⟨hlt.1, hlt.2.1, h10⟩⟩
        simp only [Ex.st, headB, toUInt8_of]
        have hc7 : c.toNat = 1 ∨ c.toNat = 2 ∨ c.toNat = 3 ∨ c.toNat = 4 ∨ c.toNat = 5 ∨ c.toNat = 6 ∨ c.toNat = 7 := by omega
        simp only [List.cons_append, List.cons.injEq, true_and]
        rcases hc7 with e | e | e | e | e | e | e
        · rw [e] at h7 ⊢
          simp only [tkHead, show ¬ (1 = 2 ∨ 1 = 3) from by omega, show ¬ (1 = 4) from by omega, show ¬ (1 = 5) from by omega, show ¬ (1 = 6 ∨ 1 = 7) from by omega, if_false, Option.some.injEq] at h7 ⊢
          rw [h7, h9]; simp
        · rw [e] at h7 ⊢
          simp only [tkHead, true_or, if_true] at h7 ⊢
          have h12 := getO_some h7
          injection h12 with h12
          rw [h9] at h12
          conv => lhs; rw [h12]
          simp
        · rw [e] at h7 ⊢
          simp only [tkHead, or_true, if_true] at h7 ⊢
          have h12 := getO_some h7
          injection h12 with h12
          rw [h9] at h12
          conv => lhs; rw [h12]
          simp
        · rw [e] at h7 ⊢
          simp only [tkHead, show ¬ (4 = 2 ∨ 4 = 3) from by omega, if_true, if_false] at h7 ⊢
          have h12 := getO_some h7
          have h13 := getO_some h12
          injection h13 with h13
          rw [h9] at h13
          conv => lhs; rw [h13]
          simp
        · rw [e] at h7 ⊢
          simp only [tkHead, show ¬ (5 = 2 ∨ 5 = 3) from by omega, show ¬ (5 = 4) from by omega, if_true, if_false, Option.some.injEq] at h7 ⊢
          rw [h7, h9]; simp
        · rw [e] at h7 h11 ⊢
          simp only [tkHead, show ¬ (6 = 2 ∨ 6 = 3) from by omega, show ¬ (6 = 4) from by omega, show ¬ (6 = 5) from by omega, true_or, if_true, if_false] at h7 h11 ⊢
          have h12 := getO_some h7
          injection h12 with h12
          rw [h9] at h12
          conv => lhs; rw [h12]
          rw [← h11]
          simp
        · rw [e] at h7 h11 ⊢
          simp only [tkHead, show ¬ (7 = 2 ∨ 7 = 3) from by omega, show ¬ (7 = 4) from by omega, show ¬ (7 = 5) from by omega, or_true, if_true, if_false] at h7 h11 ⊢
          have h12 := getO_some h7
          injection h12 with h12
          rw [h9] at h12
          conv => lhs; rw [h12]
          rw [← h11]
          simp
      · cases h
theorem tkAll_sound {b : List UInt8} {e : Ex} (h : tkAll b = some e) : e.right = true ∧ e.nums ∧ e.put = b := by
  unfold tkAll at h
  split at h
  · rename_i e2 n hq
    split at h
    · rename_i hn
      injection h with h; subst h
      unfold tkAt at hq
      split at hq
      · split at hq
        · rename_i e3 r hr
          split at hq
          · rename_i hright
            injection hq with hq; injection hq with h1 h2
            subst h1
            obtain ⟨h3, h4⟩ := tkE_sound 8 _ _ _ hr
            have hr0 : r = [] := by
              have := congrArg List.length h3
              simp only [Int.toNat_zero, List.drop_zero, List.length_append] at this
              exact List.eq_nil_of_length_eq_zero (by
                have h5 : e3.st.length + r.length = b.length := by simpa using this.symm
                have h6 : 0 < e3.st.length := by cases e3; simp [Ex.st, headB]
                omega)
            refine ⟨hright, h4, ?_⟩
            unfold Ex.put; rw [if_pos hright]
            subst hr0
            simpa using h3.symm
          · cases hq
        · cases hq
      · cases hq
    · cases h
  · cases h
theorem entG_some {l r : List UInt8} {e : Ent} (h : entG l = some (e, r)) : l = e.put ++ r ∧ e.ok := by
  unfold entG at h
  simp only [Option.bind_eq_some_iff] at h
  obtain ⟨⟨x, l1⟩, h1, ⟨w, l2⟩, h2, ⟨n, l3⟩, h3, h4⟩ := h
  obtain ⟨rfl, hx⟩ := getV_some h1
  obtain ⟨e2, hw⟩ := getV_some h2
  obtain ⟨e3, hn⟩ := getV_some h3
  (try dsimp only at e2 e3 h4)
  subst e2 e3
  split at h4
  · rename_i _ c r2
    split at h4
    · rename_i h1c
      injection h4 with h4; injection h4 with h5 h6
      subst h5 h6
      refine ⟨?_, hx, hw, hn⟩
      have : c = if decide (c.toNat = 1) then 1 else 0 := by
        by_cases hc1 : c.toNat = 1
        · simp only [hc1, decide_true, if_true]; exact UInt8.toNat.inj (by simpa using hc1)
        · have h0 : c.toNat = 0 := by omega
          simp only [h0, show decide (0 = 1) = false from rfl, Bool.false_eq_true, if_false]; exact UInt8.toNat.inj (by simpa using h0)
      simp only [Ent.put, putVs, List.flatMap_cons, List.flatMap_nil, List.append_nil, List.append_assoc, List.singleton_append]
      rw [← this]
    · cases h4
  · cases h4
theorem entsG_some : ∀ (n : Nat) (l r : List UInt8) (es : List Ent), entsG n l = some (es, r) → l = entPuts es ++ r ∧ (∀ e ∈ es, e.ok) ∧ es.length = n
  | 0, l, r, es, h => by
    simp only [entsG, Option.some.injEq, Prod.mk.injEq] at h
    obtain ⟨rfl, rfl⟩ := h
    simp [entPuts]
  | n + 1, l, r, es, h => by
    simp only [entsG, Option.bind_eq_some_iff, Option.map_eq_some_iff] at h
    obtain ⟨⟨e, l1⟩, h1, ⟨es1, r1⟩, h2, h3⟩ := h
    injection h3 with h4 h5
    subst h4 h5
    obtain ⟨h6, h7⟩ := entG_some h1
    obtain ⟨h8, h9, h10⟩ := entsG_some n _ _ _ h2
    (try dsimp only at h8)
    refine ⟨by rw [h6, h8]; simp [entPuts], fun z hz => ?_, by simp [h10]⟩
    rcases List.mem_cons.1 hz with rfl | hz
    · exact h7
    · exact h9 z hz
theorem frameG_sound {k : Nat} {b : List UInt8} {r : Rec} (h : frameG k b = some r) : r.k = k ∧ r.rightP ∧ r.nums ∧ r.body = b := by
  unfold frameG at h
  split at h
  · rename_i hk
    obtain ⟨⟨t, l⟩, h1, h2⟩ := Option.bind_eq_some_iff.1 h
    obtain ⟨rfl, ht⟩ := getV_some h1
    have hk7 : k = 1 ∨ k = 2 ∨ k = 3 ∨ k = 4 ∨ k = 5 ∨ k = 6 ∨ k = 7 := by omega
    simp only [tailG] at h2
    rcases hk7 with rfl | rfl | rfl | rfl | rfl | rfl | rfl
    · simp only [show ¬ (1 = 2) from by omega, show ¬ (1 = 3) from by omega, show ¬ (1 = 4) from by omega, show ¬ (1 = 5) from by omega, if_false] at h2
      split at h2
      · rename_i hl
        injection h2 with h2; subst h2 hl
        exact ⟨rfl, ⟨by dsimp only; omega, by dsimp only; omega, fun h => absurd h (by dsimp only; omega), rfl⟩, ⟨ht, by dsimp only; omega, by dsimp only; omega, by dsimp only; omega, by dsimp only; omega, zero_nums, by simp⟩, by simp [Rec.body, putVs]⟩
      · cases h2
    · simp only [if_true, Option.bind_eq_some_iff] at h2
      obtain ⟨⟨x, l1⟩, h3, ⟨w, l2⟩, h4, ⟨n, l3⟩, h5, h6⟩ := h2
      obtain ⟨rfl, hx⟩ := getV_some h3
      obtain ⟨e4, hw⟩ := getV_some h4
      obtain ⟨e5, hn⟩ := getV_some h5
      (try dsimp only at e4 e5 h6)
      subst e4 e5
      split at h6
      · rename_i hl
        injection h6 with h6; subst h6 hl
        exact ⟨rfl, ⟨by dsimp only; omega, by dsimp only; omega, fun h => absurd h (by dsimp only; omega), rfl⟩, ⟨ht, hx, hw, hn, by dsimp only; omega, zero_nums, by simp⟩, by simp [Rec.body, putVs]⟩
      · cases h6
    · simp only [show ¬ (3 = 2) from by omega, if_false, if_true, Option.bind_eq_some_iff] at h2
      obtain ⟨⟨x, l1⟩, h3, ⟨v, l2⟩, h4, h6⟩ := h2
      obtain ⟨rfl, hx⟩ := getV_some h3
      obtain ⟨e4, hv⟩ := getV_some h4
      (try dsimp only at e4 h6)
      subst e4
      split at h6
      · rename_i hl
        injection h6 with h6; subst h6 hl
        exact ⟨rfl, ⟨by dsimp only; omega, by dsimp only; omega, fun h => absurd h (by dsimp only; omega), rfl⟩, ⟨ht, hx, by dsimp only; omega, by dsimp only; omega, hv, zero_nums, by simp⟩, by simp [Rec.body, putVs]⟩
      · cases h6
    · simp only [show ¬ (4 = 2) from by omega, show ¬ (4 = 3) from by omega, if_false, if_true, Option.bind_eq_some_iff] at h2
      obtain ⟨⟨x, l1⟩, h3, h6⟩ := h2
      obtain ⟨rfl, hx⟩ := getV_some h3
      (try dsimp only at h6)
      split at h6
      · rename_i hl
        injection h6 with h6; subst h6 hl
        exact ⟨rfl, ⟨by dsimp only; omega, by dsimp only; omega, fun h => absurd h (by dsimp only; omega), rfl⟩, ⟨ht, hx, by dsimp only; omega, by dsimp only; omega, by dsimp only; omega, zero_nums, by simp⟩, by simp [Rec.body, putVs]⟩
      · cases h6
    · simp only [show ¬ (5 = 2) from by omega, show ¬ (5 = 3) from by omega, show ¬ (5 = 4) from by omega, if_false, if_true, Option.bind_eq_some_iff] at h2
      obtain ⟨⟨m, l1⟩, h3, h6⟩ := h2
      obtain ⟨rfl, hm⟩ := getV_some h3
      (try dsimp only at h6)
      split at h6
      · rename_i hml
        simp only [Option.bind_eq_some_iff] at h6
        obtain ⟨p, h7, ⟨c, l2⟩, h8, ⟨es, l3⟩, h9, h10⟩ := h6
        obtain ⟨hr, hpn, hput⟩ := tkAll_sound h7
        obtain ⟨e8, hc⟩ := getV_some h8
        obtain ⟨e9, hes, hlen⟩ := entsG_some _ _ _ _ h9
        (try dsimp only at e8 e9 h10 hlen)
        split at h10
        · rename_i hl
          injection h10 with h10; subst h10 hl
          refine ⟨rfl, ⟨by dsimp only; omega, by dsimp only; omega, fun _ => hr, rfl⟩, ⟨ht, by dsimp only; omega, by dsimp only; omega, by dsimp only; omega, by dsimp only; omega, hpn, hes⟩, ?_⟩
          have hpl : p.put.length = m := by rw [hput]; simp; omega
          have hd : l1 = p.put ++ (putV es.length ++ entPuts es) := by
            rw [hlen]
            have := List.take_append_drop m l1
            rw [← this, ← hput, e8, e9]; simp
          simp only [Rec.body, show ¬ ((5 : Int) = 2) from by omega, show ¬ ((5 : Int) = 3) from by omega, show ¬ ((5 : Int) = 4) from by omega, if_false, if_true, putVs, List.flatMap_cons, List.flatMap_nil, List.append_nil, List.append_assoc]
          rw [hpl, ← hd]
        · cases h10
      · cases h6
    · simp only [show ¬ (6 = 2) from by omega, show ¬ (6 = 3) from by omega, show ¬ (6 = 4) from by omega, show ¬ (6 = 5) from by omega, if_false] at h2
      split at h2
      · rename_i hl
        injection h2 with h2; subst h2 hl
        exact ⟨rfl, ⟨by dsimp only; omega, by dsimp only; omega, fun h => absurd h (by dsimp only; omega), rfl⟩, ⟨ht, by dsimp only; omega, by dsimp only; omega, by dsimp only; omega, by dsimp only; omega, zero_nums, by simp⟩, by simp [Rec.body, putVs]⟩
      · cases h2
    · simp only [show ¬ (7 = 2) from by omega, show ¬ (7 = 3) from by omega, show ¬ (7 = 4) from by omega, show ¬ (7 = 5) from by omega, if_false] at h2
      split at h2
      · rename_i hl
        injection h2 with h2; subst h2 hl
        exact ⟨rfl, ⟨by dsimp only; omega, by dsimp only; omega, fun h => absurd h (by dsimp only; omega), rfl⟩, ⟨ht, by dsimp only; omega, by dsimp only; omega, by dsimp only; omega, by dsimp only; omega, zero_nums, by simp⟩, by simp [Rec.body, putVs]⟩
      · cases h2
  · cases h
end Go.Proofs.YtjedgiiplebofaaGreatDoor
namespace Go.Proofs.YtjedgiiplebofaaGreatDoor
open Go.RowKit Go
set_option linter.unusedVariables false
set_option linter.unusedSimpArgs false
theorem numB_of_ok {l : List UInt8} {v : Nat} (h : Lib.parseUintB 64 l = .ok v) : v < 18446744073709551616 ∧ (decide (Lib.decDigits v = l) = (numB l).isSome) ∧ ∀ n, numB l = some n → n = v := by
  have hv : v ≤ 2 ^ 64 - 1 := Lib.parseUintB_le h
  have hv2 : v < 18446744073709551616 := by omega
  have h2 : ∀ n, numB l = some n → n = v := fun n hn => by
    obtain ⟨rfl, hlt⟩ := numB_some.1 hn
    rw [parseUint_digits _ (decDigits_isD n), if_neg (decDigits_ne n), numOf_decDigits, if_pos hlt] at h
    injection h
  refine ⟨hv2, ?_, h2⟩
  by_cases hd : Lib.decDigits v = l
  · rw [decide_eq_true hd, numB_some.2 ⟨hd.symm, hv2⟩]; rfl
  · rw [decide_eq_false hd]
    cases hn : numB l with
    | none => rfl
    | some n =>
      have := h2 n hn
      subst this
      exact absurd (numB_some.1 hn).1.symm hd
theorem numB_of_no {l : List UInt8} (h : ∀ n, Lib.parseUintB 64 l ≠ .ok n) : numB l = none := by
  cases hn : numB l with
  | none => rfl
  | some n =>
    obtain ⟨rfl, hlt⟩ := numB_some.1 hn
    exact absurd (by rw [parseUint_digits _ (decDigits_isD n), if_neg (decDigits_ne n), numOf_decDigits, if_pos hlt]) (h n)
theorem parse_three (l : List UInt8) : (∃ u, Lib.parseUintB 64 l = .ok u) ∨ ((∀ n, Lib.parseUintB 64 l ≠ .ok n) ∧ (Lib.parseUintB 64 l = .range ∨ Lib.parseUintB 64 l = Lib.parseUintB 64 [])) := by
  cases h : Lib.parseUintB 64 l with
  | ok u => exact .inl ⟨u, rfl⟩
  | range => exact .inr ⟨(fun n h => by cases h), .inl rfl⟩
  | _ => exact .inr ⟨(fun n h => by cases h), .inr rfl⟩
end Go.Proofs.YtjedgiiplebofaaGreatDoor
namespace Go.Proofs.YtjedgiiplebofaaGreatDoor
open Go.RowKit Go
set_option linter.unusedVariables false
set_option linter.unusedSimpArgs false
def Ent.cells (e : Ent) : List Value := [.int .u64 e.x, .int .u64 e.w, .int .u64 e.n, .bool e.m]
def entCells : List Ent → List Value
  | [] => []
  | e :: es => e.cells ++ entCells es
theorem entCells_length : ∀ es : List Ent, (entCells es).length = es.length * 4
  | [] => rfl
  | e :: es => by simp [entCells, Ent.cells, entCells_length es]; omega
theorem entCells_append : ∀ a b : List Ent, entCells (a ++ b) = entCells a ++ entCells b
  | [], b => rfl
  | e :: a, b => by simp [entCells, entCells_append a b]
theorem entCells_get : ∀ (es : List Ent) (i : Nat) (h : i < es.length), (entCells es)[i * 4]? = some (.int .u64 es[i].x) ∧ (entCells es)[i * 4 + 1]? = some (.int .u64 es[i].w) ∧ (entCells es)[i * 4 + 2]? = some (.int .u64 es[i].n) ∧ (entCells es)[i * 4 + 3]? = some (.bool es[i].m)
  | e :: es, 0, h => by simp [entCells, Ent.cells]
  | e :: es, i + 1, h => by
    have := entCells_get es i (by simpa using h)
    simp only [entCells, Ent.cells, List.getElem_cons_succ]
    rw [show (i + 1) * 4 = i * 4 + 4 from by omega]
    simpa using this
def RepN (w : World) (S : Nat → Prop) (own : Bool) (es : List Ent) (v : Value) : Prop := Sl w S own 4 es.length (entCells es) v
theorem RepN.keep {w w' : World} {S S' : Nat → Prop} {own : Bool} {es : List Ent} {v : Value} (h : RepN w S own es v) (hk : Keeps S w w') (hS : ∀ b, b < w.heap.size → S b → S' b) : RepN w' S' own es v := Sl.keep h (by omega) hk hS
theorem RepN.below {B : Nat} {w w' : World} {S : Nat → Prop} {own : Bool} {es : List Ent} {v : Value} (h : RepN w S own es v) (hb : Below B w w') (hB : w.heap.size ≤ B) : RepN w' S own es v := Sl.below h (by omega) hb hB
theorem RepN.shape {w : World} {S : Nat → Prop} {own : Bool} {es : List Ent} {v : Value} (h : RepN w S own es v) : es.length ≤ 9223372036854775807 ∧ ∃ ad cap, v = .slice ad es.length cap ∧ es.length ≤ cap := ⟨h.2.1, (Sl.shape h).2.2⟩
theorem RepN.part {w : World} {S : Nat → Prop} {own : Bool} {es : List Ent} {ad : Option Addr} {cap : Nat} (h : RepN w S own es (.slice ad es.length cap)) (i : Nat) (hi : i < es.length) :
    ∃ bl off, ad = some ⟨bl, off, none⟩ ∧ S bl ∧ w.cell? ⟨bl, off + i * 4, none⟩ = some (.int .u64 es[i].x) ∧ w.cell? ⟨bl, off + i * 4 + 1, none⟩ = some (.int .u64 es[i].w) ∧ w.cell? ⟨bl, off + i * 4 + 2, none⟩ = some (.int .u64 es[i].n) ∧
      w.cell? ⟨bl, off + i * 4 + 3, none⟩ = some (.bool es[i].m) ∧ (own = true → ∀ j, j < 4 → w.frozen? ⟨bl, off + i * 4 + j, none⟩ = false) := by
  obtain ⟨bl, off, ha, hS, hc⟩ := Sl.cells h (by omega)
  have hx := entCells_length es
  obtain ⟨g0, g1, g2, g3⟩ := entCells_get es i hi
  have q0 := hc (i * 4) (by omega)
  have q1 := hc (i * 4 + 1) (by omega)
  have q2 := hc (i * 4 + 2) (by omega)
  have q3 := hc (i * 4 + 3) (by omega)
  rw [List.getElem?_eq_getElem (by omega)] at g0 g1 g2 g3
  refine ⟨bl, off, ha, hS, by rw [q0.1]; exact g0, by rw [Nat.add_assoc, q1.1]; exact g1, by rw [Nat.add_assoc, q2.1]; exact g2, by rw [Nat.add_assoc, q3.1]; exact g3, fun ho j hj => ?_⟩
  have := (hc (i * 4 + j) (by omega)).2 ho
  rw [Nat.add_assoc]; exact this
def RepR (w : World) (S : Nat → Prop) (own : Bool) (r : Rec) (v : Value) : Prop :=
  ∃ c0 c1 c2 c3 s, v = .agg #[.int .i64 r.k, .int .u64 r.t, .int .u64 r.x, .int .u64 r.w, .int .u64 r.n, .int .u64 r.v, c0, c1, c2, c3, s] ∧ -9223372036854775808 ≤ r.k ∧ r.k ≤ 9223372036854775807 ∧ r.nums ∧
    RepE w S own r.p (.agg #[c0, c1, c2, c3]) ∧ RepN w S own r.es s
theorem RepR.keep {w w' : World} {S S' : Nat → Prop} {own : Bool} {r : Rec} {v : Value} (h : RepR w S own r v) (hk : Keeps S w w') (hS : ∀ b, b < w.heap.size → S b → S' b) : RepR w' S' own r v := by
  obtain ⟨c0, c1, c2, c3, s, h1, h2, h3, h4, h5, h6⟩ := h
  exact ⟨c0, c1, c2, c3, s, h1, h2, h3, h4, RepE.keep hk hS h5, h6.keep hk hS⟩
theorem RepR.below {B : Nat} {w w' : World} {S : Nat → Prop} {own : Bool} {r : Rec} {v : Value} (h : RepR w S own r v) (hb : Below B w w') (hB : w.heap.size ≤ B) : RepR w' S own r v := h.keep (Below.keeps hb hB S) (fun _ _ h => h)
theorem RepR.wider {w : World} {S S' : Nat → Prop} {own : Bool} {r : Rec} {v : Value} (h : RepR w S own r v) (hS : ∀ b, b < w.heap.size → S b → S' b) : RepR w S' own r v := h.keep (fun _ _ _ => rfl) hS
theorem RepR.conc {w : World} {S : Nat → Prop} {own : Bool} {r : Rec} {v : Value} (h : RepR w S own r v) :
    ∃ k' a' b' ad' n' cap' ad2 cap2, v = .agg #[.int .i64 r.k, .int .u64 r.t, .int .u64 r.x, .int .u64 r.w, .int .u64 r.n, .int .u64 r.v, .int .i64 k', .int .u64 (a' : Nat), .int .u64 (b' : Nat), .slice ad' n' cap', .slice ad2 r.es.length cap2] ∧
      -9223372036854775808 ≤ r.k ∧ r.k ≤ 9223372036854775807 ∧ r.nums ∧ RepE w S own r.p (.agg #[.int .i64 k', .int .u64 (a' : Nat), .int .u64 (b' : Nat), .slice ad' n' cap']) ∧ RepN w S own r.es (.slice ad2 r.es.length cap2) := by
  obtain ⟨c0, c1, c2, c3, s, rfl, h2, h3, h4, h5, h6⟩ := h
  obtain ⟨k', a', b', ad', n', cap', he⟩ := h5.conc
  simp only [Value.agg.injEq, Array.mk.injEq, List.cons.injEq, and_true] at he
  obtain ⟨rfl, rfl, rfl, rfl⟩ := he
  obtain ⟨_, ad2, cap2, rfl, _⟩ := h6.shape
  exact ⟨_, _, _, _, _, _, _, _, rfl, h2, h3, h4, h5, h6⟩
end Go.Proofs.YtjedgiiplebofaaGreatDoor
namespace Go.Proofs.YtjedgiiplebofaaGreatDoor
open Go.RowKit Go
set_option linter.unusedVariables false
set_option linter.unusedSimpArgs false
theorem cut_some {c : UInt8} {l : List UInt8} (h : c ∈ l) : ∃ x r, Lib.cut l [c] = (x, r, true) ∧ l = x ++ c :: r ∧ c ∉ x := by
  obtain ⟨x, r, h1, h2, h3⟩ := takeWhile_split h
  refine ⟨x, r, ?_, h1, h2⟩
  unfold Lib.cut
  rw [h3, if_pos (by omega)]
  subst h1
  simp only [Int.toNat_natCast, List.length_singleton]
  rw [List.take_left, show x.length + 1 = (x ++ [c]).length from by simp, show x ++ c :: r = (x ++ [c]) ++ r from by simp, List.drop_left]
theorem cut_none {c : UInt8} {l : List UInt8} (h : c ∉ l) : Lib.cut l [c] = (l, [], false) := by
  unfold Lib.cut
  rw [index_one, if_neg h, if_neg (by omega)]
theorem verB_cut_none {l : List UInt8} (h : (46 : UInt8) ∉ l) : verB l = none := by
  unfold verB; rw [cuts_none h]
theorem verB_cut {x r : List UInt8} (h : (46 : UInt8) ∉ x) : verB (x ++ 46 :: r) = (numB x).bind fun w => (numB r).map fun n => (w, n) := by
  unfold verB
  rw [cuts_at _ h]
  cases hc : cuts 46 r with
  | nil => exact absurd hc (cuts_ne _ _)
  | cons a q =>
    have hj := cuts_join 46 r
    rw [hc] at hj
    cases q with
    | nil =>
      rw [Lib.join_one] at hj
      subst hj
      rfl
    | cons b q =>
      have hn : numB r = none := by
        cases hn : numB r with
        | none => rfl
        | some n =>
          obtain ⟨rfl, _⟩ := numB_some.1 hn
          rw [cuts_none (digits_no (by decide))] at hc
          cases hc
      rw [hn]
      cases numB x <;> rfl
theorem splitB_cuts (s : ByteArray) (c : UInt8) : ((Lib.splitB ⟨#[c]⟩ 0 (Lib.countB s ⟨#[c]⟩) s).map fun b => b.data.toList) = cuts c s.data.toList := by
  rw [Lib.splitB_data]
  exact splitK_cuts c _ _ (countFrom_one c _ _ (by omega))
theorem splitB_len (s : ByteArray) (c : UInt8) : Lib.countB s ⟨#[c]⟩ + 1 = (cuts c s.data.toList).length := by
  rw [← splitB_cuts, List.length_map, Lib.splitB_all ⟨#[c]⟩ (by simp [ByteArray.size]) 0 _ s rfl]
end Go.Proofs.YtjedgiiplebofaaGreatDoor
namespace Go.Proofs.YtjedgiiplebofaaGreatDoor
open Go.RowKit Go
set_option linter.unusedVariables false
set_option linter.unusedSimpArgs false
def numS : Option (List UInt8) → Nat × Option (List UInt8)
  | none => (0, none)
  | some l => match getV l with
    | some x => (x.1, some x.2)
    | none => (0, none)
def rawS (n : Nat) : Option (List UInt8) → List UInt8 × Option (List UInt8)
  | none => ([], none)
  | some l => if n ≤ l.length then (l.take n, some (l.drop n)) else ([], none)
def textS (s : Option (List UInt8)) : List UInt8 × Option (List UInt8) := rawS (numS s).1 (numS s).2
def verS (s : Option (List UInt8)) : (Nat × Nat) × Option (List UInt8) := (((numS s).1, (numS (numS s).2).1), (numS (numS s).2).2)
def flagBad (b : List UInt8) : Bool := match b with
  | [c] => decide (1 < c.toNat)
  | _ => true
def flagOf (b : List UInt8) : Bool := match b with
  | [c] => decide (c.toNat = 1)
  | _ => false
def entS (s : Option (List UInt8)) (f : Bool) : Ent × Option (List UInt8) × Bool :=
  let x := numS s
  let v := verS x.2
  let b := rawS 1 v.2
  (⟨x.1, v.1.1, v.1.2, flagOf b.1⟩, b.2, f || flagBad b.1)
def entsS : Nat → Option (List UInt8) → Bool → List Ent × Option (List UInt8) × Bool
  | 0, s, f => ([], s, f)
  | n + 1, s, f => match s with
    | none => ([], none, f)
    | some l => ((entS (some l) f).1 :: (entsS n (entS (some l) f).2.1 (entS (some l) f).2.2).1, (entsS n (entS (some l) f).2.1 (entS (some l) f).2.2).2)
def predS (s : Option (List UInt8)) (f : Bool) : Ex × Option (List UInt8) × Bool := ((tkAll (textS s).1).getD .zero, (textS s).2, f || (tkAll (textS s).1).isNone)
def takeS (k t : Nat) (s : Option (List UInt8)) (f : Bool) : Rec × Option (List UInt8) × Bool :=
  if k = 2 then (⟨2, t, (numS s).1, (verS (numS s).2).1.1, (verS (numS s).2).1.2, 0, .zero, []⟩, (verS (numS s).2).2, f)
  else if k = 3 then (⟨3, t, (numS s).1, 0, 0, (numS (numS s).2).1, .zero, []⟩, (numS (numS s).2).2, f)
  else if k = 4 then (⟨4, t, (numS s).1, 0, 0, 0, .zero, []⟩, (numS s).2, f)
  else if k = 5 then (⟨5, t, 0, 0, 0, 0, (predS s f).1, (entsS (numS (predS s f).2.1).1 (numS (predS s f).2.1).2 (predS s f).2.2).1⟩, (entsS (numS (predS s f).2.1).1 (numS (predS s f).2.1).2 (predS s f).2.2).2)
  else (⟨k, t, 0, 0, 0, 0, .zero, []⟩, s, f)
def parseS (k : Nat) (b : List UInt8) : Rec × Option (List UInt8) × Bool := takeS k (numS (some b)).1 (numS (some b)).2 false
theorem numS_some {l r : List UInt8} {v : Nat} (h : getV l = some (v, r)) : numS (some l) = (v, some r) := by simp [numS, h]
theorem numS_no {l : List UInt8} (h : getV l = none) : numS (some l) = (0, none) := by simp [numS, h]
theorem numS_none : numS none = (0, none) := rfl
theorem numS_lt (s : Option (List UInt8)) : (numS s).1 < 18446744073709551616 := by
  cases s with
  | none => simp [numS]
  | some l =>
    cases h : getV l with
    | none => simp [numS_no h]
    | some x => obtain ⟨v, r⟩ := x; rw [numS_some h]; exact (getV_some h).2
theorem verS_lt (s : Option (List UInt8)) : (verS s).1.1 < 18446744073709551616 ∧ (verS s).1.2 < 18446744073709551616 := ⟨numS_lt s, numS_lt _⟩
theorem entS_good {r r' : List UInt8} {e : Ent} (f : Bool) (h : entG r = some (e, r')) : entS (some r) f = (e, some r', f) := by
  unfold entG at h
  cases h1 : getV r with
  | none => simp [h1] at h
  | some x =>
    obtain ⟨x, r1⟩ := x
    simp only [h1, Option.bind_some] at h
    cases h2 : getV r1 with
    | none => simp [h2] at h
    | some y =>
      obtain ⟨y, r2⟩ := y
      simp only [h2, Option.bind_some] at h
      cases h3 : getV r2 with
      | none => simp [h3] at h
      | some z =>
        obtain ⟨z, r3⟩ := z
        simp only [h3, Option.bind_some] at h
        cases r3 with
        | nil => simp at h
        | cons c r3 =>
          simp only at h
          by_cases hc : c.toNat ≤ 1
          · rw [if_pos hc] at h
            simp only [Option.some.injEq, Prod.mk.injEq] at h
            obtain ⟨rfl, rfl⟩ := h
            have hb : flagBad [c] = false := by simp [flagBad]; omega
            simp [entS, verS, numS_some h1, numS_some h2, numS_some h3, rawS, hb, flagOf]
          · rw [if_neg hc] at h; cases h
theorem entS_bad {r : List UInt8} (f : Bool) (h : entG r = none) : (entS (some r) f).2.1 = none ∨ (entS (some r) f).2.2 = true := by
  unfold entG at h
  cases h1 : getV r with
  | none => left; simp [entS, verS, numS_no h1, numS_none, rawS]
  | some x =>
    obtain ⟨x, r1⟩ := x
    simp only [h1, Option.bind_some] at h
    cases h2 : getV r1 with
    | none => left; simp [entS, verS, numS_some h1, numS_no h2, numS_none, rawS]
    | some y =>
      obtain ⟨y, r2⟩ := y
      simp only [h2, Option.bind_some] at h
      cases h3 : getV r2 with
      | none => left; simp [entS, verS, numS_some h1, numS_some h2, numS_no h3, rawS]
      | some z =>
        obtain ⟨z, r3⟩ := z
        simp only [h3, Option.bind_some] at h
        cases r3 with
        | nil => left; simp [entS, verS, numS_some h1, numS_some h2, numS_some h3, rawS]
        | cons c r3 =>
          simp only at h
          by_cases hc : c.toNat ≤ 1
          · rw [if_pos hc] at h; cases h
          · have hb : flagBad [c] = true := by simp [flagBad]; omega
            right; simp [entS, verS, numS_some h1, numS_some h2, numS_some h3, rawS, hb]
theorem entS_fault (s : Option (List UInt8)) : (entS s true).2.2 = true := by simp [entS]
theorem entsS_none (n : Nat) (f : Bool) : entsS n none f = ([], none, f) := by cases n <;> rfl
theorem entsS_fault : ∀ (n : Nat) (s : Option (List UInt8)), (entsS n s true).2.2 = true
  | 0, s => rfl
  | n + 1, none => rfl
  | n + 1, some l => by
    simp only [entsS, entS_fault]
    exact entsS_fault n _
theorem entsS_good : ∀ (n : Nat) (r r' : List UInt8) (es : List Ent) (f : Bool), entsG n r = some (es, r') → entsS n (some r) f = (es, some r', f)
  | 0, r, r', es, f, h => by
    simp only [entsG, Option.some.injEq, Prod.mk.injEq] at h
    obtain ⟨rfl, rfl⟩ := h
    rfl
  | n + 1, r, r', es, f, h => by
    rw [entsG] at h
    cases h1 : entG r with
    | none => simp [h1] at h
    | some e =>
      obtain ⟨e, r1⟩ := e
      simp only [h1, Option.bind_some] at h
      cases h2 : entsG n r1 with
      | none => simp [h2] at h
      | some x =>
        obtain ⟨x, r2⟩ := x
        simp only [h2, Option.map_some, Option.some.injEq, Prod.mk.injEq] at h
        obtain ⟨rfl, rfl⟩ := h
        simp only [entsS, entS_good f h1]
        rw [entsS_good n r1 r2 x f h2]
theorem entsS_bad : ∀ (n : Nat) (r : List UInt8) (f : Bool), entsG n r = none → (entsS n (some r) f).2.1 = none ∨ (entsS n (some r) f).2.2 = true
  | 0, r, f, h => by simp [entsG] at h
  | n + 1, r, f, h => by
    rw [entsG] at h
    simp only [entsS]
    cases h1 : entG r with
    | none =>
      rcases entS_bad f h1 with h2 | h2
      · left; rw [h2, entsS_none]
      · right; rw [h2]; exact entsS_fault n _
    | some e =>
      obtain ⟨e, r1⟩ := e
      simp only [h1, Option.bind_some] at h
      rw [entS_good f h1]
      exact entsS_bad n r1 f (by cases h2 : entsG n r1 with | none => rfl | some x => simp [h2] at h)
def endS (x : Rec × Option (List UInt8) × Bool) : Option Rec := if x.2.2 = false ∧ x.2.1 = some [] then some x.1 else none
theorem endS_none {x : Rec × Option (List UInt8) × Bool} (h : x.2.1 = none ∨ x.2.2 = true) : endS x = none := by
  unfold endS
  rcases h with h | h <;> simp [h]
theorem takeS_none (k t : Nat) (f : Bool) : endS (takeS k t none f) = none := by
  apply endS_none
  left
  unfold takeS
  repeat' split
  all_goals simp [numS_none, verS, predS, textS, rawS, entsS_none]
theorem takeS_tail (k t : Nat) (l : List UInt8) : endS (takeS k t (some l) false) = tailG k t l := by
  unfold tailG takeS
  split
  · cases h1 : getV l with
    | none => simp [numS_no h1, numS_none, verS, endS]
    | some x =>
      obtain ⟨x, r1⟩ := x
      simp only [Option.bind_some, numS_some h1]
      cases h2 : getV r1 with
      | none => simp [numS_no h2, numS_none, verS, endS]
      | some y =>
        obtain ⟨y, r2⟩ := y
        simp only [Option.bind_some]
        cases h3 : getV r2 with
        | none => simp [numS_no h3, numS_some h2, numS_none, verS, endS]
        | some z => obtain ⟨z, r3⟩ := z; simp [numS_some h3, numS_some h2, verS, endS]
  split
  · cases h1 : getV l with
    | none => simp [numS_no h1, numS_none, endS]
    | some x =>
      obtain ⟨x, r1⟩ := x
      simp only [Option.bind_some, numS_some h1]
      cases h2 : getV r1 with
      | none => simp [numS_no h2, endS]
      | some y => obtain ⟨y, r2⟩ := y; simp [numS_some h2, endS]
  split
  · cases h1 : getV l with
    | none => simp [numS_no h1, endS]
    | some x => obtain ⟨x, r1⟩ := x; simp [numS_some h1, endS]
  split
  · cases h1 : getV l with
    | none =>
      simp only [Option.bind_none]
      exact endS_none (.inl (by simp [predS, textS, numS_no h1, rawS, numS_none, entsS_none]))
    | some x =>
      obtain ⟨m, r1⟩ := x
      simp only [Option.bind_some]
      by_cases hm : m ≤ r1.length
      · rw [if_pos hm]
        have ht : textS (some l) = (r1.take m, some (r1.drop m)) := by simp [textS, numS_some h1, rawS, hm]
        cases h2 : tkAll (r1.take m) with
        | none =>
          simp only [Option.bind_none]
          refine endS_none (.inr ?_)
          simp only [predS, ht, h2, Option.isNone_none, Bool.or_true]
          exact entsS_fault _ _
        | some p =>
          simp only [Option.bind_some]
          have hp : predS (some l) false = (p, some (r1.drop m), false) := by simp [predS, ht, h2]
          simp only [hp]
          cases h3 : getV (r1.drop m) with
          | none => simp only [Option.bind_none]; exact endS_none (.inl (by simp [numS_no h3, entsS_none]))
          | some y =>
            obtain ⟨n, r3⟩ := y
            simp only [Option.bind_some, numS_some h3]
            cases h4 : entsG n r3 with
            | none => simp only [Option.bind_none]; exact endS_none (entsS_bad n r3 false h4)
            | some z =>
              obtain ⟨es, r4⟩ := z
              simp only [Option.bind_some]
              rw [entsS_good n r3 r4 es false h4]
              simp [endS]
      · rw [if_neg hm]
        exact endS_none (.inl (by simp [predS, textS, numS_some h1, rawS, hm, numS_none, entsS_none]))
  · simp [endS]
theorem parseS_eq (k : Nat) (b : List UInt8) (h : 1 ≤ k ∧ k ≤ 7) : endS (parseS k b) = frameG k b := by
  unfold parseS frameG
  rw [if_pos h]
  cases h1 : getV b with
  | none => rw [numS_no h1]; exact takeS_none k 0 false
  | some x => obtain ⟨t, r⟩ := x; rw [numS_some h1]; exact takeS_tail k t r
end Go.Proofs.YtjedgiiplebofaaGreatDoor
namespace Go.Proofs.YtjedgiiplebofaaGreatDoor
open Go.RowKit Go
set_option linter.unusedVariables false
set_option linter.unusedSimpArgs false
def ex1 : Rec := ⟨2, 7, 300, 2, 1, 0, .zero, []⟩
def ex2 : Rec := ⟨5, 1, 0, 0, 0, 0, .mk 1 0 0 [], [⟨5, 0, 0, false⟩]⟩
theorem ex1_right : ex1.right = true := by decide
theorem ex2_right : ex2.right = true := by decide
theorem ex1_body : ex1.body = [7, 172, 2, 2, 1] := by decide
theorem ex2_body : ex2.body = [1, 1, 1, 1, 5, 0, 0, 0] := by decide
theorem dd300 : Lib.decDigits 300 = [51, 48, 48] := by simp [Lib.decDigits]
theorem ex1_line : lineB [114, 101, 97, 100, 32, 55, 32, 51, 48, 48, 32, 50, 46, 49] = some ex1 := by
  have h := lineB_told (r := ex1) ((Rec.right_iff _).1 ex1_right) ⟨by decide, by decide, by decide, by decide, by decide, zero_nums, by simp [ex1]⟩
  have ht : ex1.told = [114, 101, 97, 100, 32, 55, 32, 51, 48, 48, 32, 50, 46, 49] := by
    have h7 : Lib.decDigits 7 = [55] := by simp [Lib.decDigits]
    have h2 : Lib.decDigits 2 = [50] := by simp [Lib.decDigits]
    have h1 : Lib.decDigits 1 = [49] := by simp [Lib.decDigits]
    unfold Rec.told Rec.words Rec.tail ex1
    simp only [verT, h7, h2, h1, dd300]
    rfl
  rw [ht] at h
  exact h
theorem numB_none {s : List UInt8} (h : ∀ n, s ≠ Lib.decDigits n) : numB s = none := by
  cases hn : numB s with
  | none => rfl
  | some n => exact absurd ((numB_some).1 hn).1 (h n)
theorem numB_nil : numB [] = none := numB_none (fun n h => by
  have h5 := numOf_decDigits n
  rw [← h] at h5
  have h6 : n = 0 := by rw [← h5]; rfl
  subst h6
  rw [Lib.decDigits_one (by omega)] at h
  cases h)
theorem numB_01 : numB [48, 49] = none := numB_none (fun n h => by
  have h5 := numOf_decDigits n
  rw [← h] at h5
  have h6 : n = 1 := by rw [← h5]; rfl
  subst h6
  rw [Lib.decDigits_one (by omega)] at h
  cases h)
theorem bad_1 : lineB [98, 101, 103, 105, 110, 32, 32, 49] = none := by
  have hc : cuts 32 [98, 101, 103, 105, 110, 32, 32, 49] = [[98, 101, 103, 105, 110], [], [49]] := by decide
  unfold lineB
  rw [hc]
  simp only
  rw [numB_nil]
  split <;> rfl
theorem bad_2 : lineB [114, 101, 97, 100, 32, 49, 32, 50, 32, 51] = none := by
  have hc : cuts 32 [114, 101, 97, 100, 32, 49, 32, 50, 32, 51] = [[114, 101, 97, 100], [49], [50], [51]] := by decide
  have hv : verB [51] = none := rfl
  have hk : kindOf [114, 101, 97, 100] = 2 := by decide
  unfold lineB
  rw [hc]
  simp only
  rw [hk, if_neg (by omega)]
  cases numB [49] with
  | none => rfl
  | some t =>
    simp only [Option.bind_some, tailB, if_true, hv]
    cases numB [50] <;> rfl
theorem bad_3 : lineB [119, 114, 105, 116, 101, 32, 48, 49, 32, 50, 32, 51] = none := by
  have hc : cuts 32 [119, 114, 105, 116, 101, 32, 48, 49, 32, 50, 32, 51] = [[119, 114, 105, 116, 101], [48, 49], [50], [51]] := by decide
  unfold lineB
  rw [hc]
  simp only
  rw [numB_01]
  split <;> rfl
end Go.Proofs.YtjedgiiplebofaaGreatDoor
