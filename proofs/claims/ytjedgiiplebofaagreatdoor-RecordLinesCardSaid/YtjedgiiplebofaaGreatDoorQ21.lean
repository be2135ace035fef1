/- strings.Cut and strings.Split, as a record's text asks them: plain Lean. Ahead of it: ParseUint's answer at any text, against the numbers that are told so: plain Lean. -/
import Derived.Test.YtjedgiiplebofaaGreatDoorQ20
import Derived.Lib.CutLaws
namespace Go.Proofs.YtjedgiiplebofaaGreatDoor
open Go.RowKit Go
set_option linter.unusedVariables false
set_option linter.unusedSimpArgs false
theorem numB_of_ok {l : List UInt8} {v : Nat} (h : Lib.parseUintB 64 l = .ok v) : v < 18446744073709551616 ∧ (decide (Lib.decDigits v = l) = (numB l).isSome) ∧ ∀ n, numB l = some n → n = v := by
  have hv : v ≤ 2 ^ 64 - 1 := Lib.parseUintB_le h
  have hv2 : v < 18446744073709551616 := by omega
  have h2 : ∀ n, numB l = some n → n = v := fun n hn => by
    obtain ⟨rfl, hlt⟩ := numB_some.1 hn
    rw [parseUint_digits _ (decDigits_isD n), if_neg (decDigits_ne n), numOf_decDigits, if_pos hlt] at h
    injection h
  refine ⟨hv2, ?_, h2⟩
  by_cases hd : Lib.decDigits v = l
  · rw [decide_eq_true hd, numB_some.2 ⟨hd.symm, hv2⟩]; rfl
  · rw [decide_eq_false hd]
    cases hn : numB l with
    | none => rfl
    | some n =>
      have := h2 n hn
      subst this
      exact absurd (numB_some.1 hn).1.symm hd
theorem numB_of_no {l : List UInt8} (h : ∀ n, Lib.parseUintB 64 l ≠ .ok n) : numB l = none := by
  cases hn : numB l with
  | none => rfl
  | some n =>
    obtain ⟨rfl, hlt⟩ := numB_some.1 hn
    exact absurd (by rw [parseUint_digits _ (decDigits_isD n), if_neg (decDigits_ne n), numOf_decDigits, if_pos hlt]) (h n)
theorem parse_three (l : List UInt8) : (∃ u, Lib.parseUintB 64 l = .ok u) ∨ ((∀ n, Lib.parseUintB 64 l ≠ .ok n) ∧ (Lib.parseUintB 64 l = .range ∨ Lib.parseUintB 64 l = Lib.parseUintB 64 [])) := by
  cases h : Lib.parseUintB 64 l with
  | ok u => exact .inl ⟨u, rfl⟩
  | range => exact .inr ⟨(fun n h => by cases h), .inl rfl⟩
  | _ => exact .inr ⟨(fun n h => by cases h), .inr rfl⟩
end Go.Proofs.YtjedgiiplebofaaGreatDoor
namespace Go.Proofs.YtjedgiiplebofaaGreatDoor
open Go.RowKit Go
set_option linter.unusedVariables false
set_option linter.unusedSimpArgs false
theorem cut_some {c : UInt8} {l : List UInt8} (h : c ∈ l) : ∃ x r, Lib.cut l [c] = (x, r, true) ∧ l = x ++ c :: r ∧ c ∉ x := by
  obtain ⟨x, r, h1, h2, h3⟩ := takeWhile_split h
  refine ⟨x, r, ?_, h1, h2⟩
  unfold Lib.cut
  rw [h3, if_pos (by omega)]
  subst h1
  simp only [Int.toNat_natCast, List.length_singleton]
  rw [List.take_left, show x.length + 1 = (x ++ [c]).length from by simp, show x ++ c :: r = (x ++ [c]) ++ r from by simp, List.drop_left]
theorem cut_none {c : UInt8} {l : List UInt8} (h : c ∉ l) : Lib.cut l [c] = (l, [], false) := by
  unfold Lib.cut
  rw [index_one, if_neg h, if_neg (by omega)]
theorem verB_cut_none {l : List UInt8} (h : (46 : UInt8) ∉ l) : verB l = none := by
  unfold verB; rw [cuts_none h]
theorem verB_cut {x r : List UInt8} (h : (46 : UInt8) ∉ x) : verB (x ++ 46 :: r) = (numB x).bind fun w => (numB r).map fun n => (w, n) := by
  unfold verB
  rw [cuts_at _ h]
  cases hc : cuts 46 r with
  | nil => exact absurd hc (cuts_ne _ _)
  | cons a q =>
    have hj := cuts_join 46 r
    rw [hc] at hj
    cases q with
    | nil =>
      rw [Lib.join_one] at hj
      subst hj
      rfl
    | cons b q =>
      have hn : numB r = none := by
        cases hn : numB r with
        | none => rfl
        | some n =>
          obtain ⟨rfl, _⟩ := numB_some.1 hn
          rw [cuts_none (digits_no (by decide))] at hc
          cases hc
      rw [hn]
      cases numB x <;> rfl
theorem splitB_cuts (s : ByteArray) (c : UInt8) : ((Lib.splitB ⟨#[c]⟩ 0 (Lib.countB s ⟨#[c]⟩) s).map fun b => b.data.toList) = cuts c s.data.toList := by
  rw [Lib.splitB_data]
  exact splitK_cuts c _ _ (countFrom_one c _ _ (by omega))
theorem splitB_len (s : ByteArray) (c : UInt8) : Lib.countB s ⟨#[c]⟩ + 1 = (cuts c s.data.toList).length := by
  rw [← splitB_cuts, List.length_map, Lib.splitB_all ⟨#[c]⟩ (by simp [ByteArray.size]) 0 _ s rfl]
end Go.Proofs.YtjedgiiplebofaaGreatDoor
