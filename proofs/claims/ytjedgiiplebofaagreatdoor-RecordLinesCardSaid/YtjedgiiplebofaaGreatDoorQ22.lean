/- The examples of chapter 5: plain Lean. Ahead of it: Records as they stand, and the record of a payload: plain Lean. What is parsed as a predicate, or a record, stood so: plain Lean. -/
import Derived.Test.YtjedgiiplebofaaGreatDoorQ20
import Derived.Test.YtjedgiiplebofaaGreatDoorQ9
import Derived.Test.YtjedgiiplebofaaGreatDoorQLib4
namespace Go.Proofs.YtjedgiiplebofaaGreatDoor
open Go.RowKit Go
set_option linter.unusedVariables false
set_option linter.unusedSimpArgs false
def Ent.put (e : Ent) : List UInt8 := putVs [e.x, e.w, e.n] ++ [if e.m then 1 else 0]
def entPuts (es : List Ent) : List UInt8 := es.flatMap Ent.put
/-- A record's payload. -/
def Rec.body (r : Rec) : List UInt8 :=
  if r.k = 2 then putVs [r.t, r.x, r.w, r.n] else if r.k = 3 then putVs [r.t, r.x, r.v] else if r.k = 4 then putVs [r.t, r.x]
  else if r.k = 5 then putVs [r.t, r.p.put.length] ++ (r.p.put ++ (putVs [r.es.length] ++ entPuts r.es)) else putVs [r.t]
theorem Ent.put_length (e : Ent) : e.put.length ≤ 31 := by
  have := putVs_length [e.x, e.w, e.n]
  simp only [Ent.put, List.length_append, List.length_cons, List.length_nil] at this ⊢; omega
theorem entPuts_length : ∀ es : List Ent, (entPuts es).length ≤ 31 * es.length
  | [] => by simp [entPuts]
  | e :: es => by
    have h1 := e.put_length
    have h2 := entPuts_length es
    simp only [entPuts, List.flatMap_cons, List.length_append, List.length_cons] at h2 ⊢; omega
theorem entPuts_take (es : List Ent) (k : Nat) (h : k < es.length) : entPuts (es.take (k + 1)) = entPuts (es.take k) ++ es[k].put := by
  unfold entPuts; rw [List.take_succ_eq_append_getElem h, List.flatMap_append]; simp
theorem entPuts_take_length (es : List Ent) (k : Nat) : (entPuts (es.take k)).length ≤ 31 * es.length := by
  have := entPuts_length (es.take k)
  have h2 : (es.take k).length ≤ es.length := by simp; omega
  omega
theorem put_length_lt {p : Ex} (h : p.right = true) : p.put.length ≤ 992 := by
  have h1 := p.st_length
  have h2 := (right_parts h).2.2
  unfold Ex.put; rw [if_pos h]; omega
end Go.Proofs.YtjedgiiplebofaaGreatDoor
namespace Go.Proofs.YtjedgiiplebofaaGreatDoor
open Go.RowKit Go
set_option linter.unusedVariables false
set_option linter.unusedSimpArgs false
end Go.Proofs.YtjedgiiplebofaaGreatDoor
namespace Go.Proofs.YtjedgiiplebofaaGreatDoor
open Go.RowKit Go
set_option linter.unusedVariables false
set_option linter.unusedSimpArgs false
def ex1 : Rec := ⟨2, 7, 300, 2, 1, 0, .zero, []⟩
def ex2 : Rec := ⟨5, 1, 0, 0, 0, 0, .mk 1 0 0 [], [⟨5, 0, 0, false⟩]⟩
theorem ex1_right : ex1.right = true := by decide
theorem ex2_right : ex2.right = true := by decide
theorem ex1_body : ex1.body = [7, 172, 2, 2, 1] := by decide
theorem ex2_body : ex2.body = [1, 1, 1, 1, 5, 0, 0, 0] := by decide
theorem dd300 : Lib.decDigits 300 = [51, 48, 48] := by simp [Lib.decDigits]
theorem ex1_line : lineB [114, 101, 97, 100, 32, 55, 32, 51, 48, 48, 32, 50, 46, 49] = some ex1 := by
  have h := lineB_told (r := ex1) ((Rec.right_iff _).1 ex1_right) ⟨by decide, by decide, by decide, by decide, by decide, zero_nums, by simp [ex1]⟩
  have ht : ex1.told = [114, 101, 97, 100, 32, 55, 32, 51, 48, 48, 32, 50, 46, 49] := by
    have h7 : Lib.decDigits 7 = [55] := by simp [Lib.decDigits]
    have h2 : Lib.decDigits 2 = [50] := by simp [Lib.decDigits]
    have h1 : Lib.decDigits 1 = [49] := by simp [Lib.decDigits]
    unfold Rec.told Rec.words Rec.tail ex1
    simp only [verT, h7, h2, h1, dd300]
    rfl
  rw [ht] at h
  exact h
theorem numB_none {s : List UInt8} (h : ∀ n, s ≠ Lib.decDigits n) : numB s = none := by
  cases hn : numB s with
  | none => rfl
  | some n => exact absurd ((numB_some).1 hn).1 (h n)
theorem numB_nil : numB [] = none := numB_none (fun n h => by
  have h5 := numOf_decDigits n
  rw [← h] at h5
  have h6 : n = 0 := by rw [← h5]; rfl
  subst h6
  rw [Lib.decDigits_one (by omega)] at h
  cases h)
theorem numB_01 : numB [48, 49] = none := numB_none (fun n h => by
  have h5 := numOf_decDigits n
  rw [← h] at h5
  have h6 : n = 1 := by rw [← h5]; rfl
  subst h6
  rw [Lib.decDigits_one (by omega)] at h
  cases h)
theorem bad_1 : lineB [98, 101, 103, 105, 110, 32, 32, 49] = none := by
  have hc : cuts 32 [98, 101, 103, 105, 110, 32, 32, 49] = [[98, 101, 103, 105, 110], [], [49]] := by decide
  unfold lineB
  rw [hc]
  simp only
  rw [numB_nil]
  split <;> rfl
theorem bad_2 : lineB [114, 101, 97, 100, 32, 49, 32, 50, 32, 51] = none := by
  have hc : cuts 32 [114, 101, 97, 100, 32, 49, 32, 50, 32, 51] = [[114, 101, 97, 100], [49], [50], [51]] := by decide
  have hv : verB [51] = none := rfl
  have hk : kindOf [114, 101, 97, 100] = 2 := by decide
  unfold lineB
  rw [hc]
  simp only
  rw [hk, if_neg (by omega)]
  cases numB [49] with
  | none => rfl
  | some t =>
    simp only [Option.bind_some, tailB, if_true, hv]
    cases numB [50] <;> rfl
theorem bad_3 : lineB [119, 114, 105, 116, 101, 32, 48, 49, 32, 50, 32, 51] = none := by
  have hc : cuts 32 [119, 114, 105, 116, 101, 32, 48, 49, 32, 50, 32, 51] = [[119, 114, 105, 116, 101], [48, 49], [50], [51]] := by decide
  unfold lineB
  rw [hc]
  simp only
  rw [numB_01]
  split <;> rfl
end Go.Proofs.YtjedgiiplebofaaGreatDoor
