/- The chapter's examples: plain Lean. -/
import Derived.Test.YtohjkejdkhdjbaaGreatDoorEx08
import Derived.Test.YtohjkejdkhdjbaaGreatDoorEx05
namespace Go.Proofs.YtohjkejdkhdjbaaGreatDoor
open Go.RowKit Go
set_option linter.unusedVariables false
set_option linter.unusedSimpArgs false
def exW : Ex := .mk 6 0 0 [.mk 2 7 0 [], .mk 5 0 0 [.mk 4 3 1 []]]
theorem num1 (n : Nat) (h : n < 10) (r : List UInt8) (hr : ∀ c, r.head? = some c → isD c = false) : rdNum (UInt8.ofNat (48 + n) :: r) = some (n, r) := by
  have h1 := rdNum_told n (by omega) r hr
  rwa [Lib.decDigits_one h] at h1
theorem rdText_1 : rdText [38, 40, 120, 60, 61, 55, 44, 33, 118, 37, 51, 61, 49, 41] = some exW := by
  have a := num1 7 (by omega) [44, 33, 118, 37, 51, 61, 49, 41] (by intro c hc; simp at hc; subst hc; rfl)
  have b := num1 3 (by omega) [61, 49, 41] (by intro c hc; simp at hc; subst hc; rfl)
  have c := num1 1 (by omega) [41] (by intro c hc; simp at hc; subst hc; rfl)
  simp only [show UInt8.ofNat (48 + 7) = 55 from rfl, show UInt8.ofNat (48 + 3) = 51 from rfl, show UInt8.ofNat (48 + 1) = 49 from rfl] at a b c
  simp [rdText, rfE, rfParts, rfLoop, pre, a, b, c, exW]
  decide
theorem rdText_2 : rdText [118, 37, 51, 61, 51] = none := by
  have b := num1 3 (by omega) [61, 51] (by intro c hc; simp at hc; subst hc; rfl)
  have c := num1 3 (by omega) [] (by intro c hc; simp at hc)
  simp only [show UInt8.ofNat (48 + 3) = 51 from rfl] at b c
  simp [rdText, rfE, rfParts, rfLoop, pre, b, c]
  decide
theorem rdText_3 : rdText [120, 60, 61, 48, 55] = none := by
  have b : rdNum [48, 55] = none := by
    cases h : rdNum [48, 55] with
    | none => rfl
    | some x =>
      obtain ⟨n, r⟩ := x
      obtain ⟨h1, h2, h3⟩ := rdNum_some h
      have h4 : Lib.decDigits n = [48, 55] := by
        have := takeWhile_append_of (Lib.decDigits n) r (decDigits_isD n) h3
        rw [← h1] at this
        rw [← this.1]; rfl
      have h5 := numOf_decDigits n
      rw [h4] at h5
      have h6 : n = 7 := by rw [← h5]; rfl
      subst h6
      rw [Lib.decDigits_one (by omega)] at h4
      cases h4
  simp [rdText, rfE, pre, b]
theorem rdText_4 : rdText [38, 40, 97, 108, 108, 44, 41] = none := by
  simp [rdText, rfE, rfParts, rfLoop, pre]
theorem exW_put : exW.put = [6, 2, 2, 7, 5, 4, 3, 1] := by decide
theorem exW_facts : exW.holds 7 5 = true ∧ exW.holds 7 4 = false ∧ exW.holds 8 5 = false ∧ exW.depth = 3 ∧ exW.size = 4 := by decide
end Go.Proofs.YtohjkejdkhdjbaaGreatDoor
