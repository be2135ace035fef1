/- Numbers as bytes: plain Lean. -/
import Derived.Test.YtohjkejdkhdjbaaGreatDoorLib3
namespace Go.Proofs.YtohjkejdkhdjbaaGreatDoor
open Go.RowKit Go
set_option linter.unusedVariables false
set_option linter.unusedSimpArgs false
/-- The digits to the base 128, the lowest first (f more bytes than one, at most). -/
def putF : Nat → Nat → List UInt8
  | 0, n => [n.toUInt8]
  | f + 1, n => if n < 128 then [n.toUInt8] else (n % 128 + 128).toUInt8 :: putF f (n / 128)
def putV (n : Nat) : List UInt8 := putF 9 n
theorem putF_more (f : Nat) : ∀ n, n < 128 ^ (f + 1) → putF (f + 1) n = putF f n := by
  induction f with
  | zero => intro n h; simp at h; simp [putF, h]
  | succ f ih =>
    intro n h
    rw [putF]
    by_cases hn : n < 128
    · rw [if_pos hn]; simp [putF, hn]
    · rw [if_neg hn, ih _ (by rw [Nat.pow_succ] at h; omega)]; simp [putF, hn]
theorem putV_small (n : Nat) (h : n < 128) : putV n = [n.toUInt8] := by simp [putV, putF, h]
theorem putV_big (n : Nat) (h : ¬ n < 128) (h64 : n < 18446744073709551616) : putV n = (n % 128 + 128).toUInt8 :: putV (n / 128) := by
  have e : putF 8 (n / 128) = putF 9 (n / 128) := (putF_more 8 _ (by omega)).symm
  unfold putV
  rw [show putF 9 n = (n % 128 + 128).toUInt8 :: putF 8 (n / 128) from by simp [putF, h], e]
theorem putF_length (f n : Nat) : (putF f n).length ≤ f + 1 ∧ 0 < (putF f n).length := by
  induction f generalizing n with
  | zero => simp [putF]
  | succ f ih =>
    rw [putF]; split
    · simp
    · have := ih (n / 128); simp; omega
theorem putV_length (n : Nat) : (putV n).length ≤ 10 ∧ 0 < (putV n).length := putF_length 9 n
end Go.Proofs.YtohjkejdkhdjbaaGreatDoor
