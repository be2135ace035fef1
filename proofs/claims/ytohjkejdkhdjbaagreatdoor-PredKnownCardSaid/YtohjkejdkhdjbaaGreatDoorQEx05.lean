/- How a tree stands, as bytes: plain Lean. -/
import Derived.Test.YtohjkejdkhdjbaaGreatDoorQEx04
import Derived.Test.YtohjkejdkhdjbaaGreatDoorQ14
namespace Go.Proofs.YtohjkejdkhdjbaaGreatDoor
open Go.RowKit Go
set_option linter.unusedVariables false
set_option linter.unusedSimpArgs false
def headB (k : Int) (a b n : Nat) : List UInt8 :=
  (k % 256).toNat.toUInt8 :: ((if 2 ≤ k ∧ k ≤ 4 then putV a else []) ++ (if k = 4 then putV b else []) ++ (if 6 ≤ k then putV n else []))
mutual
def Ex.st : Ex → List UInt8
  | .mk k a b ps => headB k a b ps.length ++ Ex.sts ps
def Ex.sts : List Ex → List UInt8
  | [] => []
  | e :: es => e.st ++ Ex.sts es
end
theorem Ex.sts_append (a b : List Ex) : Ex.sts (a ++ b) = Ex.sts a ++ Ex.sts b := by
  induction a with
  | nil => simp [Ex.sts]
  | cons e es ih => simp [Ex.sts, ih]
theorem Ex.sts_take (ps : List Ex) (k : Nat) (h : k < ps.length) : Ex.sts (ps.take (k + 1)) = Ex.sts (ps.take k) ++ ps[k].st := by
  rw [take_snoc ps k h, Ex.sts_append]; simp [Ex.sts]
theorem headB_length (k : Int) (a b n : Nat) : (headB k a b n).length ≤ 31 := by
  have h1 := putV_length a; have h2 := putV_length b; have h3 := putV_length n
  simp only [headB, List.length_cons, List.length_append]
  repeat' split
  all_goals simp_all <;> omega
mutual
theorem Ex.st_length : ∀ e : Ex, e.st.length ≤ 31 * e.size
  | .mk k a b ps => by
    have h1 := headB_length k a b ps.length
    have h2 := Ex.sts_length ps
    simp only [Ex.st, Ex.size, List.length_append]; omega
theorem Ex.sts_length : ∀ es : List Ex, (Ex.sts es).length ≤ 31 * Ex.sizes es
  | [] => by simp [Ex.sts]
  | e :: es => by
    have h1 := Ex.st_length e
    have h2 := Ex.sts_length es
    simp only [Ex.sts, Ex.sizes, List.length_append]; omega
end
theorem Ex.sts_take_length (ps : List Ex) (k : Nat) : (Ex.sts (ps.take k)).length ≤ 31 * Ex.sizes ps := by
  have h1 := Ex.sts_length (ps.take k)
  have h2 := Ex.sizes_split ps k
  omega
def Ex.put (e : Ex) : List UInt8 := if e.right then e.st else []
end Go.Proofs.YtohjkejdkhdjbaaGreatDoor
