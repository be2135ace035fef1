/- How a tree stands, as bytes. -/
import Derived.Test.YtagnalfkmdjajaaGreatDoorY1
namespace Go.Proofs.YtagnalfkmdjajaaGreatDoor
open Go.RowKit Go
set_option linter.unusedVariables false
set_option linter.unusedSimpArgs false
mutual
def Ex.depth : Ex → Nat
 | .mk _ _ _ ps => Ex.depths ps + 1
def Ex.depths : List Ex → Nat
 | [] => 0
 | e :: es => max e.depth (Ex.depths es)
end
mutual
def Ex.size : Ex → Nat
 | .mk _ _ _ ps => Ex.sizes ps + 1
def Ex.sizes : List Ex → Nat
 | [] => 0
 | e :: es => e.size + Ex.sizes es
end
def Ez (k : Int) (a b n : Nat) : Bool :=
 if k = 1 then a == 0 && b == 0 && n == 0
 else if k = 2 ∨ k = 3 then b == 0 && n == 0
 else if k = 4 then decide (b < a) && n == 0
 else if k = 5 then a == 0 && b == 0 && n == 1
 else if k = 6 ∨ k = 7 then a == 0 && b == 0
 else false
mutual
def Ex.okR : Ex → Bool
 | .mk k a b ps => Ex.okRs ps && Ez k a b ps.length
def Ex.okRs : List Ex → Bool
 | [] => true
 | e :: es => e.okR && Ex.okRs es
end
def Fq (k : Int) (a b cnt n x v : Nat) : Bool :=
 if k = 1 then true
 else if k = 2 then decide (x ≤ a)
 else if k = 3 then decide (v ≤ a)
 else if k = 4 then v % a == b
 else if k = 5 then cnt == 0
 else if k = 6 then cnt == n
 else decide (0 < cnt)
mutual
def Ex.asks (x v : Nat) : Ex → Bool
 | .mk k a b ps => Fq k a b (Ex.asked x v ps) ps.length x v
def Ex.asked (x v : Nat) : List Ex → Nat
 | [] => 0
 | e :: es => (if e.asks x v then 1 else 0) + Ex.asked x v es
end
mutual
def Ex.same : Ex → Ex → Bool
 | .mk k a b ps, .mk k' a' b' ps' => decide (k = k') && decide (a = a') && decide (b = b') && Ex.sames ps ps'
def Ex.sames : List Ex → List Ex → Bool
 | [], [] => true
 | e :: es, e' :: es' => e.same e' && Ex.sames es es'
 | [], _ :: _ => false
 | _ :: _, [] => false
end
mutual
theorem Ex.same_iff : ∀ e e' : Ex, e.same e' = true ↔ e = e'
 | .mk k a b ps, .mk k' a' b' ps' => by
  simp only [Ex.same, Bool.and_eq_true, decide_eq_true_eq, Ex.sames_iff ps ps', Ex.mk.injEq, and_assoc]
theorem Ex.sames_iff : ∀ e e' : List Ex, Ex.sames e e' = true ↔ e = e'
 | [], [] => by simp [Ex.sames]
 | e :: es, e' :: es' => by simp only [Ex.sames, Bool.and_eq_true, Ex.same_iff e e', Ex.sames_iff es es', List.cons.injEq]
 | [], _ :: _ => by simp [Ex.sames]
 | _ :: _, [] => by simp [Ex.sames]
end
instance : DecidableEq Ex := fun a b => decidable_of_iff _ (Ex.same_iff a b)
def EX (k : Int) (a b n : Nat) : List UInt8 :=
 (k % 256).toNat.toUInt8 :: ((if 2 ≤ k ∧ k ≤ 4 then bi a else []) ++ (if k = 4 then bi b else []) ++ (if 6 ≤ k then bi n else []))
mutual
def Ex.st : Ex → List UInt8
 | .mk k a b ps => EX k a b ps.length ++ Ex.sts ps
def Ex.sts : List Ex → List UInt8
 | [] => []
 | e :: es => e.st ++ Ex.sts es
end
end Go.Proofs.YtagnalfkmdjajaaGreatDoor
