/- The law ShapeNone, by the evaluator: what its arguments' trees tell (few, or not) and its examples are told beforehand; of the version asked only its bounds are known. -/
import Derived.Test.YtafgdakieipgiaaGreatDoorE03
import Derived.Test.YtafgdakieipgiaaGreatDoorEv9
namespace Go.Proofs.YtafgdakieipgiaaGreatDoor
open Go.Ev Go
set_option maxRecDepth 1000000
def anys : Nat → List AV → Bool
  | _, [] => true
  | k, x :: r => match x with
    | .any j => match Nat.beq j k with
      | true => anys (k + 1) r
      | false => false
    | _ => false
/-- A function of one struct: asked at just the unknown values number k and on it answers b. -/
def gFew (k n : Nat) (b : Bool) (args : List AV) : Option AV := match args with
  | [.a l] => match Nat.beq l.length n, anys k l with
    | true, true => some (.b b)
    | _, _ => none
  | _ => none
def gTrue (args : List AV) : Option AV := match args with
  | [] => some (.b true)
  | _ :: _ => none
noncomputable def orcS (b1 b2 : Bool) : FuncId → Option Cl := fun f => Bool.rec (Bool.rec (Bool.rec (orc f) (some (gPure gTrue)) (Nat.beq f 6)) (some (gPure (gFew 15 4 b2))) (Nat.beq f 5)) (some (gPure (gFew 0 11 b1))) (Nat.beq f 4)
/-- The record; then X, T, the version, the tree. -/
def shArgs (w n : AV) : List AV := [.a [.any 0, .any 1, .any 2, .any 3, .any 4, .any 5, .any 6, .any 7, .any 8, .any 9, .any 10], .a [.any 11, .any 12, w, n, .any 15, .any 16, .any 17, .any 18]]
def z64 : AV := .i .u64 0
def p64 : AV := .r .u64 1 18446744073709551615
theorem evSh_f (b : Bool) : isTrue (evF Tryz.prog (fOp Tryz.prog) (orcS false b) 200 3 (shArgs (.any 13) (.any 14)) .e 8) = true := by cases b <;> decide +kernel
theorem evSh_tf : isTrue (evF Tryz.prog (fOp Tryz.prog) (orcS true false) 200 3 (shArgs (.any 13) (.any 14)) .e 8) = true := by decide +kernel
theorem evSh_0 : isTrue (evF Tryz.prog (fOp Tryz.prog) (orcS true true) 200 3 (shArgs z64 z64) .e 8) = true := by decide +kernel
theorem evSh_n : isTrue (evF Tryz.prog (fOp Tryz.prog) (orcS true true) 200 3 (shArgs z64 p64) .e 8) = true := by decide +kernel
theorem evSh_w : isTrue (evF Tryz.prog (fOp Tryz.prog) (orcS true true) 200 3 (shArgs p64 (.any 14)) .e 8) = true := by decide +kernel
end Go.Proofs.YtafgdakieipgiaaGreatDoor
