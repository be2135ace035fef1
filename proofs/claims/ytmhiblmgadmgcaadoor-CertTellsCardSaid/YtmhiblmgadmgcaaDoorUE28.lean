/- The examples of chapter 28, by the evaluator; strconv.Itoa is known at the numbers that are asked. -/
import Derived.Test.YtmhiblmgadmgcaaDoorUE03
import Derived.Test.YtmhiblmgadmgcaaDoorUEv9
namespace Go.Proofs.YtmhiblmgadmgcaaDoor
open Go.Ev Go
set_option maxRecDepth 1000000
def itoaM (n : Int) : Option (List UInt8) := match ieq n 300 with
  | true => some [51, 48, 48]
  | false => match ieq n (-1) with
  | true => some [45, 49]
  | false => match ieq n 0 with
  | true => some [48]
  | false => match ieq n 1 with
  | true => some [49]
  | false => match ieq n 2 with
  | true => some [50]
  | false => match ieq n 5 with
  | true => some [53]
  | false => none
def gItoaM : List AV → Option AV
  | [.i .i64 n] => match itoaM n with
    | some s => some (.s s)
    | none => none
  | _ => none
noncomputable def orcT : FuncId → Option Cl := fun f => Bool.rec (orc f) (some (gPure gItoaM)) (Nat.beq f 36)
theorem evWorks28 : isTrue (evF Tryd.prog (fOp Tryd.prog) orcT 400 5 [] .e 8) = true := by decide +kernel
end Go.Proofs.YtmhiblmgadmgcaaDoor
