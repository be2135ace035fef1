/- What the evaluator is told of functions beforehand: those without a Go body, and strings.Join. Definitions. -/
import Derived.Test.YtmhiblmgadmgcaaDoorU13
import Derived.Lib.Join
import Derived.Lib.Bytealg
namespace Go.Ev
open Go
set_option linter.unusedVariables false
noncomputable section
/-- A function that only computes. -/
def gPure (g : List AV → Option AV) : Cl := fun _ args H nx => match g args with
  | some v => some ⟨v, H, nx, 0, 0⟩
  | none => none
def cnt (c : Nat) : List UInt8 → Nat
  | [] => 0
  | b :: l => Bool.rec (cnt c l) (cnt c l + 1) (Nat.beq b.toNat c)
def strsOf : List AV → Option (List (List UInt8))
  | [] => some []
  | x :: r => match x with
    | .s l => match strsOf r with
      | some q => some (l :: q)
      | none => none
    | _ => none
def gJoin : Cl := fun _ args H nx => match args with
  | [.sl r o n c rel, .s sep] => match H.get r with
    | some (.c l _ _) => match cut l o n with
      | some xs => match strsOf xs with
        | some q => match Nat.blt 0 n, Nat.ble (n + (Lib.join q sep).length) 10000, Bool.rec (Nat.ble n c) true rel with
          | true, true, true => some ⟨.s (Lib.join q sep), H, nx, bit r, 0⟩
          | _, _, _ => none
        | none => none
      | none => none
    | _ => none
  | _ => none
end
end Go.Ev
