/- A function asked at two rows of known bytes: what it answers, by an evaluation of its own. -/
import Derived.Test.YthfkgdjekmebgaaGreatDoorE03
import Derived.Test.YthfkgdjekmebgaaGreatDoorEv9
namespace Go.Proofs.YthfkgdjekmebgaaGreatDoor
open Go.Ev Go
noncomputable section
def isBs : List Nat → List AV → Bool
  | [], [] => true
  | k :: ks, x :: xs => match x with
    | .i kd n => match kd with
      | .u8 => ieq n (.ofNat k) && isBs ks xs
      | _ => false
    | _ => false
  | _, _ => false
def isRow (b : List Nat) (e : TypeId) : Option AO → Bool
  | some (.c l e' tl) => tl && (Nat.beq e' e && isBs b l)
  | _ => false
/-- Asked at two whole rows of these bytes it answers v. -/
def gBB (b1 b2 : List Nat) (e : TypeId) (v : Bool) : Cl := fun _ args H nx => match args with
  | [.sl r 0 n 0 true, .sl r' 0 n' 0 true] => match Nat.beq r r', Nat.beq n b1.length, Nat.beq n' b2.length, isRow b1 e (H.get r), isRow b2 e (H.get r') with
    | false, true, true, true, true => some ⟨.b v, H, nx, bit r ||| bit r', 0⟩
    | _, _, _, _, _ => none
  | _ => none
def bsRow (b : List Nat) (e : TypeId) : AO := .c (b.map fun k => .i .u8 (.ofNat k)) e true
def bbH (b1 b2 : List Nat) (e : TypeId) : Tr AO := (Tr.e.set 0 (some (bsRow b1 e))).set 1 (some (bsRow b2 e))
def bbArgs (b1 b2 : List Nat) : List AV := [.sl 0 0 b1.length 0 true, .sl 1 0 b2.length 0 true]
/-- It answers so, and writes none of the rows. -/
def isAns (v : Bool) : Option Ou → Bool
  | some u => match u.v with
    | .b x => (x == v) && Nat.beq u.W 0
    | _ => false
  | none => false
end
end Go.Proofs.YthfkgdjekmebgaaGreatDoor
