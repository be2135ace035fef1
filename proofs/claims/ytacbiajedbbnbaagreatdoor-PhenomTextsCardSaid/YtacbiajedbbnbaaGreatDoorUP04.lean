/- Phenomena as texts, told: by the evaluator with unknown values, way by way. -/
import Derived.Test.YtacbiajedbbnbaaGreatDoorU6
import Derived.Test.YtacbiajedbbnbaaGreatDoorUE03
namespace Go.Proofs.YtacbiajedbbnbaaGreatDoor
open Go.Ev Go
set_option linter.unusedVariables false
set_option maxRecDepth 1000000
/-- A phenomenon's cells. -/
def tI (n : Nat) : Tok := .v n (.int .i64)
def tU (n : Nat) : Tok := .v n (.int .u64)
def phCells (k : AV) : List AV := [k, .any (tI 1), .any (tI 2), .any (tU 3), .any (tU 4), .any (tU 5), .any (tU 6)]
def i0 : Tok := .i .i64 0
/-- Pos and Place are none's below nought. -/
def phOkΦ : List Fact := [⟨.lt, tI 1, i0, false⟩, ⟨.lt, tI 2, i0, false⟩]
noncomputable def phL : List (FuncId × Cl) := [(18, gPure (gAp 1 (.str 21) [(false, [.int .i64])])), (19, gPure (gAp 3 (.str 20) [(false, [.int .u64])])), (28, gPure (gAp 3 (.str 20) [(false, [.int .u64])])),
  (20, gPure (gAp 4 (.str 41) [(true, [.int .u64, .int .u64])])), (29, gPure (gAp 4 (.str 41) [(true, [.int .u64, .int .u64])])), (16, gRd 6 (.str 424) 41 8 12)]
noncomputable def phOrc (l : List (FuncId × Cl)) (f : FuncId) : Option Cl := List.rec (motive := fun _ => Option Cl) (orc f) (fun p _ ih => Bool.rec ih (some p.2) (Nat.beq f p.1)) l
/-- It answers with just this term. -/
def isTok (t : Tok) : Option Ou → Bool
  | some u => match u.v with
    | .any a => a.same t
    | _ => false
  | none => false
def isStr (l : List UInt8) : Option Ou → Bool
  | some u => match u.v with
    | .s a => seq' a l
    | _ => false
  | none => false
noncomputable def evS (Φ : List Fact) (l : List (FuncId × Cl)) (f : FuncId) (args : List AV) : Option Ou := evF Tryz.prog (sOp Tryz.prog Φ) (phOrc l) 50 f args .e 8
def wordT (k : Int) : List UInt8 := if k = 1 then [97, 98, 111, 114, 116, 101, 100] else [105, 110, 116, 101, 114, 109, 101, 100, 105, 97, 116, 101]
def apT (tag : Nat) (q : Srt) (l : List Tok) : Tok := .ap tag q (l.foldr .cn .nl)
/-- What the program tells. -/
def phTold (k : Int) : Tok := apT 6 (.str 424) [.s [32], .s (wordT k), apT 1 (.str 21) [tI 1], apT 1 (.str 21) [tI 2], apT 3 (.str 20) [tU 3], apT 3 (.str 20) [tU 4], apT 4 (.str 41) [tU 5, tU 6]]
theorem evPhText1 : isTok (phTold 1) (evS phOkΦ phL 6 [.a (phCells (.i .i64 1))]) = true := by decide +kernel
theorem evPhText2 : isTok (phTold 2) (evS phOkΦ phL 6 [.a (phCells (.i .i64 2))]) = true := by decide +kernel
def oneOrTwo (k : Bool) : AV := .i .i64 (if k then 2 else 1)
theorem evPhNo0 : isStr [] (evS [⟨.eq, tI 0, .i .i64 1, false⟩, ⟨.eq, tI 0, .i .i64 2, false⟩] phL 6 [.a (phCells (.any (tI 0)))]) = true := by decide +kernel
theorem evPhNo1 (b : Bool) : isStr [] (evS [⟨.lt, tI 1, i0, true⟩] phL 6 [.a (phCells (oneOrTwo b))]) = true := by cases b <;> decide +kernel
theorem evPhNo2 (b : Bool) : isStr [] (evS [⟨.lt, tI 1, i0, false⟩, ⟨.lt, tI 2, i0, true⟩] phL 6 [.a (phCells (oneOrTwo b))]) = true := by cases b <;> decide +kernel
/-! The reference's. -/
def catL (a : Tok) : List Tok → Tok
  | [] => a
  | b :: l => catL (.cat a b) l
def dU (n : Nat) : Tok := apT 3 (.str 20) [.cv .u64 (tI n)]
def refTold (k : Int) : Tok := catL (.s (wordT k ++ [32])) [dU 1, .s [32], dU 2, .s [32], apT 3 (.str 20) [tU 3], .s [32], apT 3 (.str 20) [tU 4], .s [32], apT 4 (.str 41) [tU 5, tU 6]]
theorem evRfText1 : isTok (refTold 1) (evS phOkΦ phL 9 [.a (phCells (.i .i64 1))]) = true := by decide +kernel
theorem evRfText2 : isTok (refTold 2) (evS phOkΦ phL 9 [.a (phCells (.i .i64 2))]) = true := by decide +kernel
theorem evRfNo0 : isStr [] (evS [⟨.lt, tI 0, .i .i64 1, true⟩] phL 9 [.a (phCells (.any (tI 0)))]) = true := by decide +kernel
theorem evRfNo3 : isStr [] (evS [⟨.lt, tI 0, .i .i64 1, false⟩, ⟨.lt, .i .i64 2, tI 0, true⟩] phL 9 [.a (phCells (.any (tI 0)))]) = true := by decide +kernel
theorem evRfNo1 (b : Bool) : isStr [] (evS [⟨.lt, tI 1, i0, true⟩] phL 9 [.a (phCells (oneOrTwo b))]) = true := by cases b <;> decide +kernel
theorem evRfNo2 (b : Bool) : isStr [] (evS [⟨.lt, tI 1, i0, false⟩, ⟨.lt, tI 2, i0, true⟩] phL 9 [.a (phCells (oneOrTwo b))]) = true := by cases b <;> decide +kernel
/-! As the reference has it; the order. -/
def sameToks : List Tok → List AV → Bool
  | [], [] => true
  | t :: ts, x :: xs => match x with
    | .any a => a.same t && sameToks ts xs
    | _ => false
  | _, _ => false
def isAgg (l : List Tok) : Option Ou → Bool
  | some u => match u.v with
    | .a xs => sameToks l xs
    | _ => false
  | none => false
def phToks (n : Nat) : List Tok := [tI n, tI (n + 1), tI (n + 2), tU (n + 3), tU (n + 4), tU (n + 5), tU (n + 6)]
theorem evDocPh : isAgg (phToks 0) (evS [] [] 5 [.a ((phToks 0).map .any)]) = true := by decide +kernel
def isInt (n : Int) : Option Ou → Bool
  | some u => match u.v with
    | .i k a => decide (k = .i64) && ieq a n
    | _ => false
  | none => false
def cmpΦ (a : Int) (x y : Tok) : List Fact := if a = 0 then [⟨.lt, x, y, false⟩, ⟨.lt, y, x, false⟩] else if a < 0 then [⟨.lt, x, y, true⟩, ⟨.lt, y, x, false⟩] else [⟨.lt, x, y, false⟩, ⟨.lt, y, x, true⟩]
theorem evCmp : ([-1, 0, 1].all fun a => [-1, 0, 1].all fun b => isInt (if a = 0 then b else a) (evS (cmpΦ a (tI 1) (tI 8) ++ cmpΦ b (tI 2) (tI 9)) [] 10 [.a ((phToks 0).map .any), .a ((phToks 7).map .any)])) = true := by decide +kernel
end Go.Proofs.YtacbiajedbbnbaaGreatDoor
