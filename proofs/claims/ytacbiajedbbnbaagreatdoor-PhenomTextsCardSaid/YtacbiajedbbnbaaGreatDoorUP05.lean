/- Phenomena's texts, read: by the evaluator with unknown values, way by way. -/
import Derived.Test.YtacbiajedbbnbaaGreatDoorUP04
namespace Go.Proofs.YtacbiajedbbnbaaGreatDoor
open Go.Ev Go
set_option linter.unusedVariables false
set_option maxRecDepth 1000000
def tS : Tok := .v 20 (.str 200)
/-- Word number i. -/
def tW (i : Nat) : Tok := .v (30 + i) (.str 200)
def ws (w0 : Tok) (n : Nat) : List Tok := match n with
  | 0 => []
  | n + 1 => w0 :: (List.range n).map fun i => tW (i + 1)
def i10 : Tok := .i .i64 10
def i64T : Tok := .i .i64 64
def sBl : Tok := .s [32]
def sDot : Tok := .s [46]
def puP : List (Bool × List Srt) := [(false, [.str 200]), (false, [.int .i64]), (false, [.int .i64])]
def phP : List (Bool × List Srt) := [(true, [.int .i64, .int .i64, .int .i64, .int .u64, .int .u64, .int .u64, .int .u64])]
def is1064 : List AV → Bool
  | [_, .i _ a, .i _ b] => ieq a 10 && ieq b 64
  | _ => false
/-- What is called in Read; the words are l. -/
noncomputable def rdL (l : List Tok) : List (FuncId × Cl) := [(21, gRow 9 [([tS, sBl], l)]), (23, gPure (gTu [some (7, .str 200), some (8, .str 200), none] [(false, [.str 200]), (false, [.str 1])])),
  (24, gPure (gTuI is1064 [some (10, .int .u64), none] puP)), (25, gPure (gTu [some (11, .int .i64), none] [(false, [.str 200])])), (6, gPure (gAp 12 (.str 424) phP))]
def puT (x : Tok) : Tok := apT 10 (.int .u64) [x, i10, i64T]
def atT (x : Tok) : Tok := apT 11 (.int .i64) [x]
def cutA (x : Tok) : Tok := apT 7 (.str 200) [x, sDot]
def cutB (x : Tok) : Tok := apT 8 (.str 200) [x, sDot]
/-- The candidate. -/
def rdC (k : Tok) : List Tok := [k, atT (tW 1), atT (tW 2), puT (tW 3), puT (tW 4), puT (cutA (tW 5)), puT (cutB (tW 5))]
def rdT (k : Tok) : Tok := apT 12 (.str 424) (rdC k)
def sameCs : List Tok → List AV → Bool
  | [], [] => true
  | t :: ts, x :: xs => match toTok x with
    | some a => a.same t && sameCs ts xs
    | none => false
  | _, _ => false
def isRead (l : List Tok) (n : Int) : Option Ou → Bool
  | some u => match u.v with
    | .t vs => match vs with
      | [x, y] => match x with
        | .a xs => match y with
          | .i k a => decide (k = .i64) && sameCs l xs && ieq a n
          | _ => false
        | _ => false
      | _ => false
    | _ => false
  | none => false
def phZero : List Tok := [.i .i64 0, .i .i64 0, .i .i64 0, .i .u64 0, .i .u64 0, .i .u64 0, .i .u64 0]
def k1 : Tok := .i .i64 1
def k2 : Tok := .i .i64 2
def noWord : List Fact := [⟨.eq, .s (wordT 1), tW 0, false⟩, ⟨.eq, .s (wordT 2), tW 0, false⟩]
theorem evRead1 (b : Bool) : isRead (if b then rdC k1 else phZero) (if b then 0 else 70) (evS [⟨.eq, rdT k1, tS, b⟩] (rdL (ws (.s (wordT 1)) 6)) 7 [.any tS]) = true := by cases b <;> decide +kernel
theorem evRead2 (b : Bool) : isRead (if b then rdC k2 else phZero) (if b then 0 else 70) (evS [⟨.eq, rdT k2, tS, b⟩] (rdL (ws (.s (wordT 2)) 6)) 7 [.any tS]) = true := by cases b <;> decide +kernel
theorem evReadNo6 : isRead phZero 70 (evS noWord (rdL (ws (tW 0) 6)) 7 [.any tS]) = true := by decide +kernel
/-- Another number of words than six. -/
def nOther (f : Nat → Bool) : Bool := (List.range 202).all fun n => Nat.beq n 0 || Nat.beq n 6 || f n
theorem evReadN1 : nOther (fun n => isRead phZero 70 (evS [] (rdL (ws (.s (wordT 1)) n)) 7 [.any tS])) = true := by decide +kernel
theorem evReadN2 : nOther (fun n => isRead phZero 70 (evS [] (rdL (ws (.s (wordT 2)) n)) 7 [.any tS])) = true := by decide +kernel
theorem evReadN0 : nOther (fun n => isRead phZero 70 (evS noWord (rdL (ws (tW 0) n)) 7 [.any tS])) = true := by decide +kernel
/-! The reference's. -/
def vW (i : Nat) : Tok := .v (300 + i) (.str 200)
def vs (n : Nat) : List Tok := (List.range n).map vW
def cBl : Tok := .i .u8 32
def cDot : Tok := .i .u8 46
def cutAlts (n : Nat) : Option Nat → List (List Tok × List Tok)
  | none => [([tS, cBl], ws (tW 0) n)]
  | some m => [([tS, cBl], ws (tW 0) n), ([tW 5, cDot], vs m)]
noncomputable def rfL (n : Nat) (m : Option Nat) : List (FuncId × Cl) := [(26, gRow 9 (cutAlts n m)), (27, gPure (gAp 13 (.int .u64) [(false, [.str 200])])), (9, gPure (gAp 12 (.str 424) phP))]
def vaT (x : Tok) : Tok := apT 13 (.int .u64) [x]
def rfC (k : Tok) : List Tok := [k, .cv .i64 (vaT (tW 1)), .cv .i64 (vaT (tW 2)), vaT (tW 3), vaT (tW 4), vaT (vW 0), vaT (vW 1)]
def rfT (k : Tok) : Tok := apT 12 (.str 424) (rfC k)
theorem evRef1 : isRead (rfC k1) 0 (evS [⟨.eq, rfT k1, tS, true⟩] (rfL 6 (some 2)) 8 [.any tS]) = true := by decide +kernel
theorem evRef2 (b : Bool) : isRead (if b then rfC k2 else phZero) (if b then 0 else 70) (evS [⟨.eq, rfT k1, tS, false⟩, ⟨.eq, rfT k2, tS, b⟩] (rfL 6 (some 2)) 8 [.any tS]) = true := by cases b <;> decide +kernel
theorem evRefN : nOther (fun n => isRead phZero 70 (evS [] (rfL n none) 8 [.any tS])) = true := by decide +kernel
def mOther (f : Nat → Bool) : Bool := (List.range 202).all fun n => Nat.beq n 0 || Nat.beq n 2 || f n
theorem evRefM : mOther (fun m => isRead phZero 70 (evS [] (rfL 6 (some m)) 8 [.any tS])) = true := by decide +kernel
end Go.Proofs.YtacbiajedbbnbaaGreatDoor
