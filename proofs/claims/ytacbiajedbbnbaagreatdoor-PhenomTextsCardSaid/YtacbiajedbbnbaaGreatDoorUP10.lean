/- The law PhenomTexts, by the evaluator with unknown values, way by way. -/
import Derived.Test.YtacbiajedbbnbaaGreatDoorUP05
namespace Go.Proofs.YtacbiajedbbnbaaGreatDoor
open Go.Ev Go
set_option linter.unusedVariables false
set_option maxRecDepth 1000000
def wΦ (a : Int) (x y : Tok) : List Fact := ⟨.eq, x, y, decide (a = 0)⟩ :: cmpΦ a x y
def tP : Tok := apT 12 (.str 424) (phToks 0)
def yToks : List Tok := phToks 40
def tY : Tok := apT 12 (.str 424) yToks
/-- A text of any length. -/
def tL : Tok := .v 20 (.str 9223372036854775807)
/-- What Read answers: the phenomenon number 40 and on, or none. -/
def rOut (r : Bool) : AV := if r then .t [.a (yToks.map .any), .i .i64 0] else .t [.a [.i .i64 0, .i .i64 0, .i .i64 0, .i .u64 0, .i .u64 0, .i .u64 0, .i .u64 0], .i .i64 70]
def pOut : AV := .t [.a ((phToks 0).map .any), .i .i64 0]
noncomputable def lawL (r ok : Bool) : List (FuncId × Cl) := [(6, gPure (gAp 12 (.str 424) phP)), (9, gPure (gAp 12 (.str 424) phP)), (7, gPure (gIss (if ok then [([tS], rOut r), ([tP], pOut)] else [([tS], rOut r)]))),
  (8, gPure (gIss [([tS], rOut r)])), (4, gPure (gIss [([], .b true)]))]
def lawΦ (r ok : Bool) (a b : Int) : List Fact := ⟨.lt, .i .i64 200, .len tS, false⟩ :: ⟨.eq, tP, .s [], !ok⟩ :: ((if r then [⟨.eq, tY, tS, true⟩] else []) ++ wΦ a (tI 1) (tI 8) ++ wΦ b (tI 2) (tI 9))
def lawArgs (s : Tok) : List AV := [.a ((phToks 0).map .any), .a ((phToks 7).map .any), .any s]
theorem evLaw : ([true, false].all fun r => [true, false].all fun ok => [-1, 0, 1].all fun a => [-1, 0, 1].all fun b => isTrue (evS (lawΦ r ok a b) (lawL r ok) 3 (lawArgs tS))) = true := by decide +kernel
theorem evLawL : isTrue (evS [⟨.lt, .i .i64 200, .len tL, true⟩] [(4, gPure (gIss [([], .b true)]))] 3 (lawArgs tL)) = true := by decide +kernel
end Go.Proofs.YtacbiajedbbnbaaGreatDoor
