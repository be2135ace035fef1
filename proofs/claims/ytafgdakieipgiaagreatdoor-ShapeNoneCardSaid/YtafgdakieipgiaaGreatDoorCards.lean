/-
  DERIVED. GIVEN WITH THE SEED: THE CARDS: each row of YtafgdakieipgiaaGreatDoorRows.lean that lists a variable, with what it lists TIED to the program's text (the seventh form; the later family's looks); each row that meets fmt, with fmt's text TOLD by the authors' own Lean function (tested against real Go, not proved from fmt's source: count such statements apart). THE CARD IS WHAT COUNTS. Prove the row's statement (the work); the ties are given (YtafgdakieipgiaaGreatDoorTie.lean); close each card by the builder's one call (the guide's Derived/Test/ToyasCard.lean, 'card_holds'). Laid BY PROGRAM, IN A SANDBOX (cutbox-door.mjs). By AI agents, Wed Nov 11 2026. No macro, syntax, notation, axiom, sorry.
-/
import Derived.Test.YtafgdakieipgiaaGreatDoorRows
import GoSem.ClaimSeven
namespace Go.Proofs.YtafgdakieipgiaaGreatDoor
namespace Rows

/-- THE TIED CARD OF 'alibilaw09.ShapeNone'. -/
def shapeNoneCard : Claim7 := { stood := { row := shapeNoneRow, standIns := [], harness := (true, "e8ace3d24928facc4f1106bcf6601bc39e3f29dbcc77806c192acc6f0332f0f6"), looks := true }, kinds := [], alts := [], laidByText := true, laidKinds := [.data, .data, .data, .data, .sentinel, .sentinel, .pinned], laidTests := true, laidLooks := .later }
def ShapeNoneCardSaid : Prop := Claim7.holds Tryz.pinned (.plain (OpenSpec.ofChange shapeNoneSpec)) shapeNoneCard

/-- THE SECOND FORM's CARD OF 'alibilaw09.ShapeNone'. -/
def shapeNoneUptoCard : Claim7 := { stood := { row := shapeNoneUptoRow, standIns := [], harness := (true, "e8ace3d24928facc4f1106bcf6601bc39e3f29dbcc77806c192acc6f0332f0f6"), looks := true }, kinds := [], alts := [], laidByText := true, laidKinds := [.data, .data, .data, .data, .sentinel, .sentinel, .pinned], laidTests := true, laidLooks := .later }
def ShapeNoneUptoCardSaid : Prop := Claim7.holds Tryz.pinned (.plain (OpenSpec.upto shapeNoneSpec)) shapeNoneUptoCard
end Rows
end Go.Proofs.YtafgdakieipgiaaGreatDoor
