/-
  DERIVED. GIVEN WITH THE SEED: THE CARDS: each row of YtignadeeafddmaaGreatDoorRows.lean that lists a variable, with what it lists TIED to the program's text (the seventh form; the later family's looks); each row that meets fmt, with fmt's text TOLD by the authors' own Lean function (tested against real Go, not proved from fmt's source: count such statements apart). THE CARD IS WHAT COUNTS. Prove the row's statement (the work); the ties are given (YtignadeeafddmaaGreatDoorTie.lean); close each card by the builder's one call (the guide's Derived/Test/ToyasCard.lean, 'card_holds'). Laid BY PROGRAM, IN A SANDBOX (cutbox-door.mjs). By AI agents, Wed Nov 11 2026. No macro, syntax, notation, axiom, sorry.
-/
import Derived.Test.YtignadeeafddmaaGreatDoorRows
import GoSem.ClaimSeven
namespace Go.Proofs.YtignadeeafddmaaGreatDoor
namespace Rows

/-- THE TIED CARD OF 'alibilaw09.ShapeNone'. -/
def shapeNoneCard : Claim7 := { stood := { row := shapeNoneRow, standIns := [], harness := (true, "473864b382232a35800d5bf75206eae645fab30b608ceb992687eb1ba0c8ef74"), looks := true }, kinds := [], alts := [], laidByText := true, laidKinds := [.data, .data, .data, .data, .sentinel, .sentinel, .pinned], laidTests := true, laidLooks := .later }
def ShapeNoneCardSaid : Prop := Claim7.holds Tryz.pinned (.plain (OpenSpec.ofChange shapeNoneSpec)) shapeNoneCard

/-- THE TIED CARD OF 'alibilaw19.PhenomNone'. -/
def phenomNoneCard : Claim7 := { stood := { row := phenomNoneRow, standIns := [], harness := (true, "473864b382232a35800d5bf75206eae645fab30b608ceb992687eb1ba0c8ef74"), looks := true }, kinds := [], alts := [], laidByText := true, laidKinds := [.data, .data, .data, .data, .sentinel, .sentinel, .pinned], laidTests := true, laidLooks := .later }
def PhenomNoneCardSaid : Prop := Claim7.holds Tryz.pinned (.plain (OpenSpec.ofChange phenomNoneSpec)) phenomNoneCard

/-- THE TIED CARD OF 'alibilaw23.JustNone'. -/
def justNoneCard : Claim7 := { stood := { row := justNoneRow, standIns := [], harness := (true, "473864b382232a35800d5bf75206eae645fab30b608ceb992687eb1ba0c8ef74"), looks := true }, kinds := [], alts := [], laidByText := true, laidKinds := [.data, .data, .data, .data, .sentinel, .sentinel, .pinned], laidTests := true, laidLooks := .later }
def JustNoneCardSaid : Prop := Claim7.holds Tryz.pinned (.plain (OpenSpec.ofChange justNoneSpec)) justNoneCard

/-- THE TIED CARD OF 'alibilaw30.CheckTexts'. -/
def checkTextsCard : Claim7 := { stood := { row := checkTextsRow, standIns := [], harness := (true, "473864b382232a35800d5bf75206eae645fab30b608ceb992687eb1ba0c8ef74"), looks := true }, kinds := [], alts := [], laidByText := true, laidKinds := [.data, .data, .data, .data, .sentinel, .sentinel, .pinned], laidTests := true, laidLooks := .later }
def CheckTextsCardSaid : Prop := Claim7.holds Tryz.pinned (.plain (OpenSpec.ofChange checkTextsSpec)) checkTextsCard

/-- THE SECOND FORM's CARD OF 'alibilaw09.ShapeNone'. -/
def shapeNoneUptoCard : Claim7 := { stood := { row := shapeNoneUptoRow, standIns := [], harness := (true, "473864b382232a35800d5bf75206eae645fab30b608ceb992687eb1ba0c8ef74"), looks := true }, kinds := [], alts := [], laidByText := true, laidKinds := [.data, .data, .data, .data, .sentinel, .sentinel, .pinned], laidTests := true, laidLooks := .later }
def ShapeNoneUptoCardSaid : Prop := Claim7.holds Tryz.pinned (.plain (OpenSpec.upto shapeNoneSpec)) shapeNoneUptoCard

/-- THE SECOND FORM's CARD OF 'alibilaw19.PhenomNone'. -/
def phenomNoneUptoCard : Claim7 := { stood := { row := phenomNoneUptoRow, standIns := [], harness := (true, "473864b382232a35800d5bf75206eae645fab30b608ceb992687eb1ba0c8ef74"), looks := true }, kinds := [], alts := [], laidByText := true, laidKinds := [.data, .data, .data, .data, .sentinel, .sentinel, .pinned], laidTests := true, laidLooks := .later }
def PhenomNoneUptoCardSaid : Prop := Claim7.holds Tryz.pinned (.plain (OpenSpec.upto phenomNoneSpec)) phenomNoneUptoCard

/-- THE SECOND FORM's CARD OF 'alibilaw23.JustNone'. -/
def justNoneUptoCard : Claim7 := { stood := { row := justNoneUptoRow, standIns := [], harness := (true, "473864b382232a35800d5bf75206eae645fab30b608ceb992687eb1ba0c8ef74"), looks := true }, kinds := [], alts := [], laidByText := true, laidKinds := [.data, .data, .data, .data, .sentinel, .sentinel, .pinned], laidTests := true, laidLooks := .later }
def JustNoneUptoCardSaid : Prop := Claim7.holds Tryz.pinned (.plain (OpenSpec.upto justNoneSpec)) justNoneUptoCard

/-- THE SECOND FORM's CARD OF 'alibilaw30.CheckTexts'. -/
def checkTextsUptoCard : Claim7 := { stood := { row := checkTextsUptoRow, standIns := [], harness := (true, "473864b382232a35800d5bf75206eae645fab30b608ceb992687eb1ba0c8ef74"), looks := true }, kinds := [], alts := [], laidByText := true, laidKinds := [.data, .data, .data, .data, .sentinel, .sentinel, .pinned], laidTests := true, laidLooks := .later }
def CheckTextsUptoCardSaid : Prop := Claim7.holds Tryz.pinned (.plain (OpenSpec.upto checkTextsSpec)) checkTextsUptoCard
end Rows
end Go.Proofs.YtignadeeafddmaaGreatDoor
