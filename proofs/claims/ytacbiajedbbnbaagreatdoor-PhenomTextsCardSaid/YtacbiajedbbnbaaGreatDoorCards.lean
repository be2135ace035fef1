/-
  DERIVED. GIVEN WITH THE SEED: THE CARDS: each row of YtacbiajedbbnbaaGreatDoorRows.lean that lists a variable, with what it lists TIED to the program's text (the seventh form; the later family's looks); each row that meets fmt, with fmt's text TOLD by the authors' own Lean function (tested against real Go, not proved from fmt's source: count such statements apart). THE CARD IS WHAT COUNTS. Prove the row's statement (the work); the ties are given (YtacbiajedbbnbaaGreatDoorTie.lean); close each card by the builder's one call (the guide's Derived/Test/ToyasCard.lean, 'card_holds'). Laid BY PROGRAM, IN A SANDBOX (cutbox-door.mjs). By AI agents, Wed Nov 11 2026. No macro, syntax, notation, axiom, sorry.
-/
import Derived.Test.YtacbiajedbbnbaaGreatDoorRows
import GoSem.ClaimSeven
namespace Go.Proofs.YtacbiajedbbnbaaGreatDoor
namespace Rows

/-- THE TIED CARD OF 'alibilaw19.PhenomTexts'. -/
def phenomTextsCard : Claim7 := { stood := { row := phenomTextsRow, standIns := [], harness := (true, "178eb33c9f76f89b1e6ec82091838988f4291eade92f6b3f968a02d2c7d84cd2"), looks := true }, kinds := [], alts := [], laidByText := true, laidKinds := [.data, .data, .data, .data, .sentinel, .sentinel, .pinned], laidTests := true, laidLooks := .later }
def PhenomTextsCardSaid : Prop := Claim7.holds Tryz.pinned (.plain (OpenSpec.ofChange phenomTextsSpec)) phenomTextsCard

/-- THE SECOND FORM's CARD OF 'alibilaw19.PhenomTexts'. -/
def phenomTextsUptoCard : Claim7 := { stood := { row := phenomTextsUptoRow, standIns := [], harness := (true, "178eb33c9f76f89b1e6ec82091838988f4291eade92f6b3f968a02d2c7d84cd2"), looks := true }, kinds := [], alts := [], laidByText := true, laidKinds := [.data, .data, .data, .data, .sentinel, .sentinel, .pinned], laidTests := true, laidLooks := .later }
def PhenomTextsUptoCardSaid : Prop := Claim7.holds Tryz.pinned (.plain (OpenSpec.upto phenomTextsSpec)) phenomTextsUptoCard
end Rows
end Go.Proofs.YtacbiajedbbnbaaGreatDoor
