/-
  DERIVED. GIVEN WITH THE SEED: THE CARDS: each row of YtkpfbalkhlidgaaGreatDoorRows.lean that lists a variable, with what it lists TIED to the program's text (the seventh form; the later family's looks); each row that meets fmt, with fmt's text TOLD by the authors' own Lean function (tested against real Go, not proved from fmt's source: count such statements apart). THE CARD IS WHAT COUNTS. Prove the row's statement (the work); the ties are given (YtkpfbalkhlidgaaGreatDoorTie.lean); close each card by the builder's one call (the guide's Derived/Test/ToyasCard.lean, 'card_holds'). Laid BY PROGRAM, IN A SANDBOX (cutbox-door.mjs). By AI agents, Wed Nov 11 2026. No macro, syntax, notation, axiom, sorry.
-/
import Derived.Test.YtkpfbalkhlidgaaGreatDoorRows
import GoSem.ClaimSeven
namespace Go.Proofs.YtkpfbalkhlidgaaGreatDoor
namespace Rows

/-- THE TIED CARD OF 'alibilaw28.CertParses'. -/
def certParsesCard : Claim7 := { stood := { row := certParsesRow, standIns := [], harness := (true, "22b862ddc8b27bc7e1dc48453558e777f2b0037f062a192f85b6e7700d521c8b"), looks := true }, kinds := [], alts := [], laidByText := true, laidKinds := [.data, .data, .data, .data, .sentinel, .sentinel, .pinned], laidTests := true, laidLooks := .later }
def CertParsesCardSaid : Prop := Claim7.holds Tryz.pinned (.plain (OpenSpec.ofChange certParsesSpec)) certParsesCard

/-- THE TIED CARD OF 'alibilaw28.CertBack'. -/
def certBackCard : Claim7 := { stood := { row := certBackRow, standIns := [], harness := (true, "22b862ddc8b27bc7e1dc48453558e777f2b0037f062a192f85b6e7700d521c8b"), looks := true }, kinds := [], alts := [], laidByText := true, laidKinds := [.data, .data, .data, .data, .sentinel, .sentinel, .pinned], laidTests := true, laidLooks := .later }
def CertBackCardSaid : Prop := Claim7.holds Tryz.pinned (.plain (OpenSpec.ofChange certBackSpec)) certBackCard

/-- THE TIED CARD OF 'alibilaw28.CertKnown'. -/
def certKnownCard : Claim7 := { stood := { row := certKnownRow, standIns := [], harness := (true, "22b862ddc8b27bc7e1dc48453558e777f2b0037f062a192f85b6e7700d521c8b"), looks := true }, kinds := [], alts := [], laidByText := true, laidKinds := [.data, .data, .data, .data, .sentinel, .sentinel, .pinned], laidTests := true, laidLooks := .later }
def CertKnownCardSaid : Prop := Claim7.holds Tryz.pinned (.plain (OpenSpec.ofChange certKnownSpec)) certKnownCard

/-- THE SECOND FORM's CARD OF 'alibilaw28.CertParses'. -/
def certParsesUptoCard : Claim7 := { stood := { row := certParsesUptoRow, standIns := [], harness := (true, "22b862ddc8b27bc7e1dc48453558e777f2b0037f062a192f85b6e7700d521c8b"), looks := true }, kinds := [], alts := [], laidByText := true, laidKinds := [.data, .data, .data, .data, .sentinel, .sentinel, .pinned], laidTests := true, laidLooks := .later }
def CertParsesUptoCardSaid : Prop := Claim7.holds Tryz.pinned (.plain (OpenSpec.upto certParsesSpec)) certParsesUptoCard

/-- THE SECOND FORM's CARD OF 'alibilaw28.CertBack'. -/
def certBackUptoCard : Claim7 := { stood := { row := certBackUptoRow, standIns := [], harness := (true, "22b862ddc8b27bc7e1dc48453558e777f2b0037f062a192f85b6e7700d521c8b"), looks := true }, kinds := [], alts := [], laidByText := true, laidKinds := [.data, .data, .data, .data, .sentinel, .sentinel, .pinned], laidTests := true, laidLooks := .later }
def CertBackUptoCardSaid : Prop := Claim7.holds Tryz.pinned (.plain (OpenSpec.upto certBackSpec)) certBackUptoCard

/-- THE SECOND FORM's CARD OF 'alibilaw28.CertKnown'. -/
def certKnownUptoCard : Claim7 := { stood := { row := certKnownUptoRow, standIns := [], harness := (true, "22b862ddc8b27bc7e1dc48453558e777f2b0037f062a192f85b6e7700d521c8b"), looks := true }, kinds := [], alts := [], laidByText := true, laidKinds := [.data, .data, .data, .data, .sentinel, .sentinel, .pinned], laidTests := true, laidLooks := .later }
def CertKnownUptoCardSaid : Prop := Claim7.holds Tryz.pinned (.plain (OpenSpec.upto certKnownSpec)) certKnownUptoCard
end Rows
end Go.Proofs.YtkpfbalkhlidgaaGreatDoor
