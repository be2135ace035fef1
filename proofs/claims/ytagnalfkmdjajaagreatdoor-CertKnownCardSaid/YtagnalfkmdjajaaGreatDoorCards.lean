/-
  DERIVED. GIVEN WITH THE SEED: THE CARDS: each row of YtagnalfkmdjajaaGreatDoorRows.lean that lists a variable, with what it lists TIED to the program's text (the seventh form; the later family's looks); each row that meets fmt, with fmt's text TOLD by the authors' own Lean function (tested against real Go, not proved from fmt's source: count such statements apart). THE CARD IS WHAT COUNTS. Prove the row's statement (the work); the ties are given (YtagnalfkmdjajaaGreatDoorTie.lean); close each card by the builder's one call (the guide's Derived/Test/ToyasCard.lean, 'card_holds'). Laid BY PROGRAM, IN A SANDBOX (cutbox-door.mjs). By AI agents, Wed Nov 11 2026. No macro, syntax, notation, axiom, sorry.
-/
import Derived.Test.YtagnalfkmdjajaaGreatDoorRows
import GoSem.ClaimSeven
namespace Go.Proofs.YtagnalfkmdjajaaGreatDoor
namespace Rows

/-- THE TIED CARD OF 'alibilaw28.CertBack'. -/
def certBackCard : Claim7 := { stood := { row := certBackRow, standIns := [], harness := (true, "8a5706ba4683c1f1df362a4acbd49c507d24f9d15c8d9a0dafb09c8f649db4b7"), looks := true }, kinds := [], alts := [], laidByText := true, laidKinds := [.data, .data, .data, .data, .sentinel, .sentinel, .pinned], laidTests := true, laidLooks := .later }
def CertBackCardSaid : Prop := Claim7.holds Tryz.pinned (.plain (OpenSpec.ofChange certBackSpec)) certBackCard

/-- THE TIED CARD OF 'alibilaw28.CertKnown'. -/
def certKnownCard : Claim7 := { stood := { row := certKnownRow, standIns := [], harness := (true, "8a5706ba4683c1f1df362a4acbd49c507d24f9d15c8d9a0dafb09c8f649db4b7"), looks := true }, kinds := [], alts := [], laidByText := true, laidKinds := [.data, .data, .data, .data, .sentinel, .sentinel, .pinned], laidTests := true, laidLooks := .later }
def CertKnownCardSaid : Prop := Claim7.holds Tryz.pinned (.plain (OpenSpec.ofChange certKnownSpec)) certKnownCard

/-- THE SECOND FORM's CARD OF 'alibilaw28.CertBack'. -/
def certBackUptoCard : Claim7 := { stood := { row := certBackUptoRow, standIns := [], harness := (true, "8a5706ba4683c1f1df362a4acbd49c507d24f9d15c8d9a0dafb09c8f649db4b7"), looks := true }, kinds := [], alts := [], laidByText := true, laidKinds := [.data, .data, .data, .data, .sentinel, .sentinel, .pinned], laidTests := true, laidLooks := .later }
def CertBackUptoCardSaid : Prop := Claim7.holds Tryz.pinned (.plain (OpenSpec.upto certBackSpec)) certBackUptoCard

/-- THE SECOND FORM's CARD OF 'alibilaw28.CertKnown'. -/
def certKnownUptoCard : Claim7 := { stood := { row := certKnownUptoRow, standIns := [], harness := (true, "8a5706ba4683c1f1df362a4acbd49c507d24f9d15c8d9a0dafb09c8f649db4b7"), looks := true }, kinds := [], alts := [], laidByText := true, laidKinds := [.data, .data, .data, .data, .sentinel, .sentinel, .pinned], laidTests := true, laidLooks := .later }
def CertKnownUptoCardSaid : Prop := Claim7.holds Tryz.pinned (.plain (OpenSpec.upto certKnownSpec)) certKnownUptoCard
end Rows
end Go.Proofs.YtagnalfkmdjajaaGreatDoor
