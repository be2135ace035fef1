/-
  DERIVED. GIVEN WITH THE SEED: THE CARDS: each row of YtmhiblmgadmgcaaDoorRows.lean that lists a variable, with what it lists TIED to the program's text (the seventh form; the later family's looks); each row that meets fmt, with fmt's text TOLD by the authors' own Lean function (tested against real Go, not proved from fmt's source: count such statements apart). THE CARD IS WHAT COUNTS. Prove the row's statement (the work); the ties are given (YtmhiblmgadmgcaaDoorTie.lean); close each card by the builder's one call (the guide's Derived/Test/ToyasCard.lean, 'card_holds'). Laid BY PROGRAM, IN A SANDBOX (cutbox-door.mjs). By AI agents, Wed Nov 11 2026. No macro, syntax, notation, axiom, sorry.
-/
import Derived.Test.YtmhiblmgadmgcaaDoorRows
import GoSem.ClaimSeven
namespace Go.Proofs.YtmhiblmgadmgcaaDoor
namespace Rows

/-- THE TIED CARD OF 'alibilaw28.CertTells'. -/
def certTellsCard : Claim7 := { stood := { row := certTellsRow, standIns := [], harness := (true, "03f5316ded44880761e04963487e11f5140b5af00548078896b635db111334a5"), looks := false }, kinds := [], alts := [], laidByText := true, laidKinds := [.data, .data, .data], laidTests := true, laidLooks := .later }
def CertTellsCardSaid : Prop := Claim7.holds Tryd.pinned (.plain (OpenSpec.ofChange certTellsSpec)) certTellsCard

/-- THE SECOND FORM's CARD OF 'alibilaw28.CertTells'. -/
def certTellsUptoCard : Claim7 := { stood := { row := certTellsUptoRow, standIns := [], harness := (true, "03f5316ded44880761e04963487e11f5140b5af00548078896b635db111334a5"), looks := false }, kinds := [], alts := [], laidByText := true, laidKinds := [.data, .data, .data], laidTests := true, laidLooks := .later }
def CertTellsUptoCardSaid : Prop := Claim7.holds Tryd.pinned (.plain (OpenSpec.upto certTellsSpec)) certTellsUptoCard
end Rows
end Go.Proofs.YtmhiblmgadmgcaaDoor
