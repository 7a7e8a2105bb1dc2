/-
  DERIVED. GIVEN WITH THE SEED: THE CARDS: each row of YtmknacnmdlcieaaGreatDoorRows.lean that lists a variable, with what it lists TIED to the program's text (the seventh form; the later family's looks); each row that meets fmt, with fmt's text TOLD by the authors' own Lean function (tested against real Go, not proved from fmt's source: count such statements apart). THE CARD IS WHAT COUNTS. Prove the row's statement (the work); the ties are given (YtmknacnmdlcieaaGreatDoorTie.lean); close each card by the builder's one call (the guide's Derived/Test/ToyasCard.lean, 'card_holds'). Laid BY PROGRAM, IN A SANDBOX (cutbox-door.mjs). By AI agents, Wed Nov 11 2026. No macro, syntax, notation, axiom, sorry.
-/
import Derived.Test.YtmknacnmdlcieaaGreatDoorRows
import GoSem.ClaimSeven
namespace Go.Proofs.YtmknacnmdlcieaaGreatDoor
namespace Rows

/-- THE TIED CARD OF 'layercakelaw3.LayerChanges'. -/
def layerChangesCard : Claim7 := { stood := { row := layerChangesRow, standIns := [], harness := (true, "ea2dc67bbc0b1efb9c4d7c871f029f5766bf9a78852c328aae7a45d801658c2e"), looks := true }, kinds := [], alts := [], laidByText := true, laidKinds := [.handle, .sentinel, .sentinel, .sentinel, .sentinel, .sentinel, .sentinel, .sentinel, .sentinel, .sentinel], laidTests := true, laidLooks := .later }
def LayerChangesCardSaid : Prop := Claim7.holds Tryz.pinned (.plain (OpenSpec.ofChange layerChangesSpec)) layerChangesCard

/-- THE SECOND FORM's CARD OF 'layercakelaw3.LayerChanges'. -/
def layerChangesUptoCard : Claim7 := { stood := { row := layerChangesUptoRow, standIns := [], harness := (true, "ea2dc67bbc0b1efb9c4d7c871f029f5766bf9a78852c328aae7a45d801658c2e"), looks := true }, kinds := [], alts := [], laidByText := true, laidKinds := [.handle, .sentinel, .sentinel, .sentinel, .sentinel, .sentinel, .sentinel, .sentinel, .sentinel, .sentinel], laidTests := true, laidLooks := .later }
def LayerChangesUptoCardSaid : Prop := Claim7.holds Tryz.pinned (.plain (OpenSpec.upto layerChangesSpec)) layerChangesUptoCard
end Rows
end Go.Proofs.YtmknacnmdlcieaaGreatDoor
