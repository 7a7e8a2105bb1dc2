/-
  DERIVED. GIVEN WITH THE SEED: THE CARDS: each row of YtfadnkfceggjaaaDoorRows.lean that lists a variable, with what it lists TIED to the program's text (the seventh form; the later family's looks); each row that meets fmt, with fmt's text TOLD by the authors' own Lean function (tested against real Go, not proved from fmt's source: count such statements apart). THE CARD IS WHAT COUNTS. Prove the row's statement (the work); the ties are given (YtfadnkfceggjaaaDoorTie.lean); close each card by the builder's one call (the guide's Derived/Test/ToyasCard.lean, 'card_holds'). Laid BY PROGRAM, IN A SANDBOX (cutbox-door.mjs). By AI agents, Wed Nov 11 2026. No macro, syntax, notation, axiom, sorry.
-/
import Derived.Test.YtfadnkfceggjaaaDoorRows
import GoSem.ClaimSeven
namespace Go.Proofs.YtfadnkfceggjaaaDoor
namespace Rows

/-- THE TIED CARD OF 'layercakelaw3.LayerHidden'. -/
def layerHiddenCard : Claim7 := { stood := { row := layerHiddenRow, standIns := [], harness := (true, "da49e4da09db004c50752b4e58eb0e8ef2a7ec20925485b3d774d9f9374cf32c"), looks := true }, kinds := [], alts := [], laidByText := true, laidKinds := [.sentinel, .sentinel, .sentinel, .sentinel], laidTests := true, laidLooks := .later }
def LayerHiddenCardSaid : Prop := Claim7.holds Tryd.pinned (.plain (OpenSpec.ofChange layerHiddenSpec)) layerHiddenCard

/-- THE TIED CARD OF 'layercakelaw3.LayerFlat'. -/
def layerFlatCard : Claim7 := { stood := { row := layerFlatRow, standIns := [], harness := (true, "da49e4da09db004c50752b4e58eb0e8ef2a7ec20925485b3d774d9f9374cf32c"), looks := true }, kinds := [], alts := [], laidByText := true, laidKinds := [.handle, .sentinel, .sentinel, .sentinel, .sentinel, .sentinel, .sentinel, .sentinel, .sentinel, .sentinel], laidTests := true, laidLooks := .later }
def LayerFlatCardSaid : Prop := Claim7.holds Tryd.pinned (.plain (OpenSpec.ofChange layerFlatSpec)) layerFlatCard

/-- THE TIED CARD OF 'layercakelaw3.LayerMerged'. -/
def layerMergedCard : Claim7 := { stood := { row := layerMergedRow, standIns := [], harness := (true, "da49e4da09db004c50752b4e58eb0e8ef2a7ec20925485b3d774d9f9374cf32c"), looks := true }, kinds := [], alts := [], laidByText := true, laidKinds := [.sentinel, .sentinel, .sentinel, .sentinel], laidTests := true, laidLooks := .later }
def LayerMergedCardSaid : Prop := Claim7.holds Tryd.pinned (.plain (OpenSpec.ofChange layerMergedSpec)) layerMergedCard

/-- THE TIED CARD OF 'layercakelaw3.ColorsReduce'. -/
def colorsReduceCard : Claim7 := { stood := { row := colorsReduceRow, standIns := [], harness := (true, "da49e4da09db004c50752b4e58eb0e8ef2a7ec20925485b3d774d9f9374cf32c"), looks := true }, kinds := [], alts := [], laidByText := true, laidKinds := [.handle, .sentinel, .sentinel, .sentinel, .sentinel, .sentinel, .sentinel, .sentinel, .sentinel, .sentinel], laidTests := true, laidLooks := .later }
def ColorsReduceCardSaid : Prop := Claim7.holds Tryd.pinned (.plain (OpenSpec.ofChange colorsReduceSpec)) colorsReduceCard

/-- THE SECOND FORM's CARD OF 'layercakelaw3.LayerHidden'. -/
def layerHiddenUptoCard : Claim7 := { stood := { row := layerHiddenUptoRow, standIns := [], harness := (true, "da49e4da09db004c50752b4e58eb0e8ef2a7ec20925485b3d774d9f9374cf32c"), looks := true }, kinds := [], alts := [], laidByText := true, laidKinds := [.sentinel, .sentinel, .sentinel, .sentinel], laidTests := true, laidLooks := .later }
def LayerHiddenUptoCardSaid : Prop := Claim7.holds Tryd.pinned (.plain (OpenSpec.upto layerHiddenSpec)) layerHiddenUptoCard

/-- THE SECOND FORM's CARD OF 'layercakelaw3.LayerFlat'. -/
def layerFlatUptoCard : Claim7 := { stood := { row := layerFlatUptoRow, standIns := [], harness := (true, "da49e4da09db004c50752b4e58eb0e8ef2a7ec20925485b3d774d9f9374cf32c"), looks := true }, kinds := [], alts := [], laidByText := true, laidKinds := [.handle, .sentinel, .sentinel, .sentinel, .sentinel, .sentinel, .sentinel, .sentinel, .sentinel, .sentinel], laidTests := true, laidLooks := .later }
def LayerFlatUptoCardSaid : Prop := Claim7.holds Tryd.pinned (.plain (OpenSpec.upto layerFlatSpec)) layerFlatUptoCard

/-- THE SECOND FORM's CARD OF 'layercakelaw3.LayerMerged'. -/
def layerMergedUptoCard : Claim7 := { stood := { row := layerMergedUptoRow, standIns := [], harness := (true, "da49e4da09db004c50752b4e58eb0e8ef2a7ec20925485b3d774d9f9374cf32c"), looks := true }, kinds := [], alts := [], laidByText := true, laidKinds := [.sentinel, .sentinel, .sentinel, .sentinel], laidTests := true, laidLooks := .later }
def LayerMergedUptoCardSaid : Prop := Claim7.holds Tryd.pinned (.plain (OpenSpec.upto layerMergedSpec)) layerMergedUptoCard

/-- THE SECOND FORM's CARD OF 'layercakelaw3.ColorsReduce'. -/
def colorsReduceUptoCard : Claim7 := { stood := { row := colorsReduceUptoRow, standIns := [], harness := (true, "da49e4da09db004c50752b4e58eb0e8ef2a7ec20925485b3d774d9f9374cf32c"), looks := true }, kinds := [], alts := [], laidByText := true, laidKinds := [.handle, .sentinel, .sentinel, .sentinel, .sentinel, .sentinel, .sentinel, .sentinel, .sentinel, .sentinel], laidTests := true, laidLooks := .later }
def ColorsReduceUptoCardSaid : Prop := Claim7.holds Tryd.pinned (.plain (OpenSpec.upto colorsReduceSpec)) colorsReduceUptoCard
end Rows
end Go.Proofs.YtfadnkfceggjaaaDoor
