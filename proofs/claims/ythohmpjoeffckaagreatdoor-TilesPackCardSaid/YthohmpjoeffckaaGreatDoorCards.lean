/-
  DERIVED. GIVEN WITH THE SEED: THE CARDS: each row of YthohmpjoeffckaaGreatDoorRows.lean that lists a variable, with what it lists TIED to the program's text (the seventh form; the later family's looks); each row that meets fmt, with fmt's text TOLD by the authors' own Lean function (tested against real Go, not proved from fmt's source: count such statements apart). THE CARD IS WHAT COUNTS. Prove the row's statement (the work); the ties are given (YthohmpjoeffckaaGreatDoorTie.lean); close each card by the builder's one call (the guide's Derived/Test/ToyasCard.lean, 'card_holds'). Laid BY PROGRAM, IN A SANDBOX (cutbox-door.mjs). By AI agents, Wed Nov 11 2026. No macro, syntax, notation, axiom, sorry.
-/
import Derived.Test.YthohmpjoeffckaaGreatDoorRows
import GoSem.ClaimSeven
namespace Go.Proofs.YthohmpjoeffckaaGreatDoor
namespace Rows

/-- THE TIED CARD OF 'layercakelaw3.TilesPack'. -/
def tilesPackCard : Claim7 := { stood := { row := tilesPackRow, standIns := [], harness := (true, "08b8324848bc791076102729bde40105acd076a6c103d285c80d4b2c612c86b8"), looks := true }, kinds := [], alts := [], laidByText := true, laidKinds := [.handle, .sentinel, .sentinel, .sentinel, .sentinel, .sentinel, .sentinel, .sentinel, .sentinel, .sentinel, .widerDeep, .data, .widerDeep, .data, .widerDeep], laidTests := true, laidLooks := .later }
def TilesPackCardSaid : Prop := Claim7.holds Tryz.pinned (.plain (OpenSpec.ofChange tilesPackSpec)) tilesPackCard

/-- THE TIED CARD OF 'layercakelaw3.TilesRead'. -/
def tilesReadCard : Claim7 := { stood := { row := tilesReadRow, standIns := [], harness := (true, "08b8324848bc791076102729bde40105acd076a6c103d285c80d4b2c612c86b8"), looks := true }, kinds := [], alts := [], laidByText := true, laidKinds := [.handle, .sentinel, .sentinel, .sentinel, .sentinel, .sentinel, .sentinel, .sentinel, .sentinel, .sentinel, .widerDeep, .data, .widerDeep, .data, .widerDeep], laidTests := true, laidLooks := .later }
def TilesReadCardSaid : Prop := Claim7.holds Tryz.pinned (.plain (OpenSpec.ofChange tilesReadSpec)) tilesReadCard

/-- THE SECOND FORM's CARD OF 'layercakelaw3.TilesPack'. -/
def tilesPackUptoCard : Claim7 := { stood := { row := tilesPackUptoRow, standIns := [], harness := (true, "08b8324848bc791076102729bde40105acd076a6c103d285c80d4b2c612c86b8"), looks := true }, kinds := [], alts := [], laidByText := true, laidKinds := [.handle, .sentinel, .sentinel, .sentinel, .sentinel, .sentinel, .sentinel, .sentinel, .sentinel, .sentinel, .widerDeep, .data, .widerDeep, .data, .widerDeep], laidTests := true, laidLooks := .later }
def TilesPackUptoCardSaid : Prop := Claim7.holds Tryz.pinned (.plain (OpenSpec.upto tilesPackSpec)) tilesPackUptoCard

/-- THE SECOND FORM's CARD OF 'layercakelaw3.TilesRead'. -/
def tilesReadUptoCard : Claim7 := { stood := { row := tilesReadUptoRow, standIns := [], harness := (true, "08b8324848bc791076102729bde40105acd076a6c103d285c80d4b2c612c86b8"), looks := true }, kinds := [], alts := [], laidByText := true, laidKinds := [.handle, .sentinel, .sentinel, .sentinel, .sentinel, .sentinel, .sentinel, .sentinel, .sentinel, .sentinel, .widerDeep, .data, .widerDeep, .data, .widerDeep], laidTests := true, laidLooks := .later }
def TilesReadUptoCardSaid : Prop := Claim7.holds Tryz.pinned (.plain (OpenSpec.upto tilesReadSpec)) tilesReadUptoCard
end Rows
end Go.Proofs.YthohmpjoeffckaaGreatDoor
