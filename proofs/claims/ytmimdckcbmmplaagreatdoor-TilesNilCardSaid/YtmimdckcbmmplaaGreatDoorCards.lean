/-
  DERIVED. GIVEN WITH THE SEED: THE CARDS: each row of YtmimdckcbmmplaaGreatDoorRows.lean that lists a variable, with what it lists TIED to the program's text (the seventh form; the later family's looks); each row that meets fmt, with fmt's text TOLD by the authors' own Lean function (tested against real Go, not proved from fmt's source: count such statements apart). THE CARD IS WHAT COUNTS. Prove the row's statement (the work); the ties are given (YtmimdckcbmmplaaGreatDoorTie.lean); close each card by the builder's one call (the guide's Derived/Test/ToyasCard.lean, 'card_holds'). Laid BY PROGRAM, IN A SANDBOX (cutbox-door.mjs). By AI agents, Wed Nov 11 2026. No macro, syntax, notation, axiom, sorry.
-/
import Derived.Test.YtmimdckcbmmplaaGreatDoorRows
import GoSem.ClaimSeven
namespace Go.Proofs.YtmimdckcbmmplaaGreatDoor
namespace Rows

/-- THE TIED CARD OF 'layercakelaw3.TilesNil'. -/
def tilesNilCard : Claim7 := { stood := { row := tilesNilRow, standIns := [], harness := (true, "4b964e959416910690971fa89aa029f48c6e68d58cdc2536e793f0b2e464dc62"), looks := true }, kinds := [], alts := [], laidByText := true, laidKinds := [.handle, .sentinel, .sentinel, .sentinel, .sentinel, .sentinel, .sentinel, .sentinel, .sentinel, .sentinel, .widerDeep, .data, .widerDeep, .data, .widerDeep], laidTests := true, laidLooks := .later }
def TilesNilCardSaid : Prop := Claim7.holds Tryz.pinned (.plain (OpenSpec.ofChange tilesNilSpec)) tilesNilCard

/-- THE SECOND FORM's CARD OF 'layercakelaw3.TilesNil'. -/
def tilesNilUptoCard : Claim7 := { stood := { row := tilesNilUptoRow, standIns := [], harness := (true, "4b964e959416910690971fa89aa029f48c6e68d58cdc2536e793f0b2e464dc62"), looks := true }, kinds := [], alts := [], laidByText := true, laidKinds := [.handle, .sentinel, .sentinel, .sentinel, .sentinel, .sentinel, .sentinel, .sentinel, .sentinel, .sentinel, .widerDeep, .data, .widerDeep, .data, .widerDeep], laidTests := true, laidLooks := .later }
def TilesNilUptoCardSaid : Prop := Claim7.holds Tryz.pinned (.plain (OpenSpec.upto tilesNilSpec)) tilesNilUptoCard
end Rows
end Go.Proofs.YtmimdckcbmmplaaGreatDoor
