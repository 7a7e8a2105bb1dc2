/-
  DERIVED. GIVEN WITH THE SEED: THE CARDS: each row of YtcdbhcjiimdhhaaDoorRows.lean that lists a variable, with what it lists TIED to the program's text (the seventh form; the later family's looks); each row that meets fmt, with fmt's text TOLD by the authors' own Lean function (tested against real Go, not proved from fmt's source: count such statements apart). THE CARD IS WHAT COUNTS. Prove the row's statement (the work); the ties are given (YtcdbhcjiimdhhaaDoorTie.lean); close each card by the builder's one call (the guide's Derived/Test/ToyasCard.lean, 'card_holds'). Laid BY PROGRAM, IN A SANDBOX (cutbox-door.mjs). By AI agents, Wed Nov 11 2026. No macro, syntax, notation, axiom, sorry.
-/
import Derived.Test.YtcdbhcjiimdhhaaDoorRows
import GoSem.ClaimSeven
namespace Go.Proofs.YtcdbhcjiimdhhaaDoor
namespace Rows

/-- THE TIED CARD OF 'layercakelaw3.TilesOf'. -/
def tilesOfCard : Claim7 := { stood := { row := tilesOfRow, standIns := [], harness := (true, "871d276ebb2970bb9039264786848ac84c6f4ed073c682e5383382b043cb05d1"), looks := true }, kinds := [], alts := [], laidByText := true, laidKinds := [.handle, .sentinel, .sentinel, .sentinel, .sentinel, .sentinel, .sentinel, .sentinel, .sentinel, .sentinel], laidTests := true, laidLooks := .later }
def TilesOfCardSaid : Prop := Claim7.holds Tryd.pinned (.plain (OpenSpec.ofChange tilesOfSpec)) tilesOfCard

/-- THE TIED CARD OF 'layercakelaw3.TilesPaint'. -/
def tilesPaintCard : Claim7 := { stood := { row := tilesPaintRow, standIns := [], harness := (true, "871d276ebb2970bb9039264786848ac84c6f4ed073c682e5383382b043cb05d1"), looks := true }, kinds := [], alts := [], laidByText := true, laidKinds := [.handle, .sentinel, .sentinel, .sentinel, .sentinel, .sentinel, .sentinel, .sentinel, .sentinel, .sentinel], laidTests := true, laidLooks := .later }
def TilesPaintCardSaid : Prop := Claim7.holds Tryd.pinned (.plain (OpenSpec.ofChange tilesPaintSpec)) tilesPaintCard

/-- THE SECOND FORM's CARD OF 'layercakelaw3.TilesOf'. -/
def tilesOfUptoCard : Claim7 := { stood := { row := tilesOfUptoRow, standIns := [], harness := (true, "871d276ebb2970bb9039264786848ac84c6f4ed073c682e5383382b043cb05d1"), looks := true }, kinds := [], alts := [], laidByText := true, laidKinds := [.handle, .sentinel, .sentinel, .sentinel, .sentinel, .sentinel, .sentinel, .sentinel, .sentinel, .sentinel], laidTests := true, laidLooks := .later }
def TilesOfUptoCardSaid : Prop := Claim7.holds Tryd.pinned (.plain (OpenSpec.upto tilesOfSpec)) tilesOfUptoCard

/-- THE SECOND FORM's CARD OF 'layercakelaw3.TilesPaint'. -/
def tilesPaintUptoCard : Claim7 := { stood := { row := tilesPaintUptoRow, standIns := [], harness := (true, "871d276ebb2970bb9039264786848ac84c6f4ed073c682e5383382b043cb05d1"), looks := true }, kinds := [], alts := [], laidByText := true, laidKinds := [.handle, .sentinel, .sentinel, .sentinel, .sentinel, .sentinel, .sentinel, .sentinel, .sentinel, .sentinel], laidTests := true, laidLooks := .later }
def TilesPaintUptoCardSaid : Prop := Claim7.holds Tryd.pinned (.plain (OpenSpec.upto tilesPaintSpec)) tilesPaintUptoCard
end Rows
end Go.Proofs.YtcdbhcjiimdhhaaDoor
