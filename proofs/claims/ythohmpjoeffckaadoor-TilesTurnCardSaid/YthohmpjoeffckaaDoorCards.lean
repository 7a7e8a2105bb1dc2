/-
  DERIVED. GIVEN WITH THE SEED: THE CARDS: each row of YthohmpjoeffckaaDoorRows.lean that lists a variable, with what it lists TIED to the program's text (the seventh form; the later family's looks); each row that meets fmt, with fmt's text TOLD by the authors' own Lean function (tested against real Go, not proved from fmt's source: count such statements apart). THE CARD IS WHAT COUNTS. Prove the row's statement (the work); the ties are given (YthohmpjoeffckaaDoorTie.lean); close each card by the builder's one call (the guide's Derived/Test/ToyasCard.lean, 'card_holds'). Laid BY PROGRAM, IN A SANDBOX (cutbox-door.mjs). By AI agents, Wed Nov 11 2026. No macro, syntax, notation, axiom, sorry.
-/
import Derived.Test.YthohmpjoeffckaaDoorRows
import GoSem.ClaimSeven
namespace Go.Proofs.YthohmpjoeffckaaDoor
namespace Rows

/-- THE TIED CARD OF 'layercakelaw3.TilesTurn'. -/
def tilesTurnCard : Claim7 := { stood := { row := tilesTurnRow, standIns := [], harness := (true, "01923d7a0ba2b2ef277581c272de486617916c21d18c62719eb82690b42a01f7"), looks := false }, kinds := [], alts := [], laidByText := true, laidKinds := [.sentinel, .sentinel, .widerDeep, .data, .widerDeep, .data, .widerDeep], laidTests := true, laidLooks := .later }
def TilesTurnCardSaid : Prop := Claim7.holds Tryd.pinned (.plain (OpenSpec.ofChange tilesTurnSpec)) tilesTurnCard

/-- THE SECOND FORM's CARD OF 'layercakelaw3.TilesTurn'. -/
def tilesTurnUptoCard : Claim7 := { stood := { row := tilesTurnUptoRow, standIns := [], harness := (true, "01923d7a0ba2b2ef277581c272de486617916c21d18c62719eb82690b42a01f7"), looks := false }, kinds := [], alts := [], laidByText := true, laidKinds := [.sentinel, .sentinel, .widerDeep, .data, .widerDeep, .data, .widerDeep], laidTests := true, laidLooks := .later }
def TilesTurnUptoCardSaid : Prop := Claim7.holds Tryd.pinned (.plain (OpenSpec.upto tilesTurnSpec)) tilesTurnUptoCard
end Rows
end Go.Proofs.YthohmpjoeffckaaDoor
