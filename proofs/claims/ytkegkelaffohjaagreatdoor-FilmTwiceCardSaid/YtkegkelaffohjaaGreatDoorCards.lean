/-
  DERIVED. GIVEN WITH THE SEED: THE CARDS: each row of YtkegkelaffohjaaGreatDoorRows.lean that lists a variable, with what it lists TIED to the program's text (the seventh form; the later family's looks); each row that meets fmt, with fmt's text TOLD by the authors' own Lean function (tested against real Go, not proved from fmt's source: count such statements apart). THE CARD IS WHAT COUNTS. Prove the row's statement (the work); the ties are given (YtkegkelaffohjaaGreatDoorTie.lean); close each card by the builder's one call (the guide's Derived/Test/ToyasCard.lean, 'card_holds'). Laid BY PROGRAM, IN A SANDBOX (cutbox-door.mjs). By AI agents, Wed Nov 11 2026. No macro, syntax, notation, axiom, sorry.
-/
import Derived.Test.YtkegkelaffohjaaGreatDoorRows
import GoSem.ClaimSeven
namespace Go.Proofs.YtkegkelaffohjaaGreatDoor
namespace Rows

/-- THE TIED CARD OF 'layercakelaw3.FilmReads'. -/
def filmReadsCard : Claim7 := { stood := { row := filmReadsRow, standIns := [], harness := (true, "959e3ff351b1242c69b4770da7abdf9bdad6518126b6c166cb450a1a6d119828"), looks := true }, kinds := [], alts := [], laidByText := true, laidKinds := [.handle, .sentinel, .sentinel, .sentinel, .sentinel, .sentinel, .sentinel, .sentinel, .sentinel, .sentinel, .widerDeep, .data, .widerDeep, .data, .widerDeep], laidTests := true, laidLooks := .later }
def FilmReadsCardSaid : Prop := Claim7.holds Tryz.pinned (.plain (OpenSpec.ofChange filmReadsSpec)) filmReadsCard

/-- THE TIED CARD OF 'layercakelaw3.FilmWrites'. -/
def filmWritesCard : Claim7 := { stood := { row := filmWritesRow, standIns := [], harness := (true, "959e3ff351b1242c69b4770da7abdf9bdad6518126b6c166cb450a1a6d119828"), looks := true }, kinds := [], alts := [], laidByText := true, laidKinds := [.handle, .sentinel, .sentinel, .sentinel, .sentinel, .sentinel, .sentinel, .sentinel, .sentinel, .sentinel, .widerDeep, .data, .widerDeep, .data, .widerDeep], laidTests := true, laidLooks := .later }
def FilmWritesCardSaid : Prop := Claim7.holds Tryz.pinned (.plain (OpenSpec.ofChange filmWritesSpec)) filmWritesCard

/-- THE TIED CARD OF 'layercakelaw3.FilmTwice'. -/
def filmTwiceCard : Claim7 := { stood := { row := filmTwiceRow, standIns := [], harness := (true, "959e3ff351b1242c69b4770da7abdf9bdad6518126b6c166cb450a1a6d119828"), looks := true }, kinds := [], alts := [], laidByText := true, laidKinds := [.sentinel, .sentinel, .sentinel, .sentinel, .widerDeep, .data, .widerDeep, .data, .widerDeep], laidTests := true, laidLooks := .later }
def FilmTwiceCardSaid : Prop := Claim7.holds Tryz.pinned (.plain (OpenSpec.ofChange filmTwiceSpec)) filmTwiceCard

/-- THE SECOND FORM's CARD OF 'layercakelaw3.FilmReads'. -/
def filmReadsUptoCard : Claim7 := { stood := { row := filmReadsUptoRow, standIns := [], harness := (true, "959e3ff351b1242c69b4770da7abdf9bdad6518126b6c166cb450a1a6d119828"), looks := true }, kinds := [], alts := [], laidByText := true, laidKinds := [.handle, .sentinel, .sentinel, .sentinel, .sentinel, .sentinel, .sentinel, .sentinel, .sentinel, .sentinel, .widerDeep, .data, .widerDeep, .data, .widerDeep], laidTests := true, laidLooks := .later }
def FilmReadsUptoCardSaid : Prop := Claim7.holds Tryz.pinned (.plain (OpenSpec.upto filmReadsSpec)) filmReadsUptoCard

/-- THE SECOND FORM's CARD OF 'layercakelaw3.FilmWrites'. -/
def filmWritesUptoCard : Claim7 := { stood := { row := filmWritesUptoRow, standIns := [], harness := (true, "959e3ff351b1242c69b4770da7abdf9bdad6518126b6c166cb450a1a6d119828"), looks := true }, kinds := [], alts := [], laidByText := true, laidKinds := [.handle, .sentinel, .sentinel, .sentinel, .sentinel, .sentinel, .sentinel, .sentinel, .sentinel, .sentinel, .widerDeep, .data, .widerDeep, .data, .widerDeep], laidTests := true, laidLooks := .later }
def FilmWritesUptoCardSaid : Prop := Claim7.holds Tryz.pinned (.plain (OpenSpec.upto filmWritesSpec)) filmWritesUptoCard

/-- THE SECOND FORM's CARD OF 'layercakelaw3.FilmTwice'. -/
def filmTwiceUptoCard : Claim7 := { stood := { row := filmTwiceUptoRow, standIns := [], harness := (true, "959e3ff351b1242c69b4770da7abdf9bdad6518126b6c166cb450a1a6d119828"), looks := true }, kinds := [], alts := [], laidByText := true, laidKinds := [.sentinel, .sentinel, .sentinel, .sentinel, .widerDeep, .data, .widerDeep, .data, .widerDeep], laidTests := true, laidLooks := .later }
def FilmTwiceUptoCardSaid : Prop := Claim7.holds Tryz.pinned (.plain (OpenSpec.upto filmTwiceSpec)) filmTwiceUptoCard
end Rows
end Go.Proofs.YtkegkelaffohjaaGreatDoor
