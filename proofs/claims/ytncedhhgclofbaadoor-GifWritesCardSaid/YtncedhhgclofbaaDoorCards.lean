/-
  DERIVED. GIVEN WITH THE SEED: THE CARDS: each row of YtncedhhgclofbaaDoorRows.lean that lists a variable, with what it lists TIED to the program's text (the seventh form; the later family's looks); each row that meets fmt, with fmt's text TOLD by the authors' own Lean function (tested against real Go, not proved from fmt's source: count such statements apart). THE CARD IS WHAT COUNTS. Prove the row's statement (the work); the ties are given (YtncedhhgclofbaaDoorTie.lean); close each card by the builder's one call (the guide's Derived/Test/ToyasCard.lean, 'card_holds'). Laid BY PROGRAM, IN A SANDBOX (cutbox-door.mjs). By AI agents, Wed Nov 11 2026. No macro, syntax, notation, axiom, sorry.
-/
import Derived.Test.YtncedhhgclofbaaDoorRows
import GoSem.ClaimSeven
namespace Go.Proofs.YtncedhhgclofbaaDoor
namespace Rows

/-- THE TIED CARD OF 'layercakelaw3.GifTwice'. -/
def gifTwiceCard : Claim7 := { stood := { row := gifTwiceRow, standIns := [], harness := (true, "e85ea50c8fdfa5dd24c812b17860d1f38a5f7bc05db340580b8e35ce99619195"), looks := true }, kinds := [], alts := [], laidByText := true, laidKinds := [.sentinel, .sentinel, .sentinel, .sentinel], laidTests := true, laidLooks := .later }
def GifTwiceCardSaid : Prop := Claim7.holds Tryd.pinned (.plain (OpenSpec.ofChange gifTwiceSpec)) gifTwiceCard

/-- THE TIED CARD OF 'layercakelaw3.GifWrites'. -/
def gifWritesCard : Claim7 := { stood := { row := gifWritesRow, standIns := [], harness := (true, "e85ea50c8fdfa5dd24c812b17860d1f38a5f7bc05db340580b8e35ce99619195"), looks := true }, kinds := [], alts := [], laidByText := true, laidKinds := [.handle, .sentinel, .sentinel, .sentinel, .sentinel, .sentinel, .sentinel, .sentinel, .sentinel, .sentinel], laidTests := true, laidLooks := .later }
def GifWritesCardSaid : Prop := Claim7.holds Tryd.pinned (.plain (OpenSpec.ofChange gifWritesSpec)) gifWritesCard

/-- THE TIED CARD OF 'layercakelaw3.GifReads'. -/
def gifReadsCard : Claim7 := { stood := { row := gifReadsRow, standIns := [], harness := (true, "e85ea50c8fdfa5dd24c812b17860d1f38a5f7bc05db340580b8e35ce99619195"), looks := true }, kinds := [], alts := [], laidByText := true, laidKinds := [.handle, .sentinel, .sentinel, .sentinel, .sentinel, .sentinel, .sentinel, .sentinel, .sentinel, .sentinel], laidTests := true, laidLooks := .later }
def GifReadsCardSaid : Prop := Claim7.holds Tryd.pinned (.plain (OpenSpec.ofChange gifReadsSpec)) gifReadsCard

/-- THE SECOND FORM's CARD OF 'layercakelaw3.GifTwice'. -/
def gifTwiceUptoCard : Claim7 := { stood := { row := gifTwiceUptoRow, standIns := [], harness := (true, "e85ea50c8fdfa5dd24c812b17860d1f38a5f7bc05db340580b8e35ce99619195"), looks := true }, kinds := [], alts := [], laidByText := true, laidKinds := [.sentinel, .sentinel, .sentinel, .sentinel], laidTests := true, laidLooks := .later }
def GifTwiceUptoCardSaid : Prop := Claim7.holds Tryd.pinned (.plain (OpenSpec.upto gifTwiceSpec)) gifTwiceUptoCard

/-- THE SECOND FORM's CARD OF 'layercakelaw3.GifWrites'. -/
def gifWritesUptoCard : Claim7 := { stood := { row := gifWritesUptoRow, standIns := [], harness := (true, "e85ea50c8fdfa5dd24c812b17860d1f38a5f7bc05db340580b8e35ce99619195"), looks := true }, kinds := [], alts := [], laidByText := true, laidKinds := [.handle, .sentinel, .sentinel, .sentinel, .sentinel, .sentinel, .sentinel, .sentinel, .sentinel, .sentinel], laidTests := true, laidLooks := .later }
def GifWritesUptoCardSaid : Prop := Claim7.holds Tryd.pinned (.plain (OpenSpec.upto gifWritesSpec)) gifWritesUptoCard

/-- THE SECOND FORM's CARD OF 'layercakelaw3.GifReads'. -/
def gifReadsUptoCard : Claim7 := { stood := { row := gifReadsUptoRow, standIns := [], harness := (true, "e85ea50c8fdfa5dd24c812b17860d1f38a5f7bc05db340580b8e35ce99619195"), looks := true }, kinds := [], alts := [], laidByText := true, laidKinds := [.handle, .sentinel, .sentinel, .sentinel, .sentinel, .sentinel, .sentinel, .sentinel, .sentinel, .sentinel], laidTests := true, laidLooks := .later }
def GifReadsUptoCardSaid : Prop := Claim7.holds Tryd.pinned (.plain (OpenSpec.upto gifReadsSpec)) gifReadsUptoCard
end Rows
end Go.Proofs.YtncedhhgclofbaaDoor
