/-
  DERIVED. GIVEN WITH THE SEED: THE CARDS: each row of YtlpcmeodbigpjaaDoorRows.lean that lists a variable, with what it lists TIED to the program's text (the seventh form; the later family's looks); each row that meets fmt, with fmt's text TOLD by the authors' own Lean function (tested against real Go, not proved from fmt's source: count such statements apart). THE CARD IS WHAT COUNTS. Prove the row's statement (the work); the ties are given (YtlpcmeodbigpjaaDoorTie.lean); close each card by the builder's one call (the guide's Derived/Test/ToyasCard.lean, 'card_holds'). Laid BY PROGRAM, IN A SANDBOX (cutbox-door.mjs). By AI agents, Wed Nov 11 2026. No macro, syntax, notation, axiom, sorry.
-/
import Derived.Test.YtlpcmeodbigpjaaDoorRows
import GoSem.ClaimSeven
namespace Go.Proofs.YtlpcmeodbigpjaaDoor
namespace Rows

/-- THE TIED CARD OF 'layercakelaw3.ColorsReduce'. -/
def colorsReduceCard : Claim7 := { stood := { row := colorsReduceRow, standIns := [], harness := (true, "502dd93be5f25a5a41b11bef0e4c0c15b67c7210d0e231449afaf7e12c6823a3"), looks := true }, kinds := [], alts := [], laidByText := true, laidKinds := [.handle, .sentinel, .sentinel, .sentinel, .sentinel, .sentinel, .sentinel, .sentinel, .sentinel, .sentinel], laidTests := true, laidLooks := .later }
def ColorsReduceCardSaid : Prop := Claim7.holds Tryd.pinned (.plain (OpenSpec.ofChange colorsReduceSpec)) colorsReduceCard

/-- THE SECOND FORM's CARD OF 'layercakelaw3.ColorsReduce'. -/
def colorsReduceUptoCard : Claim7 := { stood := { row := colorsReduceUptoRow, standIns := [], harness := (true, "502dd93be5f25a5a41b11bef0e4c0c15b67c7210d0e231449afaf7e12c6823a3"), looks := true }, kinds := [], alts := [], laidByText := true, laidKinds := [.handle, .sentinel, .sentinel, .sentinel, .sentinel, .sentinel, .sentinel, .sentinel, .sentinel, .sentinel], laidTests := true, laidLooks := .later }
def ColorsReduceUptoCardSaid : Prop := Claim7.holds Tryd.pinned (.plain (OpenSpec.upto colorsReduceSpec)) colorsReduceUptoCard
end Rows
end Go.Proofs.YtlpcmeodbigpjaaDoor
