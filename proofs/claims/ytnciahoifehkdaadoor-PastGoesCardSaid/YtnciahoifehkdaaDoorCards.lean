/-
  DERIVED. GIVEN WITH THE SEED: THE CARDS: each row of YtnciahoifehkdaaDoorRows.lean that lists a variable, with what it lists TIED to the program's text (the seventh form; the later family's looks); each row that meets fmt, with fmt's text TOLD by the authors' own Lean function (tested against real Go, not proved from fmt's source: count such statements apart). THE CARD IS WHAT COUNTS. Prove the row's statement (the work); the ties are given (YtnciahoifehkdaaDoorTie.lean); close each card by the builder's one call (the guide's Derived/Test/ToyasCard.lean, 'card_holds'). Laid BY PROGRAM, IN A SANDBOX (cutbox-door.mjs). By AI agents, Wed Nov 11 2026. No macro, syntax, notation, axiom, sorry.
-/
import Derived.Test.YtnciahoifehkdaaDoorRows
import GoSem.ClaimSeven
namespace Go.Proofs.YtnciahoifehkdaaDoor
namespace Rows

/-- THE TIED CARD OF 'layercakelaw3.ColorsNearer'. -/
def colorsNearerCard : Claim7 := { stood := { row := colorsNearerRow, standIns := [], harness := (true, "89400b8503c4dbad725dc56058f723f6597ebd8926352d0926172ed6917b6ec7"), looks := true }, kinds := [], alts := [], laidByText := true, laidKinds := [.sentinel, .sentinel], laidTests := true, laidLooks := .later }
def ColorsNearerCardSaid : Prop := Claim7.holds Tryd.pinned (.plain (OpenSpec.ofChange colorsNearerSpec)) colorsNearerCard

/-- THE TIED CARD OF 'layercakelaw3.LayerHidden'. -/
def layerHiddenCard : Claim7 := { stood := { row := layerHiddenRow, standIns := [], harness := (true, "89400b8503c4dbad725dc56058f723f6597ebd8926352d0926172ed6917b6ec7"), looks := true }, kinds := [], alts := [], laidByText := true, laidKinds := [.sentinel, .sentinel, .sentinel, .sentinel], laidTests := true, laidLooks := .later }
def LayerHiddenCardSaid : Prop := Claim7.holds Tryd.pinned (.plain (OpenSpec.ofChange layerHiddenSpec)) layerHiddenCard

/-- THE TIED CARD OF 'layercakelaw3.PastGoes'. -/
def pastGoesCard : Claim7 := { stood := { row := pastGoesRow, standIns := [], harness := (true, "89400b8503c4dbad725dc56058f723f6597ebd8926352d0926172ed6917b6ec7"), looks := true }, kinds := [], alts := [], laidByText := true, laidKinds := [.handle, .sentinel, .sentinel, .sentinel, .sentinel, .sentinel, .sentinel, .sentinel, .sentinel, .sentinel], laidTests := true, laidLooks := .later }
def PastGoesCardSaid : Prop := Claim7.holds Tryd.pinned (.plain (OpenSpec.ofChange pastGoesSpec)) pastGoesCard

/-- THE TIED CARD OF 'layercakelaw3.ColorsCount'. -/
def colorsCountCard : Claim7 := { stood := { row := colorsCountRow, standIns := [], harness := (true, "89400b8503c4dbad725dc56058f723f6597ebd8926352d0926172ed6917b6ec7"), looks := true }, kinds := [], alts := [], laidByText := true, laidKinds := [.handle, .sentinel, .sentinel, .sentinel, .sentinel, .sentinel, .sentinel, .sentinel, .sentinel, .sentinel], laidTests := true, laidLooks := .later }
def ColorsCountCardSaid : Prop := Claim7.holds Tryd.pinned (.plain (OpenSpec.ofChange colorsCountSpec)) colorsCountCard

/-- THE TIED CARD OF 'layercakelaw3.ColorsMap'. -/
def colorsMapCard : Claim7 := { stood := { row := colorsMapRow, standIns := [], harness := (true, "89400b8503c4dbad725dc56058f723f6597ebd8926352d0926172ed6917b6ec7"), looks := true }, kinds := [], alts := [], laidByText := true, laidKinds := [.handle, .sentinel, .sentinel, .sentinel, .sentinel, .sentinel, .sentinel, .sentinel, .sentinel, .sentinel], laidTests := true, laidLooks := .later }
def ColorsMapCardSaid : Prop := Claim7.holds Tryd.pinned (.plain (OpenSpec.ofChange colorsMapSpec)) colorsMapCard

/-- THE TIED CARD OF 'layercakelaw3.LayerFlat'. -/
def layerFlatCard : Claim7 := { stood := { row := layerFlatRow, standIns := [], harness := (true, "89400b8503c4dbad725dc56058f723f6597ebd8926352d0926172ed6917b6ec7"), looks := true }, kinds := [], alts := [], laidByText := true, laidKinds := [.handle, .sentinel, .sentinel, .sentinel, .sentinel, .sentinel, .sentinel, .sentinel, .sentinel, .sentinel], laidTests := true, laidLooks := .later }
def LayerFlatCardSaid : Prop := Claim7.holds Tryd.pinned (.plain (OpenSpec.ofChange layerFlatSpec)) layerFlatCard

/-- THE TIED CARD OF 'layercakelaw3.TilesOf'. -/
def tilesOfCard : Claim7 := { stood := { row := tilesOfRow, standIns := [], harness := (true, "89400b8503c4dbad725dc56058f723f6597ebd8926352d0926172ed6917b6ec7"), looks := true }, kinds := [], alts := [], laidByText := true, laidKinds := [.handle, .sentinel, .sentinel, .sentinel, .sentinel, .sentinel, .sentinel, .sentinel, .sentinel, .sentinel], laidTests := true, laidLooks := .later }
def TilesOfCardSaid : Prop := Claim7.holds Tryd.pinned (.plain (OpenSpec.ofChange tilesOfSpec)) tilesOfCard

/-- THE TIED CARD OF 'layercakelaw3.LayerMerged'. -/
def layerMergedCard : Claim7 := { stood := { row := layerMergedRow, standIns := [], harness := (true, "89400b8503c4dbad725dc56058f723f6597ebd8926352d0926172ed6917b6ec7"), looks := true }, kinds := [], alts := [], laidByText := true, laidKinds := [.sentinel, .sentinel, .sentinel, .sentinel], laidTests := true, laidLooks := .later }
def LayerMergedCardSaid : Prop := Claim7.holds Tryd.pinned (.plain (OpenSpec.ofChange layerMergedSpec)) layerMergedCard

/-- THE TIED CARD OF 'layercakelaw3.GifTwice'. -/
def gifTwiceCard : Claim7 := { stood := { row := gifTwiceRow, standIns := [], harness := (true, "89400b8503c4dbad725dc56058f723f6597ebd8926352d0926172ed6917b6ec7"), looks := true }, kinds := [], alts := [], laidByText := true, laidKinds := [.sentinel, .sentinel, .sentinel, .sentinel], laidTests := true, laidLooks := .later }
def GifTwiceCardSaid : Prop := Claim7.holds Tryd.pinned (.plain (OpenSpec.ofChange gifTwiceSpec)) gifTwiceCard

/-- THE TIED CARD OF 'layercakelaw3.TilesPaint'. -/
def tilesPaintCard : Claim7 := { stood := { row := tilesPaintRow, standIns := [], harness := (true, "89400b8503c4dbad725dc56058f723f6597ebd8926352d0926172ed6917b6ec7"), looks := true }, kinds := [], alts := [], laidByText := true, laidKinds := [.handle, .sentinel, .sentinel, .sentinel, .sentinel, .sentinel, .sentinel, .sentinel, .sentinel, .sentinel], laidTests := true, laidLooks := .later }
def TilesPaintCardSaid : Prop := Claim7.holds Tryd.pinned (.plain (OpenSpec.ofChange tilesPaintSpec)) tilesPaintCard

/-- THE TIED CARD OF 'layercakelaw3.ColorsReduce'. -/
def colorsReduceCard : Claim7 := { stood := { row := colorsReduceRow, standIns := [], harness := (true, "89400b8503c4dbad725dc56058f723f6597ebd8926352d0926172ed6917b6ec7"), looks := true }, kinds := [], alts := [], laidByText := true, laidKinds := [.handle, .sentinel, .sentinel, .sentinel, .sentinel, .sentinel, .sentinel, .sentinel, .sentinel, .sentinel], laidTests := true, laidLooks := .later }
def ColorsReduceCardSaid : Prop := Claim7.holds Tryd.pinned (.plain (OpenSpec.ofChange colorsReduceSpec)) colorsReduceCard

/-- THE TIED CARD OF 'layercakelaw3.GifWrites'. -/
def gifWritesCard : Claim7 := { stood := { row := gifWritesRow, standIns := [], harness := (true, "89400b8503c4dbad725dc56058f723f6597ebd8926352d0926172ed6917b6ec7"), looks := true }, kinds := [], alts := [], laidByText := true, laidKinds := [.handle, .sentinel, .sentinel, .sentinel, .sentinel, .sentinel, .sentinel, .sentinel, .sentinel, .sentinel], laidTests := true, laidLooks := .later }
def GifWritesCardSaid : Prop := Claim7.holds Tryd.pinned (.plain (OpenSpec.ofChange gifWritesSpec)) gifWritesCard

/-- THE TIED CARD OF 'layercakelaw3.GifReads'. -/
def gifReadsCard : Claim7 := { stood := { row := gifReadsRow, standIns := [], harness := (true, "89400b8503c4dbad725dc56058f723f6597ebd8926352d0926172ed6917b6ec7"), looks := true }, kinds := [], alts := [], laidByText := true, laidKinds := [.handle, .sentinel, .sentinel, .sentinel, .sentinel, .sentinel, .sentinel, .sentinel, .sentinel, .sentinel], laidTests := true, laidLooks := .later }
def GifReadsCardSaid : Prop := Claim7.holds Tryd.pinned (.plain (OpenSpec.ofChange gifReadsSpec)) gifReadsCard

/-- THE TIED CARD OF 'layercakelaw3.TilesTurn'. -/
def tilesTurnCard : Claim7 := { stood := { row := tilesTurnRow, standIns := [], harness := (true, "89400b8503c4dbad725dc56058f723f6597ebd8926352d0926172ed6917b6ec7"), looks := true }, kinds := [], alts := [], laidByText := true, laidKinds := [.sentinel, .sentinel, .widerDeep, .data, .widerDeep, .data, .widerDeep], laidTests := true, laidLooks := .later }
def TilesTurnCardSaid : Prop := Claim7.holds Tryd.pinned (.plain (OpenSpec.ofChange tilesTurnSpec)) tilesTurnCard

/-- THE SECOND FORM's CARD OF 'layercakelaw3.ColorsNearer'. -/
def colorsNearerUptoCard : Claim7 := { stood := { row := colorsNearerUptoRow, standIns := [], harness := (true, "89400b8503c4dbad725dc56058f723f6597ebd8926352d0926172ed6917b6ec7"), looks := true }, kinds := [], alts := [], laidByText := true, laidKinds := [.sentinel, .sentinel], laidTests := true, laidLooks := .later }
def ColorsNearerUptoCardSaid : Prop := Claim7.holds Tryd.pinned (.plain (OpenSpec.upto colorsNearerSpec)) colorsNearerUptoCard

/-- THE SECOND FORM's CARD OF 'layercakelaw3.LayerHidden'. -/
def layerHiddenUptoCard : Claim7 := { stood := { row := layerHiddenUptoRow, standIns := [], harness := (true, "89400b8503c4dbad725dc56058f723f6597ebd8926352d0926172ed6917b6ec7"), looks := true }, kinds := [], alts := [], laidByText := true, laidKinds := [.sentinel, .sentinel, .sentinel, .sentinel], laidTests := true, laidLooks := .later }
def LayerHiddenUptoCardSaid : Prop := Claim7.holds Tryd.pinned (.plain (OpenSpec.upto layerHiddenSpec)) layerHiddenUptoCard

/-- THE SECOND FORM's CARD OF 'layercakelaw3.PastGoes'. -/
def pastGoesUptoCard : Claim7 := { stood := { row := pastGoesUptoRow, standIns := [], harness := (true, "89400b8503c4dbad725dc56058f723f6597ebd8926352d0926172ed6917b6ec7"), looks := true }, kinds := [], alts := [], laidByText := true, laidKinds := [.handle, .sentinel, .sentinel, .sentinel, .sentinel, .sentinel, .sentinel, .sentinel, .sentinel, .sentinel], laidTests := true, laidLooks := .later }
def PastGoesUptoCardSaid : Prop := Claim7.holds Tryd.pinned (.plain (OpenSpec.upto pastGoesSpec)) pastGoesUptoCard

/-- THE SECOND FORM's CARD OF 'layercakelaw3.ColorsCount'. -/
def colorsCountUptoCard : Claim7 := { stood := { row := colorsCountUptoRow, standIns := [], harness := (true, "89400b8503c4dbad725dc56058f723f6597ebd8926352d0926172ed6917b6ec7"), looks := true }, kinds := [], alts := [], laidByText := true, laidKinds := [.handle, .sentinel, .sentinel, .sentinel, .sentinel, .sentinel, .sentinel, .sentinel, .sentinel, .sentinel], laidTests := true, laidLooks := .later }
def ColorsCountUptoCardSaid : Prop := Claim7.holds Tryd.pinned (.plain (OpenSpec.upto colorsCountSpec)) colorsCountUptoCard

/-- THE SECOND FORM's CARD OF 'layercakelaw3.ColorsMap'. -/
def colorsMapUptoCard : Claim7 := { stood := { row := colorsMapUptoRow, standIns := [], harness := (true, "89400b8503c4dbad725dc56058f723f6597ebd8926352d0926172ed6917b6ec7"), looks := true }, kinds := [], alts := [], laidByText := true, laidKinds := [.handle, .sentinel, .sentinel, .sentinel, .sentinel, .sentinel, .sentinel, .sentinel, .sentinel, .sentinel], laidTests := true, laidLooks := .later }
def ColorsMapUptoCardSaid : Prop := Claim7.holds Tryd.pinned (.plain (OpenSpec.upto colorsMapSpec)) colorsMapUptoCard

/-- THE SECOND FORM's CARD OF 'layercakelaw3.LayerFlat'. -/
def layerFlatUptoCard : Claim7 := { stood := { row := layerFlatUptoRow, standIns := [], harness := (true, "89400b8503c4dbad725dc56058f723f6597ebd8926352d0926172ed6917b6ec7"), looks := true }, kinds := [], alts := [], laidByText := true, laidKinds := [.handle, .sentinel, .sentinel, .sentinel, .sentinel, .sentinel, .sentinel, .sentinel, .sentinel, .sentinel], laidTests := true, laidLooks := .later }
def LayerFlatUptoCardSaid : Prop := Claim7.holds Tryd.pinned (.plain (OpenSpec.upto layerFlatSpec)) layerFlatUptoCard

/-- THE SECOND FORM's CARD OF 'layercakelaw3.TilesOf'. -/
def tilesOfUptoCard : Claim7 := { stood := { row := tilesOfUptoRow, standIns := [], harness := (true, "89400b8503c4dbad725dc56058f723f6597ebd8926352d0926172ed6917b6ec7"), looks := true }, kinds := [], alts := [], laidByText := true, laidKinds := [.handle, .sentinel, .sentinel, .sentinel, .sentinel, .sentinel, .sentinel, .sentinel, .sentinel, .sentinel], laidTests := true, laidLooks := .later }
def TilesOfUptoCardSaid : Prop := Claim7.holds Tryd.pinned (.plain (OpenSpec.upto tilesOfSpec)) tilesOfUptoCard

/-- THE SECOND FORM's CARD OF 'layercakelaw3.LayerMerged'. -/
def layerMergedUptoCard : Claim7 := { stood := { row := layerMergedUptoRow, standIns := [], harness := (true, "89400b8503c4dbad725dc56058f723f6597ebd8926352d0926172ed6917b6ec7"), looks := true }, kinds := [], alts := [], laidByText := true, laidKinds := [.sentinel, .sentinel, .sentinel, .sentinel], laidTests := true, laidLooks := .later }
def LayerMergedUptoCardSaid : Prop := Claim7.holds Tryd.pinned (.plain (OpenSpec.upto layerMergedSpec)) layerMergedUptoCard

/-- THE SECOND FORM's CARD OF 'layercakelaw3.GifTwice'. -/
def gifTwiceUptoCard : Claim7 := { stood := { row := gifTwiceUptoRow, standIns := [], harness := (true, "89400b8503c4dbad725dc56058f723f6597ebd8926352d0926172ed6917b6ec7"), looks := true }, kinds := [], alts := [], laidByText := true, laidKinds := [.sentinel, .sentinel, .sentinel, .sentinel], laidTests := true, laidLooks := .later }
def GifTwiceUptoCardSaid : Prop := Claim7.holds Tryd.pinned (.plain (OpenSpec.upto gifTwiceSpec)) gifTwiceUptoCard

/-- THE SECOND FORM's CARD OF 'layercakelaw3.TilesPaint'. -/
def tilesPaintUptoCard : Claim7 := { stood := { row := tilesPaintUptoRow, standIns := [], harness := (true, "89400b8503c4dbad725dc56058f723f6597ebd8926352d0926172ed6917b6ec7"), looks := true }, kinds := [], alts := [], laidByText := true, laidKinds := [.handle, .sentinel, .sentinel, .sentinel, .sentinel, .sentinel, .sentinel, .sentinel, .sentinel, .sentinel], laidTests := true, laidLooks := .later }
def TilesPaintUptoCardSaid : Prop := Claim7.holds Tryd.pinned (.plain (OpenSpec.upto tilesPaintSpec)) tilesPaintUptoCard

/-- THE SECOND FORM's CARD OF 'layercakelaw3.ColorsReduce'. -/
def colorsReduceUptoCard : Claim7 := { stood := { row := colorsReduceUptoRow, standIns := [], harness := (true, "89400b8503c4dbad725dc56058f723f6597ebd8926352d0926172ed6917b6ec7"), looks := true }, kinds := [], alts := [], laidByText := true, laidKinds := [.handle, .sentinel, .sentinel, .sentinel, .sentinel, .sentinel, .sentinel, .sentinel, .sentinel, .sentinel], laidTests := true, laidLooks := .later }
def ColorsReduceUptoCardSaid : Prop := Claim7.holds Tryd.pinned (.plain (OpenSpec.upto colorsReduceSpec)) colorsReduceUptoCard

/-- THE SECOND FORM's CARD OF 'layercakelaw3.GifWrites'. -/
def gifWritesUptoCard : Claim7 := { stood := { row := gifWritesUptoRow, standIns := [], harness := (true, "89400b8503c4dbad725dc56058f723f6597ebd8926352d0926172ed6917b6ec7"), looks := true }, kinds := [], alts := [], laidByText := true, laidKinds := [.handle, .sentinel, .sentinel, .sentinel, .sentinel, .sentinel, .sentinel, .sentinel, .sentinel, .sentinel], laidTests := true, laidLooks := .later }
def GifWritesUptoCardSaid : Prop := Claim7.holds Tryd.pinned (.plain (OpenSpec.upto gifWritesSpec)) gifWritesUptoCard

/-- THE SECOND FORM's CARD OF 'layercakelaw3.GifReads'. -/
def gifReadsUptoCard : Claim7 := { stood := { row := gifReadsUptoRow, standIns := [], harness := (true, "89400b8503c4dbad725dc56058f723f6597ebd8926352d0926172ed6917b6ec7"), looks := true }, kinds := [], alts := [], laidByText := true, laidKinds := [.handle, .sentinel, .sentinel, .sentinel, .sentinel, .sentinel, .sentinel, .sentinel, .sentinel, .sentinel], laidTests := true, laidLooks := .later }
def GifReadsUptoCardSaid : Prop := Claim7.holds Tryd.pinned (.plain (OpenSpec.upto gifReadsSpec)) gifReadsUptoCard

/-- THE SECOND FORM's CARD OF 'layercakelaw3.TilesTurn'. -/
def tilesTurnUptoCard : Claim7 := { stood := { row := tilesTurnUptoRow, standIns := [], harness := (true, "89400b8503c4dbad725dc56058f723f6597ebd8926352d0926172ed6917b6ec7"), looks := true }, kinds := [], alts := [], laidByText := true, laidKinds := [.sentinel, .sentinel, .widerDeep, .data, .widerDeep, .data, .widerDeep], laidTests := true, laidLooks := .later }
def TilesTurnUptoCardSaid : Prop := Claim7.holds Tryd.pinned (.plain (OpenSpec.upto tilesTurnSpec)) tilesTurnUptoCard
end Rows
end Go.Proofs.YtnciahoifehkdaaDoor
