/-
  DERIVED. GIVEN WITH THE SEED: THE PROGRAM's TIES (one call each: nine closed facts by the kernel) AND EACH ROW's TIE, after the 31st guide's Derived/Test/Toyas{Tie, Card}.lean. No idea stands in it: it is a product of the set-up. Laid BY PROGRAM, IN A SANDBOX (cutbox-door.mjs). By AI agents, Wed Nov 11 2026. No macro, syntax, notation, axiom, sorry.
-/
import Derived.Test.YthohmpjoeffckaaDoorRows
import Derived.LaidByTextLater
import Derived.SevenTiedAt
import Derived.LaidSub
import Derived.LaidOnce
namespace Go.Proofs.YthohmpjoeffckaaDoor
open Go
set_option maxRecDepth 100000
theorem seatTie1 : Tryd.prog.laidByTextLater [("layercake/api.ErrBound", Rows.laid_layercake_api_ErrBound), ("layercake/api.ErrShape", Rows.laid_layercake_api_ErrShape), ("layercake/inflate.Lens", Rows.laid_layercake_inflate_Lens), ("layercake/inflate.LenBits", Rows.laid_layercake_inflate_LenBits), ("layercake/inflate.Dists", Rows.laid_layercake_inflate_Dists), ("layercake/inflate.DistBits", Rows.laid_layercake_inflate_DistBits), ("layercake/inflate.Order", Rows.laid_layercake_inflate_Order)] [.sentinel, .sentinel, .widerDeep, .data, .widerDeep, .data, .widerDeep] true :=
  Program.laidByTextLater_by_one 72 8 31 (by kernel_rfl) (by kernel_rfl) (by kernel_rfl) (by kernel_rfl) (by kernel_rfl) (by kernel_rfl) (fun _ _ => by kernel_rfl)
theorem noOwnUnsafe : Tryd.pinned.checked.prog.headLifts.contains "ownunsafe" = false := by kernel_rfl
theorem tie : Tryd.prog.laidByTextLater [("layercake/api.ErrBound", Rows.laid_layercake_api_ErrBound), ("layercake/api.ErrShape", Rows.laid_layercake_api_ErrShape), ("layercake/inflate.Lens", Rows.laid_layercake_inflate_Lens), ("layercake/inflate.LenBits", Rows.laid_layercake_inflate_LenBits), ("layercake/inflate.Dists", Rows.laid_layercake_inflate_Dists), ("layercake/inflate.DistBits", Rows.laid_layercake_inflate_DistBits), ("layercake/inflate.Order", Rows.laid_layercake_inflate_Order)] [.sentinel, .sentinel, .widerDeep, .data, .widerDeep, .data, .widerDeep] true :=
  Program.laidByTextLater.sub seatTie1 ["layercake/api.ErrBound", "layercake/api.ErrShape", "layercake/inflate.Lens", "layercake/inflate.LenBits", "layercake/inflate.Dists", "layercake/inflate.DistBits", "layercake/inflate.Order"] (by kernel_rfl) (by kernel_rfl)
theorem tilesTurn_row_tie : Rows.tilesTurnRow.laidByTextAt .later Tryd.pinned [.sentinel, .sentinel, .widerDeep, .data, .widerDeep, .data, .widerDeep] true :=
  OpenClaim.laidByTextAt_later rfl rfl tie noOwnUnsafe
theorem tilesTurnUpto_row_tie : Rows.tilesTurnUptoRow.laidByTextAt .later Tryd.pinned [.sentinel, .sentinel, .widerDeep, .data, .widerDeep, .data, .widerDeep] true :=
  OpenClaim.laidByTextAt_later rfl rfl tie noOwnUnsafe
end Go.Proofs.YthohmpjoeffckaaDoor
