/-
  DERIVED. GIVEN WITH THE SEED: THE PROGRAM's TIES (one call each: nine closed facts by the kernel) AND EACH ROW's TIE, after the 31st guide's Derived/Test/Toyas{Tie, Card}.lean. No idea stands in it: it is a product of the set-up. Laid BY PROGRAM, IN A SANDBOX (cutbox-door.mjs). By AI agents, Wed Nov 11 2026. No macro, syntax, notation, axiom, sorry.
-/
import Derived.Test.YthohmpjoeffckaaGreatDoorRows
import Derived.LaidByTextLater
import Derived.SevenTiedAt
import Derived.LaidSub
import Derived.LaidOnce
namespace Go.Proofs.YthohmpjoeffckaaGreatDoor
open Go
set_option maxRecDepth 100000
theorem seatTie1 : Tryz.prog.laidByTextLater [("errors.errorType", Rows.laid_errors_errorType), ("layercake/api.ErrText", Rows.laid_layercake_api_ErrText), ("layercake/api.ErrBound", Rows.laid_layercake_api_ErrBound), ("layercake/api.ErrShape", Rows.laid_layercake_api_ErrShape), ("layercake/api.ErrSum", Rows.laid_layercake_api_ErrSum), ("layercake/api.ErrName", Rows.laid_layercake_api_ErrName), ("layercake/api.ErrNone", Rows.laid_layercake_api_ErrNone), ("layercake/api.ErrColors", Rows.laid_layercake_api_ErrColors), ("layercake/api.ErrFull", Rows.laid_layercake_api_ErrFull), ("layercake/api.ErrPower", Rows.laid_layercake_api_ErrPower), ("layercake/inflate.Lens", Rows.laid_layercake_inflate_Lens), ("layercake/inflate.LenBits", Rows.laid_layercake_inflate_LenBits), ("layercake/inflate.Dists", Rows.laid_layercake_inflate_Dists), ("layercake/inflate.DistBits", Rows.laid_layercake_inflate_DistBits), ("layercake/inflate.Order", Rows.laid_layercake_inflate_Order)] [.handle, .sentinel, .sentinel, .sentinel, .sentinel, .sentinel, .sentinel, .sentinel, .sentinel, .sentinel, .widerDeep, .data, .widerDeep, .data, .widerDeep] true :=
  Program.laidByTextLater_by_one 212 8 31 (by kernel_rfl) (by kernel_rfl) (by kernel_rfl) (by kernel_rfl) (by kernel_rfl) (by kernel_rfl) (fun _ _ => by kernel_rfl)
theorem noOwnUnsafe : Tryz.pinned.checked.prog.headLifts.contains "ownunsafe" = false := by kernel_rfl
theorem tie : Tryz.prog.laidByTextLater [("errors.errorType", Rows.laid_errors_errorType), ("layercake/api.ErrText", Rows.laid_layercake_api_ErrText), ("layercake/api.ErrBound", Rows.laid_layercake_api_ErrBound), ("layercake/api.ErrShape", Rows.laid_layercake_api_ErrShape), ("layercake/api.ErrSum", Rows.laid_layercake_api_ErrSum), ("layercake/api.ErrName", Rows.laid_layercake_api_ErrName), ("layercake/api.ErrNone", Rows.laid_layercake_api_ErrNone), ("layercake/api.ErrColors", Rows.laid_layercake_api_ErrColors), ("layercake/api.ErrFull", Rows.laid_layercake_api_ErrFull), ("layercake/api.ErrPower", Rows.laid_layercake_api_ErrPower), ("layercake/inflate.Lens", Rows.laid_layercake_inflate_Lens), ("layercake/inflate.LenBits", Rows.laid_layercake_inflate_LenBits), ("layercake/inflate.Dists", Rows.laid_layercake_inflate_Dists), ("layercake/inflate.DistBits", Rows.laid_layercake_inflate_DistBits), ("layercake/inflate.Order", Rows.laid_layercake_inflate_Order)] [.handle, .sentinel, .sentinel, .sentinel, .sentinel, .sentinel, .sentinel, .sentinel, .sentinel, .sentinel, .widerDeep, .data, .widerDeep, .data, .widerDeep] true :=
  Program.laidByTextLater.sub seatTie1 ["errors.errorType", "layercake/api.ErrText", "layercake/api.ErrBound", "layercake/api.ErrShape", "layercake/api.ErrSum", "layercake/api.ErrName", "layercake/api.ErrNone", "layercake/api.ErrColors", "layercake/api.ErrFull", "layercake/api.ErrPower", "layercake/inflate.Lens", "layercake/inflate.LenBits", "layercake/inflate.Dists", "layercake/inflate.DistBits", "layercake/inflate.Order"] (by kernel_rfl) (by kernel_rfl)
theorem tilesPack_row_tie : Rows.tilesPackRow.laidByTextAt .later Tryz.pinned [.handle, .sentinel, .sentinel, .sentinel, .sentinel, .sentinel, .sentinel, .sentinel, .sentinel, .sentinel, .widerDeep, .data, .widerDeep, .data, .widerDeep] true :=
  OpenClaim.laidByTextAt_later rfl rfl tie noOwnUnsafe
theorem tilesRead_row_tie : Rows.tilesReadRow.laidByTextAt .later Tryz.pinned [.handle, .sentinel, .sentinel, .sentinel, .sentinel, .sentinel, .sentinel, .sentinel, .sentinel, .sentinel, .widerDeep, .data, .widerDeep, .data, .widerDeep] true :=
  OpenClaim.laidByTextAt_later rfl rfl tie noOwnUnsafe
theorem tilesPackUpto_row_tie : Rows.tilesPackUptoRow.laidByTextAt .later Tryz.pinned [.handle, .sentinel, .sentinel, .sentinel, .sentinel, .sentinel, .sentinel, .sentinel, .sentinel, .sentinel, .widerDeep, .data, .widerDeep, .data, .widerDeep] true :=
  OpenClaim.laidByTextAt_later rfl rfl tie noOwnUnsafe
theorem tilesReadUpto_row_tie : Rows.tilesReadUptoRow.laidByTextAt .later Tryz.pinned [.handle, .sentinel, .sentinel, .sentinel, .sentinel, .sentinel, .sentinel, .sentinel, .sentinel, .sentinel, .widerDeep, .data, .widerDeep, .data, .widerDeep] true :=
  OpenClaim.laidByTextAt_later rfl rfl tie noOwnUnsafe
end Go.Proofs.YthohmpjoeffckaaGreatDoor
