/-
  PROVED: whatever the input, 'layercakelaw3.TilesRead' returns true and its arguments read as they did. Conditions: the row's own (the error variables hold what the program's text lays into them).
-/
import Derived.Test.YthohmpjoeffckaaGreatDoorQCTilesReadRTilesRead
namespace Go.Proofs.YthohmpjoeffckaaGreatDoor.tilesRead
open Go Go.ChangeShapes Go.WideShapes Go.ChangeAt Go.RowKit
set_option maxRecDepth 100000 in
theorem said : Rows.TilesReadSaid :=
  OpenClaim.holds_of_cond 4 Tryz.f4 rfl rfl rfl rfl rfl rfl rfl ⟨rfl, rfl, rfl, rfl, rfl⟩ rfl rfl rfl rfl rfl named Tryz.func4 joined inst wrap
    (fun os started H enc _ F => by rw [OpenClaim.pre_eq_preRow]; exact lifted os started H enc F)

theorem plain (f : FuncId) (fn : Func) (hf : Tryz.pinned.checked.prog.funcNamed "layercake/layercakelaw3.TilesRead" = some f) (hfn : Tryz.pinned.checked.prog.funcs[f]? = some fn) :
    true = Tryz.pinned.checked.prog.looks [] ∧ ∀ (j : Nat) t, fn.params[j]? = some t → Tryz.pinned.checked.prog.wantsStandIn t = false := by
  obtain rfl : f = 4 := Option.some.inj (named.symm.trans hf) |>.symm
  obtain rfl : fn = Tryz.f4 := (Option.some.inj (Tryz.func4.symm.trans hfn)).symm
  refine ⟨fact.looks.symm, fun j t ht => ?_⟩
  rw [Tryz.params4] at ht
  have hm := Array.mem_of_getElem? ht
  simp at hm
  rcases hm with rfl
  all_goals exact (show Tryz.prog.wantsStandIn _ = false by kernel_rfl)
end Go.Proofs.YthohmpjoeffckaaGreatDoor.tilesRead
namespace Go.Proofs.YthohmpjoeffckaaGreatDoor
open Go
theorem tilesRead.byText : Rows.tilesReadRow.wfByText (OpenSpec.ofChange Rows.tilesReadSpec) = true := by kernel_rfl
theorem tilesRead.goes : false = Rows.tilesReadRow.goesBy Tryz.pinned.checked.prog := by kernel_rfl
/-- The tied card of the law. -/
theorem tilesReadCard : Rows.TilesReadCardSaid :=
  Claim7.holds_tied_plain_at .later [] _ _ _ _ tilesRead.said (fun _ h => by cases h) tilesRead.byText (fun _ h => by cases h) tilesRead_row_tie rfl ⟨rfl, rfl⟩ fact.main rfl tilesRead.plain tilesRead.goes
#print axioms tilesReadCard
end Go.Proofs.YthohmpjoeffckaaGreatDoor
