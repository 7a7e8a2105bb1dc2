/-
  PROVED: whatever the input, 'layercakelaw3.TilesOf' returns true and its arguments read as they did. Conditions: the row's own (the error variables hold what the program's text lays into them).
-/
import Derived.Test.YtcdbhcjiimdhhaaDoorRTilesOf
namespace Go.Proofs.YtcdbhcjiimdhhaaDoor.tilesOf
open Go Go.ChangeShapes Go.WideShapes Go.ChangeAt Go.RowKit
set_option maxRecDepth 100000 in
theorem said : Rows.TilesOfSaid :=
  OpenClaim.holds_of_cond 3 Tryd.f3 rfl rfl rfl rfl rfl rfl rfl ⟨rfl, rfl, rfl, rfl, rfl⟩ rfl rfl rfl rfl rfl named Tryd.func3 joined inst wrap
    (fun os started H enc _ F => by rw [OpenClaim.pre_eq_preRow]; exact lifted os started H enc F)

theorem plain (f : FuncId) (fn : Func) (hf : Tryd.pinned.checked.prog.funcNamed "layercake/layercakelaw3.TilesOf" = some f) (hfn : Tryd.pinned.checked.prog.funcs[f]? = some fn) :
    true = Tryd.pinned.checked.prog.looks [] ∧ ∀ (j : Nat) t, fn.params[j]? = some t → Tryd.pinned.checked.prog.wantsStandIn t = false := by
  obtain rfl : f = 3 := Option.some.inj (named.symm.trans hf) |>.symm
  obtain rfl : fn = Tryd.f3 := (Option.some.inj (Tryd.func3.symm.trans hfn)).symm
  refine ⟨fact.looks.symm, fun j t ht => ?_⟩
  rw [Tryd.params3] at ht
  have hm := Array.mem_of_getElem? ht
  simp at hm
  rcases hm with rfl | rfl
  all_goals exact (show Tryd.prog.wantsStandIn _ = false by kernel_rfl)
end Go.Proofs.YtcdbhcjiimdhhaaDoor.tilesOf
namespace Go.Proofs.YtcdbhcjiimdhhaaDoor
open Go
theorem tilesOf.byText : Rows.tilesOfRow.wfByText (OpenSpec.ofChange Rows.tilesOfSpec) = true := by kernel_rfl
theorem tilesOf.goes : false = Rows.tilesOfRow.goesBy Tryd.pinned.checked.prog := by kernel_rfl
/-- The tied card of the law. -/
theorem tilesOfCard : Rows.TilesOfCardSaid :=
  Claim7.holds_tied_plain_at .later [] _ _ _ _ tilesOf.said (fun _ h => by cases h) tilesOf.byText (fun _ h => by cases h) tilesOf_row_tie rfl ⟨rfl, rfl⟩ fact.main rfl tilesOf.plain tilesOf.goes
#print axioms tilesOfCard
end Go.Proofs.YtcdbhcjiimdhhaaDoor
