/-
  PROVED: whatever the input, 'layercakelaw3.ColorsMap' returns true and its arguments read as they did. Conditions: the row's own (the error variables hold what the program's text lays into them).
-/
import Derived.Test.YtnciahoifehkdaaDoorRMap
namespace Go.Proofs.YtnciahoifehkdaaDoor.colorsMap
open Go Go.ChangeShapes Go.WideShapes Go.ChangeAt Go.RowKit
set_option maxRecDepth 100000 in
theorem said : Rows.ColorsMapSaid :=
  OpenClaim.holds_of_cond 7 Tryd.f7 rfl rfl rfl rfl rfl rfl rfl ⟨rfl, rfl, rfl, rfl, rfl⟩ rfl rfl rfl rfl rfl named Tryd.func7 joined inst wrap
    (fun os started H enc _ F => by rw [OpenClaim.pre_eq_preRow]; exact lifted os started H enc F)

theorem plain (f : FuncId) (fn : Func) (hf : Tryd.pinned.checked.prog.funcNamed "layercake/layercakelaw3.ColorsMap" = some f) (hfn : Tryd.pinned.checked.prog.funcs[f]? = some fn) :
    true = Tryd.pinned.checked.prog.looks [] ∧ ∀ (j : Nat) t, fn.params[j]? = some t → Tryd.pinned.checked.prog.wantsStandIn t = false := by
  obtain rfl : f = 7 := Option.some.inj (named.symm.trans hf) |>.symm
  obtain rfl : fn = Tryd.f7 := (Option.some.inj (Tryd.func7.symm.trans hfn)).symm
  refine ⟨fact.looks.symm, fun j t ht => ?_⟩
  rw [Tryd.params7] at ht
  have hm := Array.mem_of_getElem? ht
  simp at hm
  rcases hm with rfl | rfl
  · exact (show Tryd.prog.wantsStandIn _ = false by kernel_rfl)
  · exact (show Tryd.prog.wantsStandIn _ = false by kernel_rfl)
end Go.Proofs.YtnciahoifehkdaaDoor.colorsMap
namespace Go.Proofs.YtnciahoifehkdaaDoor
open Go
theorem colorsMap.byText : Rows.colorsMapRow.wfByText (OpenSpec.ofChange Rows.colorsMapSpec) = true := by kernel_rfl
theorem colorsMap.goes : false = Rows.colorsMapRow.goesBy Tryd.pinned.checked.prog := by kernel_rfl
/-- The tied card of the law. -/
theorem colorsMapCard : Rows.ColorsMapCardSaid :=
  Claim7.holds_tied_plain_at .later [] _ _ _ _ colorsMap.said (fun _ h => by cases h) colorsMap.byText (fun _ h => by cases h) colorsMap_row_tie rfl ⟨rfl, rfl⟩ fact.main rfl colorsMap.plain colorsMap.goes
#print axioms colorsMapCard
end Go.Proofs.YtnciahoifehkdaaDoor
