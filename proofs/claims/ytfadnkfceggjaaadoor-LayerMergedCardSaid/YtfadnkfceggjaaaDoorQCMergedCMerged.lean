/-
  PROVED: whatever the input, 'layercakelaw3.LayerMerged' returns true and its arguments read as they did. Conditions: the row's own (the error variables hold what the program's text lays into them).
-/
import Derived.Test.YtfadnkfceggjaaaDoorQCMergedRMerged
namespace Go.Proofs.YtfadnkfceggjaaaDoor.layerMerged
open Go Go.ChangeShapes Go.WideShapes Go.ChangeAt Go.RowKit
set_option maxRecDepth 100000 in
theorem said : Rows.LayerMergedSaid :=
  OpenClaim.holds_of_cond 5 Tryd.f5 rfl rfl rfl rfl rfl rfl rfl ⟨rfl, rfl, rfl, rfl, rfl⟩ rfl rfl rfl rfl rfl named Tryd.func5 joined inst wrap
    (fun os started H enc _ F => by rw [OpenClaim.pre_eq_preRow]; exact lifted os started H enc F)

theorem plain (f : FuncId) (fn : Func) (hf : Tryd.pinned.checked.prog.funcNamed "layercake/layercakelaw3.LayerMerged" = some f) (hfn : Tryd.pinned.checked.prog.funcs[f]? = some fn) :
    true = Tryd.pinned.checked.prog.looks [] ∧ ∀ (j : Nat) t, fn.params[j]? = some t → Tryd.pinned.checked.prog.wantsStandIn t = false := by
  obtain rfl : f = 5 := Option.some.inj (named.symm.trans hf) |>.symm
  obtain rfl : fn = Tryd.f5 := (Option.some.inj (Tryd.func5.symm.trans hfn)).symm
  refine ⟨fact.looks.symm, fun j t ht => ?_⟩
  rw [Tryd.params5] at ht
  have hm := Array.mem_of_getElem? ht
  simp at hm
  rcases hm with rfl
  all_goals exact (show Tryd.prog.wantsStandIn _ = false by kernel_rfl)
end Go.Proofs.YtfadnkfceggjaaaDoor.layerMerged
namespace Go.Proofs.YtfadnkfceggjaaaDoor
open Go
theorem layerMerged.byText : Rows.layerMergedRow.wfByText (OpenSpec.ofChange Rows.layerMergedSpec) = true := by kernel_rfl
theorem layerMerged.goes : false = Rows.layerMergedRow.goesBy Tryd.pinned.checked.prog := by kernel_rfl
/-- The tied card of the law. -/
theorem layerMergedCard : Rows.LayerMergedCardSaid :=
  Claim7.holds_tied_plain_at .later [] _ _ _ _ layerMerged.said (fun _ h => by cases h) layerMerged.byText (fun _ h => by cases h) layerMerged_row_tie rfl ⟨rfl, rfl⟩ fact.main rfl layerMerged.plain layerMerged.goes
#print axioms layerMergedCard
end Go.Proofs.YtfadnkfceggjaaaDoor
