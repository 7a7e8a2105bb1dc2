/-
  PROVED: whatever the input, 'layercakelaw3.LayerHidden' returns true and its arguments read as they did. Conditions: the row's own (the error variables hold what the program's text lays into them).
-/
import Derived.Test.YtfadnkfceggjaaaDoorRHidden
namespace Go.Proofs.YtfadnkfceggjaaaDoor.layerHidden
open Go Go.ChangeShapes Go.WideShapes Go.ChangeAt Go.RowKit
set_option maxRecDepth 100000 in
theorem said : Rows.LayerHiddenSaid :=
  OpenClaim.holds_of_cond 3 Tryd.f3 rfl rfl rfl rfl rfl rfl rfl ⟨rfl, rfl, rfl, rfl, rfl⟩ rfl rfl rfl rfl rfl named Tryd.func3 joined inst wrap
    (fun os started H enc _ F => by rw [OpenClaim.pre_eq_preRow]; exact lifted os started H enc F)

theorem plain (f : FuncId) (fn : Func) (hf : Tryd.pinned.checked.prog.funcNamed "layercake/layercakelaw3.LayerHidden" = some f) (hfn : Tryd.pinned.checked.prog.funcs[f]? = some fn) :
    true = Tryd.pinned.checked.prog.looks [] ∧ ∀ (j : Nat) t, fn.params[j]? = some t → Tryd.pinned.checked.prog.wantsStandIn t = false := by
  obtain rfl : f = 3 := Option.some.inj (named.symm.trans hf) |>.symm
  obtain rfl : fn = Tryd.f3 := (Option.some.inj (Tryd.func3.symm.trans hfn)).symm
  refine ⟨fact.looks.symm, fun j t ht => ?_⟩
  rw [Tryd.params3] at ht
  have hm := Array.mem_of_getElem? ht
  simp at hm
  rcases hm with rfl | rfl
  all_goals exact (show Tryd.prog.wantsStandIn _ = false by kernel_rfl)
end Go.Proofs.YtfadnkfceggjaaaDoor.layerHidden
namespace Go.Proofs.YtfadnkfceggjaaaDoor
open Go
theorem layerHidden.byText : Rows.layerHiddenRow.wfByText (OpenSpec.ofChange Rows.layerHiddenSpec) = true := by kernel_rfl
theorem layerHidden.goes : false = Rows.layerHiddenRow.goesBy Tryd.pinned.checked.prog := by kernel_rfl
/-- The tied card of the law. -/
theorem layerHiddenCard : Rows.LayerHiddenCardSaid :=
  Claim7.holds_tied_plain_at .later [] _ _ _ _ layerHidden.said (fun _ h => by cases h) layerHidden.byText (fun _ h => by cases h) layerHidden_row_tie rfl ⟨rfl, rfl⟩ fact.main rfl layerHidden.plain layerHidden.goes
#print axioms layerHiddenCard
end Go.Proofs.YtfadnkfceggjaaaDoor
