/-
  PROVED: whatever the input, 'layercakelaw3.LayerChanges' returns true and its arguments read as they did. Conditions: the row's own (the error variables hold what the program's text lays into them).
-/
import Derived.Test.YtmknacnmdlcieaaGreatDoorQCChangesRChanges
namespace Go.Proofs.YtmknacnmdlcieaaGreatDoor.layerChanges
open Go Go.ChangeShapes Go.WideShapes Go.ChangeAt Go.RowKit
set_option maxRecDepth 100000 in
theorem said : Rows.LayerChangesSaid :=
  OpenClaim.holds_of_cond 3 Tryz.f3 rfl rfl rfl rfl rfl rfl rfl ⟨rfl, rfl, rfl, rfl, rfl⟩ rfl rfl rfl rfl rfl named Tryz.func3 joined inst wrap
    (fun os started H enc _ F => by rw [OpenClaim.pre_eq_preRow]; exact lifted os started H enc F)

theorem plain (f : FuncId) (fn : Func) (hf : Tryz.pinned.checked.prog.funcNamed "layercake/layercakelaw3.LayerChanges" = some f) (hfn : Tryz.pinned.checked.prog.funcs[f]? = some fn) :
    true = Tryz.pinned.checked.prog.looks [] ∧ ∀ (j : Nat) t, fn.params[j]? = some t → Tryz.pinned.checked.prog.wantsStandIn t = false := by
  obtain rfl : f = 3 := Option.some.inj (named.symm.trans hf) |>.symm
  obtain rfl : fn = Tryz.f3 := (Option.some.inj (Tryz.func3.symm.trans hfn)).symm
  refine ⟨fact.looks.symm, fun j t ht => ?_⟩
  rw [Tryz.params3] at ht
  have hm := Array.mem_of_getElem? ht
  simp at hm
  rcases hm with rfl | rfl | rfl | rfl
  all_goals exact (show Tryz.prog.wantsStandIn _ = false by kernel_rfl)
end Go.Proofs.YtmknacnmdlcieaaGreatDoor.layerChanges
namespace Go.Proofs.YtmknacnmdlcieaaGreatDoor
open Go
theorem layerChanges.byText : Rows.layerChangesRow.wfByText (OpenSpec.ofChange Rows.layerChangesSpec) = true := by kernel_rfl
theorem layerChanges.goes : false = Rows.layerChangesRow.goesBy Tryz.pinned.checked.prog := by kernel_rfl
/-- The tied card of the law. -/
theorem layerChangesCard : Rows.LayerChangesCardSaid :=
  Claim7.holds_tied_plain_at .later [] _ _ _ _ layerChanges.said (fun _ h => by cases h) layerChanges.byText (fun _ h => by cases h) layerChanges_row_tie rfl ⟨rfl, rfl⟩ fact.main rfl layerChanges.plain layerChanges.goes
#print axioms layerChangesCard
end Go.Proofs.YtmknacnmdlcieaaGreatDoor
