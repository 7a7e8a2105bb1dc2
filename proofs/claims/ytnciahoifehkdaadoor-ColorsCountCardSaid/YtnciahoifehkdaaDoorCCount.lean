/-
  PROVED: whatever the input, 'layercakelaw3.ColorsCount' returns true and its arguments read as they did. Conditions: the row's own (the error variables hold what the program's text lays into them).
-/
import Derived.Test.YtnciahoifehkdaaDoorRCount
namespace Go.Proofs.YtnciahoifehkdaaDoor.colorsCount
open Go Go.ChangeShapes Go.WideShapes Go.ChangeAt Go.RowKit
set_option maxRecDepth 100000 in
theorem said : Rows.ColorsCountSaid :=
  OpenClaim.holds_of_cond 6 Tryd.f6 rfl rfl rfl rfl rfl rfl rfl ⟨rfl, rfl, rfl, rfl, rfl⟩ rfl rfl rfl rfl rfl named Tryd.func6 joined inst wrap
    (fun os started H enc _ F => by rw [OpenClaim.pre_eq_preRow]; exact lifted os started H enc F)

theorem plain (f : FuncId) (fn : Func) (hf : Tryd.pinned.checked.prog.funcNamed "layercake/layercakelaw3.ColorsCount" = some f) (hfn : Tryd.pinned.checked.prog.funcs[f]? = some fn) :
    true = Tryd.pinned.checked.prog.looks [] ∧ ∀ (j : Nat) t, fn.params[j]? = some t → Tryd.pinned.checked.prog.wantsStandIn t = false := by
  obtain rfl : f = 6 := Option.some.inj (named.symm.trans hf) |>.symm
  obtain rfl : fn = Tryd.f6 := (Option.some.inj (Tryd.func6.symm.trans hfn)).symm
  refine ⟨fact.looks.symm, fun j t ht => ?_⟩
  rw [Tryd.params6] at ht
  have hm := Array.mem_of_getElem? ht
  simp at hm
  rcases hm with rfl | rfl
  · exact (show Tryd.prog.wantsStandIn _ = false by kernel_rfl)
  · exact (show Tryd.prog.wantsStandIn _ = false by kernel_rfl)
end Go.Proofs.YtnciahoifehkdaaDoor.colorsCount
namespace Go.Proofs.YtnciahoifehkdaaDoor
open Go
theorem colorsCount.byText : Rows.colorsCountRow.wfByText (OpenSpec.ofChange Rows.colorsCountSpec) = true := by kernel_rfl
theorem colorsCount.goes : false = Rows.colorsCountRow.goesBy Tryd.pinned.checked.prog := by kernel_rfl
/-- The tied card of the law. -/
theorem colorsCountCard : Rows.ColorsCountCardSaid :=
  Claim7.holds_tied_plain_at .later [] _ _ _ _ colorsCount.said (fun _ h => by cases h) colorsCount.byText (fun _ h => by cases h) colorsCount_row_tie rfl ⟨rfl, rfl⟩ fact.main rfl colorsCount.plain colorsCount.goes
#print axioms colorsCountCard
end Go.Proofs.YtnciahoifehkdaaDoor
