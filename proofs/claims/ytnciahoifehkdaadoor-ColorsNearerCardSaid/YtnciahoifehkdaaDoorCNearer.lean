/-
  PROVED: for every picture, every list of pixels and every pixel 'layercakelaw3.ColorsNearer' returns true and its arguments read as they did. Conditions: the row's own (the two error variables hold what the program's text lays into them).
-/
import Derived.Test.YtnciahoifehkdaaDoorRNearer
namespace Go.Proofs.YtnciahoifehkdaaDoor.nearer
open Go Go.ChangeShapes Go.WideShapes Go.ChangeAt Go.RowKit
set_option maxRecDepth 100000 in
theorem said : Rows.ColorsNearerSaid :=
  OpenClaim.holds_of_cond 3 Tryd.f3 rfl rfl rfl rfl rfl rfl rfl ⟨rfl, rfl, rfl, rfl, rfl⟩ rfl rfl rfl rfl rfl named Tryd.func3 joined inst wrap
    (fun os started H enc _ F => by rw [OpenClaim.pre_eq_preRow]; exact lifted os started H enc F)

theorem plain (f : FuncId) (fn : Func) (hf : Tryd.pinned.checked.prog.funcNamed "layercake/layercakelaw3.ColorsNearer" = some f) (hfn : Tryd.pinned.checked.prog.funcs[f]? = some fn) :
    true = Tryd.pinned.checked.prog.looks [] ∧ ∀ (j : Nat) t, fn.params[j]? = some t → Tryd.pinned.checked.prog.wantsStandIn t = false := by
  obtain rfl : f = 3 := Option.some.inj (named.symm.trans hf) |>.symm
  obtain rfl : fn = Tryd.f3 := (Option.some.inj (Tryd.func3.symm.trans hfn)).symm
  refine ⟨fact.looks.symm, fun j t ht => ?_⟩
  rw [Tryd.params3] at ht
  have hm := Array.mem_of_getElem? ht
  simp at hm
  rcases hm with rfl | rfl | rfl
  · exact (show Tryd.prog.wantsStandIn _ = false by kernel_rfl)
  · exact (show Tryd.prog.wantsStandIn _ = false by kernel_rfl)
  · exact (show Tryd.prog.wantsStandIn _ = false by kernel_rfl)
end Go.Proofs.YtnciahoifehkdaaDoor.nearer
namespace Go.Proofs.YtnciahoifehkdaaDoor
open Go
theorem nearer.byText : Rows.colorsNearerRow.wfByText (OpenSpec.ofChange Rows.colorsNearerSpec) = true := by kernel_rfl
theorem nearer.goes : false = Rows.colorsNearerRow.goesBy Tryd.pinned.checked.prog := by kernel_rfl
/-- The tied card of the law. -/
theorem nearerCard : Rows.ColorsNearerCardSaid :=
  Claim7.holds_tied_plain_at .later [] _ _ _ _ nearer.said (fun _ h => by cases h) nearer.byText (fun _ h => by cases h) colorsNearer_row_tie rfl ⟨rfl, rfl⟩ fact.main rfl nearer.plain nearer.goes
#print axioms nearerCard
end Go.Proofs.YtnciahoifehkdaaDoor
