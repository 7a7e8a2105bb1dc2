/-
  PROVED: whatever the input, 'layercakelaw3.GifWrites' returns true and its arguments read as they did. Conditions: the row's own (the error variables hold what the program's text lays into them).
-/
import Derived.Test.YtncedhhgclofbaaDoorQCWritesRWrites
namespace Go.Proofs.YtncedhhgclofbaaDoor.gifWrites
open Go Go.ChangeShapes Go.WideShapes Go.ChangeAt Go.RowKit
set_option maxRecDepth 100000 in
theorem said : Rows.GifWritesSaid :=
  OpenClaim.holds_of_cond 4 Tryd.f4 rfl rfl rfl rfl rfl rfl rfl ⟨rfl, rfl, rfl, rfl, rfl⟩ rfl rfl rfl rfl rfl named Tryd.func4 joined inst wrap
    (fun os started H enc _ F => by rw [OpenClaim.pre_eq_preRow]; exact lifted os started H enc F)

theorem plain (f : FuncId) (fn : Func) (hf : Tryd.pinned.checked.prog.funcNamed "layercake/layercakelaw3.GifWrites" = some f) (hfn : Tryd.pinned.checked.prog.funcs[f]? = some fn) :
    true = Tryd.pinned.checked.prog.looks [] ∧ ∀ (j : Nat) t, fn.params[j]? = some t → Tryd.pinned.checked.prog.wantsStandIn t = false := by
  obtain rfl : f = 4 := Option.some.inj (named.symm.trans hf) |>.symm
  obtain rfl : fn = Tryd.f4 := (Option.some.inj (Tryd.func4.symm.trans hfn)).symm
  refine ⟨fact.looks.symm, fun j t ht => ?_⟩
  rw [Tryd.params4] at ht
  have hm := Array.mem_of_getElem? ht
  simp at hm
  rcases hm with rfl | rfl
  all_goals exact (show Tryd.prog.wantsStandIn _ = false by kernel_rfl)
end Go.Proofs.YtncedhhgclofbaaDoor.gifWrites
namespace Go.Proofs.YtncedhhgclofbaaDoor
open Go
theorem gifWrites.byText : Rows.gifWritesRow.wfByText (OpenSpec.ofChange Rows.gifWritesSpec) = true := by kernel_rfl
theorem gifWrites.goes : false = Rows.gifWritesRow.goesBy Tryd.pinned.checked.prog := by kernel_rfl
/-- The tied card of the law. -/
theorem gifWritesCard : Rows.GifWritesCardSaid :=
  Claim7.holds_tied_plain_at .later [] _ _ _ _ gifWrites.said (fun _ h => by cases h) gifWrites.byText (fun _ h => by cases h) gifWrites_row_tie rfl ⟨rfl, rfl⟩ fact.main rfl gifWrites.plain gifWrites.goes
#print axioms gifWritesCard
end Go.Proofs.YtncedhhgclofbaaDoor
