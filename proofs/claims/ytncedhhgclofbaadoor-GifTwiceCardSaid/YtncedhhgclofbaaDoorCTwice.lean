/-
  PROVED: whatever the input, 'layercakelaw3.GifTwice' returns true and its arguments read as they did. Conditions: the row's own (the error variables hold what the program's text lays into them).
-/
import Derived.Test.YtncedhhgclofbaaDoorRTwice
namespace Go.Proofs.YtncedhhgclofbaaDoor.gifTwice
open Go Go.ChangeShapes Go.WideShapes Go.ChangeAt Go.RowKit
set_option maxRecDepth 100000 in
theorem said : Rows.GifTwiceSaid :=
  OpenClaim.holds_of_cond 3 Tryd.f3 rfl rfl rfl rfl rfl rfl rfl ⟨rfl, rfl, rfl, rfl, rfl⟩ rfl rfl rfl rfl rfl named Tryd.func3 joined inst wrap
    (fun os started H enc _ F => by rw [OpenClaim.pre_eq_preRow]; exact lifted os started H enc F)

theorem plain (f : FuncId) (fn : Func) (hf : Tryd.pinned.checked.prog.funcNamed "layercake/layercakelaw3.GifTwice" = some f) (hfn : Tryd.pinned.checked.prog.funcs[f]? = some fn) :
    true = Tryd.pinned.checked.prog.looks [] ∧ ∀ (j : Nat) t, fn.params[j]? = some t → Tryd.pinned.checked.prog.wantsStandIn t = false := by
  obtain rfl : f = 3 := Option.some.inj (named.symm.trans hf) |>.symm
  obtain rfl : fn = Tryd.f3 := (Option.some.inj (Tryd.func3.symm.trans hfn)).symm
  refine ⟨fact.looks.symm, fun j t ht => ?_⟩
  rw [Tryd.params3] at ht
  have hm := Array.mem_of_getElem? ht
  simp at hm
  rcases hm with rfl | rfl
  all_goals exact (show Tryd.prog.wantsStandIn _ = false by kernel_rfl)
end Go.Proofs.YtncedhhgclofbaaDoor.gifTwice
namespace Go.Proofs.YtncedhhgclofbaaDoor
open Go
theorem gifTwice.byText : Rows.gifTwiceRow.wfByText (OpenSpec.ofChange Rows.gifTwiceSpec) = true := by kernel_rfl
theorem gifTwice.goes : false = Rows.gifTwiceRow.goesBy Tryd.pinned.checked.prog := by kernel_rfl
/-- The tied card of the law. -/
theorem gifTwiceCard : Rows.GifTwiceCardSaid :=
  Claim7.holds_tied_plain_at .later [] _ _ _ _ gifTwice.said (fun _ h => by cases h) gifTwice.byText (fun _ h => by cases h) gifTwice_row_tie rfl ⟨rfl, rfl⟩ fact.main rfl gifTwice.plain gifTwice.goes
#print axioms gifTwiceCard
end Go.Proofs.YtncedhhgclofbaaDoor
