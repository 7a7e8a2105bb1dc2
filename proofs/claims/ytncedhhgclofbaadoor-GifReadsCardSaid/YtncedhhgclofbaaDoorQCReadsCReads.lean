/-
  PROVED: whatever the input, 'layercakelaw3.GifReads' returns true and its arguments read as they did. Conditions: the row's own (the error variables hold what the program's text lays into them).
-/
import Derived.Test.YtncedhhgclofbaaDoorQCReadsRReads
namespace Go.Proofs.YtncedhhgclofbaaDoor.gifReads
open Go Go.ChangeShapes Go.WideShapes Go.ChangeAt Go.RowKit
set_option maxRecDepth 100000 in
theorem said : Rows.GifReadsSaid :=
  OpenClaim.holds_of_cond 5 Tryd.f5 rfl rfl rfl rfl rfl rfl rfl ⟨rfl, rfl, rfl, rfl, rfl⟩ rfl rfl rfl rfl rfl named Tryd.func5 joined inst wrap
    (fun os started H enc _ F => by rw [OpenClaim.pre_eq_preRow]; exact lifted os started H enc F)

theorem plain (f : FuncId) (fn : Func) (hf : Tryd.pinned.checked.prog.funcNamed "layercake/layercakelaw3.GifReads" = some f) (hfn : Tryd.pinned.checked.prog.funcs[f]? = some fn) :
    true = Tryd.pinned.checked.prog.looks [] ∧ ∀ (j : Nat) t, fn.params[j]? = some t → Tryd.pinned.checked.prog.wantsStandIn t = false := by
  obtain rfl : f = 5 := Option.some.inj (named.symm.trans hf) |>.symm
  obtain rfl : fn = Tryd.f5 := (Option.some.inj (Tryd.func5.symm.trans hfn)).symm
  refine ⟨fact.looks.symm, fun j t ht => ?_⟩
  rw [Tryd.params5] at ht
  have hm := Array.mem_of_getElem? ht
  simp at hm
  rcases hm with rfl
  all_goals exact (show Tryd.prog.wantsStandIn _ = false by kernel_rfl)
end Go.Proofs.YtncedhhgclofbaaDoor.gifReads
namespace Go.Proofs.YtncedhhgclofbaaDoor
open Go
theorem gifReads.byText : Rows.gifReadsRow.wfByText (OpenSpec.ofChange Rows.gifReadsSpec) = true := by kernel_rfl
theorem gifReads.goes : false = Rows.gifReadsRow.goesBy Tryd.pinned.checked.prog := by kernel_rfl
/-- The tied card of the law. -/
theorem gifReadsCard : Rows.GifReadsCardSaid :=
  Claim7.holds_tied_plain_at .later [] _ _ _ _ gifReads.said (fun _ h => by cases h) gifReads.byText (fun _ h => by cases h) gifReads_row_tie rfl ⟨rfl, rfl⟩ fact.main rfl gifReads.plain gifReads.goes
#print axioms gifReadsCard
end Go.Proofs.YtncedhhgclofbaaDoor
