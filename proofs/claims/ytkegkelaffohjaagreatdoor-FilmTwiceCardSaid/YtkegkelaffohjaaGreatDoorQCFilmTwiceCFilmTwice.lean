/-
 PROVED: whatever the input, 'layercakelaw3.FilmTwice' returns true and its arguments read as they did. Conditions: the row's own (the error variables hold what the program's text lays into them).
-/
import Derived.Test.YtkegkelaffohjaaGreatDoorQCFilmTwiceRFilmTwice
namespace Go.Proofs.YtkegkelaffohjaaGreatDoor.filmTwice
open Go Go.ChangeShapes Go.WideShapes Go.ChangeAt Go.RowKit
set_option maxRecDepth 100000 in
theorem said : Rows.FilmTwiceSaid :=
 OpenClaim.holds_of_cond 5 Tryz.f5 rfl rfl rfl rfl rfl rfl rfl ⟨rfl, rfl, rfl, rfl, rfl⟩ rfl rfl rfl rfl rfl named Tryz.func5 joined inst wrap
  (fun os started H enc _ F => by rw [OpenClaim.pre_eq_preRow]; exact lifted os started H enc F)
theorem plain (f : FuncId) (fn : Func) (hf : Tryz.pinned.checked.prog.funcNamed "layercake/layercakelaw3.FilmTwice" = some f) (hfn : Tryz.pinned.checked.prog.funcs[f]? = some fn) :
  true = Tryz.pinned.checked.prog.looks [] ∧ ∀ (j : Nat) t, fn.params[j]? = some t → Tryz.pinned.checked.prog.wantsStandIn t = false := by
 obtain rfl : f = 5 := Option.some.inj (named.symm.trans hf) |>.symm
 obtain rfl : fn = Tryz.f5 := (Option.some.inj (Tryz.func5.symm.trans hfn)).symm
 refine ⟨fact.looks.symm, fun j t ht => ?_⟩
 rw [Tryz.params5] at ht
 have hm := Array.mem_of_getElem? ht
 simp at hm
 rcases hm with rfl | rfl
 all_goals exact (show Tryz.prog.wantsStandIn _ = false by kernel_rfl)
end Go.Proofs.YtkegkelaffohjaaGreatDoor.filmTwice
namespace Go.Proofs.YtkegkelaffohjaaGreatDoor
open Go
theorem filmTwice.byText : Rows.filmTwiceRow.wfByText (OpenSpec.ofChange Rows.filmTwiceSpec) = true := by kernel_rfl
theorem filmTwice.goes : false = Rows.filmTwiceRow.goesBy Tryz.pinned.checked.prog := by kernel_rfl
theorem filmTwiceCard : Rows.FilmTwiceCardSaid :=
 Claim7.holds_tied_plain_at .later [] _ _ _ _ filmTwice.said (fun _ h => by cases h) filmTwice.byText (fun _ h => by cases h) filmTwice_row_tie rfl ⟨rfl, rfl⟩ fact.main rfl filmTwice.plain filmTwice.goes
#print axioms filmTwiceCard
end Go.Proofs.YtkegkelaffohjaaGreatDoor
