/- The error variables and reflectlite's own, out of a row's list. -/
import Derived.Test.YtcdbhcjiimdhhaaDoorErrEnv
namespace Go.Proofs.YtcdbhcjiimdhhaaDoor
open Go Go.RowKit Go.ChangeShapes

namespace en
theorem et : Tryd.prog.globalNamed "errors.errorType" = some 9 := by kernel_rfl
theorem rt : (Tryd.prog.cutTypes.find? (·.1 == "internal/reflectlite.rtype")).map (·.2) = some 127 := by kernel_rfl
theorem oneRow : ((List.range 175).filter fun t => Tryd.prog.rowNamed t [101, 114, 114, 111, 114]) = [29] := by kernel_rfl
theorem size : Tryd.prog.types.size = 175 := by kernel_rfl
end en
theorem handle_of {W : World} {l : List (String × DataW Unit)} (h : laidMetH Tryd.prog l W) (hf : l.filter (fun x => x.1 == "errors.errorType") = [("errors.errorType", Rows.laid_errors_errorType)]) :
    W.cell? ⟨9, 0, none⟩ = some (.iface 127 (.agg #[.pointer (some ⟨10, 29, none⟩)])) := by
  have h2 := h.filter (fun x => x.1 == "errors.errorType")
  rw [hf] at h2
  have h' : laidMet Tryd.prog [] W ∧ handlesMet Tryd.prog [("errors.errorType", Rows.laid_errors_errorType)] W := h2
  obtain ⟨name, u, ty, e1, e2, e3, e4, e5⟩ := h'.2 _ (List.mem_singleton.2 rfl)
  have en' : name = [101, 114, 114, 111, 114] := (Option.some.inj e1).symm
  subst en'
  obtain rfl := Option.some.inj (en.rt.symm.trans e2)
  have hm : ty ∈ (List.range 175).filter fun t => Tryd.prog.rowNamed t [101, 114, 114, 111, 114] := List.mem_filter.2 ⟨List.mem_range.2 (by rw [← en.size]; exact e3), e4⟩
  rw [en.oneRow] at hm
  obtain rfl := List.mem_singleton.1 hm
  have hh : typeHandle Tryd.prog 29 = .pointer (some ⟨10, 29, none⟩) := by kernel_rfl
  rw [hh] at e5
  simpa using World.var?_cell en.et e5 0
/-- Out of a row that lists all ten. -/
theorem errs_of {W : World} (h : laidMetH Tryd.prog Rows.tilesOfRow.laid W) : ∃ E, ErrsAt W E := by
  obtain ⟨E, hE⟩ := sents_of h
  exact ⟨E, handle_of h (by kernel_rfl), hE.c0, hE.c1, hE.c2, hE.c3, hE.c4, hE.c5, hE.c6, hE.c7, hE.c8, hE.blk, hE.ne⟩
end Go.Proofs.YtcdbhcjiimdhhaaDoor
