/- The error variables, out of a row's list. The error variables and reflectlite's own, out of a row's list. A world for the witness of a row that lists the ten variables of errors. -/
import Derived.Test.YtkegkelaffohjaaGreatDoorKCFilmTwice4
import Derived.Test.YtkegkelaffohjaaGreatDoorRows
import Derived.Stop.LaidTwo
import Derived.LaidSub
import Derived.LaidHandle
import Derived.ProofKit
import Derived.Deep.DeepHandedRow
namespace Go.Proofs.YtkegkelaffohjaaGreatDoor
open Go Go.RowKit Go.ChangeShapes
namespace en
theorem cellsE : Tryz.prog.cellsOf 309 = 1 := by kernel_rfl
theorem cellsS : Tryz.prog.cellsOf 9 = 1 := by kernel_rfl
theorem star : "*" ++ "errors.errorString" = "*errors.errorString" := by decide
theorem rowE (u : TypeId) (h : Tryz.prog.typeName? 3 u = some "*errors.errorString") : u = 290 :=
 typeName_ptr_named (nm := "errors.errorString") (by rw [star]; kernel_rfl) (by kernel_rfl) (by decide) u (by rw [star]; exact h)
theorem gErrText : Tryz.prog.globalNamed "layercake/api.ErrText" = some 0 := by kernel_rfl
theorem tErrText : (Tryz.prog.globals[0]?).map (·.type) = some 25 := by kernel_rfl
theorem gErrBound : Tryz.prog.globalNamed "layercake/api.ErrBound" = some 1 := by kernel_rfl
theorem tErrBound : (Tryz.prog.globals[1]?).map (·.type) = some 25 := by kernel_rfl
theorem gErrShape : Tryz.prog.globalNamed "layercake/api.ErrShape" = some 3 := by kernel_rfl
theorem tErrShape : (Tryz.prog.globals[3]?).map (·.type) = some 25 := by kernel_rfl
theorem gErrSum : Tryz.prog.globalNamed "layercake/api.ErrSum" = some 2 := by kernel_rfl
theorem tErrSum : (Tryz.prog.globals[2]?).map (·.type) = some 25 := by kernel_rfl
end en
abbrev sentD (t : List UInt8) : DataW Unit := .iface "*errors.errorString" (.ptr (.agg [.lit (.string t)]))
theorem sent_pair {W : World} {l : List (String × DataW Unit)} (h : laidMetH Tryz.prog l W) (n0 n1 : String) (x0 x1 : List UInt8) {g0 g1 : Nat} (hf : l.filter (fun x => x.1 == n0 || x.1 == n1) = [(n0, sentD x0), (n1, sentD x1)])
  (hg0 : Tryz.prog.globalNamed n0 = some g0) (ht0 : (Tryz.prog.globals[g0]?).map (·.type) = some 25) (hg1 : Tryz.prog.globalNamed n1 = some g1) (ht1 : (Tryz.prog.globals[g1]?).map (·.type) = some 25) :
  ∃ a0 a1, W.cell? ⟨g0, 0, none⟩ = some (errV a0) ∧ W.cell? ⟨g1, 0, none⟩ = some (errV a1) ∧ a0 ≠ a1 ∧ (∃ c t, W.heap[a0.block]? = some (.cells c t (0, 0))) ∧ (∃ c t, W.heap[a1.block]? = some (.cells c t (0, 0))) := by
 have h2 := h.filter (fun x => x.1 == n0 || x.1 == n1)
 rw [hf] at h2
 obtain ⟨a0, a1, s0, s1, c0, c1, t0, t1, hv0, hv1, _, _, _, _, _, _, hne, hb0, hb1⟩ := laid_sentinels2 h2 hg0 ht0 hg1 ht1 Tryz.underlying25 en.rowE Tryz.underlying290 Tryz.underlying309 rfl rfl Tryz.underlying9 en.cellsE en.cellsS
 exact ⟨a0, a1, by simpa [errV] using World.var?_cell hg0 hv0 0, by simpa [errV] using World.var?_cell hg1 hv1 0, hne, ⟨c0, t0, hb0⟩, ⟨c1, t1, hb1⟩⟩
end Go.Proofs.YtkegkelaffohjaaGreatDoor
namespace Go.Proofs.YtkegkelaffohjaaGreatDoor
open Go Go.RowKit Go.ChangeShapes
namespace en
theorem size : Tryz.prog.types.size = 321 := by kernel_rfl
end en
end Go.Proofs.YtkegkelaffohjaaGreatDoor
