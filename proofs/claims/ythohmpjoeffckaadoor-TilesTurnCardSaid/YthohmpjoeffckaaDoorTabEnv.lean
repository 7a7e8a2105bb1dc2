/- inflate's tables, out of a row's list; one error variable. -/
import Derived.Test.YthohmpjoeffckaaDoorErrEnv
import Derived.Test.YthohmpjoeffckaaDoorEr4
import Derived.Test.YthohmpjoeffckaaDoorHufCodes
import Derived.Lib.LaidTab
namespace Go.Proofs.YthohmpjoeffckaaDoor
open Go Go.RowKit Go.ChangeShapes

theorem cellsI : Tryd.prog.cellsOf 3 = 1 := by kernel_rfl
theorem tab_of {W : World} {l : List (String × DataW Unit)} (h : laidMetH Tryd.prog l W) (nm : String) (zs : List Nat) {g t n : Nat} (hf : l.filter (fun x => x.1 == nm) = [(nm, Lib.tabData .i64 (zs.map fun z : Nat => (z : Int)))])
    (hg : Tryd.prog.globalNamed nm = some g) (hty : (Tryd.prog.globals[g]?).map (·.type) = some t) (ht : Tryd.prog.underlying t = some (.array n 3)) (hct : Tryd.prog.cellsOf t = n) (hn : zs.length = n) (hgn : g < 7) :
    Reads W 7 1 (some ⟨g, 0, none⟩) n (nats zs) := by
  have h2 := h.filter (fun x => x.1 == nm)
  rw [hf] at h2
  have h' : laidMet Tryd.prog [(nm, Lib.tabData .i64 (zs.map fun z : Nat => (z : Int)))] W := h2
  have hT := Lib.tabIs_of_head hg hty ht Tryd.underlying3 cellsI hct h'
  refine ⟨by rw [nats_length]; omega, fun _ => ⟨g, 0, rfl, hgn, fun j u hu => ?_⟩⟩
  have hc := World.var?_cell hg hT j
  rw [Nat.zero_add, hc]
  rw [← hu]
  simp [nats]
  rfl
theorem gLens : Tryd.prog.globalNamed "layercake/inflate.Lens" = some 3 := by kernel_rfl
theorem tLens : (Tryd.prog.globals[3]?).map (·.type) = some 138 := by kernel_rfl
theorem gLenBits : Tryd.prog.globalNamed "layercake/inflate.LenBits" = some 4 := by kernel_rfl
theorem tLenBits : (Tryd.prog.globals[4]?).map (·.type) = some 138 := by kernel_rfl
theorem gDists : Tryd.prog.globalNamed "layercake/inflate.Dists" = some 5 := by kernel_rfl
theorem tDists : (Tryd.prog.globals[5]?).map (·.type) = some 139 := by kernel_rfl
theorem gDistBits : Tryd.prog.globalNamed "layercake/inflate.DistBits" = some 6 := by kernel_rfl
theorem tDistBits : (Tryd.prog.globals[6]?).map (·.type) = some 139 := by kernel_rfl
theorem gOrder : Tryd.prog.globalNamed "layercake/inflate.Order" = some 2 := by kernel_rfl
theorem tOrder : (Tryd.prog.globals[2]?).map (·.type) = some 120 := by kernel_rfl
theorem cells29 : Tryd.prog.cellsOf 138 = 29 := by kernel_rfl
theorem cells30 : Tryd.prog.cellsOf 139 = 30 := by kernel_rfl
theorem cells19 : Tryd.prog.cellsOf 120 = 19 := by kernel_rfl
set_option maxRecDepth 100000 in
theorem tabs_of {W : World} (h : laidMetH Tryd.prog Rows.tilesTurnRow.laid W) : Tabs W :=
  ⟨tab_of h "layercake/inflate.Lens" Inf.Lens (by kernel_rfl) gLens tLens Tryd.underlying138 cells29 (by decide) (by decide),
   tab_of h "layercake/inflate.LenBits" Inf.LenBits (by kernel_rfl) gLenBits tLenBits Tryd.underlying138 cells29 (by decide) (by decide),
   tab_of h "layercake/inflate.Dists" Inf.Dists (by kernel_rfl) gDists tDists Tryd.underlying139 cells30 (by decide) (by decide),
   tab_of h "layercake/inflate.DistBits" Inf.DistBits (by kernel_rfl) gDistBits tDistBits Tryd.underlying139 cells30 (by decide) (by decide),
   tab_of h "layercake/inflate.Order" Inf.Order (by kernel_rfl) gOrder tOrder Tryd.underlying120 cells19 (by decide) (by decide)⟩
theorem ers_of {W : World} (h : laidMetH Tryd.prog Rows.tilesTurnRow.laid W) : ∃ E, ErS W E := by
  obtain ⟨a1, a2, _, p2, _, _, _⟩ := sent_pair h "layercake/api.ErrBound" "layercake/api.ErrShape" [108, 97, 121, 101, 114, 99, 97, 107, 101, 58, 32, 98, 111, 117, 110, 100] [108, 97, 121, 101, 114, 99, 97, 107, 101, 58, 32, 115, 104, 97, 112, 101] (by kernel_rfl) en.gErrBound en.tErrBound en.gErrShape en.tErrShape
  exact ⟨fun _ => a2, ⟨p2⟩⟩
end Go.Proofs.YthohmpjoeffckaaDoor
