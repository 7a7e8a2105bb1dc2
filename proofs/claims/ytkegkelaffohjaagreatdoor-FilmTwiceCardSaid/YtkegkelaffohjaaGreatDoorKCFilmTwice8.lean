/- TabEnv, FtEnv: put together. -/
import Derived.Test.YtkegkelaffohjaaGreatDoorQCFilmTwiceErrEnv
import Derived.Test.YtkegkelaffohjaaGreatDoorKCFilmTwice4
import Derived.Test.YtkegkelaffohjaaGreatDoorQCFilmTwiceHufCodes
import Derived.Lib.LaidTab
/- inflate's tables, out of a row's list; one error variable. -/
namespace Go.Proofs.YtkegkelaffohjaaGreatDoor
open Go Go.RowKit Go.ChangeShapes
theorem cellsI : Tryz.prog.cellsOf 3 = 1 := by kernel_rfl
theorem tab_of {W : World} {l : List (String × DataW Unit)} (h : laidMetH Tryz.prog l W) (nm : String) (zs : List Nat) {g t n : Nat} (hf : l.filter (fun x => x.1 == nm) = [(nm, Lib.tabData .i64 (zs.map fun z : Nat => (z : Int)))])
  (hg : Tryz.prog.globalNamed nm = some g) (hty : (Tryz.prog.globals[g]?).map (·.type) = some t) (ht : Tryz.prog.underlying t = some (.array n 3)) (hct : Tryz.prog.cellsOf t = n) (hn : zs.length = n) (hgn : g < 15) :
  Reads W 15 1 (some ⟨g, 0, none⟩) n (nats zs) := by
 have h2 := h.filter (fun x => x.1 == nm)
 rw [hf] at h2
 have h' : laidMet Tryz.prog [(nm, Lib.tabData .i64 (zs.map fun z : Nat => (z : Int)))] W := h2
 have hT := Lib.tabIs_of_head hg hty ht Tryz.underlying3 cellsI hct h'
 refine ⟨by rw [nats_length]; omega, fun _ => ⟨g, 0, rfl, hgn, fun j u hu => ?_⟩⟩
 have hc := World.var?_cell hg hT j
 rw [Nat.zero_add, hc]
 rw [← hu]
 simp [nats]
 rfl
theorem gLens : Tryz.prog.globalNamed "layercake/inflate.Lens" = some 11 := by kernel_rfl
theorem tLens : (Tryz.prog.globals[11]?).map (·.type) = some 257 := by kernel_rfl
theorem gLenBits : Tryz.prog.globalNamed "layercake/inflate.LenBits" = some 12 := by kernel_rfl
theorem tLenBits : (Tryz.prog.globals[12]?).map (·.type) = some 257 := by kernel_rfl
theorem gDists : Tryz.prog.globalNamed "layercake/inflate.Dists" = some 13 := by kernel_rfl
theorem tDists : (Tryz.prog.globals[13]?).map (·.type) = some 258 := by kernel_rfl
theorem gDistBits : Tryz.prog.globalNamed "layercake/inflate.DistBits" = some 14 := by kernel_rfl
theorem tDistBits : (Tryz.prog.globals[14]?).map (·.type) = some 258 := by kernel_rfl
theorem gOrder : Tryz.prog.globalNamed "layercake/inflate.Order" = some 10 := by kernel_rfl
theorem tOrder : (Tryz.prog.globals[10]?).map (·.type) = some 233 := by kernel_rfl
theorem cells29 : Tryz.prog.cellsOf 257 = 29 := by kernel_rfl
theorem cells30 : Tryz.prog.cellsOf 258 = 30 := by kernel_rfl
theorem cells19 : Tryz.prog.cellsOf 233 = 19 := by kernel_rfl
end Go.Proofs.YtkegkelaffohjaaGreatDoor
/- inflate's tables and four error variables, out of FilmTwice's row. -/
namespace Go.Proofs.YtkegkelaffohjaaGreatDoor
open Go Go.RowKit Go.ChangeShapes
set_option maxRecDepth 100000 in
theorem ft_tabs {W : World} (h : laidMetH Tryz.prog Rows.filmTwiceRow.laid W) : Tabs W :=
 ⟨tab_of h "layercake/inflate.Lens" Inf.Lens (by kernel_rfl) gLens tLens Tryz.underlying257 cells29 (by decide) (by decide),
  tab_of h "layercake/inflate.LenBits" Inf.LenBits (by kernel_rfl) gLenBits tLenBits Tryz.underlying257 cells29 (by decide) (by decide),
  tab_of h "layercake/inflate.Dists" Inf.Dists (by kernel_rfl) gDists tDists Tryz.underlying258 cells30 (by decide) (by decide),
  tab_of h "layercake/inflate.DistBits" Inf.DistBits (by kernel_rfl) gDistBits tDistBits Tryz.underlying258 cells30 (by decide) (by decide),
  tab_of h "layercake/inflate.Order" Inf.Order (by kernel_rfl) gOrder tOrder Tryz.underlying233 cells19 (by decide) (by decide)⟩
theorem ft_er4 {W : World} (h : laidMetH Tryz.prog Rows.filmTwiceRow.laid W) : ∃ E, Er4 W E := by
 obtain ⟨a0, a1, p0, p1, _, _, _⟩ := sent_pair h "layercake/api.ErrText" "layercake/api.ErrBound" [108, 97, 121, 101, 114, 99, 97, 107, 101, 58, 32, 116, 101, 120, 116] [108, 97, 121, 101, 114, 99, 97, 107, 101, 58, 32, 98, 111, 117, 110, 100] (by kernel_rfl) en.gErrText en.tErrText en.gErrBound en.tErrBound
 obtain ⟨a2, a3, p2, p3, _, _, _⟩ := sent_pair h "layercake/api.ErrShape" "layercake/api.ErrSum" [108, 97, 121, 101, 114, 99, 97, 107, 101, 58, 32, 115, 104, 97, 112, 101] [108, 97, 121, 101, 114, 99, 97, 107, 101, 58, 32, 115, 117, 109] (by kernel_rfl) en.gErrShape en.tErrShape en.gErrSum en.tErrSum
 exact ⟨fun i => match i with | 0 => a0 | 1 => a1 | 2 => a2 | _ => a3, p0, p1, p2, p3⟩
end Go.Proofs.YtkegkelaffohjaaGreatDoor
