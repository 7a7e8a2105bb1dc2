/- raster.each with Crop's closure; raster.in, check, Crop: the walks. raster.in, check, Crop: the walks. -/
import Derived.Test.YtlpcmeodbigpjaaDoorTileMem
import Derived.Test.YtlpcmeodbigpjaaDoorBase
import Derived.Test.YtlpcmeodbigpjaaDoorMem
import Derived.Deep.RegionLaw
import Derived.Deep.QuietTactic
import Derived.BigQuiet
namespace Go.Proofs.YtlpcmeodbigpjaaDoor
open Go Go.RowKit

/-- What stands through each's loops. -/
structure EaR (W' H' : Nat) (w : World) (v : Value) (l : List Px) (wr : World) : Prop where
  b1 : Blk wr w.heap.size 24 #[.int .i64 0, .int .i64 0, .slice none 0 0]
  b5 : Blk wr (w.heap.size + 1) 24 #[.int .i64 W', .int .i64 H', v]
  own : Own wr (w.heap.size + 2) 4 v l.length (pxCells l)
  bel : Below w.heap.size w wr
section
variable {W' H' : Nat} {w wr w' : World} {v v' : Value} {l : List Px}
theorem EaR.step (h : EaR W' H' w v l wr) (hb : Below wr.heap.size wr w') : EaR W' H' w v l w' :=
  ⟨h.b1.below hb h.b1.lt, h.b5.below hb h.b5.lt, h.own.below hb (Nat.le_refl _), h.bel.trans (hb.mono (by have := h.b1.lt; omega))⟩
theorem EaR.n5 (h : EaR W' H' w v l wr) : v.ownBlock ≠ some (w.heap.size + 1) := fun e => by have := (h.own.lt _ e).1; omega
theorem EaR.push {wi wA wT : World} {q : Px} {o : Obj} (F : EaR W' H' w v l wi) (hb : Below wi.heap.size wi wA) (ho : Own wT (w.heap.size + 2) 4 v' (l.length + 1) (pxCells l ++ pxCs q))
    (hg : (wA.alloc o).grownBy wT v.ownBlock) : EaR W' H' w v' (l ++ [q]) (wT.setCell ⟨w.heap.size + 1, 2, none⟩ v') := by
  have F1 := (F.step hb).step (Below.alloc (Below.refl _ _) (Nat.le_refl _) o)
  have h1 := F1.b1.lt
  have h5 := F1.b5.lt
  have ne : ∀ g, g < w.heap.size + 2 → some g ≠ v.ownBlock := fun g hg' e => by have := (F1.own.lt g e.symm).1; omega
  have n5 : v'.ownBlock ≠ some (w.heap.size + 1) := fun e => by have := (ho.lt _ e).1; omega
  refine ⟨(F1.b1.grown hg (ne _ (by omega))).far (by simp) _, ?_, ?_, ?_⟩
  · have := (F1.b5.grown hg (ne _ (by omega))).set_ 2 v'
    simpa using this
  · rw [pxCells_append, List.length_append]
    simp only [pxCells, List.flatMap_cons, List.flatMap_nil, List.append_nil, List.length_singleton] at ho ⊢
    exact ho.setCell n5 _
  · exact (F1.bel.grown hg (by omega) (fun g e => by have := (F1.own.lt g e).1; omega)).setCell (by show w.heap.size ≤ w.heap.size + 1; omega) _
end

end Go.Proofs.YtlpcmeodbigpjaaDoor
namespace Go.Proofs.YtlpcmeodbigpjaaDoor
open Go Go.RowKit




end Go.Proofs.YtlpcmeodbigpjaaDoor
