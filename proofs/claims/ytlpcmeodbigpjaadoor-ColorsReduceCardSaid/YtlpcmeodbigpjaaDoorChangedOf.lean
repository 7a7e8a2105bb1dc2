/- Are two pictures of one size the same? slices.Equal of pixels: the walks. The reference's CropOf: the walk. The reference's ChangedOf; sameRects: the walks. -/
import Derived.Test.YtlpcmeodbigpjaaDoorBase
import Derived.Test.YtlpcmeodbigpjaaDoorRects
import Derived.Deep.RegionHeld3
import Derived.IntWalk
import Derived.Test.YtlpcmeodbigpjaaDoorTileLaw
namespace Go.Proofs.YtlpcmeodbigpjaaDoor
open Go Go.RowKit

theorem take_same {α : Type} {l m : List α} {k : Nat} (h : l.take k = m.take k) (hl : k < l.length) (hm : k < m.length) (e : l[k] = m[k]) : l.take (k + 1) = m.take (k + 1) := by
  rw [List.take_succ_eq_append_getElem hl, List.take_succ_eq_append_getElem hm, h, e]
theorem take_other {α : Type} {l m : List α} {k : Nat} (hl : k < l.length) (hm : k < m.length) (e : ¬ l[k] = m[k]) : ¬ l = m := by
  intro h
  subst h
  exact e rfl

end Go.Proofs.YtlpcmeodbigpjaaDoor
namespace Go.Proofs.YtlpcmeodbigpjaaDoor
open Go Go.RowKit

section
variable {W H : Int} {A : Option Addr} {n c : Nat} {r : Til.R} {w wr w' : World} {g5 ga oa m c' : Nat} {l : List Px}
end

end Go.Proofs.YtlpcmeodbigpjaaDoor
namespace Go.Proofs.YtlpcmeodbigpjaaDoor
open Go Go.RowKit


/-- What stands through the loops that collect tiles. -/
structure ChR (W H : Nat) (A1 : Option Addr) (n c1 : Nat) (A2 : Option Addr) (c2 : Nat) (w : World) (Ar : Option Addr) (N B0 : Nat) (v : Value) (l : List Til.R) (wr : World) : Prop where
  b1 : Blk wr w.heap.size 24 #[.int .i64 W, .int .i64 H, .slice A1 n c1]
  b2 : Blk wr (w.heap.size + 1) 24 #[.int .i64 W, .int .i64 H, .slice A2 n c2]
  rd : Reads wr B0 4 Ar N (rcCells (Til.rects W H))
  own : Own wr B0 4 v l.length (rcCells l)
  hB : w.heap.size + 2 ≤ B0
  lB : B0 ≤ wr.heap.size
  bel : Below w.heap.size w wr
section
variable {W H : Nat} {A1 : Option Addr} {n c1 : Nat} {A2 : Option Addr} {c2 : Nat} {w wr w' : World} {Ar : Option Addr} {N B0 : Nat} {v v' : Value} {l : List Til.R}
theorem ChR.step (h : ChR W H A1 n c1 A2 c2 w Ar N B0 v l wr) (hb : Below wr.heap.size wr w') : ChR W H A1 n c1 A2 c2 w Ar N B0 v l w' :=
  ⟨h.b1.below hb h.b1.lt, h.b2.below hb h.b2.lt, h.rd.below hb h.lB, h.own.below hb (Nat.le_refl _), h.hB, Nat.le_trans h.lB hb.size, h.bel.trans (hb.mono h.bel.size)⟩
theorem ChR.push (h : ChR W H A1 n c1 A2 c2 w Ar N B0 v l wr) (r : Til.R) (ho : Own w' B0 4 v' (l.length + 1) (rcCells (l ++ [r]))) (hg : wr.grownBy w' v.ownBlock) : ChR W H A1 n c1 A2 c2 w Ar N B0 v' (l ++ [r]) w' := by
  have hr : ∀ g, v.ownBlock = some g → B0 ≤ g := fun g e => (h.own.lt g e).1
  have hB := h.hB
  refine ⟨h.b1.grown hg (fun e => by have := hr _ e.symm; omega), h.b2.grown hg (fun e => by have := hr _ e.symm; omega), h.rd.grown hg h.lB hr, ?_, h.hB, Nat.le_trans h.lB hg.size, h.bel.grown hg h.bel.size (fun g e => by have := hr g e; omega)⟩
  rw [List.length_append]
  exact ho
end


end Go.Proofs.YtlpcmeodbigpjaaDoor
