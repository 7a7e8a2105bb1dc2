/- The tiles of a size: the reference's TilesOf, tiles.rects: the walks. Printed by mkrects.py. -/
import Derived.Test.YtlpcmeodbigpjaaDoorTileMem
import Derived.Test.YtlpcmeodbigpjaaDoorBase
import Derived.LoopTactic
namespace Go.Proofs.YtlpcmeodbigpjaaDoor
open Go Go.RowKit

/-- What stands through the loops over tiles. -/
structure RcR (w : World) (W H k i : Nat) (v : Value) (wr : World) : Prop where
  own : Own wr w.heap.size 4 v (Til.rectsTo W H k i).length (rcCells (Til.rectsTo W H k i))
  bel : Below w.heap.size w wr
theorem RcR.full {w wr : World} {W H k : Nat} {v : Value} (h : RcR w W H k (Til.cols W) v wr) : RcR w W H (k + 1) 0 v wr := ⟨by rw [← Til.rectsTo_full]; exact h.own, h.bel⟩
theorem rc_snoc (W H k i : Nat) (news : List Value) (h : rcCs (Til.rectAt W H i k) = news) : rcCells (Til.rectsTo W H k i) ++ news = rcCells (Til.rectsTo W H k (i + 1)) := by
  rw [Til.rectsTo_succ, rcCells_append, rcCells_single, h]
theorem rc_len (W H k i : Nat) : (Til.rectsTo W H k i).length + 1 = (Til.rectsTo W H k (i + 1)).length := by rw [Til.rectsTo_succ]; simp
theorem rc_small (W H k i : Nat) (hW : W ≤ 256) (hH : H ≤ 256) (hk : k ≤ Til.cols H) (hi : i ≤ Til.cols W) : (Til.rectsTo W H k i).length ≤ 1000 := by
  rw [Til.rectsTo_length]
  have h1 : Til.cols W ≤ 16 := by unfold Til.cols; omega
  have h2 : Til.cols H ≤ 16 := by unfold Til.cols; omega
  have := Nat.mul_le_mul (show k ≤ 16 by omega) h1
  omega


end Go.Proofs.YtlpcmeodbigpjaaDoor
