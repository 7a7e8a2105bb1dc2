/- A layer as an argument. -/
import Derived.Test.YtmknacnmdlcieaaGreatDoorDocArgW
namespace Go.Proofs.YtmknacnmdlcieaaGreatDoor
open Go Go.ChangeShapes Go.WideShapes Go.ChangeAt Go.RowKit
variable {H : Type} {enc : TypeId × Value → H} {w : World} {base : Nat} {spare : Nat → Bool} {held : Bool}
set_option maxRecDepth 100000 in
/-- The layer, its pixels. -/
theorem lay_argW {r : Reach} {b0 : Nat} {v : Value} {d : DataW H} {p : List MemPlace} (hv : Value.okWide Tryz.prog w r b0 29 v) (ht : DataW.Trod enc Tryz.prog w base spare held 29 v d p) (hw : InReach Tryz.prog 29 d) :
    ∃ m : LM, v = .agg #[.string m.l.name, .int .i64 m.l.x, .int .i64 m.l.y, .bool m.l.hidden, .int .i64 m.l.opacity, .int .i64 m.l.mode, .int .i64 m.l.wide, .int .i64 m.l.high, .slice m.A m.n m.c] ∧ Reads w w.heap.size 4 m.A m.n (pxCells m.l.ps) ∧ m.n ≤ reachBytes := by
  obtain ⟨f0, f1, f2, f3, f4, f5, f6, hs, _⟩ := daw.layRow
  obtain ⟨cs, rfl, _⟩ := okWide_struct hs hv
  obtain ⟨fuel, ht⟩ := ht
  obtain ⟨m, hm, hr, hq⟩ := lay_cellsW ht hw
  have e : cs = (layCs m).toArray := by
    have h : cs.toList = layCs m := hm
    rw [← h]
  subst e
  exact ⟨m, rfl, hr, hq⟩
end Go.Proofs.YtmknacnmdlcieaaGreatDoor
