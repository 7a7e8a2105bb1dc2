/- Four error variables. -/
import Derived.Test.YtncedhhgclofbaaDoorCode
namespace Go.Proofs.YtncedhhgclofbaaDoor
open Go Go.RowKit

structure Er4 (w : World) (E : Nat → Addr) : Prop where
  text : w.cell? ⟨2, 0, none⟩ = some (.iface 167 (.pointer (some (E 0))))
  bound : w.cell? ⟨1, 0, none⟩ = some (.iface 167 (.pointer (some (E 1))))
  shape : w.cell? ⟨3, 0, none⟩ = some (.iface 167 (.pointer (some (E 2))))
  colors : w.cell? ⟨0, 0, none⟩ = some (.iface 167 (.pointer (some (E 6))))
theorem ErrsAt.er4 {w : World} {E : Nat → Addr} (h : ErrsAt w E) : Er4 w E := ⟨h.text, h.bound, h.shape, h.colors⟩
theorem Er4.below {w w' : World} {E : Nat → Addr} (h : Er4 w E) (hb : Below w.heap.size w w') : Er4 w' E :=
  ⟨bcell_ hb (cell_lt h.text) h.text, bcell_ hb (cell_lt h.bound) h.bound, bcell_ hb (cell_lt h.shape) h.shape, bcell_ hb (cell_lt h.colors) h.colors⟩
end Go.Proofs.YtncedhhgclofbaaDoor
