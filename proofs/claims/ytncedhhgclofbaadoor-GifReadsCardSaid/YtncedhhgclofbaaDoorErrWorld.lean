/- A world where the error variables lie as the row says. -/
import Derived.Test.YtncedhhgclofbaaDoorErrEnv
namespace Go.Proofs.YtncedhhgclofbaaDoor
open Go Go.RowKit
noncomputable def errLow : Nat := (World.holding Tryd.prog default ⟨#[], #[], []⟩).heap.size
noncomputable def errWorld (os : Os) : World :=
  let w0 := World.holding Tryd.prog os ⟨#[.cells #[.string { data := #[108, 97, 121, 101, 114, 99, 97, 107, 101, 58, 32, 116, 101, 120, 116] }] 185,
    .cells #[.string { data := #[108, 97, 121, 101, 114, 99, 97, 107, 101, 58, 32, 98, 111, 117, 110, 100] }] 185,
    .cells #[.string { data := #[108, 97, 121, 101, 114, 99, 97, 107, 101, 58, 32, 115, 104, 97, 112, 101] }] 185,
    .cells #[.string { data := #[108, 97, 121, 101, 114, 99, 97, 107, 101, 58, 32, 115, 117, 109] }] 185,
    .cells #[.string { data := #[108, 97, 121, 101, 114, 99, 97, 107, 101, 58, 32, 110, 97, 109, 101] }] 185,
    .cells #[.string { data := #[108, 97, 121, 101, 114, 99, 97, 107, 101, 58, 32, 110, 111, 110, 101] }] 185,
    .cells #[.string { data := #[108, 97, 121, 101, 114, 99, 97, 107, 101, 58, 32, 99, 111, 108, 111, 114, 115] }] 185,
    .cells #[.string { data := #[108, 97, 121, 101, 114, 99, 97, 107, 101, 58, 32, 102, 117, 108, 108] }] 185,
    .cells #[.string { data := #[108, 97, 121, 101, 114, 99, 97, 107, 101, 58, 32, 112, 111, 119, 101, 114] }] 185], #[], []⟩
  let put := fun (h : Array Obj) (g : Nat) (v : Value) => h.modify g fun
    | .cells _ t frozen => .cells #[v] t frozen
    | o => o
  { w0 with heap := put (put (put (put (put (put (put (put (put (put w0.heap 2 (.iface 167 (.pointer (some ⟨errLow + 0, 0, none⟩)))) 1 (.iface 167 (.pointer (some ⟨errLow + 1, 0, none⟩)))) 3 (.iface 167 (.pointer (some ⟨errLow + 2, 0, none⟩)))) 4 (.iface 167 (.pointer (some ⟨errLow + 3, 0, none⟩)))) 5 (.iface 167 (.pointer (some ⟨errLow + 4, 0, none⟩)))) 6 (.iface 167 (.pointer (some ⟨errLow + 5, 0, none⟩)))) 0 (.iface 167 (.pointer (some ⟨errLow + 6, 0, none⟩)))) 7 (.iface 167 (.pointer (some ⟨errLow + 7, 0, none⟩)))) 8 (.iface 167 (.pointer (some ⟨errLow + 8, 0, none⟩)))) 9 (.iface 148 (.agg #[.pointer (some ⟨10, 26, none⟩)])) }
theorem errWorld_met (os : Os) (args : Array Value) : laidMetH Tryd.prog Rows.gifWritesRow.laid ((errWorld os).forCall (fun _ _ => 0) ⟨#[], args, []⟩).memory :=
  laidMetH_of_parts (laidMet_of_run (ps := [.cell 2 0, .cell (errLow + 0) 0, .cell 1 0, .cell (errLow + 1) 0, .cell 3 0, .cell (errLow + 2) 0, .cell 4 0, .cell (errLow + 3) 0, .cell 5 0, .cell (errLow + 4) 0, .cell 6 0, .cell (errLow + 5) 0, .cell 0 0, .cell (errLow + 6) 0, .cell 7 0, .cell (errLow + 7) 0, .cell 8 0, .cell (errLow + 8) 0]) 8 (by kernel_rfl) (by kernel_rfl) (by kernel_rfl)) (by kernel_rfl)
end Go.Proofs.YtncedhhgclofbaaDoor
