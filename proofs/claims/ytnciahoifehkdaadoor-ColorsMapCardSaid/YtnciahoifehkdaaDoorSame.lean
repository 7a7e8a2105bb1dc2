/- Lists that are the same are said to be the same: pixels, numbers, pictures. -/
import Derived.Test.YtnciahoifehkdaaDoorPxCmp
import Derived.Test.YtnciahoifehkdaaDoorBase
import Derived.BigQuiet
import Derived.Deep.QuietTactic
namespace Go.Proofs.YtnciahoifehkdaaDoor
open Go Go.RowKit

set_option maxRecDepth 100000 in
theorem samePixels_same (A1 : Option Addr) (n c1 : Nat) (A2 : Option Addr) (c2 : Nat) (l : List Px) (w : World) (h1 : Reads w w.heap.size 4 A1 n (pxCells l)) (h2 : Reads w w.heap.size 4 A2 n (pxCells l)) (hn : n ≤ 1048576) :
    Calls Tryd.prog 44 #[.slice A1 n c1, .slice A2 n c2] w fun e w' => e = .returned (.bool true) ∧ ∃ q, w' = w.drewN q := by
  obtain rfl := h1.pxLen
  go_enter Tryd.func44, Tryd.ntmps44
  go_wp2_with fail
  go_loopw [5] (fun i wr => ∃ k q, k ≤ l.length ∧ i = .int .i64 k ∧ wr = w.drewN q) (fun i _ => l.length - (intOf i).toNat)
  case atStart => exact ⟨0, 0, Nat.zero_le _, rfl, rfl⟩
  case round =>
    obtain ⟨k, q, hk, rfl, rfl⟩ := hrel
    by_cases hlt : k < l.length
    · obtain ⟨b1, o1, rfl, _⟩ := h1.addr (by omega)
      obtain ⟨b2, o2, rfl, _⟩ := h2.addr (by omega)
      obtain ⟨y0, y1, y2, y3⟩ := h1.px k hlt
      obtain ⟨z0, z1, z2, z3⟩ := h2.px k hlt
      have hnq := fun w => run_neq_px w l[k] l[k]
      unfold pxV at hnq
      go_wp2_with fail
      go_quiet (fail)
      go_wp2_with fail
      go_roundw
      case rel => exact ⟨k + 1, _, by omega, by go_num, rfl⟩
      case measure => simp [intOf]; omega
    · go_wp2_with fail
      go_ret
      exact ⟨rfl, q, rfl⟩

set_option maxRecDepth 100000 in
theorem sameInts_same (A1 : Option Addr) (n c1 : Nat) (A2 : Option Addr) (c2 : Nat) (l : List Int) (w : World) (h1 : Reads w w.heap.size 1 A1 n (ints l)) (h2 : Reads w w.heap.size 1 A2 n (ints l)) (hn : n ≤ 1048576) :
    Calls Tryd.prog 45 #[.slice A1 n c1, .slice A2 n c2] w fun e w' => e = .returned (.bool true) ∧ ∃ q, w' = w.drewN q := by
  obtain rfl : n = l.length := by have := h1.1; rw [ints_length] at this; omega
  go_enter Tryd.func45, Tryd.ntmps45
  go_wp2_with fail
  go_loopw [5] (fun i wr => ∃ k q, k ≤ l.length ∧ i = .int .i64 k ∧ wr = w.drewN q) (fun i _ => l.length - (intOf i).toNat)
  case atStart => exact ⟨0, 0, Nat.zero_le _, rfl, rfl⟩
  case round =>
    obtain ⟨k, q, hk, rfl, rfl⟩ := hrel
    by_cases hlt : k < l.length
    · obtain ⟨b1, o1, rfl, _⟩ := h1.addr (by omega)
      obtain ⟨b2, o2, rfl, _⟩ := h2.addr (by omega)
      have y0 : w.cell? ⟨b1, o1 + k, none⟩ = some (.int .i64 l[k]) := by rw [h1.cell rfl k (by omega), ints_at l k hlt]
      have z0 : w.cell? ⟨b2, o2 + k, none⟩ = some (.int .i64 l[k]) := by rw [h2.cell rfl k (by omega), ints_at l k hlt]
      go_wp2_with fail
      go_quiet (fail)
      go_wp2_with fail
      go_roundw
      case rel => exact ⟨k + 1, _, by omega, by go_num, rfl⟩
      case measure => simp [intOf]; omega
    · go_wp2_with fail
      go_ret
      exact ⟨rfl, q, rfl⟩
end Go.Proofs.YtnciahoifehkdaaDoor
