/- first: the closed fact of PastGoes. -/
import Derived.Test.YtnciahoifehkdaaDoorPast
namespace Go.Proofs.YtnciahoifehkdaaDoor
open Go Go.RowKit

theorem snew_any (s : ByteArray) (most : Int) (w : World) (h0 : 0 ≤ most) (h1 : most ≤ 20) :
    Calls Tryd.prog 96 #[.string s, .int .i64 most] w fun e w' => e = .returned (.tuple #[.pointer (some ⟨w.heap.size, 0, none⟩), .nilIface]) ∧ w' = w.alloc (.cells #[.string s, .int .i64 most, .slice none 0 0, .slice none 0 0] 227) := by
  go_enter Tryd.func96, Tryd.ntmps96
  go_wp2_with fail
  go_ret2
  exact ⟨rfl, rfl⟩
theorem snow_any (gp : Nat) (s : ByteArray) (w : World) (hb : w.cell? ⟨gp, 0, none⟩ = some (.string s)) :
    Calls Tryd.prog 97 #[.pointer (some ⟨gp, 0, none⟩)] w fun e w' => e = .returned (.string s) ∧ w' = w := by
  go_enter Tryd.func97, Tryd.ntmps97
  go_wp2_with fail
  go_ret
  exact ⟨rfl, rfl⟩
theorem sswap_no (gp i j : Nat) (w : World) (d0 : w.cell? ⟨gp, i, none⟩ = some (.slice none 0 0)) :
    Calls Tryd.prog 155 #[.pointer (some ⟨gp, 0, none⟩), .pointer (some ⟨gp, i, none⟩), .pointer (some ⟨gp, j, none⟩)] w fun e w' => e = .returned (.bool false) ∧ w' = w := by
  go_enter Tryd.func155, Tryd.ntmps155
  go_wp2_with fail
  go_ret
  exact ⟨rfl, rfl⟩
theorem sundo_no (gp : Nat) (w : World) (d0 : w.cell? ⟨gp, 2, none⟩ = some (.slice none 0 0)) :
    Calls Tryd.prog 98 #[.pointer (some ⟨gp, 0, none⟩)] w fun e w' => e = .returned (.bool false) ∧ ∃ q, w' = w.drewN q := by
  go_enter Tryd.func98, Tryd.ntmps98
  go_wp2_with fail
  go_quiet ((go_at_call 155; exact Calls.quiet_of_same (sswap_no gp 2 3 _ d0)))
  go_wp2_with fail
  go_ret
  exact ⟨rfl, _, rfl⟩
theorem first_any (w : World) : Calls Tryd.prog 31 #[] w fun e w' => e = .returned (.bool true) ∧ Below w.heap.size w w' := by
  go_enter Tryd.func31, Tryd.ntmps31
  go_wp2_with fail
  refine (snew_any _ 3 w (by omega) (by omega)).mono ?_
  rintro e w1 ⟨rfl, hw1⟩
  have hb1 : Below w.heap.size w w1 := by rw [hw1]; go_grown
  have d0 : w1.cell? ⟨w.heap.size, 0, none⟩ = some (.string { data := #[97] }) := by rw [hw1]; exact cell_made _ _ _ rfl rfl
  have d2 : w1.cell? ⟨w.heap.size, 2, none⟩ = some (.slice none 0 0) := by rw [hw1]; exact cell_made _ _ _ rfl rfl
  clear hw1
  go_wp2_with fail
  refine (snow_any w.heap.size _ w1 d0).mono ?_
  rintro e w2 ⟨rfl, rfl⟩
  go_wp2_with fail
  refine (sundo_no w.heap.size _ d2).mono ?_
  rintro e w3 ⟨rfl, q3, rfl⟩
  go_wp2_with fail
  go_ret
  exact ⟨rfl, below_drewN hb1 _⟩
end Go.Proofs.YtnciahoifehkdaaDoor
