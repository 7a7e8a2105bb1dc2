/- Pictures that are the same are said to be the same. -/
import Derived.Test.YtcdbhcjiimdhhaaDoorPxCmp
import Derived.Test.YtcdbhcjiimdhhaaDoorBase
import Derived.Test.YtcdbhcjiimdhhaaDoorMem4
import Derived.BigQuiet
import Derived.Deep.QuietTactic
namespace Go.Proofs.YtcdbhcjiimdhhaaDoor
open Go Go.RowKit

set_option maxRecDepth 100000 in
theorem samePicture_same (W H : Int) (A1 : Option Addr) (n c1 : Nat) (A2 : Option Addr) (c2 : Nat) (l : List Px) (w : World) (h1 : Reads w w.heap.size 4 A1 n (pxCells l)) (h2 : Reads w w.heap.size 4 A2 n (pxCells l)) (hn : n ≤ 1048576) :
    Calls Tryd.prog 11 #[.agg #[.int .i64 W, .int .i64 H, .slice A1 n c1], .agg #[.int .i64 W, .int .i64 H, .slice A2 n c2]] w fun e w' => e = .returned (.bool true) ∧ Below w.heap.size w w' := by
  obtain rfl := h1.pxLen
  go_enter Tryd.func11, Tryd.ntmps11
  go_wp2_with fail
  have k1 := ((h1.alloc (Nat.le_refl _) (.cells #[.int .i64 W, .int .i64 H, .slice A1 l.length c1] 24)).alloc (by first | omega | (simp; done) | (simp; omega)) (.cells #[.int .i64 W, .int .i64 H, .slice A2 l.length c2] 24))
  have k2 := ((h2.alloc (Nat.le_refl _) (.cells #[.int .i64 W, .int .i64 H, .slice A1 l.length c1] 24)).alloc (by first | omega | (simp; done) | (simp; omega)) (.cells #[.int .i64 W, .int .i64 H, .slice A2 l.length c2] 24))
  have d1 : ((w.alloc (.cells #[.int .i64 W, .int .i64 H, .slice A1 l.length c1] 24)).alloc (.cells #[.int .i64 W, .int .i64 H, .slice A2 l.length c2] 24)).cell? ⟨w.heap.size, 2, none⟩ = some (.slice A1 l.length c1) := cell_past _ (cell_made _ _ _ rfl rfl)
  have d2 : ((w.alloc (.cells #[.int .i64 W, .int .i64 H, .slice A1 l.length c1] 24)).alloc (.cells #[.int .i64 W, .int .i64 H, .slice A2 l.length c2] 24)).cell? ⟨w.heap.size + 1, 2, none⟩ = some (.slice A2 l.length c2) := cell_made _ _ _ (by simp) rfl
  have hb : Below w.heap.size w ((w.alloc (.cells #[.int .i64 W, .int .i64 H, .slice A1 l.length c1] 24)).alloc (.cells #[.int .i64 W, .int .i64 H, .slice A2 l.length c2] 24)) := by go_grown
  generalize (w.alloc (.cells #[.int .i64 W, .int .i64 H, .slice A1 l.length c1] 24)).alloc (.cells #[.int .i64 W, .int .i64 H, .slice A2 l.length c2] 24) = w2 at *
  go_loopw [5] (fun i wr => ∃ k q, k ≤ l.length ∧ i = .int .i64 k ∧ wr = w2.drewN q) (fun i _ => l.length - (intOf i).toNat)
  case atStart => exact ⟨0, 0, Nat.zero_le _, rfl, rfl⟩
  case round =>
    obtain ⟨k, q, hk, rfl, rfl⟩ := hrel
    by_cases hlt : k < l.length
    · obtain ⟨b1, o1, rfl, _⟩ := k1.addr (by omega)
      obtain ⟨b2, o2, rfl, _⟩ := k2.addr (by omega)
      obtain ⟨y0, y1, y2, y3⟩ := k1.px k hlt
      obtain ⟨z0, z1, z2, z3⟩ := k2.px k hlt
      have hnq := fun w => run_neq_px w l[k] l[k]
      unfold pxV at hnq
      go_wp2_with fail
      go_quiet (fail)
      go_wp2_with fail
      go_roundw
      case rel => exact ⟨k + 1, _, by omega, by go_num, rfl⟩
      case measure => simp [intOf]; omega
    · go_wp2_with fail
      go_ret
      exact ⟨rfl, below_drewN hb q⟩
end Go.Proofs.YtcdbhcjiimdhhaaDoor
