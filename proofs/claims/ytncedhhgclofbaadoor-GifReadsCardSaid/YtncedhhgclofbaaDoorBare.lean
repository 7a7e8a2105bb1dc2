/- layercakeref1.Bare, Fine: the walks. -/
import Derived.Test.YtncedhhgclofbaaDoorBase
namespace Go.Proofs.YtncedhhgclofbaaDoor
open Go Go.RowKit

theorem bare_any (n : Int) (w : World) : Calls Tryd.prog 28 #[.int .i64 n] w fun e w' => e = .returned (.agg #[.int .i64 n, .int .i64 (-1)]) ∧ Below w.heap.size w w' := by
  go_enter Tryd.func28, Tryd.ntmps28
  go_wp2_with fail
  exact bodyPost_ret (v := .agg #[.int .i64 n, .int .i64 (-1)]) (by simp [results, Tryd.results28, go_sem]) rfl ⟨rfl, by go_grown⟩
theorem fine_any (w : World) : Calls Tryd.prog 36 #[] w fun e w' => e = .returned (.agg #[.int .i64 0, .int .i64 (-1)]) ∧ Below w.heap.size w w' := by
  go_enter Tryd.func36, Tryd.ntmps36
  go_wp2_with fail
  exact bodyPost_ret (v := .agg #[.int .i64 0, .int .i64 (-1)]) (by simp [results, Tryd.results36, go_sem]) rfl ⟨rfl, by go_grown⟩
end Go.Proofs.YtncedhhgclofbaaDoor
