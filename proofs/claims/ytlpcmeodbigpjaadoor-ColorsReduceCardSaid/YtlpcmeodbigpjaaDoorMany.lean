/- colors.many: the walk. -/
import Derived.Test.YtlpcmeodbigpjaaDoorBase
namespace Go.Proofs.YtlpcmeodbigpjaaDoor
open Go Go.RowKit

theorem many_any (n : Int) (w : World) : Calls Tryd.prog 16 #[.int .i64 n] w fun e w' => e = .returned (.bool (sideB n)) ∧ w = w' := by
  go_enter Tryd.func16, Tryd.ntmps16
  go_wp2
  all_goals go_ret
  all_goals exact ⟨by first | (simp [sideB, *]; done) | (simp [sideB, *]; omega), rfl⟩
end Go.Proofs.YtlpcmeodbigpjaaDoor
