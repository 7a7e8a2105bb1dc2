/- The distance of two colors: the walk. -/
import Derived.Test.YtlpcmeodbigpjaaDoorProg
import Derived.Test.YtlpcmeodbigpjaaDoorMem
import Derived.Test.YtlpcmeodbigpjaaDoorColorLaw
import Derived.WalkKit
import Derived.WalkSpells
import Derived.WalkLawsBesides
import Derived.Handy
import Derived.Deep.QuietTactic
import Derived.BigQuiet
namespace Go.Proofs.YtlpcmeodbigpjaaDoor
open Go Go.RowKit

theorem far1_any (x y : UInt8) (w : World) :
    Calls Tryd.prog 45 #[.int .u8 x.toNat, .int .u8 y.toNat] w fun e w' => e = .returned (.int .i64 (Col.sq x y)) ∧ w' = w := by
  have hx := x.toNat_lt
  have hy := y.toNat_lt
  have hs0 := Col.sq_nonneg x y
  have hs1 := Col.sq_le x y
  unfold Col.sq at hs0 hs1 ⊢
  go_enter Tryd.func45, Tryd.ntmps45
  go_wp2
  go_ret
  exact ⟨rfl, rfl⟩

theorem far_any (xr xg xb xa yr yg yb ya : UInt8) (w : World) :
    Calls Tryd.prog 37 #[.agg #[.int .u8 xr.toNat, .int .u8 xg.toNat, .int .u8 xb.toNat, .int .u8 xa.toNat], .agg #[.int .u8 yr.toNat, .int .u8 yg.toNat, .int .u8 yb.toNat, .int .u8 ya.toNat]] w
      fun e w' => e = .returned (.int .i64 (Col.far ⟨xr, xg, xb, xa⟩ ⟨yr, yg, yb, ya⟩)) ∧ Below w.heap.size w w' := by
  have r0 := Col.sq_nonneg xr yr
  have r1 := Col.sq_le xr yr
  have g0 := Col.sq_nonneg xg yg
  have g1 := Col.sq_le xg yg
  have b0 := Col.sq_nonneg xb yb
  have b1 := Col.sq_le xb yb
  have a0 := Col.sq_nonneg xa ya
  have a1 := Col.sq_le xa ya
  unfold Col.far
  dsimp only
  go_enter Tryd.func37, Tryd.ntmps37
  go_wp2
  go_quiet ((go_at_call 45; exact Calls.quiet_of_same (far1_any _ _ _)))
  go_wp2
  go_ret
  exact ⟨rfl, below_drewN (by go_grown) _⟩
end Go.Proofs.YtlpcmeodbigpjaaDoor
