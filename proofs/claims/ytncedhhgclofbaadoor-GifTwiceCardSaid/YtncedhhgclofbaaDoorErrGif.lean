/- Four error variables, out of a row's list that names them alone. -/
import Derived.Test.YtncedhhgclofbaaDoorErrEnv
import Derived.Test.YtncedhhgclofbaaDoorEr4
namespace Go.Proofs.YtncedhhgclofbaaDoor
open Go Go.RowKit Go.ChangeShapes

theorem er4_of {W : World} (h : laidMetH Tryd.prog Rows.gifTwiceRow.laid W) : ∃ E, Er4 W E := by
  obtain ⟨a0, a1, p0, p1, _, _, _⟩ := sent_pair h "layercake/api.ErrText" "layercake/api.ErrBound" [108, 97, 121, 101, 114, 99, 97, 107, 101, 58, 32, 116, 101, 120, 116] [108, 97, 121, 101, 114, 99, 97, 107, 101, 58, 32, 98, 111, 117, 110, 100] (by kernel_rfl) en.gErrText en.tErrText en.gErrBound en.tErrBound
  obtain ⟨a2, a6, p2, p6, _, _, _⟩ := sent_pair h "layercake/api.ErrShape" "layercake/api.ErrColors" [108, 97, 121, 101, 114, 99, 97, 107, 101, 58, 32, 115, 104, 97, 112, 101] [108, 97, 121, 101, 114, 99, 97, 107, 101, 58, 32, 99, 111, 108, 111, 114, 115] (by kernel_rfl) en.gErrShape en.tErrShape en.gErrColors en.tErrColors
  exact ⟨fun i => match i with | 0 => a0 | 1 => a1 | 2 => a2 | _ => a6, p0, p1, p2, p6⟩
end Go.Proofs.YtncedhhgclofbaaDoor
