/- Closed facts of the program, for every row: what is lifted. -/
import Derived.Test.YtnciahoifehkdaaDoorRows
import Derived.ProofKit
import Derived.KernelRfl
namespace Go.Proofs.YtnciahoifehkdaaDoor.fact
open Go
theorem lifts : (Rows.colorsNearerRow.lifted == Tryd.prog.liftsFinal) = true := by kernel_rfl
end Go.Proofs.YtnciahoifehkdaaDoor.fact
