/- Closed facts of the program, for every row: what is lifted. -/
import Derived.Test.YtfadnkfceggjaaaDoorRows
import Derived.ProofKit
import Derived.KernelRfl
namespace Go.Proofs.YtfadnkfceggjaaaDoor.fact
open Go
theorem lifts : (Rows.layerHiddenRow.lifted == Tryd.prog.liftsFinal) = true := by kernel_rfl
end Go.Proofs.YtfadnkfceggjaaaDoor.fact
