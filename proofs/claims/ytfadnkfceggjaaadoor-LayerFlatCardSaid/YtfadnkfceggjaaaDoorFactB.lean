/- Closed facts of the program, for every row: what may be entered. -/
import Derived.Test.YtfadnkfceggjaaaDoorChecked
import Derived.ProofKit
import Derived.KernelRfl
namespace Go.Proofs.YtfadnkfceggjaaaDoor.fact
open Go
theorem mayEnter : Tryd.prog.mayEnter = true := by kernel_rfl
end Go.Proofs.YtfadnkfceggjaaaDoor.fact
