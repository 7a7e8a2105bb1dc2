/- Closed facts of the program, for every row: what may be entered. -/
import Derived.Test.YtcdbhcjiimdhhaaDoorChecked
import Derived.ProofKit
import Derived.KernelRfl
namespace Go.Proofs.YtcdbhcjiimdhhaaDoor.fact
open Go
theorem mayEnter : Tryd.prog.mayEnter = true := by kernel_rfl
end Go.Proofs.YtcdbhcjiimdhhaaDoor.fact
