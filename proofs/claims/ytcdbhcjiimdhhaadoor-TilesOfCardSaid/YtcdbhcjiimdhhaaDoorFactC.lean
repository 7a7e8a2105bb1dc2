/- Closed facts of the program, for every row: what is lifted. -/
import Derived.Test.YtcdbhcjiimdhhaaDoorRows
import Derived.ProofKit
import Derived.KernelRfl
namespace Go.Proofs.YtcdbhcjiimdhhaaDoor.fact
open Go
theorem lifts : (Rows.tilesOfRow.lifted == Tryd.prog.liftsFinal) = true := by kernel_rfl
end Go.Proofs.YtcdbhcjiimdhhaaDoor.fact
