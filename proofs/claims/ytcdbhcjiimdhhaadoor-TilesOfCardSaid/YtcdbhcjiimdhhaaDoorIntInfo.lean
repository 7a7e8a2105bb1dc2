/- The row of int in the table of types. -/
import Derived.Test.YtcdbhcjiimdhhaaDoorProg
import Derived.KernelRfl
namespace Go.Proofs.YtcdbhcjiimdhhaaDoor
open Go
theorem intInfo : (Tryd.prog.info? 3).map (fun i => (i.zero, i.size, i.bytes)) = some (some (.int .i64 0), 1, 8) := by kernel_rfl
end Go.Proofs.YtcdbhcjiimdhhaaDoor
