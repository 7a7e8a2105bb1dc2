/- Closed facts of the program, for every row: what may be entered. Closed facts of the program, for every row: what is lifted. Closed facts of the program, for every card: its looks. -/
import Derived.Test.YtcdbhcjiimdhhaaDoorChecked
import Derived.ProofKit
import Derived.KernelRfl
import Derived.Test.YtcdbhcjiimdhhaaDoorRows
import Derived.Test.YtcdbhcjiimdhhaaDoorCards
namespace Go.Proofs.YtcdbhcjiimdhhaaDoor.fact
open Go
theorem mayEnter : Tryd.prog.mayEnter = true := by kernel_rfl
end Go.Proofs.YtcdbhcjiimdhhaaDoor.fact
namespace Go.Proofs.YtcdbhcjiimdhhaaDoor.fact
open Go
theorem lifts : (Rows.tilesOfRow.lifted == Tryd.prog.liftsFinal) = true := by kernel_rfl
end Go.Proofs.YtcdbhcjiimdhhaaDoor.fact
namespace Go.Proofs.YtcdbhcjiimdhhaaDoor.fact
open Go
theorem looks : Tryd.pinned.checked.prog.looks [] = true := by kernel_rfl
theorem main : Tryd.pinned.checked.prog.mainIs = some (true, "871d276ebb2970bb9039264786848ac84c6f4ed073c682e5383382b043cb05d1".toList) := by kernel_rfl
end Go.Proofs.YtcdbhcjiimdhhaaDoor.fact
