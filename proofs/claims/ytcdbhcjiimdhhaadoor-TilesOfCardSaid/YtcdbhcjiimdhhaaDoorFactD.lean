/- Closed facts of the program, for every card: its looks. -/
import Derived.Test.YtcdbhcjiimdhhaaDoorCards
import Derived.ProofKit
import Derived.KernelRfl
namespace Go.Proofs.YtcdbhcjiimdhhaaDoor.fact
open Go
theorem looks : Tryd.pinned.checked.prog.looks [] = true := by kernel_rfl
theorem main : Tryd.pinned.checked.prog.mainIs = some (true, "871d276ebb2970bb9039264786848ac84c6f4ed073c682e5383382b043cb05d1".toList) := by kernel_rfl
end Go.Proofs.YtcdbhcjiimdhhaaDoor.fact
