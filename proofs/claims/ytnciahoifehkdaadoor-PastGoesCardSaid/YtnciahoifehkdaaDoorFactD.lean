/- Closed facts of the program, for every card: its looks. -/
import Derived.Test.YtnciahoifehkdaaDoorCards
import Derived.ProofKit
import Derived.KernelRfl
namespace Go.Proofs.YtnciahoifehkdaaDoor.fact
open Go
theorem looks : Tryd.pinned.checked.prog.looks [] = true := by kernel_rfl
theorem main : Tryd.pinned.checked.prog.mainIs = some (true, "89400b8503c4dbad725dc56058f723f6597ebd8926352d0926172ed6917b6ec7".toList) := by kernel_rfl
end Go.Proofs.YtnciahoifehkdaaDoor.fact
