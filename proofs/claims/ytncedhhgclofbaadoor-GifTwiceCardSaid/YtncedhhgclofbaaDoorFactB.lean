/- Closed facts of the program, for every row: what may be entered. Closed facts of the program, for every row: what is lifted. Closed facts of the program, for every card: its looks. -/
import Derived.Test.YtncedhhgclofbaaDoorChecked
import Derived.ProofKit
import Derived.KernelRfl
import Derived.Test.YtncedhhgclofbaaDoorRows
import Derived.Test.YtncedhhgclofbaaDoorCards
namespace Go.Proofs.YtncedhhgclofbaaDoor.fact
open Go
theorem mayEnter : Tryd.prog.mayEnter = true := by kernel_rfl
end Go.Proofs.YtncedhhgclofbaaDoor.fact
namespace Go.Proofs.YtncedhhgclofbaaDoor.fact
open Go
theorem lifts : (Rows.gifTwiceRow.lifted == Tryd.prog.liftsFinal) = true := by kernel_rfl
end Go.Proofs.YtncedhhgclofbaaDoor.fact
namespace Go.Proofs.YtncedhhgclofbaaDoor.fact
open Go
theorem looks : Tryd.pinned.checked.prog.looks [] = true := by kernel_rfl
theorem main : Tryd.pinned.checked.prog.mainIs = some (true, "e85ea50c8fdfa5dd24c812b17860d1f38a5f7bc05db340580b8e35ce99619195".toList) := by kernel_rfl
end Go.Proofs.YtncedhhgclofbaaDoor.fact
