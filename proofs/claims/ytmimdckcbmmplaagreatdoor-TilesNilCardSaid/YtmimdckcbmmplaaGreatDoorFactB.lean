/- Closed facts of the program, for every row: what may be entered. Closed facts of the program, for every row: what is lifted. Closed facts of the program, for every card: its looks. -/
import Derived.Test.YtmimdckcbmmplaaGreatDoorChecked
import Derived.ProofKit
import Derived.KernelRfl
import Derived.Test.YtmimdckcbmmplaaGreatDoorRows
import Derived.Test.YtmimdckcbmmplaaGreatDoorCards
namespace Go.Proofs.YtmimdckcbmmplaaGreatDoor.fact
open Go
theorem mayEnter : Tryz.prog.mayEnter = true := by kernel_rfl
end Go.Proofs.YtmimdckcbmmplaaGreatDoor.fact
namespace Go.Proofs.YtmimdckcbmmplaaGreatDoor.fact
open Go
theorem lifts : (Rows.tilesNilRow.lifted == Tryz.prog.liftsFinal) = true := by kernel_rfl
end Go.Proofs.YtmimdckcbmmplaaGreatDoor.fact
namespace Go.Proofs.YtmimdckcbmmplaaGreatDoor.fact
open Go
theorem looks : Tryz.pinned.checked.prog.looks [] = true := by kernel_rfl
theorem main : Tryz.pinned.checked.prog.mainIs = some (true, "4b964e959416910690971fa89aa029f48c6e68d58cdc2536e793f0b2e464dc62".toList) := by kernel_rfl
end Go.Proofs.YtmimdckcbmmplaaGreatDoor.fact
