/- Closed facts of the program, for every card: its looks. -/
import Derived.Test.YtfadnkfceggjaaaDoorCards
import Derived.ProofKit
import Derived.KernelRfl
namespace Go.Proofs.YtfadnkfceggjaaaDoor.fact
open Go
theorem looks : Tryd.pinned.checked.prog.looks [] = true := by kernel_rfl
theorem main : Tryd.pinned.checked.prog.mainIs = some (true, "da49e4da09db004c50752b4e58eb0e8ef2a7ec20925485b3d774d9f9374cf32c".toList) := by kernel_rfl
end Go.Proofs.YtfadnkfceggjaaaDoor.fact
