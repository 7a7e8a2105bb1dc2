/- Closed facts of the program, for every row: the types' table. -/
import Derived.Test.YtmimdckcbmmplaaGreatDoorChecked
import Derived.ProofKit
import Derived.KernelRfl
import Derived.JoinedOf
namespace Go.Proofs.YtmimdckcbmmplaaGreatDoor.fact
open Go
theorem laidOut : laidOutB Tryz.prog = true := by kernel_rfl
theorem rowed : mapsRowed Tryz.prog = true := by kernel_rfl
theorem own : ownKnob Tryz.prog.godebug = none := by kernel_rfl
theorem stopsHeard : Tryz.prog.stopsHeard = true := by kernel_rfl
theorem plainKeys : Tryz.prog.plainKeys = false := by kernel_rfl
end Go.Proofs.YtmimdckcbmmplaaGreatDoor.fact
