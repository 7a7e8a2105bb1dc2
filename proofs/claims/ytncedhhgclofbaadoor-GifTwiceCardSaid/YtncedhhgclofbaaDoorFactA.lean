/- Closed facts of the program, for every row: the types' table. -/
import Derived.Test.YtncedhhgclofbaaDoorChecked
import Derived.ProofKit
import Derived.KernelRfl
import Derived.JoinedOf
namespace Go.Proofs.YtncedhhgclofbaaDoor.fact
open Go
theorem laidOut : laidOutB Tryd.prog = true := by kernel_rfl
theorem rowed : mapsRowed Tryd.prog = true := by kernel_rfl
theorem own : ownKnob Tryd.prog.godebug = none := by kernel_rfl
theorem stopsHeard : Tryd.prog.stopsHeard = true := by kernel_rfl
theorem plainKeys : Tryd.prog.plainKeys = false := by kernel_rfl
end Go.Proofs.YtncedhhgclofbaaDoor.fact
