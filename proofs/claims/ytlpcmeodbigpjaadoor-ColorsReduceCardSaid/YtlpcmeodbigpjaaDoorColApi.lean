/- colors.check, Far, Better. -/
import Derived.Test.YtlpcmeodbigpjaaDoorColBetter
import Derived.Test.YtlpcmeodbigpjaaDoorMany
namespace Go.Proofs.YtlpcmeodbigpjaaDoor
open Go Go.RowKit

theorem sideB_le {n : Nat} (h : sideB n = true) : 0 < n ∧ n ≤ 256 := by have := sideB_true h; omega
theorem rightB_le {W H : Int} {n : Nat} (h : rightB W H n = true) : n ≤ 65536 := (rightB_true h).2.2.2

/-- What check answers. -/
def chkV (W H : Int) (n n2 : Nat) (eS eB : Value) : Value := if rightB W H n = true then if sideB n2 = true then .nilIface else eB else eS




end Go.Proofs.YtlpcmeodbigpjaaDoor
