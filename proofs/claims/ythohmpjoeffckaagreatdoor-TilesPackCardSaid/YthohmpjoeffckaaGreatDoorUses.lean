/- How often a color is used: plain, and its cells. -/
import Derived.Test.YthohmpjoeffckaaGreatDoorMem
import Derived.Test.YthohmpjoeffckaaGreatDoorPxKey
namespace Go.Proofs.YthohmpjoeffckaaGreatDoor
open Go Go.RowKit
namespace Col

def addUse : List (Px × Nat) → Px → List (Px × Nat)
  | [], x => [(x, 1)]
  | q :: r, x => if q.1 = x then (q.1, q.2 + 1) :: r else q :: addUse r x
def uses (ps : List Px) : List (Px × Nat) := ps.foldl addUse []

theorem uses_snoc (ps : List Px) (x : Px) : uses (ps ++ [x]) = addUse (uses ps) x := by simp [uses, List.foldl_append]
theorem uses_take (ps : List Px) (k : Nat) (hk : k < ps.length) : uses (ps.take (k + 1)) = addUse (uses (ps.take k)) ps[k] := by
  rw [List.take_succ_eq_append_getElem hk, uses_snoc]
end Col



end Go.Proofs.YthohmpjoeffckaaGreatDoor
