/- coded, at nil and at a sentinel: the walk. -/
import Derived.Test.YthohmpjoeffckaaGreatDoorEr4
namespace Go.Proofs.YthohmpjoeffckaaGreatDoor
open Go Go.RowKit

theorem coded_nil (c : Int) (w : World) : Calls Tryz.prog 15 #[.nilIface, .int .i64 c] w fun e w' => e = .returned (.bool (decide ((0 : Int) = c))) ∧ w' = w := by
  go_enter Tryz.func15, Tryz.ntmps15
  go_wp2_with fail
  refine (code_nil w).mono ?_
  rintro e w1 ⟨rfl, rfl⟩
  go_wp2
  all_goals go_ret
  all_goals exact ⟨by first | rfl | (simp; done) | (simp; omega), rfl⟩

theorem coded_sent (E : Nat → Addr) (i : Nat) (hi9 : i < 9) (c : Int) (w : World) (hE : ErrsAt w E) :
    Calls Tryz.prog 15 #[.iface 230 (.pointer (some (E i))), .int .i64 c] w fun e w' => e = .returned (.bool (decide ((i : Int) + 1 = c))) ∧ Below w.heap.size w w' := by
  go_enter Tryz.func15, Tryz.ntmps15
  go_wp2_with fail
  refine (code_sent E i hi9 w hE).mono ?_
  rintro e w1 ⟨rfl, hb⟩
  by_cases hc : (i : Int) + 1 = c
  · subst hc
    go_wp2
    all_goals go_ret
    all_goals exact ⟨by first | rfl | (simp; done) | (simp; omega), hb⟩
  · go_wp2
    all_goals go_ret
    all_goals exact ⟨by first | rfl | (simp; done) | (simp; omega), hb⟩
end Go.Proofs.YthohmpjoeffckaaGreatDoor
