/- Side, Right, Near, In of the reference: the walks. -/
import Derived.Test.YtncedhhgclofbaaDoorBase
namespace Go.Proofs.YtncedhhgclofbaaDoor
open Go Go.RowKit

theorem pside_any (n : Int) (w : World) : Calls Tryd.prog 64 #[.int .i64 n] w fun e w' => e = .returned (.bool (sideB n)) ∧ w = w' := by
  go_enter Tryd.func64, Tryd.ntmps64
  go_wp2
  all_goals go_ret
  all_goals exact ⟨by first | (simp [sideB, *]; done) | (simp [sideB, *]; omega), rfl⟩

theorem pright_any (W H : Int) (A : Option Addr) (n c : Nat) (w : World) :
    Calls Tryd.prog 48 #[.agg #[.int .i64 W, .int .i64 H, .slice A n c]] w fun e w' => e = .returned (.bool (rightB W H n)) ∧ Below w.heap.size w w' := by
  cases hW : sideB W with
  | false =>
    have hr : rightB W H n = false := by simp [rightB, hW]
    go_enter Tryd.func48, Tryd.ntmps48
    go_wp2_with (go_at_call 64; refine (pside_any _ _).mono ?_; rintro e w' ⟨rfl, rfl⟩)
    go_ret
    exact ⟨by rw [hr]; rfl, by go_grown⟩
  | true =>
    cases hH : sideB H with
    | false =>
      have hr : rightB W H n = false := by simp [rightB, hW, hH]
      go_enter Tryd.func48, Tryd.ntmps48
      go_wp2_with (go_at_call 64; refine (pside_any _ _).mono ?_; rintro e w' ⟨rfl, rfl⟩)
      go_ret
      exact ⟨by rw [hr]; rfl, by go_grown⟩
    | true =>
      have hm := mul_side hW hH
      have hr := Lib.hid (show rightB W H n = ((n : Int) == W * H) by simp [rightB, hW, hH])
      go_enter Tryd.func48, Tryd.ntmps48
      go_wp2_with (go_at_call 64; refine (pside_any _ _).mono ?_; rintro e w' ⟨rfl, rfl⟩)
      go_ret
      exact ⟨by rw [hr.out]; rfl, by go_grown⟩


end Go.Proofs.YtncedhhgclofbaaDoor
