/- Side, Right, Near, In of the reference: the walks. -/
import Derived.Test.YtmknacnmdlcieaaGreatDoorBase
namespace Go.Proofs.YtmknacnmdlcieaaGreatDoor
open Go Go.RowKit

theorem pside_any (n : Int) (w : World) : Calls Tryz.prog 24 #[.int .i64 n] w fun e w' => e = .returned (.bool (sideB n)) ∧ w = w' := by
  go_enter Tryz.func24, Tryz.ntmps24
  go_wp2
  all_goals go_ret
  all_goals exact ⟨by first | (simp [sideB, *]; done) | (simp [sideB, *]; omega), rfl⟩

theorem pright_any (W H : Int) (A : Option Addr) (n c : Nat) (w : World) :
    Calls Tryz.prog 28 #[.agg #[.int .i64 W, .int .i64 H, .slice A n c]] w fun e w' => e = .returned (.bool (rightB W H n)) ∧ Below w.heap.size w w' := by
  cases hW : sideB W with
  | false =>
    have hr : rightB W H n = false := by simp [rightB, hW]
    go_enter Tryz.func28, Tryz.ntmps28
    go_wp2_with (go_at_call 24; refine (pside_any _ _).mono ?_; rintro e w' ⟨rfl, rfl⟩)
    go_ret
    exact ⟨by rw [hr]; rfl, by go_grown⟩
  | true =>
    cases hH : sideB H with
    | false =>
      have hr : rightB W H n = false := by simp [rightB, hW, hH]
      go_enter Tryz.func28, Tryz.ntmps28
      go_wp2_with (go_at_call 24; refine (pside_any _ _).mono ?_; rintro e w' ⟨rfl, rfl⟩)
      go_ret
      exact ⟨by rw [hr]; rfl, by go_grown⟩
    | true =>
      have hm := mul_side hW hH
      have hr := Lib.hid (show rightB W H n = ((n : Int) == W * H) by simp [rightB, hW, hH])
      go_enter Tryz.func28, Tryz.ntmps28
      go_wp2_with (go_at_call 24; refine (pside_any _ _).mono ?_; rintro e w' ⟨rfl, rfl⟩)
      go_ret
      exact ⟨by rw [hr.out]; rfl, by go_grown⟩

theorem near_any (n : Int) (w : World) : Calls Tryz.prog 26 #[.int .i64 n] w fun e w' => e = .returned (.bool (nearB n)) ∧ w = w' := by
  go_enter Tryz.func26, Tryz.ntmps26
  go_wp2
  all_goals go_ret
  all_goals exact ⟨by first | (simp [nearB, *]; done) | (simp [nearB, *]; omega), rfl⟩

set_option maxRecDepth 100000 in
theorem inRef_any (W H x y : Int) (A : Option Addr) (n c : Nat) (w : World) :
    Calls Tryz.prog 70 #[.agg #[.int .i64 W, .int .i64 H, .slice A n c], .int .i64 x, .int .i64 y] w fun e w' => e = .returned (.bool (Lay.inP W H x y)) ∧ Below w.heap.size w w' := by
  rcases (show x < 0 ∨ (0 ≤ x ∧ y < 0) ∨ (0 ≤ x ∧ 0 ≤ y ∧ W ≤ x) ∨ (0 ≤ x ∧ 0 ≤ y ∧ x < W ∧ H ≤ y) ∨ (0 ≤ x ∧ 0 ≤ y ∧ x < W ∧ y < H) by omega) with h1 | ⟨h1, h2⟩ | ⟨h1, h2, h3⟩ | ⟨h1, h2, h3, h4⟩ | ⟨h1, h2, h3, h4⟩
  all_goals
    go_enter Tryz.func70, Tryz.ntmps70
    go_wp2_with fail
    go_ret
  all_goals exact ⟨by first | (simp [Lay.inP]; done) | (simp [Lay.inP]; omega), by go_grown⟩
end Go.Proofs.YtmknacnmdlcieaaGreatDoor
