/- Side, Right, Near, In of the reference: the walks. -/
import Derived.Test.YtlpcmeodbigpjaaDoorBase
namespace Go.Proofs.YtlpcmeodbigpjaaDoor
open Go Go.RowKit

theorem pside_any (n : Int) (w : World) : Calls Tryd.prog 21 #[.int .i64 n] w fun e w' => e = .returned (.bool (sideB n)) ∧ w = w' := by
  go_enter Tryd.func21, Tryd.ntmps21
  go_wp2
  all_goals go_ret
  all_goals exact ⟨by first | (simp [sideB, *]; done) | (simp [sideB, *]; omega), rfl⟩

theorem pright_any (W H : Int) (A : Option Addr) (n c : Nat) (w : World) :
    Calls Tryd.prog 8 #[.agg #[.int .i64 W, .int .i64 H, .slice A n c]] w fun e w' => e = .returned (.bool (rightB W H n)) ∧ Below w.heap.size w w' := by
  cases hW : sideB W with
  | false =>
    have hr : rightB W H n = false := by simp [rightB, hW]
    go_enter Tryd.func8, Tryd.ntmps8
    go_wp2_with (go_at_call 21; refine (pside_any _ _).mono ?_; rintro e w' ⟨rfl, rfl⟩)
    go_ret
    exact ⟨by rw [hr]; rfl, by go_grown⟩
  | true =>
    cases hH : sideB H with
    | false =>
      have hr : rightB W H n = false := by simp [rightB, hW, hH]
      go_enter Tryd.func8, Tryd.ntmps8
      go_wp2_with (go_at_call 21; refine (pside_any _ _).mono ?_; rintro e w' ⟨rfl, rfl⟩)
      go_ret
      exact ⟨by rw [hr]; rfl, by go_grown⟩
    | true =>
      have hm := mul_side hW hH
      have hr := Lib.hid (show rightB W H n = ((n : Int) == W * H) by simp [rightB, hW, hH])
      go_enter Tryd.func8, Tryd.ntmps8
      go_wp2_with (go_at_call 21; refine (pside_any _ _).mono ?_; rintro e w' ⟨rfl, rfl⟩)
      go_ret
      exact ⟨by rw [hr.out]; rfl, by go_grown⟩


end Go.Proofs.YtlpcmeodbigpjaaDoor
