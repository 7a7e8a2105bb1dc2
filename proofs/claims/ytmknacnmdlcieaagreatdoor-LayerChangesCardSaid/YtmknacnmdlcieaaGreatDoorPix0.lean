/- pixel.round, Mode; the reference's rounded, IsMode: the walks. -/
import Derived.Test.YtmknacnmdlcieaaGreatDoorPixLaw
import Derived.Test.YtmknacnmdlcieaaGreatDoorBase
import Derived.IntWalk
namespace Go.Proofs.YtmknacnmdlcieaaGreatDoor
open Go Go.RowKit

theorem rnd_bounds (n d : Int) (h0 : 0 ≤ n) (hd : 0 < d) (hb : n ≤ d * 255) : 0 ≤ (2 * n + d) / (2 * d) ∧ (2 * n + d) / (2 * d) ≤ 255 := ⟨Pix.rnd_nonneg n d h0 hd, Pix.rnd_le n d 255 hd hb⟩
theorem round_any (n d : Int) (m : UInt8) (w : World) (hm : Pix.u8 (Pix.rnd n d) = m) (h0 : 0 ≤ n) (hd : 0 < d) (hb : n ≤ d * 255) (hbig : d ≤ 1000000000) :
    Calls Tryz.prog 73 #[.int .i64 n, .int .i64 d] w fun e w' => e = .returned (.int .u8 m.toNat) ∧ w' = w := by
  obtain ⟨b0, b1⟩ := rnd_bounds n d h0 hd hb
  have he : (m.toNat : Int) = (2 * n + d) / (2 * d) := by rw [← hm]; exact Pix.u8_toNat b0 b1
  have HE := Lib.hid he
  clear he hm
  go_enter Tryz.func73, Tryz.ntmps73
  go_wp2
  go_ret
  exact ⟨by rw [HE.out]; rfl, rfl⟩
theorem rounded_any (n d r : Int) (w : World) (hr : Pix.rnd n d = r) (h0 : 0 ≤ n) (hd : 0 < d) (hbig : n ≤ 1000000000000) (hdb : d ≤ 1000000000) :
    Calls Tryz.prog 69 #[.int .i64 n, .int .i64 d] w fun e w' => e = .returned (.int .i64 r) ∧ w' = w := by
  have hq := Pix.rnd_ref n d hd
  rw [hr] at hq
  clear hr
  have q0 : 0 ≤ n / d := Int.ediv_nonneg h0 (by omega)
  have q2 : n / d * d ≤ n := Int.ediv_mul_le n (by omega)
  have q3 : 0 ≤ n / d * d := Int.mul_nonneg q0 (by omega)
  have q1 : n / d ≤ 1000000000000 := by have := Int.ediv_le_self d h0; omega
  have hd0 : d ≠ 0 := by omega
  by_cases h : d ≤ 2 * (n - n / d * d)
  · rw [if_pos h] at hq
    have HE := Lib.hid hq
    clear hq
    go_enter Tryz.func69, Tryz.ntmps69
    go_wp2
    go_ret
    exact ⟨by rw [← HE.out]; rfl, rfl⟩
  · rw [if_neg h] at hq
    have HE := Lib.hid hq
    clear hq
    go_enter Tryz.func69, Tryz.ntmps69
    go_wp2
    go_ret
    exact ⟨by rw [← HE.out]; rfl, rfl⟩

def modeB (m : Int) : Bool := decide (0 ≤ m) && decide (m < 6)
theorem modeB_true {m : Int} (h : modeB m = true) : 0 ≤ m ∧ m < 6 := by simpa [modeB] using h
theorem mode_any (m : Int) (w : World) : Calls Tryz.prog 50 #[.int .i64 m] w fun e w' => e = .returned (.bool (modeB m)) ∧ w = w' := by
  go_enter Tryz.func50, Tryz.ntmps50
  go_wp2
  all_goals go_ret
  all_goals exact ⟨by first | (simp [modeB, *]; done) | (simp [modeB, *]; omega), rfl⟩
theorem isMode_any (m : Int) (w : World) : Calls Tryz.prog 27 #[.int .i64 m] w fun e w' => e = .returned (.bool (modeB m)) ∧ w = w' := by
  go_enter Tryz.func27, Tryz.ntmps27
  go_wp2
  all_goals go_ret
  all_goals exact ⟨by first | (simp [modeB, *]; done) | (simp [modeB, *]; omega), rfl⟩
end Go.Proofs.YtmknacnmdlcieaaGreatDoor
