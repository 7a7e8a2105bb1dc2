/- pixel.round, Mode, Fade; the reference's rounded, FadeOf, IsMode: the walks. -/
import Derived.Test.YtfadnkfceggjaaaDoorPixLaw
import Derived.Test.YtfadnkfceggjaaaDoorBase
import Derived.IntWalk
namespace Go.Proofs.YtfadnkfceggjaaaDoor
open Go Go.RowKit

theorem rnd_bounds (n d : Int) (h0 : 0 ≤ n) (hd : 0 < d) (hb : n ≤ d * 255) : 0 ≤ (2 * n + d) / (2 * d) ∧ (2 * n + d) / (2 * d) ≤ 255 := ⟨Pix.rnd_nonneg n d h0 hd, Pix.rnd_le n d 255 hd hb⟩
theorem round_any (n d : Int) (m : UInt8) (w : World) (hm : Pix.u8 (Pix.rnd n d) = m) (h0 : 0 ≤ n) (hd : 0 < d) (hb : n ≤ d * 255) (hbig : d ≤ 1000000000) :
    Calls Tryd.prog 86 #[.int .i64 n, .int .i64 d] w fun e w' => e = .returned (.int .u8 m.toNat) ∧ w' = w := by
  obtain ⟨b0, b1⟩ := rnd_bounds n d h0 hd hb
  have he : (m.toNat : Int) = (2 * n + d) / (2 * d) := by rw [← hm]; exact Pix.u8_toNat b0 b1
  have HE := Lib.hid he
  clear he hm
  go_enter Tryd.func86, Tryd.ntmps86
  go_wp2
  go_ret
  exact ⟨by rw [HE.out]; rfl, rfl⟩
theorem rounded_any (n d r : Int) (w : World) (hr : Pix.rnd n d = r) (h0 : 0 ≤ n) (hd : 0 < d) (hbig : n ≤ 1000000000000) (hdb : d ≤ 1000000000) :
    Calls Tryd.prog 73 #[.int .i64 n, .int .i64 d] w fun e w' => e = .returned (.int .i64 r) ∧ w' = w := by
  have hq := Pix.rnd_ref n d hd
  rw [hr] at hq
  clear hr
  have q0 : 0 ≤ n / d := Int.ediv_nonneg h0 (by omega)
  have q2 : n / d * d ≤ n := Int.ediv_mul_le n (by omega)
  have q3 : 0 ≤ n / d * d := Int.mul_nonneg q0 (by omega)
  have q1 : n / d ≤ 1000000000000 := by have := Int.ediv_le_self d h0; omega
  have hd0 : d ≠ 0 := by omega
  by_cases h : d ≤ 2 * (n - n / d * d)
  · rw [if_pos h] at hq
    have HE := Lib.hid hq
    clear hq
    go_enter Tryd.func73, Tryd.ntmps73
    go_wp2
    go_ret
    exact ⟨by rw [← HE.out]; rfl, rfl⟩
  · rw [if_neg h] at hq
    have HE := Lib.hid hq
    clear hq
    go_enter Tryd.func73, Tryd.ntmps73
    go_wp2
    go_ret
    exact ⟨by rw [← HE.out]; rfl, rfl⟩

def modeB (m : Int) : Bool := decide (0 ≤ m) && decide (m < 6)
theorem modeB_true {m : Int} (h : modeB m = true) : 0 ≤ m ∧ m < 6 := by simpa [modeB] using h
theorem mode_any (m : Int) (w : World) : Calls Tryd.prog 48 #[.int .i64 m] w fun e w' => e = .returned (.bool (modeB m)) ∧ w = w' := by
  go_enter Tryd.func48, Tryd.ntmps48
  go_wp2
  all_goals go_ret
  all_goals exact ⟨by first | (simp [modeB, *]; done) | (simp [modeB, *]; omega), rfl⟩
theorem isMode_any (m : Int) (w : World) : Calls Tryd.prog 36 #[.int .i64 m] w fun e w' => e = .returned (.bool (modeB m)) ∧ w = w' := by
  go_enter Tryd.func36, Tryd.ntmps36
  go_wp2
  all_goals go_ret
  all_goals exact ⟨by first | (simp [modeB, *]; done) | (simp [modeB, *]; omega), rfl⟩

set_option maxRecDepth 100000 in
theorem fade_any (p : Px) (o : Int) (w : World) (h0 : 0 ≤ o) (h1 : o ≤ 255) :
    Calls Tryd.prog 64 #[pxV p, .int .i64 o] w fun e w' => e = .returned (.tuple #[pxV (Pix.fade p o), .nilIface]) ∧ Below w.heap.size w w' := by
  obtain ⟨a1, a2⟩ := Pix.a_nonneg p.a
  obtain ⟨m1, m2, m3⟩ := Pix.mul_byte a1 a2 h0 h1
  obtain ⟨m, hm⟩ : ∃ m, Pix.u8 (Pix.rnd (p.a.toNat * o) 255) = m := ⟨_, rfl⟩
  obtain ⟨b0, b1⟩ := rnd_bounds (p.a.toNat * o) 255 m1 (by omega) (by omega)
  have ht : (m.toNat : Int) = Pix.rnd (p.a.toNat * o) 255 := by rw [← hm]; exact Pix.u8_toNat b0 b1
  have HM := Lib.hid hm
  by_cases hz : Pix.rnd (p.a.toNat * o) 255 = 0
  · have HF := Lib.hid (show Pix.fade p o = Pix.nil by rw [Pix.fade, if_pos hz])
    rw [hz] at ht
    have hm0 : m = 0 := Pix.a_zero ht
    subst hm0
    clear hm hz ht b0 b1
    unfold pxV
    go_enter Tryd.func64, Tryd.ntmps64
    go_wp2_with fail
    refine (round_any (p.a.toNat * o) 255 0 _ HM.out m1 (by omega) (by omega) (by omega)).mono ?_
    rintro e w1 ⟨rfl, rfl⟩
    go_wp2_with fail
    refine bodyPost_ret (v := .tuple #[.agg #[.int .u8 0, .int .u8 0, .int .u8 0, .int .u8 0], .nilIface]) (by simp [results, Tryd.results64, go_sem]) rfl ⟨by rw [HF.out]; rfl, by go_grown⟩
  · have HF := Lib.hid (show Pix.fade p o = ⟨p.r, p.g, p.b, m⟩ by rw [Pix.fade, if_neg hz, hm])
    have hm0 : ¬ (m.toNat : Int) = 0 := by rw [ht]; exact hz
    clear hm hz ht b0 b1
    unfold pxV
    go_enter Tryd.func64, Tryd.ntmps64
    go_wp2_with fail
    refine (round_any (p.a.toNat * o) 255 m _ HM.out m1 (by omega) (by omega) (by omega)).mono ?_
    rintro e w1 ⟨rfl, rfl⟩
    go_wp2_with fail
    refine bodyPost_ret (v := .tuple #[.agg #[.int .u8 p.r.toNat, .int .u8 p.g.toNat, .int .u8 p.b.toNat, .int .u8 m.toNat], .nilIface]) (by simp [results, Tryd.results64, go_sem]) rfl ⟨by rw [HF.out], by go_grown⟩
end Go.Proofs.YtfadnkfceggjaaaDoor
