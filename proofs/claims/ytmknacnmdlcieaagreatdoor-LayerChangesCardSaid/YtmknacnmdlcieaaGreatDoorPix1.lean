/- pixel.round, Mode, Fade; the reference's rounded, FadeOf, IsMode: the walks. -/
import Derived.Test.YtmknacnmdlcieaaGreatDoorPix0
import Derived.IntWalk
namespace Go.Proofs.YtmknacnmdlcieaaGreatDoor
open Go Go.RowKit

set_option maxRecDepth 100000 in
theorem fade_any (p : Px) (o : Int) (w : World) (h0 : 0 ≤ o) (h1 : o ≤ 255) :
    Calls Tryz.prog 59 #[pxV p, .int .i64 o] w fun e w' => e = .returned (.tuple #[pxV (Pix.fade p o), .nilIface]) ∧ Below w.heap.size w w' := by
  obtain ⟨a1, a2⟩ := Pix.a_nonneg p.a
  obtain ⟨m1, m2, m3⟩ := Pix.mul_byte a1 a2 h0 h1
  obtain ⟨m, hm⟩ : ∃ m, Pix.u8 (Pix.rnd (p.a.toNat * o) 255) = m := ⟨_, rfl⟩
  obtain ⟨b0, b1⟩ := rnd_bounds (p.a.toNat * o) 255 m1 (by omega) (by omega)
  have ht : (m.toNat : Int) = Pix.rnd (p.a.toNat * o) 255 := by rw [← hm]; exact Pix.u8_toNat b0 b1
  have HM := Lib.hid hm
  by_cases hz : Pix.rnd (p.a.toNat * o) 255 = 0
  · have HF := Lib.hid (show Pix.fade p o = Pix.nil by rw [Pix.fade, if_pos hz])
    rw [hz] at ht
    have hm0 : m = 0 := Pix.a_zero ht
    subst hm0
    clear hm hz ht b0 b1
    unfold pxV
    go_enter Tryz.func59, Tryz.ntmps59
    go_wp2_with fail
    refine (round_any (p.a.toNat * o) 255 0 _ HM.out m1 (by omega) (by omega) (by omega)).mono ?_
    rintro e w1 ⟨rfl, rfl⟩
    go_wp2_with fail
    refine bodyPost_ret (v := .tuple #[.agg #[.int .u8 0, .int .u8 0, .int .u8 0, .int .u8 0], .nilIface]) (by simp [results, Tryz.results59, go_sem]) rfl ⟨by rw [HF.out]; rfl, by go_grown⟩
  · have HF := Lib.hid (show Pix.fade p o = ⟨p.r, p.g, p.b, m⟩ by rw [Pix.fade, if_neg hz, hm])
    have hm0 : ¬ (m.toNat : Int) = 0 := by rw [ht]; exact hz
    clear hm hz ht b0 b1
    unfold pxV
    go_enter Tryz.func59, Tryz.ntmps59
    go_wp2_with fail
    refine (round_any (p.a.toNat * o) 255 m _ HM.out m1 (by omega) (by omega) (by omega)).mono ?_
    rintro e w1 ⟨rfl, rfl⟩
    go_wp2_with fail
    refine bodyPost_ret (v := .tuple #[.agg #[.int .u8 p.r.toNat, .int .u8 p.g.toNat, .int .u8 p.b.toNat, .int .u8 m.toNat], .nilIface]) (by simp [results, Tryz.results59, go_sem]) rfl ⟨by rw [HF.out], by go_grown⟩
end Go.Proofs.YtmknacnmdlcieaaGreatDoor
