/- The reference's FadeOf, Near, In, at, blend: the walks. -/
import Derived.Test.YtmknacnmdlcieaaGreatDoorPix4
import Derived.Test.YtmknacnmdlcieaaGreatDoorPix1
import Derived.Test.YtmknacnmdlcieaaGreatDoorBase
namespace Go.Proofs.YtmknacnmdlcieaaGreatDoor
open Go Go.RowKit

set_option maxRecDepth 100000 in
theorem fadeOf_any (p : Px) (o : Int) (w : World) (h0 : 0 ≤ o) (h1 : o ≤ 255) :
    Calls Tryz.prog 57 #[pxV p, .int .i64 o] w fun e w' => e = .returned (pxV (Pix.fade p o)) ∧ Below w.heap.size w w' := by
  obtain ⟨a1, a2⟩ := Pix.a_nonneg p.a
  obtain ⟨m1, m2, m3⟩ := Pix.mul_byte a1 a2 h0 h1
  obtain ⟨r, hr⟩ : ∃ r, Pix.rnd (p.a.toNat * o) 255 = r := ⟨_, rfl⟩
  have r0 : 0 ≤ r := by rw [← hr]; exact Pix.rnd_nonneg _ _ m1 (by omega)
  have r1 : r ≤ 255 := by rw [← hr]; exact Pix.rnd_le _ _ _ (by omega) (by omega)
  have HR := Lib.hid hr
  by_cases hz : r = 0
  · have HF := Lib.hid (show Pix.fade p o = Pix.nil by rw [Pix.fade, if_pos (by rw [hr]; exact hz)])
    subst hz
    clear hr
    unfold pxV
    go_enter Tryz.func57, Tryz.ntmps57
    go_wp2_with fail
    refine (rounded_any (p.a.toNat * o) 255 0 _ HR.out m1 (by omega) (by omega) (by omega)).mono ?_
    rintro e w1 ⟨rfl, rfl⟩
    go_wp2_with fail
    refine bodyPost_ret (v := .agg #[.int .u8 0, .int .u8 0, .int .u8 0, .int .u8 0]) (by simp [results, Tryz.results57, go_sem]) rfl ⟨by rw [HF.out]; rfl, by go_grown⟩
  · have hm : ((Pix.u8 r).toNat : Int) = r := Pix.u8_toNat r0 r1
    have HF := Lib.hid (show Pix.fade p o = ⟨p.r, p.g, p.b, Pix.u8 r⟩ by rw [Pix.fade, if_neg (by rw [hr]; exact hz), hr])
    have HM := Lib.hid hm
    clear hr hm
    unfold pxV
    go_enter Tryz.func57, Tryz.ntmps57
    go_wp2_with fail
    refine (rounded_any (p.a.toNat * o) 255 r _ HR.out m1 (by omega) (by omega) (by omega)).mono ?_
    rintro e w1 ⟨rfl, rfl⟩
    go_wp2_with fail
    refine bodyPost_ret (v := .agg #[.int .u8 p.r.toNat, .int .u8 p.g.toNat, .int .u8 p.b.toNat, .int .u8 r]) (by simp [results, Tryz.results57, go_sem]) rfl ⟨by rw [HF.out]; simp only [HM.out], by go_grown⟩

theorem cnear_any (n : Int) (w : World) : Calls Tryz.prog 47 #[.int .i64 n] w fun e w' => e = .returned (.bool (nearB n)) ∧ w = w' := by
  go_enter Tryz.func47, Tryz.ntmps47
  go_wp2
  all_goals go_ret
  all_goals exact ⟨by first | (simp [nearB, *]; done) | (simp [nearB, *]; omega), rfl⟩
theorem cside_any (n : Int) (w : World) : Calls Tryz.prog 46 #[.int .i64 n] w fun e w' => e = .returned (.bool (sideB n)) ∧ w = w' := by
  go_enter Tryz.func46, Tryz.ntmps46
  go_wp2
  all_goals go_ret
  all_goals exact ⟨by first | (simp [sideB, *]; done) | (simp [sideB, *]; omega), rfl⟩
end Go.Proofs.YtmknacnmdlcieaaGreatDoor
