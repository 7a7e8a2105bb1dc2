/- pixel's blends; the closure of Over: the walks. -/
import Derived.Test.YtfadnkfceggjaaaDoorPix1
import Derived.BigQuiet
import Derived.Deep.QuietTactic
namespace Go.Proofs.YtfadnkfceggjaaaDoor
open Go Go.RowKit

theorem blend0_eq (s d : Int) : Pix.blend 0 s d = 255 * s := by simp [Pix.blend]
theorem blend0_any (s d : Int) (w : World) (s1 : 0 ≤ s) (s2 : s ≤ 255) (d1 : 0 ≤ d) (d2 : d ≤ 255) :
    Calls Tryd.prog 101 #[.int .i64 s, .int .i64 d] w fun e w' => e = .returned (.int .i64 (Pix.blend 0 s d)) ∧ w' = w := by
  obtain ⟨p1, p2, p3⟩ := Pix.mul_byte s1 s2 d1 d2
  have HE := Lib.hid (blend0_eq s d)
  go_enter Tryd.func101, Tryd.ntmps101
  go_wp2
  all_goals go_ret
  all_goals exact ⟨by rw [HE.out]; first | rfl | (simp; omega), rfl⟩
theorem blend1_eq (s d : Int) : Pix.blend 1 s d = s * d := by simp [Pix.blend]
theorem blend1_any (s d : Int) (w : World) (s1 : 0 ≤ s) (s2 : s ≤ 255) (d1 : 0 ≤ d) (d2 : d ≤ 255) :
    Calls Tryd.prog 102 #[.int .i64 s, .int .i64 d] w fun e w' => e = .returned (.int .i64 (Pix.blend 1 s d)) ∧ w' = w := by
  obtain ⟨p1, p2, p3⟩ := Pix.mul_byte s1 s2 d1 d2
  have HE := Lib.hid (blend1_eq s d)
  go_enter Tryd.func102, Tryd.ntmps102
  go_wp2
  all_goals go_ret
  all_goals exact ⟨by rw [HE.out]; first | rfl | (simp; omega), rfl⟩
theorem blend2_eq (s d : Int) : Pix.blend 2 s d = 255 * (s + d) - s * d := by simp [Pix.blend]
theorem blend2_any (s d : Int) (w : World) (s1 : 0 ≤ s) (s2 : s ≤ 255) (d1 : 0 ≤ d) (d2 : d ≤ 255) :
    Calls Tryd.prog 103 #[.int .i64 s, .int .i64 d] w fun e w' => e = .returned (.int .i64 (Pix.blend 2 s d)) ∧ w' = w := by
  obtain ⟨p1, p2, p3⟩ := Pix.mul_byte s1 s2 d1 d2
  have HE := Lib.hid (blend2_eq s d)
  go_enter Tryd.func103, Tryd.ntmps103
  go_wp2
  all_goals go_ret
  all_goals exact ⟨by rw [HE.out]; first | rfl | (simp; omega), rfl⟩
theorem blend3_eq (s d : Int) : Pix.blend 3 s d = 255 * min s d := by simp [Pix.blend]
theorem blend3_any (s d : Int) (w : World) (s1 : 0 ≤ s) (s2 : s ≤ 255) (d1 : 0 ≤ d) (d2 : d ≤ 255) :
    Calls Tryd.prog 104 #[.int .i64 s, .int .i64 d] w fun e w' => e = .returned (.int .i64 (Pix.blend 3 s d)) ∧ w' = w := by
  obtain ⟨p1, p2, p3⟩ := Pix.mul_byte s1 s2 d1 d2
  have HE := Lib.hid (blend3_eq s d)
  go_enter Tryd.func104, Tryd.ntmps104
  go_wp2
  all_goals go_ret
  all_goals exact ⟨by rw [HE.out]; first | rfl | (simp; omega), rfl⟩
theorem blend4_eq (s d : Int) : Pix.blend 4 s d = 255 * max s d := by simp [Pix.blend]
theorem blend4_any (s d : Int) (w : World) (s1 : 0 ≤ s) (s2 : s ≤ 255) (d1 : 0 ≤ d) (d2 : d ≤ 255) :
    Calls Tryd.prog 105 #[.int .i64 s, .int .i64 d] w fun e w' => e = .returned (.int .i64 (Pix.blend 4 s d)) ∧ w' = w := by
  obtain ⟨p1, p2, p3⟩ := Pix.mul_byte s1 s2 d1 d2
  have HE := Lib.hid (blend4_eq s d)
  go_enter Tryd.func105, Tryd.ntmps105
  go_wp2
  all_goals go_ret
  all_goals exact ⟨by rw [HE.out]; first | rfl | (simp; omega), rfl⟩
theorem blend5_eq (s d : Int) : Pix.blend 5 s d = 255 * max (s - d) (d - s) := by simp [Pix.blend]
theorem blend5_any (s d : Int) (w : World) (s1 : 0 ≤ s) (s2 : s ≤ 255) (d1 : 0 ≤ d) (d2 : d ≤ 255) :
    Calls Tryd.prog 106 #[.int .i64 s, .int .i64 d] w fun e w' => e = .returned (.int .i64 (Pix.blend 5 s d)) ∧ w' = w := by
  obtain ⟨p1, p2, p3⟩ := Pix.mul_byte s1 s2 d1 d2
  have HE := Lib.hid (blend5_eq s d)
  go_enter Tryd.func106, Tryd.ntmps106
  go_wp2
  all_goals go_ret
  all_goals exact ⟨by rw [HE.out]; first | rfl | (simp; omega), rfl⟩
end Go.Proofs.YtfadnkfceggjaaaDoor
