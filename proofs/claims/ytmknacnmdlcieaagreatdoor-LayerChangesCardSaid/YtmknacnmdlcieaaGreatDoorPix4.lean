/- pixel's blends; the closure of Over: the walks. The closure of Over: the walks, a mode each. pixel.Over: the walks, a mode each. -/
import Derived.Test.YtmknacnmdlcieaaGreatDoorPix0
import Derived.BigQuiet
import Derived.Deep.QuietTactic
import Derived.Deep.RegionHeld3
import Derived.BigRegion
namespace Go.Proofs.YtmknacnmdlcieaaGreatDoor
open Go Go.RowKit

theorem blend0_eq (s d : Int) : Pix.blend 0 s d = 255 * s := by simp [Pix.blend]
theorem blend0_any (s d : Int) (w : World) (s1 : 0 ≤ s) (s2 : s ≤ 255) (d1 : 0 ≤ d) (d2 : d ≤ 255) :
    Calls Tryz.prog 85 #[.int .i64 s, .int .i64 d] w fun e w' => e = .returned (.int .i64 (Pix.blend 0 s d)) ∧ w' = w := by
  obtain ⟨p1, p2, p3⟩ := Pix.mul_byte s1 s2 d1 d2
  have HE := Lib.hid (blend0_eq s d)
  go_enter Tryz.func85, Tryz.ntmps85
  go_wp2
  all_goals go_ret
  all_goals exact ⟨by rw [HE.out]; first | rfl | (simp; omega), rfl⟩
theorem blend1_eq (s d : Int) : Pix.blend 1 s d = s * d := by simp [Pix.blend]
theorem blend1_any (s d : Int) (w : World) (s1 : 0 ≤ s) (s2 : s ≤ 255) (d1 : 0 ≤ d) (d2 : d ≤ 255) :
    Calls Tryz.prog 86 #[.int .i64 s, .int .i64 d] w fun e w' => e = .returned (.int .i64 (Pix.blend 1 s d)) ∧ w' = w := by
  obtain ⟨p1, p2, p3⟩ := Pix.mul_byte s1 s2 d1 d2
  have HE := Lib.hid (blend1_eq s d)
  go_enter Tryz.func86, Tryz.ntmps86
  go_wp2
  all_goals go_ret
  all_goals exact ⟨by rw [HE.out]; first | rfl | (simp; omega), rfl⟩
theorem blend2_eq (s d : Int) : Pix.blend 2 s d = 255 * (s + d) - s * d := by simp [Pix.blend]
theorem blend2_any (s d : Int) (w : World) (s1 : 0 ≤ s) (s2 : s ≤ 255) (d1 : 0 ≤ d) (d2 : d ≤ 255) :
    Calls Tryz.prog 87 #[.int .i64 s, .int .i64 d] w fun e w' => e = .returned (.int .i64 (Pix.blend 2 s d)) ∧ w' = w := by
  obtain ⟨p1, p2, p3⟩ := Pix.mul_byte s1 s2 d1 d2
  have HE := Lib.hid (blend2_eq s d)
  go_enter Tryz.func87, Tryz.ntmps87
  go_wp2
  all_goals go_ret
  all_goals exact ⟨by rw [HE.out]; first | rfl | (simp; omega), rfl⟩
theorem blend3_eq (s d : Int) : Pix.blend 3 s d = 255 * min s d := by simp [Pix.blend]
theorem blend3_any (s d : Int) (w : World) (s1 : 0 ≤ s) (s2 : s ≤ 255) (d1 : 0 ≤ d) (d2 : d ≤ 255) :
    Calls Tryz.prog 88 #[.int .i64 s, .int .i64 d] w fun e w' => e = .returned (.int .i64 (Pix.blend 3 s d)) ∧ w' = w := by
  obtain ⟨p1, p2, p3⟩ := Pix.mul_byte s1 s2 d1 d2
  have HE := Lib.hid (blend3_eq s d)
  go_enter Tryz.func88, Tryz.ntmps88
  go_wp2
  all_goals go_ret
  all_goals exact ⟨by rw [HE.out]; first | rfl | (simp; omega), rfl⟩
theorem blend4_eq (s d : Int) : Pix.blend 4 s d = 255 * max s d := by simp [Pix.blend]
theorem blend4_any (s d : Int) (w : World) (s1 : 0 ≤ s) (s2 : s ≤ 255) (d1 : 0 ≤ d) (d2 : d ≤ 255) :
    Calls Tryz.prog 89 #[.int .i64 s, .int .i64 d] w fun e w' => e = .returned (.int .i64 (Pix.blend 4 s d)) ∧ w' = w := by
  obtain ⟨p1, p2, p3⟩ := Pix.mul_byte s1 s2 d1 d2
  have HE := Lib.hid (blend4_eq s d)
  go_enter Tryz.func89, Tryz.ntmps89
  go_wp2
  all_goals go_ret
  all_goals exact ⟨by rw [HE.out]; first | rfl | (simp; omega), rfl⟩
theorem blend5_eq (s d : Int) : Pix.blend 5 s d = 255 * max (s - d) (d - s) := by simp [Pix.blend]
theorem blend5_any (s d : Int) (w : World) (s1 : 0 ≤ s) (s2 : s ≤ 255) (d1 : 0 ≤ d) (d2 : d ≤ 255) :
    Calls Tryz.prog 90 #[.int .i64 s, .int .i64 d] w fun e w' => e = .returned (.int .i64 (Pix.blend 5 s d)) ∧ w' = w := by
  obtain ⟨p1, p2, p3⟩ := Pix.mul_byte s1 s2 d1 d2
  have HE := Lib.hid (blend5_eq s d)
  go_enter Tryz.func90, Tryz.ntmps90
  go_wp2
  all_goals go_ret
  all_goals exact ⟨by rw [HE.out]; first | rfl | (simp; omega), rfl⟩
end Go.Proofs.YtmknacnmdlcieaaGreatDoor
namespace Go.Proofs.YtmknacnmdlcieaaGreatDoor
open Go Go.RowKit

theorem mul_bounds {x y X Y : Int} (h1 : 0 ≤ x) (h2 : x ≤ X) (h3 : 0 ≤ y) (h4 : y ≤ Y) : 0 ≤ x * y ∧ x * y ≤ X * Y :=
  ⟨Int.mul_nonneg h1 h3, Int.le_trans (Int.mul_le_mul_of_nonneg_right h2 h3) (Int.mul_le_mul_of_nonneg_left h4 (Int.le_trans h1 h2))⟩
set_option maxRecDepth 100000 in
set_option maxHeartbeats 1000000 in
theorem overc0_any (ga gb gf gc : Nat) (a b s d : Int) (m : UInt8) (w : World) (hm : Pix.u8 (Pix.col 0 a b s d) = m) (a1 : 0 ≤ a) (a2 : a ≤ 255) (b1 : 0 ≤ b) (b2 : b ≤ 255) (s1 : 0 ≤ s) (s2 : s ≤ 255) (d1 : 0 ≤ d) (d2 : d ≤ 255) (hc : 0 < Pix.covers a b)
    (ca : w.cell? ⟨ga, 0, none⟩ = some (.int .i64 a)) (cb : w.cell? ⟨gb, 0, none⟩ = some (.int .i64 b)) (cf : w.cell? ⟨gf, 0, none⟩ = some (.func (.func 85) #[] #[])) (cc : w.cell? ⟨gc, 0, none⟩ = some (.int .i64 (Pix.covers a b))) :
    Calls Tryz.prog 75 #[.int .u8 s, .int .u8 d, .pointer (some ⟨ga, 0, none⟩), .pointer (some ⟨gb, 0, none⟩), .pointer (some ⟨gf, 0, none⟩), .pointer (some ⟨gc, 0, none⟩)] w
      fun e w' => e = .returned (.int .u8 m.toNat) ∧ ∃ q, w' = w.drewN q := by
  obtain ⟨l1, l2⟩ := Pix.blend_bound 0 s1 s2 d1 d2
  obtain ⟨n1, n2⟩ := Pix.num_bound 0 a1 a2 b1 b2 s1 s2 d1 d2
  obtain ⟨_, _, c3⟩ := Pix.covers_bound a1 a2 b1 b2
  obtain ⟨x1, x2⟩ := mul_bounds a1 a2 (show 0 ≤ 255 - b by omega) (show 255 - b ≤ 255 by omega)
  obtain ⟨y1, y2⟩ := mul_bounds x1 x2 s1 s2
  obtain ⟨x3, x4⟩ := mul_bounds b1 b2 (show 0 ≤ 255 - a by omega) (show 255 - a ≤ 255 by omega)
  obtain ⟨y3, y4⟩ := mul_bounds x3 x4 d1 d2
  obtain ⟨x5, x6⟩ := mul_bounds a1 a2 b1 b2
  obtain ⟨y5, y6⟩ := mul_bounds x5 x6 l1 l2
  have hbl := fun w => blend0_any s d w s1 s2 d1 d2
  unfold Pix.col Pix.num at hm
  unfold Pix.num at n1 n2
  generalize Pix.blend 0 s d = B at *
  generalize Pix.covers a b = C at *
  have HBL := Lib.hid hbl
  have hrd := Lib.hid (fun w => round_any _ _ m w hm n1 (show 0 < 255 * C by omega) n2 (by omega))
  clear hbl hm
  go_enter Tryz.func75, Tryz.ntmps75
  go_wp2_with fail
  go_quiet ((first | (go_at_call 85; exact Calls.quiet_of_same (HBL.out _)) | (go_at_call 73; exact Calls.quiet_of_same (hrd.out _))))
  go_wp2_with fail
  go_ret
  exact ⟨rfl, _, rfl⟩
set_option maxRecDepth 100000 in
set_option maxHeartbeats 1000000 in
theorem overc1_any (ga gb gf gc : Nat) (a b s d : Int) (m : UInt8) (w : World) (hm : Pix.u8 (Pix.col 1 a b s d) = m) (a1 : 0 ≤ a) (a2 : a ≤ 255) (b1 : 0 ≤ b) (b2 : b ≤ 255) (s1 : 0 ≤ s) (s2 : s ≤ 255) (d1 : 0 ≤ d) (d2 : d ≤ 255) (hc : 0 < Pix.covers a b)
    (ca : w.cell? ⟨ga, 0, none⟩ = some (.int .i64 a)) (cb : w.cell? ⟨gb, 0, none⟩ = some (.int .i64 b)) (cf : w.cell? ⟨gf, 0, none⟩ = some (.func (.func 86) #[] #[])) (cc : w.cell? ⟨gc, 0, none⟩ = some (.int .i64 (Pix.covers a b))) :
    Calls Tryz.prog 75 #[.int .u8 s, .int .u8 d, .pointer (some ⟨ga, 0, none⟩), .pointer (some ⟨gb, 0, none⟩), .pointer (some ⟨gf, 0, none⟩), .pointer (some ⟨gc, 0, none⟩)] w
      fun e w' => e = .returned (.int .u8 m.toNat) ∧ ∃ q, w' = w.drewN q := by
  obtain ⟨l1, l2⟩ := Pix.blend_bound 1 s1 s2 d1 d2
  obtain ⟨n1, n2⟩ := Pix.num_bound 1 a1 a2 b1 b2 s1 s2 d1 d2
  obtain ⟨_, _, c3⟩ := Pix.covers_bound a1 a2 b1 b2
  obtain ⟨x1, x2⟩ := mul_bounds a1 a2 (show 0 ≤ 255 - b by omega) (show 255 - b ≤ 255 by omega)
  obtain ⟨y1, y2⟩ := mul_bounds x1 x2 s1 s2
  obtain ⟨x3, x4⟩ := mul_bounds b1 b2 (show 0 ≤ 255 - a by omega) (show 255 - a ≤ 255 by omega)
  obtain ⟨y3, y4⟩ := mul_bounds x3 x4 d1 d2
  obtain ⟨x5, x6⟩ := mul_bounds a1 a2 b1 b2
  obtain ⟨y5, y6⟩ := mul_bounds x5 x6 l1 l2
  have hbl := fun w => blend1_any s d w s1 s2 d1 d2
  unfold Pix.col Pix.num at hm
  unfold Pix.num at n1 n2
  generalize Pix.blend 1 s d = B at *
  generalize Pix.covers a b = C at *
  have HBL := Lib.hid hbl
  have hrd := Lib.hid (fun w => round_any _ _ m w hm n1 (show 0 < 255 * C by omega) n2 (by omega))
  clear hbl hm
  go_enter Tryz.func75, Tryz.ntmps75
  go_wp2_with fail
  go_quiet ((first | (go_at_call 86; exact Calls.quiet_of_same (HBL.out _)) | (go_at_call 73; exact Calls.quiet_of_same (hrd.out _))))
  go_wp2_with fail
  go_ret
  exact ⟨rfl, _, rfl⟩
set_option maxRecDepth 100000 in
set_option maxHeartbeats 1000000 in
theorem overc2_any (ga gb gf gc : Nat) (a b s d : Int) (m : UInt8) (w : World) (hm : Pix.u8 (Pix.col 2 a b s d) = m) (a1 : 0 ≤ a) (a2 : a ≤ 255) (b1 : 0 ≤ b) (b2 : b ≤ 255) (s1 : 0 ≤ s) (s2 : s ≤ 255) (d1 : 0 ≤ d) (d2 : d ≤ 255) (hc : 0 < Pix.covers a b)
    (ca : w.cell? ⟨ga, 0, none⟩ = some (.int .i64 a)) (cb : w.cell? ⟨gb, 0, none⟩ = some (.int .i64 b)) (cf : w.cell? ⟨gf, 0, none⟩ = some (.func (.func 87) #[] #[])) (cc : w.cell? ⟨gc, 0, none⟩ = some (.int .i64 (Pix.covers a b))) :
    Calls Tryz.prog 75 #[.int .u8 s, .int .u8 d, .pointer (some ⟨ga, 0, none⟩), .pointer (some ⟨gb, 0, none⟩), .pointer (some ⟨gf, 0, none⟩), .pointer (some ⟨gc, 0, none⟩)] w
      fun e w' => e = .returned (.int .u8 m.toNat) ∧ ∃ q, w' = w.drewN q := by
  obtain ⟨l1, l2⟩ := Pix.blend_bound 2 s1 s2 d1 d2
  obtain ⟨n1, n2⟩ := Pix.num_bound 2 a1 a2 b1 b2 s1 s2 d1 d2
  obtain ⟨_, _, c3⟩ := Pix.covers_bound a1 a2 b1 b2
  obtain ⟨x1, x2⟩ := mul_bounds a1 a2 (show 0 ≤ 255 - b by omega) (show 255 - b ≤ 255 by omega)
  obtain ⟨y1, y2⟩ := mul_bounds x1 x2 s1 s2
  obtain ⟨x3, x4⟩ := mul_bounds b1 b2 (show 0 ≤ 255 - a by omega) (show 255 - a ≤ 255 by omega)
  obtain ⟨y3, y4⟩ := mul_bounds x3 x4 d1 d2
  obtain ⟨x5, x6⟩ := mul_bounds a1 a2 b1 b2
  obtain ⟨y5, y6⟩ := mul_bounds x5 x6 l1 l2
  have hbl := fun w => blend2_any s d w s1 s2 d1 d2
  unfold Pix.col Pix.num at hm
  unfold Pix.num at n1 n2
  generalize Pix.blend 2 s d = B at *
  generalize Pix.covers a b = C at *
  have HBL := Lib.hid hbl
  have hrd := Lib.hid (fun w => round_any _ _ m w hm n1 (show 0 < 255 * C by omega) n2 (by omega))
  clear hbl hm
  go_enter Tryz.func75, Tryz.ntmps75
  go_wp2_with fail
  go_quiet ((first | (go_at_call 87; exact Calls.quiet_of_same (HBL.out _)) | (go_at_call 73; exact Calls.quiet_of_same (hrd.out _))))
  go_wp2_with fail
  go_ret
  exact ⟨rfl, _, rfl⟩
set_option maxRecDepth 100000 in
set_option maxHeartbeats 1000000 in
theorem overc3_any (ga gb gf gc : Nat) (a b s d : Int) (m : UInt8) (w : World) (hm : Pix.u8 (Pix.col 3 a b s d) = m) (a1 : 0 ≤ a) (a2 : a ≤ 255) (b1 : 0 ≤ b) (b2 : b ≤ 255) (s1 : 0 ≤ s) (s2 : s ≤ 255) (d1 : 0 ≤ d) (d2 : d ≤ 255) (hc : 0 < Pix.covers a b)
    (ca : w.cell? ⟨ga, 0, none⟩ = some (.int .i64 a)) (cb : w.cell? ⟨gb, 0, none⟩ = some (.int .i64 b)) (cf : w.cell? ⟨gf, 0, none⟩ = some (.func (.func 88) #[] #[])) (cc : w.cell? ⟨gc, 0, none⟩ = some (.int .i64 (Pix.covers a b))) :
    Calls Tryz.prog 75 #[.int .u8 s, .int .u8 d, .pointer (some ⟨ga, 0, none⟩), .pointer (some ⟨gb, 0, none⟩), .pointer (some ⟨gf, 0, none⟩), .pointer (some ⟨gc, 0, none⟩)] w
      fun e w' => e = .returned (.int .u8 m.toNat) ∧ ∃ q, w' = w.drewN q := by
  obtain ⟨l1, l2⟩ := Pix.blend_bound 3 s1 s2 d1 d2
  obtain ⟨n1, n2⟩ := Pix.num_bound 3 a1 a2 b1 b2 s1 s2 d1 d2
  obtain ⟨_, _, c3⟩ := Pix.covers_bound a1 a2 b1 b2
  obtain ⟨x1, x2⟩ := mul_bounds a1 a2 (show 0 ≤ 255 - b by omega) (show 255 - b ≤ 255 by omega)
  obtain ⟨y1, y2⟩ := mul_bounds x1 x2 s1 s2
  obtain ⟨x3, x4⟩ := mul_bounds b1 b2 (show 0 ≤ 255 - a by omega) (show 255 - a ≤ 255 by omega)
  obtain ⟨y3, y4⟩ := mul_bounds x3 x4 d1 d2
  obtain ⟨x5, x6⟩ := mul_bounds a1 a2 b1 b2
  obtain ⟨y5, y6⟩ := mul_bounds x5 x6 l1 l2
  have hbl := fun w => blend3_any s d w s1 s2 d1 d2
  unfold Pix.col Pix.num at hm
  unfold Pix.num at n1 n2
  generalize Pix.blend 3 s d = B at *
  generalize Pix.covers a b = C at *
  have HBL := Lib.hid hbl
  have hrd := Lib.hid (fun w => round_any _ _ m w hm n1 (show 0 < 255 * C by omega) n2 (by omega))
  clear hbl hm
  go_enter Tryz.func75, Tryz.ntmps75
  go_wp2_with fail
  go_quiet ((first | (go_at_call 88; exact Calls.quiet_of_same (HBL.out _)) | (go_at_call 73; exact Calls.quiet_of_same (hrd.out _))))
  go_wp2_with fail
  go_ret
  exact ⟨rfl, _, rfl⟩
set_option maxRecDepth 100000 in
set_option maxHeartbeats 1000000 in
theorem overc4_any (ga gb gf gc : Nat) (a b s d : Int) (m : UInt8) (w : World) (hm : Pix.u8 (Pix.col 4 a b s d) = m) (a1 : 0 ≤ a) (a2 : a ≤ 255) (b1 : 0 ≤ b) (b2 : b ≤ 255) (s1 : 0 ≤ s) (s2 : s ≤ 255) (d1 : 0 ≤ d) (d2 : d ≤ 255) (hc : 0 < Pix.covers a b)
    (ca : w.cell? ⟨ga, 0, none⟩ = some (.int .i64 a)) (cb : w.cell? ⟨gb, 0, none⟩ = some (.int .i64 b)) (cf : w.cell? ⟨gf, 0, none⟩ = some (.func (.func 89) #[] #[])) (cc : w.cell? ⟨gc, 0, none⟩ = some (.int .i64 (Pix.covers a b))) :
    Calls Tryz.prog 75 #[.int .u8 s, .int .u8 d, .pointer (some ⟨ga, 0, none⟩), .pointer (some ⟨gb, 0, none⟩), .pointer (some ⟨gf, 0, none⟩), .pointer (some ⟨gc, 0, none⟩)] w
      fun e w' => e = .returned (.int .u8 m.toNat) ∧ ∃ q, w' = w.drewN q := by
  obtain ⟨l1, l2⟩ := Pix.blend_bound 4 s1 s2 d1 d2
  obtain ⟨n1, n2⟩ := Pix.num_bound 4 a1 a2 b1 b2 s1 s2 d1 d2
  obtain ⟨_, _, c3⟩ := Pix.covers_bound a1 a2 b1 b2
  obtain ⟨x1, x2⟩ := mul_bounds a1 a2 (show 0 ≤ 255 - b by omega) (show 255 - b ≤ 255 by omega)
  obtain ⟨y1, y2⟩ := mul_bounds x1 x2 s1 s2
  obtain ⟨x3, x4⟩ := mul_bounds b1 b2 (show 0 ≤ 255 - a by omega) (show 255 - a ≤ 255 by omega)
  obtain ⟨y3, y4⟩ := mul_bounds x3 x4 d1 d2
  obtain ⟨x5, x6⟩ := mul_bounds a1 a2 b1 b2
  obtain ⟨y5, y6⟩ := mul_bounds x5 x6 l1 l2
  have hbl := fun w => blend4_any s d w s1 s2 d1 d2
  unfold Pix.col Pix.num at hm
  unfold Pix.num at n1 n2
  generalize Pix.blend 4 s d = B at *
  generalize Pix.covers a b = C at *
  have HBL := Lib.hid hbl
  have hrd := Lib.hid (fun w => round_any _ _ m w hm n1 (show 0 < 255 * C by omega) n2 (by omega))
  clear hbl hm
  go_enter Tryz.func75, Tryz.ntmps75
  go_wp2_with fail
  go_quiet ((first | (go_at_call 89; exact Calls.quiet_of_same (HBL.out _)) | (go_at_call 73; exact Calls.quiet_of_same (hrd.out _))))
  go_wp2_with fail
  go_ret
  exact ⟨rfl, _, rfl⟩
set_option maxRecDepth 100000 in
set_option maxHeartbeats 1000000 in
theorem overc5_any (ga gb gf gc : Nat) (a b s d : Int) (m : UInt8) (w : World) (hm : Pix.u8 (Pix.col 5 a b s d) = m) (a1 : 0 ≤ a) (a2 : a ≤ 255) (b1 : 0 ≤ b) (b2 : b ≤ 255) (s1 : 0 ≤ s) (s2 : s ≤ 255) (d1 : 0 ≤ d) (d2 : d ≤ 255) (hc : 0 < Pix.covers a b)
    (ca : w.cell? ⟨ga, 0, none⟩ = some (.int .i64 a)) (cb : w.cell? ⟨gb, 0, none⟩ = some (.int .i64 b)) (cf : w.cell? ⟨gf, 0, none⟩ = some (.func (.func 90) #[] #[])) (cc : w.cell? ⟨gc, 0, none⟩ = some (.int .i64 (Pix.covers a b))) :
    Calls Tryz.prog 75 #[.int .u8 s, .int .u8 d, .pointer (some ⟨ga, 0, none⟩), .pointer (some ⟨gb, 0, none⟩), .pointer (some ⟨gf, 0, none⟩), .pointer (some ⟨gc, 0, none⟩)] w
      fun e w' => e = .returned (.int .u8 m.toNat) ∧ ∃ q, w' = w.drewN q := by
  obtain ⟨l1, l2⟩ := Pix.blend_bound 5 s1 s2 d1 d2
  obtain ⟨n1, n2⟩ := Pix.num_bound 5 a1 a2 b1 b2 s1 s2 d1 d2
  obtain ⟨_, _, c3⟩ := Pix.covers_bound a1 a2 b1 b2
  obtain ⟨x1, x2⟩ := mul_bounds a1 a2 (show 0 ≤ 255 - b by omega) (show 255 - b ≤ 255 by omega)
  obtain ⟨y1, y2⟩ := mul_bounds x1 x2 s1 s2
  obtain ⟨x3, x4⟩ := mul_bounds b1 b2 (show 0 ≤ 255 - a by omega) (show 255 - a ≤ 255 by omega)
  obtain ⟨y3, y4⟩ := mul_bounds x3 x4 d1 d2
  obtain ⟨x5, x6⟩ := mul_bounds a1 a2 b1 b2
  obtain ⟨y5, y6⟩ := mul_bounds x5 x6 l1 l2
  have hbl := fun w => blend5_any s d w s1 s2 d1 d2
  unfold Pix.col Pix.num at hm
  unfold Pix.num at n1 n2
  generalize Pix.blend 5 s d = B at *
  generalize Pix.covers a b = C at *
  have HBL := Lib.hid hbl
  have hrd := Lib.hid (fun w => round_any _ _ m w hm n1 (show 0 < 255 * C by omega) n2 (by omega))
  clear hbl hm
  go_enter Tryz.func75, Tryz.ntmps75
  go_wp2_with fail
  go_quiet ((first | (go_at_call 90; exact Calls.quiet_of_same (HBL.out _)) | (go_at_call 73; exact Calls.quiet_of_same (hrd.out _))))
  go_wp2_with fail
  go_ret
  exact ⟨rfl, _, rfl⟩
end Go.Proofs.YtmknacnmdlcieaaGreatDoor
namespace Go.Proofs.YtmknacnmdlcieaaGreatDoor
open Go Go.RowKit

theorem run_store_func {P : Program} (w : World) (a : Addr) (m : Mode) (fn : Fn) (x y : Array Value) : (store a (.func fn x y) m).run P w = stored P w a (.func fn x y) m := run_store P w a _ m rfl

def blendV : Value := .agg #[.func (.func 85) #[] #[], .func (.func 86) #[] #[], .func (.func 87) #[] #[], .func (.func 88) #[] #[], .func (.func 89) #[] #[], .func (.func 90) #[] #[]]
theorem blends_any (w : World) : Calls Tryz.prog 74 #[] w fun e w' => e = .returned blendV ∧ Below w.heap.size w w' := by
  unfold blendV
  have hst := @run_store_func Tryz.prog
  go_enter Tryz.func74, Tryz.ntmps74
  go_wp2
  exact bodyPost_ret (v := .agg #[.func (.func 85) #[] #[], .func (.func 86) #[] #[], .func (.func 87) #[] #[], .func (.func 88) #[] #[], .func (.func 89) #[] #[], .func (.func 90) #[] #[]]) (by simp [results, Tryz.results74, go_sem]) rfl ⟨rfl, by go_grown⟩

set_option maxRecDepth 100000 in
theorem over_none (k : Int) (t u : Px) (w : World) (hk : modeB k = true) (hc : Pix.covers t.a.toNat u.a.toNat = 0) :
    Calls Tryz.prog 60 #[.int .i64 k, pxV t, pxV u] w fun e w' => e = .returned (.tuple #[pxV (Pix.over k t u), .nilIface]) ∧ Below w.heap.size w w' := by
  have HO := Lib.hid (show Pix.over k t u = Pix.nil by rw [Pix.over, if_pos hc])
  obtain ⟨a1, a2⟩ := Pix.a_nonneg t.a
  obtain ⟨b1, b2⟩ := Pix.a_nonneg u.a
  obtain ⟨x3, x4⟩ := mul_bounds b1 b2 (show 0 ≤ 255 - (t.a.toNat : Int) by omega) (show 255 - (t.a.toNat : Int) ≤ 255 by omega)
  unfold Pix.covers at hc
  unfold pxV
  go_enter Tryz.func60, Tryz.ntmps60
  go_wp2_with fail
  refine (mode_any k _).mono ?_
  rintro e w1 ⟨rfl, rfl⟩
  rw [hk]
  go_wp2_with fail
  go_region
  all_goals
    go_wp2
    refine bodyPost_ret (v := .tuple #[.agg #[.int .u8 0, .int .u8 0, .int .u8 0, .int .u8 0], .nilIface]) (by simp [results, Tryz.results60, go_sem]) rfl ⟨by rw [HO.out]; rfl, ?_⟩
    go_grown
end Go.Proofs.YtmknacnmdlcieaaGreatDoor
