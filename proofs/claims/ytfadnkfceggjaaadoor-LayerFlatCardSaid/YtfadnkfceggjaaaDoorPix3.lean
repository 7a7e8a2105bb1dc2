/- The closure of Over: the walks, a mode each. -/
import Derived.Test.YtfadnkfceggjaaaDoorPix2
namespace Go.Proofs.YtfadnkfceggjaaaDoor
open Go Go.RowKit

theorem mul_bounds {x y X Y : Int} (h1 : 0 ≤ x) (h2 : x ≤ X) (h3 : 0 ≤ y) (h4 : y ≤ Y) : 0 ≤ x * y ∧ x * y ≤ X * Y :=
  ⟨Int.mul_nonneg h1 h3, Int.le_trans (Int.mul_le_mul_of_nonneg_right h2 h3) (Int.mul_le_mul_of_nonneg_left h4 (Int.le_trans h1 h2))⟩
set_option maxRecDepth 100000 in
set_option maxHeartbeats 1000000 in
theorem overc0_any (ga gb gf gc : Nat) (a b s d : Int) (m : UInt8) (w : World) (hm : Pix.u8 (Pix.col 0 a b s d) = m) (a1 : 0 ≤ a) (a2 : a ≤ 255) (b1 : 0 ≤ b) (b2 : b ≤ 255) (s1 : 0 ≤ s) (s2 : s ≤ 255) (d1 : 0 ≤ d) (d2 : d ≤ 255) (hc : 0 < Pix.covers a b)
    (ca : w.cell? ⟨ga, 0, none⟩ = some (.int .i64 a)) (cb : w.cell? ⟨gb, 0, none⟩ = some (.int .i64 b)) (cf : w.cell? ⟨gf, 0, none⟩ = some (.func (.func 101) #[] #[])) (cc : w.cell? ⟨gc, 0, none⟩ = some (.int .i64 (Pix.covers a b))) :
    Calls Tryd.prog 88 #[.int .u8 s, .int .u8 d, .pointer (some ⟨ga, 0, none⟩), .pointer (some ⟨gb, 0, none⟩), .pointer (some ⟨gf, 0, none⟩), .pointer (some ⟨gc, 0, none⟩)] w
      fun e w' => e = .returned (.int .u8 m.toNat) ∧ ∃ q, w' = w.drewN q := by
  obtain ⟨l1, l2⟩ := Pix.blend_bound 0 s1 s2 d1 d2
  obtain ⟨n1, n2⟩ := Pix.num_bound 0 a1 a2 b1 b2 s1 s2 d1 d2
  obtain ⟨_, _, c3⟩ := Pix.covers_bound a1 a2 b1 b2
  obtain ⟨x1, x2⟩ := mul_bounds a1 a2 (show 0 ≤ 255 - b by omega) (show 255 - b ≤ 255 by omega)
  obtain ⟨y1, y2⟩ := mul_bounds x1 x2 s1 s2
  obtain ⟨x3, x4⟩ := mul_bounds b1 b2 (show 0 ≤ 255 - a by omega) (show 255 - a ≤ 255 by omega)
  obtain ⟨y3, y4⟩ := mul_bounds x3 x4 d1 d2
  obtain ⟨x5, x6⟩ := mul_bounds a1 a2 b1 b2
  obtain ⟨y5, y6⟩ := mul_bounds x5 x6 l1 l2
  have hbl := fun w => blend0_any s d w s1 s2 d1 d2
  unfold Pix.col Pix.num at hm
  unfold Pix.num at n1 n2
  generalize Pix.blend 0 s d = B at *
  generalize Pix.covers a b = C at *
  have HBL := Lib.hid hbl
  have hrd := Lib.hid (fun w => round_any _ _ m w hm n1 (show 0 < 255 * C by omega) n2 (by omega))
  clear hbl hm
  go_enter Tryd.func88, Tryd.ntmps88
  go_wp2_with fail
  go_quiet ((first | (go_at_call 101; exact Calls.quiet_of_same (HBL.out _)) | (go_at_call 86; exact Calls.quiet_of_same (hrd.out _))))
  go_wp2_with fail
  go_ret
  exact ⟨rfl, _, rfl⟩
set_option maxRecDepth 100000 in
set_option maxHeartbeats 1000000 in
theorem overc1_any (ga gb gf gc : Nat) (a b s d : Int) (m : UInt8) (w : World) (hm : Pix.u8 (Pix.col 1 a b s d) = m) (a1 : 0 ≤ a) (a2 : a ≤ 255) (b1 : 0 ≤ b) (b2 : b ≤ 255) (s1 : 0 ≤ s) (s2 : s ≤ 255) (d1 : 0 ≤ d) (d2 : d ≤ 255) (hc : 0 < Pix.covers a b)
    (ca : w.cell? ⟨ga, 0, none⟩ = some (.int .i64 a)) (cb : w.cell? ⟨gb, 0, none⟩ = some (.int .i64 b)) (cf : w.cell? ⟨gf, 0, none⟩ = some (.func (.func 102) #[] #[])) (cc : w.cell? ⟨gc, 0, none⟩ = some (.int .i64 (Pix.covers a b))) :
    Calls Tryd.prog 88 #[.int .u8 s, .int .u8 d, .pointer (some ⟨ga, 0, none⟩), .pointer (some ⟨gb, 0, none⟩), .pointer (some ⟨gf, 0, none⟩), .pointer (some ⟨gc, 0, none⟩)] w
      fun e w' => e = .returned (.int .u8 m.toNat) ∧ ∃ q, w' = w.drewN q := by
  obtain ⟨l1, l2⟩ := Pix.blend_bound 1 s1 s2 d1 d2
  obtain ⟨n1, n2⟩ := Pix.num_bound 1 a1 a2 b1 b2 s1 s2 d1 d2
  obtain ⟨_, _, c3⟩ := Pix.covers_bound a1 a2 b1 b2
  obtain ⟨x1, x2⟩ := mul_bounds a1 a2 (show 0 ≤ 255 - b by omega) (show 255 - b ≤ 255 by omega)
  obtain ⟨y1, y2⟩ := mul_bounds x1 x2 s1 s2
  obtain ⟨x3, x4⟩ := mul_bounds b1 b2 (show 0 ≤ 255 - a by omega) (show 255 - a ≤ 255 by omega)
  obtain ⟨y3, y4⟩ := mul_bounds x3 x4 d1 d2
  obtain ⟨x5, x6⟩ := mul_bounds a1 a2 b1 b2
  obtain ⟨y5, y6⟩ := mul_bounds x5 x6 l1 l2
  have hbl := fun w => blend1_any s d w s1 s2 d1 d2
  unfold Pix.col Pix.num at hm
  unfold Pix.num at n1 n2
  generalize Pix.blend 1 s d = B at *
  generalize Pix.covers a b = C at *
  have HBL := Lib.hid hbl
  have hrd := Lib.hid (fun w => round_any _ _ m w hm n1 (show 0 < 255 * C by omega) n2 (by omega))
  clear hbl hm
  go_enter Tryd.func88, Tryd.ntmps88
  go_wp2_with fail
  go_quiet ((first | (go_at_call 102; exact Calls.quiet_of_same (HBL.out _)) | (go_at_call 86; exact Calls.quiet_of_same (hrd.out _))))
  go_wp2_with fail
  go_ret
  exact ⟨rfl, _, rfl⟩
set_option maxRecDepth 100000 in
set_option maxHeartbeats 1000000 in
theorem overc2_any (ga gb gf gc : Nat) (a b s d : Int) (m : UInt8) (w : World) (hm : Pix.u8 (Pix.col 2 a b s d) = m) (a1 : 0 ≤ a) (a2 : a ≤ 255) (b1 : 0 ≤ b) (b2 : b ≤ 255) (s1 : 0 ≤ s) (s2 : s ≤ 255) (d1 : 0 ≤ d) (d2 : d ≤ 255) (hc : 0 < Pix.covers a b)
    (ca : w.cell? ⟨ga, 0, none⟩ = some (.int .i64 a)) (cb : w.cell? ⟨gb, 0, none⟩ = some (.int .i64 b)) (cf : w.cell? ⟨gf, 0, none⟩ = some (.func (.func 103) #[] #[])) (cc : w.cell? ⟨gc, 0, none⟩ = some (.int .i64 (Pix.covers a b))) :
    Calls Tryd.prog 88 #[.int .u8 s, .int .u8 d, .pointer (some ⟨ga, 0, none⟩), .pointer (some ⟨gb, 0, none⟩), .pointer (some ⟨gf, 0, none⟩), .pointer (some ⟨gc, 0, none⟩)] w
      fun e w' => e = .returned (.int .u8 m.toNat) ∧ ∃ q, w' = w.drewN q := by
  obtain ⟨l1, l2⟩ := Pix.blend_bound 2 s1 s2 d1 d2
  obtain ⟨n1, n2⟩ := Pix.num_bound 2 a1 a2 b1 b2 s1 s2 d1 d2
  obtain ⟨_, _, c3⟩ := Pix.covers_bound a1 a2 b1 b2
  obtain ⟨x1, x2⟩ := mul_bounds a1 a2 (show 0 ≤ 255 - b by omega) (show 255 - b ≤ 255 by omega)
  obtain ⟨y1, y2⟩ := mul_bounds x1 x2 s1 s2
  obtain ⟨x3, x4⟩ := mul_bounds b1 b2 (show 0 ≤ 255 - a by omega) (show 255 - a ≤ 255 by omega)
  obtain ⟨y3, y4⟩ := mul_bounds x3 x4 d1 d2
  obtain ⟨x5, x6⟩ := mul_bounds a1 a2 b1 b2
  obtain ⟨y5, y6⟩ := mul_bounds x5 x6 l1 l2
  have hbl := fun w => blend2_any s d w s1 s2 d1 d2
  unfold Pix.col Pix.num at hm
  unfold Pix.num at n1 n2
  generalize Pix.blend 2 s d = B at *
  generalize Pix.covers a b = C at *
  have HBL := Lib.hid hbl
  have hrd := Lib.hid (fun w => round_any _ _ m w hm n1 (show 0 < 255 * C by omega) n2 (by omega))
  clear hbl hm
  go_enter Tryd.func88, Tryd.ntmps88
  go_wp2_with fail
  go_quiet ((first | (go_at_call 103; exact Calls.quiet_of_same (HBL.out _)) | (go_at_call 86; exact Calls.quiet_of_same (hrd.out _))))
  go_wp2_with fail
  go_ret
  exact ⟨rfl, _, rfl⟩
set_option maxRecDepth 100000 in
set_option maxHeartbeats 1000000 in
theorem overc3_any (ga gb gf gc : Nat) (a b s d : Int) (m : UInt8) (w : World) (hm : Pix.u8 (Pix.col 3 a b s d) = m) (a1 : 0 ≤ a) (a2 : a ≤ 255) (b1 : 0 ≤ b) (b2 : b ≤ 255) (s1 : 0 ≤ s) (s2 : s ≤ 255) (d1 : 0 ≤ d) (d2 : d ≤ 255) (hc : 0 < Pix.covers a b)
    (ca : w.cell? ⟨ga, 0, none⟩ = some (.int .i64 a)) (cb : w.cell? ⟨gb, 0, none⟩ = some (.int .i64 b)) (cf : w.cell? ⟨gf, 0, none⟩ = some (.func (.func 104) #[] #[])) (cc : w.cell? ⟨gc, 0, none⟩ = some (.int .i64 (Pix.covers a b))) :
    Calls Tryd.prog 88 #[.int .u8 s, .int .u8 d, .pointer (some ⟨ga, 0, none⟩), .pointer (some ⟨gb, 0, none⟩), .pointer (some ⟨gf, 0, none⟩), .pointer (some ⟨gc, 0, none⟩)] w
      fun e w' => e = .returned (.int .u8 m.toNat) ∧ ∃ q, w' = w.drewN q := by
  obtain ⟨l1, l2⟩ := Pix.blend_bound 3 s1 s2 d1 d2
  obtain ⟨n1, n2⟩ := Pix.num_bound 3 a1 a2 b1 b2 s1 s2 d1 d2
  obtain ⟨_, _, c3⟩ := Pix.covers_bound a1 a2 b1 b2
  obtain ⟨x1, x2⟩ := mul_bounds a1 a2 (show 0 ≤ 255 - b by omega) (show 255 - b ≤ 255 by omega)
  obtain ⟨y1, y2⟩ := mul_bounds x1 x2 s1 s2
  obtain ⟨x3, x4⟩ := mul_bounds b1 b2 (show 0 ≤ 255 - a by omega) (show 255 - a ≤ 255 by omega)
  obtain ⟨y3, y4⟩ := mul_bounds x3 x4 d1 d2
  obtain ⟨x5, x6⟩ := mul_bounds a1 a2 b1 b2
  obtain ⟨y5, y6⟩ := mul_bounds x5 x6 l1 l2
  have hbl := fun w => blend3_any s d w s1 s2 d1 d2
  unfold Pix.col Pix.num at hm
  unfold Pix.num at n1 n2
  generalize Pix.blend 3 s d = B at *
  generalize Pix.covers a b = C at *
  have HBL := Lib.hid hbl
  have hrd := Lib.hid (fun w => round_any _ _ m w hm n1 (show 0 < 255 * C by omega) n2 (by omega))
  clear hbl hm
  go_enter Tryd.func88, Tryd.ntmps88
  go_wp2_with fail
  go_quiet ((first | (go_at_call 104; exact Calls.quiet_of_same (HBL.out _)) | (go_at_call 86; exact Calls.quiet_of_same (hrd.out _))))
  go_wp2_with fail
  go_ret
  exact ⟨rfl, _, rfl⟩
set_option maxRecDepth 100000 in
set_option maxHeartbeats 1000000 in
theorem overc4_any (ga gb gf gc : Nat) (a b s d : Int) (m : UInt8) (w : World) (hm : Pix.u8 (Pix.col 4 a b s d) = m) (a1 : 0 ≤ a) (a2 : a ≤ 255) (b1 : 0 ≤ b) (b2 : b ≤ 255) (s1 : 0 ≤ s) (s2 : s ≤ 255) (d1 : 0 ≤ d) (d2 : d ≤ 255) (hc : 0 < Pix.covers a b)
    (ca : w.cell? ⟨ga, 0, none⟩ = some (.int .i64 a)) (cb : w.cell? ⟨gb, 0, none⟩ = some (.int .i64 b)) (cf : w.cell? ⟨gf, 0, none⟩ = some (.func (.func 105) #[] #[])) (cc : w.cell? ⟨gc, 0, none⟩ = some (.int .i64 (Pix.covers a b))) :
    Calls Tryd.prog 88 #[.int .u8 s, .int .u8 d, .pointer (some ⟨ga, 0, none⟩), .pointer (some ⟨gb, 0, none⟩), .pointer (some ⟨gf, 0, none⟩), .pointer (some ⟨gc, 0, none⟩)] w
      fun e w' => e = .returned (.int .u8 m.toNat) ∧ ∃ q, w' = w.drewN q := by
  obtain ⟨l1, l2⟩ := Pix.blend_bound 4 s1 s2 d1 d2
  obtain ⟨n1, n2⟩ := Pix.num_bound 4 a1 a2 b1 b2 s1 s2 d1 d2
  obtain ⟨_, _, c3⟩ := Pix.covers_bound a1 a2 b1 b2
  obtain ⟨x1, x2⟩ := mul_bounds a1 a2 (show 0 ≤ 255 - b by omega) (show 255 - b ≤ 255 by omega)
  obtain ⟨y1, y2⟩ := mul_bounds x1 x2 s1 s2
  obtain ⟨x3, x4⟩ := mul_bounds b1 b2 (show 0 ≤ 255 - a by omega) (show 255 - a ≤ 255 by omega)
  obtain ⟨y3, y4⟩ := mul_bounds x3 x4 d1 d2
  obtain ⟨x5, x6⟩ := mul_bounds a1 a2 b1 b2
  obtain ⟨y5, y6⟩ := mul_bounds x5 x6 l1 l2
  have hbl := fun w => blend4_any s d w s1 s2 d1 d2
  unfold Pix.col Pix.num at hm
  unfold Pix.num at n1 n2
  generalize Pix.blend 4 s d = B at *
  generalize Pix.covers a b = C at *
  have HBL := Lib.hid hbl
  have hrd := Lib.hid (fun w => round_any _ _ m w hm n1 (show 0 < 255 * C by omega) n2 (by omega))
  clear hbl hm
  go_enter Tryd.func88, Tryd.ntmps88
  go_wp2_with fail
  go_quiet ((first | (go_at_call 105; exact Calls.quiet_of_same (HBL.out _)) | (go_at_call 86; exact Calls.quiet_of_same (hrd.out _))))
  go_wp2_with fail
  go_ret
  exact ⟨rfl, _, rfl⟩
set_option maxRecDepth 100000 in
set_option maxHeartbeats 1000000 in
theorem overc5_any (ga gb gf gc : Nat) (a b s d : Int) (m : UInt8) (w : World) (hm : Pix.u8 (Pix.col 5 a b s d) = m) (a1 : 0 ≤ a) (a2 : a ≤ 255) (b1 : 0 ≤ b) (b2 : b ≤ 255) (s1 : 0 ≤ s) (s2 : s ≤ 255) (d1 : 0 ≤ d) (d2 : d ≤ 255) (hc : 0 < Pix.covers a b)
    (ca : w.cell? ⟨ga, 0, none⟩ = some (.int .i64 a)) (cb : w.cell? ⟨gb, 0, none⟩ = some (.int .i64 b)) (cf : w.cell? ⟨gf, 0, none⟩ = some (.func (.func 106) #[] #[])) (cc : w.cell? ⟨gc, 0, none⟩ = some (.int .i64 (Pix.covers a b))) :
    Calls Tryd.prog 88 #[.int .u8 s, .int .u8 d, .pointer (some ⟨ga, 0, none⟩), .pointer (some ⟨gb, 0, none⟩), .pointer (some ⟨gf, 0, none⟩), .pointer (some ⟨gc, 0, none⟩)] w
      fun e w' => e = .returned (.int .u8 m.toNat) ∧ ∃ q, w' = w.drewN q := by
  obtain ⟨l1, l2⟩ := Pix.blend_bound 5 s1 s2 d1 d2
  obtain ⟨n1, n2⟩ := Pix.num_bound 5 a1 a2 b1 b2 s1 s2 d1 d2
  obtain ⟨_, _, c3⟩ := Pix.covers_bound a1 a2 b1 b2
  obtain ⟨x1, x2⟩ := mul_bounds a1 a2 (show 0 ≤ 255 - b by omega) (show 255 - b ≤ 255 by omega)
  obtain ⟨y1, y2⟩ := mul_bounds x1 x2 s1 s2
  obtain ⟨x3, x4⟩ := mul_bounds b1 b2 (show 0 ≤ 255 - a by omega) (show 255 - a ≤ 255 by omega)
  obtain ⟨y3, y4⟩ := mul_bounds x3 x4 d1 d2
  obtain ⟨x5, x6⟩ := mul_bounds a1 a2 b1 b2
  obtain ⟨y5, y6⟩ := mul_bounds x5 x6 l1 l2
  have hbl := fun w => blend5_any s d w s1 s2 d1 d2
  unfold Pix.col Pix.num at hm
  unfold Pix.num at n1 n2
  generalize Pix.blend 5 s d = B at *
  generalize Pix.covers a b = C at *
  have HBL := Lib.hid hbl
  have hrd := Lib.hid (fun w => round_any _ _ m w hm n1 (show 0 < 255 * C by omega) n2 (by omega))
  clear hbl hm
  go_enter Tryd.func88, Tryd.ntmps88
  go_wp2_with fail
  go_quiet ((first | (go_at_call 106; exact Calls.quiet_of_same (HBL.out _)) | (go_at_call 86; exact Calls.quiet_of_same (hrd.out _))))
  go_wp2_with fail
  go_ret
  exact ⟨rfl, _, rfl⟩
end Go.Proofs.YtfadnkfceggjaaaDoor
