/- The reference's blend, OverOf: the walks. -/
import Derived.Test.YtmknacnmdlcieaaGreatDoorPix0
import Derived.Test.YtmknacnmdlcieaaGreatDoorPixLaw
import Derived.Deep.QuietTactic
import Derived.BigQuiet
import Derived.Deep.RegionHeld3
import Derived.IntWalk
namespace Go.Proofs.YtmknacnmdlcieaaGreatDoor
open Go Go.RowKit

theorem make3 (W : World) : (Instr.makeSlice 93 (.int .i64 3) (.int .i64 3)).run Tryz.prog W = .ok (.slice (some ⟨W.heap.size, 0, none⟩) 3 3) (W.alloc (.cells #[.int .u8 0, .int .u8 0, .int .u8 0] 5)) := by kernel_rfl
theorem ret_i64 {a b : Int} (h : a = b) : Ending.returned (.int .i64 a) = .returned (.int .i64 b) := by rw [h]
set_option maxRecDepth 100000 in
theorem blendRef_any (m s d : Int) (w : World) (s0 : 0 ≤ s) (s1 : s ≤ 255) (d0 : 0 ≤ d) (d1 : d ≤ 255) :
    Calls Tryz.prog 84 #[.int .i64 m, .int .i64 s, .int .i64 d] w fun e w' => e = .returned (.int .i64 (Pix.blend m s d)) ∧ w' = w := by
  obtain ⟨z0, z1, z2⟩ := Pix.mul_byte s0 s1 d0 d1
  rcases (show s < d ∨ s = d ∨ d < s by omega) with hsd | rfl | hsd
  all_goals rcases (show m = 1 ∨ m = 2 ∨ m = 3 ∨ m = 4 ∨ m = 5 ∨ (¬ m = 1 ∧ ¬ m = 2 ∧ ¬ m = 3 ∧ ¬ m = 4 ∧ ¬ m = 5) by omega) with rfl | rfl | rfl | rfl | rfl | ⟨h1, h2, h3, h4, h5⟩
  all_goals
    go_enter Tryz.func84, Tryz.ntmps84
    go_wp2
    go_ret
  all_goals exact ⟨ret_i64 (by unfold Pix.blend; (repeat' split) <;> omega), rfl⟩

set_option maxRecDepth 100000 in
set_option maxHeartbeats 2000000 in
theorem overOf_nil (m : Int) (t u : Px) (w : World) (h : Pix.covers t.a.toNat u.a.toNat = 0) :
    Calls Tryz.prog 71 #[.int .i64 m, pxV t, pxV u] w fun e w' => e = .returned (pxV (Pix.over m t u)) ∧ Below w.heap.size w w' := by
  have HO := Lib.hid (show Pix.over m t u = Pix.nil by rw [Pix.over, if_pos h])
  obtain ⟨a1, a2⟩ := Pix.a_nonneg t.a
  obtain ⟨b1, b2⟩ := Pix.a_nonneg u.a
  obtain ⟨m1, m2, m3⟩ := Pix.mul_byte a1 a2 b1 b2
  rw [Pix.covers_eq] at h
  unfold pxV
  go_enter Tryz.func71, Tryz.ntmps71
  go_wp2_with fail
  refine bodyPost_ret (v := .agg #[.int .u8 0, .int .u8 0, .int .u8 0, .int .u8 0]) (by simp [results, Tryz.results71, go_sem]) rfl ⟨by rw [HO.out]; rfl, by go_grown⟩

/-- The colors of a pixel by numbers. -/
def ovS (p : Px) (k : Nat) : Int := if k = 0 then p.r.toNat else if k = 1 then p.g.toNat else p.b.toNat
theorem ovS_bound (p : Px) (k : Nat) : 0 ≤ ovS p k ∧ ovS p k ≤ 255 := by
  unfold ovS
  split
  · exact Pix.a_nonneg _
  · split <;> exact Pix.a_nonneg _
/-- The color that is made, once it is. -/
def ovC (m a b : Int) (t u : Px) (k j : Nat) : Int := if j < k then Pix.col m a b (ovS t j) (ovS u j) else 0
theorem three_at (f : Nat → Value) (k : Nat) (hk : k < 3) : #[f 0, f 1, f 2][k]? = some (f k) := by
  rcases (show k = 0 ∨ k = 1 ∨ k = 2 by omega) with rfl | rfl | rfl <;> rfl
theorem ovC_set (m a b : Int) (t u : Px) (k : Nat) (hk : k < 3) (r : Int) (hr : Pix.col m a b (ovS t k) (ovS u k) = r) :
    #[Value.int .u8 (ovC m a b t u k 0), Value.int .u8 (ovC m a b t u k 1), Value.int .u8 (ovC m a b t u k 2)].setIfInBounds k (.int .u8 r) = #[Value.int .u8 (ovC m a b t u (k + 1) 0), Value.int .u8 (ovC m a b t u (k + 1) 1), Value.int .u8 (ovC m a b t u (k + 1) 2)] := by
  subst hr
  rcases (show k = 0 ∨ k = 1 ∨ k = 2 by omega) with rfl | rfl | rfl <;> simp [ovC]
theorem over_wrap (m : Int) {a b s d : Int} (a1 : 0 ≤ a) (a2 : a ≤ 255) (b1 : 0 ≤ b) (b2 : b ≤ 255) (s1 : 0 ≤ s) (s2 : s ≤ 255) (d1 : 0 ≤ d) (d2 : d ≤ 255) :
    wrap64 (wrap64 (wrap64 (wrap64 (255 * a * (255 - b)) * s) + wrap64 (wrap64 (255 * b * (255 - a)) * d)) + wrap64 (a * b * Pix.blend m s d)) = Pix.num m a b s d := by
  obtain ⟨l1, l2⟩ := Pix.blend_bound m s1 s2 d1 d2
  have x1 : 0 ≤ 255 * a * (255 - b) ∧ 255 * a * (255 - b) ≤ 65025 * 255 := ⟨Int.mul_nonneg (by omega) (by omega), Int.mul_le_mul (by omega) (by omega) (by omega) (by omega)⟩
  have x2 : 0 ≤ 255 * b * (255 - a) ∧ 255 * b * (255 - a) ≤ 65025 * 255 := ⟨Int.mul_nonneg (by omega) (by omega), Int.mul_le_mul (by omega) (by omega) (by omega) (by omega)⟩
  have x3 : 0 ≤ a * b ∧ a * b ≤ 255 * 255 := ⟨Int.mul_nonneg (by omega) (by omega), Int.mul_le_mul (by omega) (by omega) (by omega) (by omega)⟩
  have y1 : 0 ≤ 255 * a * (255 - b) * s ∧ 255 * a * (255 - b) * s ≤ 65025 * 255 * 255 := ⟨Int.mul_nonneg x1.1 (by omega), Int.mul_le_mul x1.2 s2 (by omega) (by omega)⟩
  have y2 : 0 ≤ 255 * b * (255 - a) * d ∧ 255 * b * (255 - a) * d ≤ 65025 * 255 * 255 := ⟨Int.mul_nonneg x2.1 (by omega), Int.mul_le_mul x2.2 d2 (by omega) (by omega)⟩
  have y3 : 0 ≤ a * b * Pix.blend m s d ∧ a * b * Pix.blend m s d ≤ 255 * 255 * 65025 := ⟨Int.mul_nonneg x3.1 l1, Int.mul_le_mul x3.2 l2 l1 (by omega)⟩
  rw [← Pix.numRef_eq]
  unfold Pix.numRef
  have key : ∀ n : Int, 0 ≤ n → n ≤ 1000000000000 → wrap64 n = n := fun n h0 h1 => IntWalk.wrap64_in n (by omega)
  rw [key _ x1.1 (by omega), key _ x2.1 (by omega), key _ y1.1 (by omega), key _ y2.1 (by omega), key _ y3.1 (by omega), key (255 * a * (255 - b) * s + 255 * b * (255 - a) * d) (by omega) (by omega), key (255 * a * (255 - b) * s + 255 * b * (255 - a) * d + a * b * Pix.blend m s d) (by omega) (by omega)]
/-- What stands through OverOf's loop. -/
structure OvR (m a b : Int) (t u : Px) (w : World) (i : Value) (wr : World) (k : Nat) : Prop where
  hk : k ≤ 3
  hi : i = .int .i64 k
  bs : Blk wr (w.heap.size + 1 + 1 + 1) 3 #[.int .i64 (ovS t 0), .int .i64 (ovS t 1), .int .i64 (ovS t 2)]
  bd : Blk wr (w.heap.size + 1 + 1 + 1 + 1) 3 #[.int .i64 (ovS u 0), .int .i64 (ovS u 1), .int .i64 (ovS u 2)]
  bc : Blk wr (w.heap.size + 1 + 1 + 1 + 1 + 1) 5 #[.int .u8 (ovC m a b t u k 0), .int .u8 (ovC m a b t u k 1), .int .u8 (ovC m a b t u k 2)]
  br : Blk wr (w.heap.size + 1 + 1) 60 #[.int .u8 0, .int .u8 0, .int .u8 0, .int .u8 0]
  bel : Below w.heap.size w wr

set_option maxRecDepth 100000 in
set_option maxHeartbeats 4000000 in
theorem overOf_some (m : Int) (t u : Px) (w : World) (h : ¬ Pix.covers t.a.toNat u.a.toNat = 0) :
    Calls Tryz.prog 71 #[.int .i64 m, pxV t, pxV u] w fun e w' => e = .returned (pxV (Pix.over m t u)) ∧ Below w.heap.size w w' := by
  have HO := Lib.hid (show Pix.over m t u = ⟨Pix.u8 (Pix.col m t.a.toNat u.a.toNat t.r.toNat u.r.toNat), Pix.u8 (Pix.col m t.a.toNat u.a.toNat t.g.toNat u.g.toNat), Pix.u8 (Pix.col m t.a.toNat u.a.toNat t.b.toNat u.b.toNat), Pix.u8 (Pix.rnd (Pix.covers t.a.toNat u.a.toNat) 255)⟩ by rw [Pix.over, if_neg h])
  obtain ⟨a1, a2⟩ := Pix.a_nonneg t.a
  obtain ⟨b1, b2⟩ := Pix.a_nonneg u.a
  obtain ⟨m1, m2, m3⟩ := Pix.mul_byte a1 a2 b1 b2
  have hce := Pix.covers_eq t.a.toNat u.a.toNat
  obtain ⟨cv1, cv2, cv3⟩ := Pix.covers_bound a1 a2 b1 b2
  obtain ⟨cv, hcv⟩ : ∃ cv, Pix.covers t.a.toNat u.a.toNat = cv := ⟨_, rfl⟩
  rw [hcv] at h hce cv1 cv2 cv3
  obtain ⟨r1, r2⟩ := Pix.a_nonneg t.r
  obtain ⟨g1, g2⟩ := Pix.a_nonneg t.g
  obtain ⟨e1, e2⟩ := Pix.a_nonneg t.b
  obtain ⟨r3, r4⟩ := Pix.a_nonneg u.r
  obtain ⟨g3, g4⟩ := Pix.a_nonneg u.g
  obtain ⟨e3, e4⟩ := Pix.a_nonneg u.b
  have hmk := make3
  unfold pxV
  go_enter Tryz.func71, Tryz.ntmps71
  go_wp2_with fail
  rw [← hce]
  have HCE := Lib.hid hce
  have HCV := Lib.hid hcv
  have HM := make3
  clear hce hmk hcv
  have R0 : OvR m t.a.toNat u.a.toNat t u w (.int .i64 0) _ 0 := ⟨by omega, rfl, ((Blk.new _ 3 #[.int .i64 t.r.toNat, .int .i64 t.g.toNat, .int .i64 t.b.toNat] (by simp)).alloc (.cells #[.int .i64 u.r.toNat, .int .i64 u.g.toNat, .int .i64 u.b.toNat] 3)).alloc (.cells #[.int .u8 0, .int .u8 0, .int .u8 0] 5), (Blk.new _ _ _ (by simp)).alloc _, Blk.new _ _ _ (by simp), (((Blk.new ((w.alloc (.cells #[.int .u8 t.r.toNat, .int .u8 t.g.toNat, .int .u8 t.b.toNat, .int .u8 t.a.toNat] 60)).alloc (.cells #[.int .u8 u.r.toNat, .int .u8 u.g.toNat, .int .u8 u.b.toNat, .int .u8 u.a.toNat] 60)) 60 #[.int .u8 0, .int .u8 0, .int .u8 0, .int .u8 0] (by simp)).alloc _).alloc _).alloc _, by go_grown⟩
  go_loopw [13] (fun i wr => ∃ k, OvR m t.a.toNat u.a.toNat t u w i wr k) (fun i _ => 3 - (intOf i).toNat)
  case atStart => exact ⟨0, R0⟩
  case round =>
    obtain ⟨k, hk, rfl, bs, bd, bc, br, bel⟩ := hrel
    obtain ⟨wo, rfl⟩ : ∃ wo : World, wo = wr := ⟨_, rfl⟩
    clear R0
    by_cases hlt : k < 3
    · obtain ⟨s, hs⟩ : ∃ s, ovS t k = s := ⟨_, rfl⟩
      obtain ⟨d, hd⟩ : ∃ d, ovS u k = d := ⟨_, rfl⟩
      obtain ⟨s0, s1⟩ := ovS_bound t k
      obtain ⟨d0, d1⟩ := ovS_bound u k
      rw [hs] at s0 s1
      rw [hd] at d0 d1
      have sk : wo.cell? ⟨w.heap.size + 1 + 1 + 1, k, none⟩ = some (.int .i64 s) := by rw [bs.cell, three_at (fun k => .int .i64 (ovS t k)) k hlt, hs]
      have dk : wo.cell? ⟨w.heap.size + 1 + 1 + 1 + 1, k, none⟩ = some (.int .i64 d) := by rw [bd.cell, three_at (fun k => .int .i64 (ovS u k)) k hlt, hd]
      have ck : ∃ v, wo.cell? ⟨w.heap.size + 1 + 1 + 1 + 1 + 1, k, none⟩ = some v := ⟨_, by rw [bc.cell]; exact three_at (fun j => .int .u8 (ovC m t.a.toNat u.a.toNat t u k j)) k hlt⟩
      obtain ⟨cv0, ck⟩ := ck
      have fk := bc.free k
      go_wp2_with fail
      go_quiet ((go_at_call 84; exact Calls.quiet_of_same (blendRef_any m s d _ s0 s1 d0 d1)))
      rw [over_wrap m a1 a2 b1 b2 s0 s1 d0 d1]
      obtain ⟨n0, n1⟩ := Pix.num_bound m a1 a2 b1 b2 s0 s1 d0 d1
      have n2 : 0 < Pix.covers t.a.toNat u.a.toNat := by rw [HCV.out]; omega
      obtain ⟨q0, q1⟩ := Pix.col_bound m a1 a2 b1 b2 s0 s1 d0 d1 n2
      obtain ⟨r, hr⟩ : ∃ r, Pix.col m t.a.toNat u.a.toNat s d = r := ⟨_, rfl⟩
      have HSET := Lib.hid (ovC_set m t.a.toNat u.a.toNat t u k hlt r (by rw [hs, hd]; exact hr))
      rw [hr] at q0 q1
      unfold Pix.col at hr
      rw [HCV.out] at n1 hr
      obtain ⟨n, hn⟩ : ∃ n, Pix.num m t.a.toNat u.a.toNat s d = n := ⟨_, rfl⟩
      rw [hn] at n0 n1 hr ⊢
      have HR := Lib.hid hr
      have HSN := Lib.hid hs
      clear hr hn hs hd
      go_wp2_with fail
      refine (rounded_any n (255 * cv) r _ HR.out n0 (by omega) (by omega) (by omega)).mono ?_
      rintro e w3 ⟨rfl, rfl⟩
      go_wp2_with fail
      go_roundw
      case rel => exact ⟨k + 1, by omega, by go_num, bs.far (by simp) _, bd.far (by simp) _, (by have := bc.set_ k (.int .u8 r); rw [HSET.out] at this; exact this), br.far (by simp) _, (below_drewN bel _).setCell (by show w.heap.size ≤ w.heap.size + 1 + 1 + 1 + 1 + 1; omega) _⟩
      case measure => simp [intOf]; omega
    · have e : k = 3 := by omega
      subst e
      have n2 : 0 < Pix.covers t.a.toNat u.a.toNat := by rw [HCV.out]; omega
      have key : ∀ j, j < 3 → ∃ x, Pix.col m t.a.toNat u.a.toNat (ovS t j) (ovS u j) = x ∧ 0 ≤ x ∧ x ≤ 255 := fun j _ => ⟨_, rfl, Pix.col_bound m a1 a2 b1 b2 (ovS_bound t j).1 (ovS_bound t j).2 (ovS_bound u j).1 (ovS_bound u j).2 n2⟩
      obtain ⟨x0, h0, h01, h02⟩ := key 0 (by omega)
      obtain ⟨x1, h1, h11, h12⟩ := key 1 (by omega)
      obtain ⟨x2, h2, h21, h22⟩ := key 2 (by omega)
      obtain ⟨x3, h3⟩ : ∃ x, Pix.rnd cv 255 = x := ⟨_, rfl⟩
      have h31 : 0 ≤ x3 := by rw [← h3]; exact Pix.rnd_nonneg _ _ (by omega) (by omega)
      have h32 : x3 ≤ 255 := by rw [← h3]; exact Pix.rnd_le _ _ _ (by omega) (by omega)
      have c0 : wo.cell? ⟨w.heap.size + 1 + 1 + 1 + 1 + 1, 0, none⟩ = some (.int .u8 x0) := by rw [bc.cell, ← h0]; rfl
      have c1 : wo.cell? ⟨w.heap.size + 1 + 1 + 1 + 1 + 1, 1, none⟩ = some (.int .u8 x1) := by rw [bc.cell, ← h1]; rfl
      have c2 : wo.cell? ⟨w.heap.size + 1 + 1 + 1 + 1 + 1, 2, none⟩ = some (.int .u8 x2) := by rw [bc.cell, ← h2]; rfl
      have z1 := br.cell
      have z2 := br.free
      have HV := Lib.hid (show pxV (Pix.over m t u) = .agg #[.int .u8 x0, .int .u8 x1, .int .u8 x2, .int .u8 x3] by
        have e0 : (((Pix.u8 (Pix.col m t.a.toNat u.a.toNat t.r.toNat u.r.toNat)).toNat : Nat) : Int) = x0 := by rw [show Pix.col m t.a.toNat u.a.toNat t.r.toNat u.r.toNat = x0 from h0]; exact Pix.u8_toNat h01 h02
        have e1 : (((Pix.u8 (Pix.col m t.a.toNat u.a.toNat t.g.toNat u.g.toNat)).toNat : Nat) : Int) = x1 := by rw [show Pix.col m t.a.toNat u.a.toNat t.g.toNat u.g.toNat = x1 from h1]; exact Pix.u8_toNat h11 h12
        have e2 : (((Pix.u8 (Pix.col m t.a.toNat u.a.toNat t.b.toNat u.b.toNat)).toNat : Nat) : Int) = x2 := by rw [show Pix.col m t.a.toNat u.a.toNat t.b.toNat u.b.toNat = x2 from h2]; exact Pix.u8_toNat h21 h22
        have e3 : (((Pix.u8 (Pix.rnd (Pix.covers t.a.toNat u.a.toNat) 255)).toNat : Nat) : Int) = x3 := by rw [HCV.out, h3]; exact Pix.u8_toNat h31 h32
        rw [HO.out]
        simp only [pxV, e0, e1, e2, e3])
      have HX3 := Lib.hid h3
      have hw3 : IntKind.u8.wrap x3 = x3 := IntWalk.u8_in _ (by omega)
      clear h0 h1 h2 h3 key
      go_wp2_with fail
      go_region_held3 (fun w' => w'.cell? ⟨w.heap.size + 1 + 1 + 1 + 1 + 1, 0, none⟩ = some (.int .u8 x0) ∧ w'.cell? ⟨w.heap.size + 1 + 1 + 1 + 1 + 1, 1, none⟩ = some (.int .u8 x1) ∧ w'.cell? ⟨w.heap.size + 1 + 1 + 1 + 1 + 1, 2, none⟩ = some (.int .u8 x2))
        (go_keep)
        ((go_at_call 69; refine (rounded_any cv 255 x3 _ HX3.out (by omega) (by omega) (by omega) (by omega)).mono ?_; rintro e w3 ⟨rfl, rfl⟩))
      go_wp2_with fail
      refine bodyPost_ret (v := .agg #[.int .u8 x0, .int .u8 x1, .int .u8 x2, .int .u8 x3]) (by simp [results, Tryz.results71, go_sem, *]) rfl ⟨by rw [← HV.out]; rfl, ?_⟩
      have hz : w.heap.size ≤ w.heap.size + 1 + 1 := by omega
      exact (((((below_drewN bel _).setCell hz _).setCell hz _).setCell hz _).setCell hz _)
theorem overOf_any (m : Int) (t u : Px) (w : World) :
    Calls Tryz.prog 71 #[.int .i64 m, pxV t, pxV u] w fun e w' => e = .returned (pxV (Pix.over m t u)) ∧ Below w.heap.size w w' := by
  by_cases h : Pix.covers t.a.toNat u.a.toNat = 0
  · exact overOf_nil m t u w h
  · exact overOf_some m t u w h
end Go.Proofs.YtmknacnmdlcieaaGreatDoor
