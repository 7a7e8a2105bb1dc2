/- FlatLaw, OverOf, Stamp, FlatOf: put together. -/
import Derived.Test.YtfadnkfceggjaaaDoorLayDoc
import Derived.Test.YtfadnkfceggjaaaDoorPix5
import Derived.Deep.QuietTactic
import Derived.BigQuiet
import Derived.Deep.RegionHeld3
import Derived.IntWalk
import Derived.Test.YtfadnkfceggjaaaDoorFlatten
import Derived.Test.YtfadnkfceggjaaaDoorBlank
/- Pictures place by place; a picture stamped upon another one; layers stamped one by one: plain. -/
namespace Go.Proofs.YtfadnkfceggjaaaDoor
namespace Lay
/-- Pixels, row by row. -/
def grid (f : Nat → Nat → Px) (wide high : Nat) : List Px := (List.range high).flatMap fun y : Nat => (List.range wide).map fun x : Nat => f x y
/-- The first rows, and the first places of the next one. -/
def gridTo (f : Nat → Nat → Px) (wide k j : Nat) : List Px := grid f wide k ++ (List.range j).map fun x : Nat => f x k
theorem grid_length (f : Nat → Nat → Px) (wide high : Nat) : (grid f wide high).length = high * wide := by
  unfold grid
  induction high with
  | zero => simp
  | succ n ih => rw [List.range_succ, List.flatMap_append, List.length_append, ih]; simp [Nat.succ_mul]
theorem gridTo_length (f : Nat → Nat → Px) (wide k j : Nat) : (gridTo f wide k j).length = k * wide + j := by simp [gridTo, grid_length]
theorem gridTo_zero (f : Nat → Nat → Px) (wide k : Nat) : gridTo f wide k 0 = grid f wide k := by simp [gridTo]
theorem gridTo_succ (f : Nat → Nat → Px) (wide k j : Nat) : gridTo f wide k (j + 1) = gridTo f wide k j ++ [f j k] := by simp [gridTo, List.range_succ]
theorem gridTo_full (f : Nat → Nat → Px) (wide k : Nat) : gridTo f wide k wide = grid f wide (k + 1) := by
  unfold gridTo grid
  rw [List.range_succ, List.flatMap_append]
  simp
theorem grid_nil (f : Nat → Nat → Px) (wide : Nat) : grid f wide 0 = [] := rfl
theorem grid_at (f : Nat → Nat → Px) (wide : Nat) : ∀ (high x y : Nat), x < wide → y < high → (grid f wide high)[y * wide + x]? = some (f x y) := by
  intro high
  induction high with
  | zero => intro x y _ hy; omega
  | succ n ih =>
    intro x y hx hy
    rw [← gridTo_full]
    unfold gridTo
    rcases Nat.lt_or_ge y n with h | h
    · have hm : (y + 1) * wide ≤ n * wide := Nat.mul_le_mul_right _ h
      rw [Nat.succ_mul] at hm
      rw [List.getElem?_append_left (by rw [grid_length]; omega), ih x y hx h]
    · have hy' : y = n := by omega
      subst hy'
      rw [List.getElem?_append_right (by rw [grid_length]; omega), grid_length]
      have e2 : y * wide + x - y * wide = x := by omega
      rw [e2]
      simp [hx]
theorem grid_congr (f g : Nat → Nat → Px) (wide high : Nat) (h : ∀ x y : Nat, x < wide → y < high → f x y = g x y) : grid f wide high = grid g wide high := by
  induction high with
  | zero => rfl
  | succ n ih =>
    rw [← gridTo_full, ← gridTo_full, gridTo, gridTo, ih fun x y hx hy => h x y hx (by omega)]
    congr 1
    exact List.map_congr_left fun x hx => h x n (List.mem_range.1 hx) (by omega)
theorem flat_grid (ls : List Layer) (wide high : Nat) : flat ls wide high = grid (fun x y => dot ls (x : Int) (y : Int)) wide high := rfl
/-- What is done in place: the places that were reached are new, the others as they were. -/
def mixTo (f : Nat → Nat → Px) (ps : List Px) (wide k j : Nat) : List Px := gridTo f wide k j ++ ps.drop (k * wide + j)
theorem mixTo_start (f : Nat → Nat → Px) (ps : List Px) (wide : Nat) : mixTo f ps wide 0 0 = ps := by simp [mixTo, gridTo, grid]
theorem mixTo_full (f : Nat → Nat → Px) (ps : List Px) (wide k : Nat) : mixTo f ps wide k wide = mixTo f ps wide (k + 1) 0 := by
  rw [mixTo, mixTo, gridTo_full, gridTo_zero]
  congr 2
  rw [Nat.succ_mul]; omega
theorem mixTo_end (f : Nat → Nat → Px) (ps : List Px) (wide high : Nat) (h : ps.length = high * wide) : mixTo f ps wide high 0 = grid f wide high := by
  rw [mixTo, gridTo_zero, List.drop_eq_nil_of_le (by omega), List.append_nil]
theorem mixTo_length (f : Nat → Nat → Px) (ps : List Px) (wide k j : Nat) (h : k * wide + j ≤ ps.length) : (mixTo f ps wide k j).length = ps.length := by
  rw [mixTo, List.length_append, gridTo_length, List.length_drop]
  omega
theorem mixTo_set (f : Nat → Nat → Px) (ps : List Px) (wide k j : Nat) (h : k * wide + j < ps.length) : (mixTo f ps wide k j).set (k * wide + j) (f j k) = mixTo f ps wide k (j + 1) := by
  rw [mixTo, mixTo, List.set_append_right _ _ (by rw [gridTo_length]; omega), gridTo_length, Nat.sub_self, List.drop_eq_getElem_cons h, List.set_cons_zero, gridTo_succ, List.append_assoc]
  rfl
theorem mixTo_keep (f : Nat → Nat → Px) (ps : List Px) (wide k j : Nat) (h : k * wide + j < ps.length) (e : f j k = ps.getD (k * wide + j) default) : mixTo f ps wide k j = mixTo f ps wide k (j + 1) := by
  rw [← mixTo_set f ps wide k j h, e, mixTo]
  rw [List.set_append_right _ _ (by rw [gridTo_length]; omega), gridTo_length, Nat.sub_self, List.drop_eq_getElem_cons h, List.set_cons_zero, List.getD_eq_getElem?_getD, List.getElem?_eq_getElem h]
  rfl
/-- The place that is next is still as it was. -/
theorem mixTo_here (f : Nat → Nat → Px) (ps : List Px) (wide k j : Nat) : (mixTo f ps wide k j)[k * wide + j]? = ps[k * wide + j]? := by
  rw [mixTo, List.getElem?_append_right (by rw [gridTo_length]; omega), gridTo_length, Nat.sub_self, List.getElem?_drop]
  congr 1

/-- Does a place lie in a picture? -/
def inP (W H x y : Int) : Bool := decide (0 ≤ x) && decide (0 ≤ y) && decide (x < W) && decide (y < H)
/-- A pixel of a picture that is stamped upon another one. -/
def stampAt (ps qs : List Px) (W : Nat) (Wq Hq x y mode : Int) (u v : Nat) : Px :=
  if inP Wq Hq (u - x) (v - y) = true then Pix.over mode (qs.getD ((v - y) * Wq + (u - x)).toNat default) (ps.getD (v * W + u) default) else ps.getD (v * W + u) default
theorem inP_seen (l : Layer) (x y : Int) (h : l.hidden = false) : inP l.wide l.high (x - l.x) (y - l.y) = seen l x y := by
  unfold inP seen
  rw [h]
  rcases decide (0 ≤ x - l.x) with _ | _ <;> rcases decide (0 ≤ y - l.y) with _ | _ <;> rcases decide (x - l.x < l.wide) with _ | _ <;> rcases decide (y - l.y < l.high) with _ | _ <;> rfl
theorem spot_in (l : Layer) (x y : Int) (hn : (l.ps.length : Int) = l.wide * l.high) (h : inP l.wide l.high (x - l.x) (y - l.y) = true) : ((y - l.y) * l.wide + (x - l.x)).toNat < l.ps.length := by
  simp only [inP, Bool.and_eq_true, decide_eq_true_eq] at h
  obtain ⟨⟨⟨h1, h2⟩, h3⟩, h4⟩ := h
  generalize x - l.x = u at *
  generalize y - l.y = v at *
  have a1 : (v + 1) * l.wide ≤ l.high * l.wide := Int.mul_le_mul_of_nonneg_right (by omega) (by omega)
  have a2 : 0 ≤ v * l.wide := Int.mul_nonneg h2 (by omega)
  rw [Int.add_mul, Int.one_mul, Int.mul_comm l.high] at a1
  omega
theorem flat_stamp (a : List Layer) (l : Layer) (W H : Nat) (hh : l.hidden = false) (hn : (l.ps.length : Int) = l.wide * l.high) :
    grid (stampAt (flat a W H) (l.ps.map fun p => Pix.fade p l.opacity) W l.wide l.high l.x l.y l.mode) W H = flat (a ++ [l]) W H := by
  rw [flat_grid (a ++ [l])]
  refine grid_congr _ _ _ _ fun x y hx hy => ?_
  rw [dot_snoc, put, ← inP_seen l _ _ hh]
  have e : (flat a W H).getD (y * W + x) default = dot a (x : Int) (y : Int) := by rw [List.getD_eq_getElem?_getD, flat_at a W H x y hx hy]; rfl
  unfold stampAt
  rw [e]
  split
  · rename_i h
    have hk := spot_in l x y hn h
    rw [spot, List.getD_eq_getElem?_getD, List.getD_eq_getElem?_getD, List.getElem?_map, List.getElem?_eq_getElem hk]
    rfl
  · rfl
/-- The whole of no layers is clear. -/
theorem flat_none (W H : Nat) : flat [] W H = List.replicate (W * H) Pix.nil := by
  apply List.ext_getElem?
  intro i
  by_cases h : i < H * W
  · have hW : 0 < W := by
      rcases Nat.eq_zero_or_pos W with e | e
      · subst e; simp at h
      · exact e
    have hi : i = i / W * W + i % W := by have := Nat.div_add_mod i W; rw [Nat.mul_comm] at this; omega
    rw [List.getElem?_replicate, if_pos (by rw [Nat.mul_comm]; exact h)]
    conv => lhs; rw [hi]
    rw [flat_at [] W H _ _ (Nat.mod_lt _ hW) (Nat.div_lt_of_lt_mul (by rwa [Nat.mul_comm]))]
    rfl
  · rw [List.getElem?_eq_none (by rw [flat_length]; omega), List.getElem?_eq_none (by rw [List.length_replicate, Nat.mul_comm]; omega)]
theorem flat_skip (a : List Layer) (l : Layer) (W H : Nat) (hh : l.hidden = true) : flat (a ++ [l]) W H = flat a W H := by
  have := flat_hidden a [] l hh W H
  simpa using this
end Lay

namespace Pix
/-- As the document says it: a rounded part. -/
def rounded (n d : Int) : Int := if d ≤ 2 * (n - n / d * d) then n / d + 1 else n / d
theorem rounded_eq (n d : Int) (h : 0 < d) : rounded n d = rnd n d := rnd_ref n d h
/-- The colors of two pixels as the document says it. -/
def numRef (m a b s d : Int) : Int := 255 * a * (255 - b) * s + 255 * b * (255 - a) * d + a * b * blend m s d
theorem numRef_eq (m a b s d : Int) : numRef m a b s d = num m a b s d := by unfold numRef num; grind
end Pix
end Go.Proofs.YtfadnkfceggjaaaDoor
/- The reference's blend, OverOf: the walks. -/
namespace Go.Proofs.YtfadnkfceggjaaaDoor
open Go Go.RowKit

theorem make3 (W : World) : (Instr.makeSlice 109 (.int .i64 3) (.int .i64 3)).run Tryd.prog W = .ok (.slice (some ⟨W.heap.size, 0, none⟩) 3 3) (W.alloc (.cells #[.int .u8 0, .int .u8 0, .int .u8 0] 5)) := by kernel_rfl
theorem ret_i64 {a b : Int} (h : a = b) : Ending.returned (.int .i64 a) = .returned (.int .i64 b) := by rw [h]
set_option maxRecDepth 100000 in
theorem blendRef_any (m s d : Int) (w : World) (s0 : 0 ≤ s) (s1 : s ≤ 255) (d0 : 0 ≤ d) (d1 : d ≤ 255) :
    Calls Tryd.prog 96 #[.int .i64 m, .int .i64 s, .int .i64 d] w fun e w' => e = .returned (.int .i64 (Pix.blend m s d)) ∧ w' = w := by
  obtain ⟨z0, z1, z2⟩ := Pix.mul_byte s0 s1 d0 d1
  rcases (show s < d ∨ s = d ∨ d < s by omega) with hsd | rfl | hsd
  all_goals rcases (show m = 1 ∨ m = 2 ∨ m = 3 ∨ m = 4 ∨ m = 5 ∨ (¬ m = 1 ∧ ¬ m = 2 ∧ ¬ m = 3 ∧ ¬ m = 4 ∧ ¬ m = 5) by omega) with rfl | rfl | rfl | rfl | rfl | ⟨h1, h2, h3, h4, h5⟩
  all_goals
    go_enter Tryd.func96, Tryd.ntmps96
    go_wp2
    go_ret
  all_goals exact ⟨ret_i64 (by unfold Pix.blend; (repeat' split) <;> omega), rfl⟩

set_option maxRecDepth 100000 in
set_option maxHeartbeats 2000000 in
theorem overOf_nil (m : Int) (t u : Px) (w : World) (h : Pix.covers t.a.toNat u.a.toNat = 0) :
    Calls Tryd.prog 74 #[.int .i64 m, pxV t, pxV u] w fun e w' => e = .returned (pxV (Pix.over m t u)) ∧ Below w.heap.size w w' := by
  have HO := Lib.hid (show Pix.over m t u = Pix.nil by rw [Pix.over, if_pos h])
  obtain ⟨a1, a2⟩ := Pix.a_nonneg t.a
  obtain ⟨b1, b2⟩ := Pix.a_nonneg u.a
  obtain ⟨m1, m2, m3⟩ := Pix.mul_byte a1 a2 b1 b2
  rw [Pix.covers_eq] at h
  unfold pxV
  go_enter Tryd.func74, Tryd.ntmps74
  go_wp2_with fail
  refine bodyPost_ret (v := .agg #[.int .u8 0, .int .u8 0, .int .u8 0, .int .u8 0]) (by simp [results, Tryd.results74, go_sem]) rfl ⟨by rw [HO.out]; rfl, by go_grown⟩

/-- The colors of a pixel by numbers. -/
def ovS (p : Px) (k : Nat) : Int := if k = 0 then p.r.toNat else if k = 1 then p.g.toNat else p.b.toNat
theorem ovS_bound (p : Px) (k : Nat) : 0 ≤ ovS p k ∧ ovS p k ≤ 255 := by
  unfold ovS
  split
  · exact Pix.a_nonneg _
  · split <;> exact Pix.a_nonneg _
/-- The color that is made, once it is. -/
def ovC (m a b : Int) (t u : Px) (k j : Nat) : Int := if j < k then Pix.col m a b (ovS t j) (ovS u j) else 0
theorem three_at (f : Nat → Value) (k : Nat) (hk : k < 3) : #[f 0, f 1, f 2][k]? = some (f k) := by
  rcases (show k = 0 ∨ k = 1 ∨ k = 2 by omega) with rfl | rfl | rfl <;> rfl
theorem ovC_set (m a b : Int) (t u : Px) (k : Nat) (hk : k < 3) (r : Int) (hr : Pix.col m a b (ovS t k) (ovS u k) = r) :
    #[Value.int .u8 (ovC m a b t u k 0), Value.int .u8 (ovC m a b t u k 1), Value.int .u8 (ovC m a b t u k 2)].setIfInBounds k (.int .u8 r) = #[Value.int .u8 (ovC m a b t u (k + 1) 0), Value.int .u8 (ovC m a b t u (k + 1) 1), Value.int .u8 (ovC m a b t u (k + 1) 2)] := by
  subst hr
  rcases (show k = 0 ∨ k = 1 ∨ k = 2 by omega) with rfl | rfl | rfl <;> simp [ovC]
theorem over_wrap (m : Int) {a b s d : Int} (a1 : 0 ≤ a) (a2 : a ≤ 255) (b1 : 0 ≤ b) (b2 : b ≤ 255) (s1 : 0 ≤ s) (s2 : s ≤ 255) (d1 : 0 ≤ d) (d2 : d ≤ 255) :
    wrap64 (wrap64 (wrap64 (wrap64 (255 * a * (255 - b)) * s) + wrap64 (wrap64 (255 * b * (255 - a)) * d)) + wrap64 (a * b * Pix.blend m s d)) = Pix.num m a b s d := by
  obtain ⟨l1, l2⟩ := Pix.blend_bound m s1 s2 d1 d2
  have x1 : 0 ≤ 255 * a * (255 - b) ∧ 255 * a * (255 - b) ≤ 65025 * 255 := ⟨Int.mul_nonneg (by omega) (by omega), Int.mul_le_mul (by omega) (by omega) (by omega) (by omega)⟩
  have x2 : 0 ≤ 255 * b * (255 - a) ∧ 255 * b * (255 - a) ≤ 65025 * 255 := ⟨Int.mul_nonneg (by omega) (by omega), Int.mul_le_mul (by omega) (by omega) (by omega) (by omega)⟩
  have x3 : 0 ≤ a * b ∧ a * b ≤ 255 * 255 := ⟨Int.mul_nonneg (by omega) (by omega), Int.mul_le_mul (by omega) (by omega) (by omega) (by omega)⟩
  have y1 : 0 ≤ 255 * a * (255 - b) * s ∧ 255 * a * (255 - b) * s ≤ 65025 * 255 * 255 := ⟨Int.mul_nonneg x1.1 (by omega), Int.mul_le_mul x1.2 s2 (by omega) (by omega)⟩
  have y2 : 0 ≤ 255 * b * (255 - a) * d ∧ 255 * b * (255 - a) * d ≤ 65025 * 255 * 255 := ⟨Int.mul_nonneg x2.1 (by omega), Int.mul_le_mul x2.2 d2 (by omega) (by omega)⟩
  have y3 : 0 ≤ a * b * Pix.blend m s d ∧ a * b * Pix.blend m s d ≤ 255 * 255 * 65025 := ⟨Int.mul_nonneg x3.1 l1, Int.mul_le_mul x3.2 l2 l1 (by omega)⟩
  rw [← Pix.numRef_eq]
  unfold Pix.numRef
  have key : ∀ n : Int, 0 ≤ n → n ≤ 1000000000000 → wrap64 n = n := fun n h0 h1 => IntWalk.wrap64_in n (by omega)
  rw [key _ x1.1 (by omega), key _ x2.1 (by omega), key _ y1.1 (by omega), key _ y2.1 (by omega), key _ y3.1 (by omega), key (255 * a * (255 - b) * s + 255 * b * (255 - a) * d) (by omega) (by omega), key (255 * a * (255 - b) * s + 255 * b * (255 - a) * d + a * b * Pix.blend m s d) (by omega) (by omega)]
/-- What stands through OverOf's loop. -/
structure OvR (m a b : Int) (t u : Px) (w : World) (i : Value) (wr : World) (k : Nat) : Prop where
  hk : k ≤ 3
  hi : i = .int .i64 k
  bs : Blk wr (w.heap.size + 1 + 1 + 1) 3 #[.int .i64 (ovS t 0), .int .i64 (ovS t 1), .int .i64 (ovS t 2)]
  bd : Blk wr (w.heap.size + 1 + 1 + 1 + 1) 3 #[.int .i64 (ovS u 0), .int .i64 (ovS u 1), .int .i64 (ovS u 2)]
  bc : Blk wr (w.heap.size + 1 + 1 + 1 + 1 + 1) 5 #[.int .u8 (ovC m a b t u k 0), .int .u8 (ovC m a b t u k 1), .int .u8 (ovC m a b t u k 2)]
  br : Blk wr (w.heap.size + 1 + 1) 49 #[.int .u8 0, .int .u8 0, .int .u8 0, .int .u8 0]
  bel : Below w.heap.size w wr

set_option maxRecDepth 100000 in
set_option maxHeartbeats 4000000 in
theorem overOf_some (m : Int) (t u : Px) (w : World) (h : ¬ Pix.covers t.a.toNat u.a.toNat = 0) :
    Calls Tryd.prog 74 #[.int .i64 m, pxV t, pxV u] w fun e w' => e = .returned (pxV (Pix.over m t u)) ∧ Below w.heap.size w w' := by
  have HO := Lib.hid (show Pix.over m t u = ⟨Pix.u8 (Pix.col m t.a.toNat u.a.toNat t.r.toNat u.r.toNat), Pix.u8 (Pix.col m t.a.toNat u.a.toNat t.g.toNat u.g.toNat), Pix.u8 (Pix.col m t.a.toNat u.a.toNat t.b.toNat u.b.toNat), Pix.u8 (Pix.rnd (Pix.covers t.a.toNat u.a.toNat) 255)⟩ by rw [Pix.over, if_neg h])
  obtain ⟨a1, a2⟩ := Pix.a_nonneg t.a
  obtain ⟨b1, b2⟩ := Pix.a_nonneg u.a
  obtain ⟨m1, m2, m3⟩ := Pix.mul_byte a1 a2 b1 b2
  have hce := Pix.covers_eq t.a.toNat u.a.toNat
  obtain ⟨cv1, cv2, cv3⟩ := Pix.covers_bound a1 a2 b1 b2
  obtain ⟨cv, hcv⟩ : ∃ cv, Pix.covers t.a.toNat u.a.toNat = cv := ⟨_, rfl⟩
  rw [hcv] at h hce cv1 cv2 cv3
  obtain ⟨r1, r2⟩ := Pix.a_nonneg t.r
  obtain ⟨g1, g2⟩ := Pix.a_nonneg t.g
  obtain ⟨e1, e2⟩ := Pix.a_nonneg t.b
  obtain ⟨r3, r4⟩ := Pix.a_nonneg u.r
  obtain ⟨g3, g4⟩ := Pix.a_nonneg u.g
  obtain ⟨e3, e4⟩ := Pix.a_nonneg u.b
  have hmk := make3
  unfold pxV
  go_enter Tryd.func74, Tryd.ntmps74
  go_wp2_with fail
  rw [← hce]
  have HCE := Lib.hid hce
  have HCV := Lib.hid hcv
  have HM := make3
  clear hce hmk hcv
  have R0 : OvR m t.a.toNat u.a.toNat t u w (.int .i64 0) _ 0 := ⟨by omega, rfl, ((Blk.new _ 3 #[.int .i64 t.r.toNat, .int .i64 t.g.toNat, .int .i64 t.b.toNat] (by simp)).alloc (.cells #[.int .i64 u.r.toNat, .int .i64 u.g.toNat, .int .i64 u.b.toNat] 3)).alloc (.cells #[.int .u8 0, .int .u8 0, .int .u8 0] 5), (Blk.new _ _ _ (by simp)).alloc _, Blk.new _ _ _ (by simp), (((Blk.new ((w.alloc (.cells #[.int .u8 t.r.toNat, .int .u8 t.g.toNat, .int .u8 t.b.toNat, .int .u8 t.a.toNat] 49)).alloc (.cells #[.int .u8 u.r.toNat, .int .u8 u.g.toNat, .int .u8 u.b.toNat, .int .u8 u.a.toNat] 49)) 49 #[.int .u8 0, .int .u8 0, .int .u8 0, .int .u8 0] (by simp)).alloc _).alloc _).alloc _, by go_grown⟩
  go_loopw [13] (fun i wr => ∃ k, OvR m t.a.toNat u.a.toNat t u w i wr k) (fun i _ => 3 - (intOf i).toNat)
  case atStart => exact ⟨0, R0⟩
  case round =>
    obtain ⟨k, hk, rfl, bs, bd, bc, br, bel⟩ := hrel
    obtain ⟨wo, rfl⟩ : ∃ wo : World, wo = wr := ⟨_, rfl⟩
    clear R0
    by_cases hlt : k < 3
    · obtain ⟨s, hs⟩ : ∃ s, ovS t k = s := ⟨_, rfl⟩
      obtain ⟨d, hd⟩ : ∃ d, ovS u k = d := ⟨_, rfl⟩
      obtain ⟨s0, s1⟩ := ovS_bound t k
      obtain ⟨d0, d1⟩ := ovS_bound u k
      rw [hs] at s0 s1
      rw [hd] at d0 d1
      have sk : wo.cell? ⟨w.heap.size + 1 + 1 + 1, k, none⟩ = some (.int .i64 s) := by rw [bs.cell, three_at (fun k => .int .i64 (ovS t k)) k hlt, hs]
      have dk : wo.cell? ⟨w.heap.size + 1 + 1 + 1 + 1, k, none⟩ = some (.int .i64 d) := by rw [bd.cell, three_at (fun k => .int .i64 (ovS u k)) k hlt, hd]
      have ck : ∃ v, wo.cell? ⟨w.heap.size + 1 + 1 + 1 + 1 + 1, k, none⟩ = some v := ⟨_, by rw [bc.cell]; exact three_at (fun j => .int .u8 (ovC m t.a.toNat u.a.toNat t u k j)) k hlt⟩
      obtain ⟨cv0, ck⟩ := ck
      have fk := bc.free k
      go_wp2_with fail
      go_quiet ((go_at_call 96; exact Calls.quiet_of_same (blendRef_any m s d _ s0 s1 d0 d1)))
      rw [over_wrap m a1 a2 b1 b2 s0 s1 d0 d1]
      obtain ⟨n0, n1⟩ := Pix.num_bound m a1 a2 b1 b2 s0 s1 d0 d1
      have n2 : 0 < Pix.covers t.a.toNat u.a.toNat := by rw [HCV.out]; omega
      obtain ⟨q0, q1⟩ := Pix.col_bound m a1 a2 b1 b2 s0 s1 d0 d1 n2
      obtain ⟨r, hr⟩ : ∃ r, Pix.col m t.a.toNat u.a.toNat s d = r := ⟨_, rfl⟩
      have HSET := Lib.hid (ovC_set m t.a.toNat u.a.toNat t u k hlt r (by rw [hs, hd]; exact hr))
      rw [hr] at q0 q1
      unfold Pix.col at hr
      rw [HCV.out] at n1 hr
      obtain ⟨n, hn⟩ : ∃ n, Pix.num m t.a.toNat u.a.toNat s d = n := ⟨_, rfl⟩
      rw [hn] at n0 n1 hr ⊢
      have HR := Lib.hid hr
      have HSN := Lib.hid hs
      clear hr hn hs hd
      go_wp2_with fail
      refine (rounded_any n (255 * cv) r _ HR.out n0 (by omega) (by omega) (by omega)).mono ?_
      rintro e w3 ⟨rfl, rfl⟩
      go_wp2_with fail
      go_roundw
      case rel => exact ⟨k + 1, by omega, by go_num, bs.far (by simp) _, bd.far (by simp) _, (by have := bc.set_ k (.int .u8 r); rw [HSET.out] at this; exact this), br.far (by simp) _, (below_drewN bel _).setCell (by show w.heap.size ≤ w.heap.size + 1 + 1 + 1 + 1 + 1; omega) _⟩
      case measure => simp [intOf]; omega
    · have e : k = 3 := by omega
      subst e
      have n2 : 0 < Pix.covers t.a.toNat u.a.toNat := by rw [HCV.out]; omega
      have key : ∀ j, j < 3 → ∃ x, Pix.col m t.a.toNat u.a.toNat (ovS t j) (ovS u j) = x ∧ 0 ≤ x ∧ x ≤ 255 := fun j _ => ⟨_, rfl, Pix.col_bound m a1 a2 b1 b2 (ovS_bound t j).1 (ovS_bound t j).2 (ovS_bound u j).1 (ovS_bound u j).2 n2⟩
      obtain ⟨x0, h0, h01, h02⟩ := key 0 (by omega)
      obtain ⟨x1, h1, h11, h12⟩ := key 1 (by omega)
      obtain ⟨x2, h2, h21, h22⟩ := key 2 (by omega)
      obtain ⟨x3, h3⟩ : ∃ x, Pix.rnd cv 255 = x := ⟨_, rfl⟩
      have h31 : 0 ≤ x3 := by rw [← h3]; exact Pix.rnd_nonneg _ _ (by omega) (by omega)
      have h32 : x3 ≤ 255 := by rw [← h3]; exact Pix.rnd_le _ _ _ (by omega) (by omega)
      have c0 : wo.cell? ⟨w.heap.size + 1 + 1 + 1 + 1 + 1, 0, none⟩ = some (.int .u8 x0) := by rw [bc.cell, ← h0]; rfl
      have c1 : wo.cell? ⟨w.heap.size + 1 + 1 + 1 + 1 + 1, 1, none⟩ = some (.int .u8 x1) := by rw [bc.cell, ← h1]; rfl
      have c2 : wo.cell? ⟨w.heap.size + 1 + 1 + 1 + 1 + 1, 2, none⟩ = some (.int .u8 x2) := by rw [bc.cell, ← h2]; rfl
      have z1 := br.cell
      have z2 := br.free
      have HV := Lib.hid (show pxV (Pix.over m t u) = .agg #[.int .u8 x0, .int .u8 x1, .int .u8 x2, .int .u8 x3] by
        have e0 : (((Pix.u8 (Pix.col m t.a.toNat u.a.toNat t.r.toNat u.r.toNat)).toNat : Nat) : Int) = x0 := by rw [show Pix.col m t.a.toNat u.a.toNat t.r.toNat u.r.toNat = x0 from h0]; exact Pix.u8_toNat h01 h02
        have e1 : (((Pix.u8 (Pix.col m t.a.toNat u.a.toNat t.g.toNat u.g.toNat)).toNat : Nat) : Int) = x1 := by rw [show Pix.col m t.a.toNat u.a.toNat t.g.toNat u.g.toNat = x1 from h1]; exact Pix.u8_toNat h11 h12
        have e2 : (((Pix.u8 (Pix.col m t.a.toNat u.a.toNat t.b.toNat u.b.toNat)).toNat : Nat) : Int) = x2 := by rw [show Pix.col m t.a.toNat u.a.toNat t.b.toNat u.b.toNat = x2 from h2]; exact Pix.u8_toNat h21 h22
        have e3 : (((Pix.u8 (Pix.rnd (Pix.covers t.a.toNat u.a.toNat) 255)).toNat : Nat) : Int) = x3 := by rw [HCV.out, h3]; exact Pix.u8_toNat h31 h32
        rw [HO.out]
        simp only [pxV, e0, e1, e2, e3])
      have HX3 := Lib.hid h3
      have hw3 : IntKind.u8.wrap x3 = x3 := IntWalk.u8_in _ (by omega)
      clear h0 h1 h2 h3 key
      go_wp2_with fail
      go_region_held3 (fun w' => w'.cell? ⟨w.heap.size + 1 + 1 + 1 + 1 + 1, 0, none⟩ = some (.int .u8 x0) ∧ w'.cell? ⟨w.heap.size + 1 + 1 + 1 + 1 + 1, 1, none⟩ = some (.int .u8 x1) ∧ w'.cell? ⟨w.heap.size + 1 + 1 + 1 + 1 + 1, 2, none⟩ = some (.int .u8 x2))
        (go_keep)
        ((go_at_call 73; refine (rounded_any cv 255 x3 _ HX3.out (by omega) (by omega) (by omega) (by omega)).mono ?_; rintro e w3 ⟨rfl, rfl⟩))
      go_wp2_with fail
      refine bodyPost_ret (v := .agg #[.int .u8 x0, .int .u8 x1, .int .u8 x2, .int .u8 x3]) (by simp [results, Tryd.results74, go_sem, *]) rfl ⟨by rw [← HV.out]; rfl, ?_⟩
      have hz : w.heap.size ≤ w.heap.size + 1 + 1 := by omega
      exact (((((below_drewN bel _).setCell hz _).setCell hz _).setCell hz _).setCell hz _)
theorem overOf_any (m : Int) (t u : Px) (w : World) :
    Calls Tryd.prog 74 #[.int .i64 m, pxV t, pxV u] w fun e w' => e = .returned (pxV (Pix.over m t u)) ∧ Below w.heap.size w w' := by
  by_cases h : Pix.covers t.a.toNat u.a.toNat = 0
  · exact overOf_nil m t u w h
  · exact overOf_some m t u w h
end Go.Proofs.YtfadnkfceggjaaaDoor
/- The reference's In, at, StampOf: the walks. -/
namespace Go.Proofs.YtfadnkfceggjaaaDoor
open Go Go.RowKit

set_option maxRecDepth 100000 in
theorem inRef_any (W H x y : Int) (A : Option Addr) (n c : Nat) (w : World) :
    Calls Tryd.prog 19 #[.agg #[.int .i64 W, .int .i64 H, .slice A n c], .int .i64 x, .int .i64 y] w fun e w' => e = .returned (.bool (Lay.inP W H x y)) ∧ Below w.heap.size w w' := by
  rcases (show x < 0 ∨ (0 ≤ x ∧ y < 0) ∨ (0 ≤ x ∧ 0 ≤ y ∧ W ≤ x) ∨ (0 ≤ x ∧ 0 ≤ y ∧ x < W ∧ H ≤ y) ∨ (0 ≤ x ∧ 0 ≤ y ∧ x < W ∧ y < H) by omega) with h1 | ⟨h1, h2⟩ | ⟨h1, h2, h3⟩ | ⟨h1, h2, h3, h4⟩ | ⟨h1, h2, h3, h4⟩
  all_goals
    go_enter Tryd.func19, Tryd.ntmps19
    go_wp2_with fail
    go_ret
  all_goals exact ⟨by first | (simp [Lay.inP]; done) | (simp [Lay.inP]; omega), by go_grown⟩

set_option maxRecDepth 100000 in
set_option maxHeartbeats 1000000 in
theorem atRef_any (W H : Int) (A : Option Addr) (n c : Nat) (l : List Px) (x y : Int) (k : Nat) (p : Px) (w : World) (h : Reads w w.heap.size 4 A n (pxCells l)) (hp : l[k]? = some p) (hy : 0 ≤ y * W ∧ y * W ≤ 1048576) (hx : 0 ≤ x ∧ x ≤ 1048576) (hk : y * W + x = k) :
    Calls Tryd.prog 75 #[.agg #[.int .i64 W, .int .i64 H, .slice A n c], .int .i64 x, .int .i64 y] w
      fun e w' => e = .returned (.agg #[.int .u8 p.r.toNat, .int .u8 p.g.toNat, .int .u8 p.b.toNat, .int .u8 p.a.toNat]) ∧ Below w.heap.size w w' := by
  obtain ⟨hl, hlp⟩ := List.getElem?_eq_some_iff.1 hp
  obtain rfl := h.pxLen
  obtain ⟨b, off, rfl, hb⟩ := h.addr (by omega)
  obtain ⟨y0, y1, y2, y3⟩ := ((h.alloc (Nat.le_refl _) (.cells #[.int .i64 W, .int .i64 H, .slice (some ⟨b, off, none⟩) l.length c] 37)).alloc (by simp) (.cells #[.int .u8 0, .int .u8 0, .int .u8 0, .int .u8 0] 49)).px k hl
  rw [hlp] at y0 y1 y2 y3
  obtain ⟨z, hz⟩ : ∃ z, y * W = z := ⟨_, rfl⟩
  rw [hz] at hy hk
  have hw1 : IntKind.i64.wrap (y * W) = z := by rw [hz]; exact IntWalk.i64_in _ (by omega)
  have hw2 : IntKind.i64.wrap (z + x) = (k : Int) := by rw [hk]; exact IntWalk.i64_in _ (by omega)
  have k0 : (0 : Int) ≤ (k : Int) := by omega
  have k1 : (k : Int) < (l.length : Int) := by omega
  clear hlp hp
  go_enter Tryd.func75, Tryd.ntmps75
  go_wp2_with fail
  refine bodyPost_ret (v := .agg #[.int .u8 p.r.toNat, .int .u8 p.g.toNat, .int .u8 p.b.toNat, .int .u8 p.a.toNat]) (by simp [results, Tryd.results75, go_sem]) rfl ⟨rfl, by go_grown⟩

theorem overOf_agg (m : Int) (t u q : Px) (w : World) (hq : Pix.over m t u = q) :
    Calls Tryd.prog 74 #[.int .i64 m, .agg #[.int .u8 t.r.toNat, .int .u8 t.g.toNat, .int .u8 t.b.toNat, .int .u8 t.a.toNat], .agg #[.int .u8 u.r.toNat, .int .u8 u.g.toNat, .int .u8 u.b.toNat, .int .u8 u.a.toNat]] w
      fun e w' => e = .returned (.agg #[.int .u8 q.r.toNat, .int .u8 q.g.toNat, .int .u8 q.b.toNat, .int .u8 q.a.toNat]) ∧ Below w.heap.size w w' := by
  subst hq
  exact overOf_any m t u w

/-- What stands through StampOf's loops. -/
structure StR (W' H' : Nat) (A : Option Addr) (n c : Nat) (Wq Hq : Int) (Aq : Option Addr) (nq cq : Nat) (w : World) (g5 ga oa c' : Nat) (l : List Px) (wr : World) : Prop where
  b1 : Blk wr w.heap.size 37 #[.int .i64 W', .int .i64 H', .slice A n c]
  b2 : Blk wr (w.heap.size + 1) 37 #[.int .i64 Wq, .int .i64 Hq, .slice Aq nq cq]
  b10 : Blk wr (w.heap.size + 1 + 1) 37 #[.int .i64 0, .int .i64 0, .slice none 0 0]
  b11 : Blk wr g5 37 #[.int .i64 W', .int .i64 H', .slice (some ⟨ga, oa, none⟩) n c']
  own : Own wr (w.heap.size + 3) 4 (.slice (some ⟨ga, oa, none⟩) n c') n (pxCells l)
  ne : ga ≠ g5
  g5h : w.heap.size + 3 ≤ g5
  bel : Below w.heap.size w wr
section
variable {W' H' : Nat} {A : Option Addr} {n c : Nat} {Wq Hq : Int} {Aq : Option Addr} {nq cq : Nat} {w wr w' : World} {g5 ga oa c' : Nat} {l : List Px}
theorem StR.step (h : StR W' H' A n c Wq Hq Aq nq cq w g5 ga oa c' l wr) (hb : Below wr.heap.size wr w') : StR W' H' A n c Wq Hq Aq nq cq w g5 ga oa c' l w' :=
  ⟨h.b1.below hb h.b1.lt, h.b2.below hb h.b2.lt, h.b10.below hb h.b10.lt, h.b11.below hb h.b11.lt, h.own.below hb (Nat.le_refl _), h.ne, h.g5h, h.bel.trans (hb.mono (by have := h.b1.lt; omega))⟩
theorem StR.put (h : StR W' H' A n c Wq Hq Aq nq cq w g5 ga oa c' l wr) (i : Nat) (hi : i < n) (q : Px) : StR W' H' A n c Wq Hq Aq nq cq w g5 ga oa c' (l.set i q) (wr.setCells ga (oa + i * 4) (pxCs q)) := by
  have hg := (h.own.lt ga rfl).1
  exact ⟨h.b1.setCells_ (by omega) _ _, h.b2.setCells_ (by omega) _ _, h.b10.setCells_ (by omega) _ _, h.b11.setCells_ (fun e => h.ne e.symm) _ _, h.own.setPx i hi q, h.ne, h.g5h, Below.setCells_ h.bel (by omega) _ _⟩
end

set_option maxRecDepth 100000 in
set_option maxHeartbeats 4000000 in
theorem stampOf_any (W' H' : Nat) (A : Option Addr) (n c : Nat) (ps : List Px) (Wq Hq : Int) (Aq : Option Addr) (nq cq : Nat) (qs : List Px) (x y m : Int) (w : World)
    (hp : Reads w w.heap.size 4 A n (pxCells ps)) (hq : Reads w w.heap.size 4 Aq nq (pxCells qs)) (hW : 1 ≤ W' ∧ W' ≤ 256) (hH : 1 ≤ H' ∧ H' ≤ 256) (hn : ps.length = H' * W') (hWq : 0 ≤ Wq ∧ Wq ≤ 256) (hHq : 0 ≤ Hq ∧ Hq ≤ 256) (hnq : (qs.length : Int) = Wq * Hq)
    (hx : -10000 ≤ x ∧ x ≤ 10000) (hy : -10000 ≤ y ∧ y ≤ 10000) :
    Calls Tryd.prog 51 #[.agg #[.int .i64 W', .int .i64 H', .slice A n c], .agg #[.int .i64 Wq, .int .i64 Hq, .slice Aq nq cq], .int .i64 x, .int .i64 y, .int .i64 m] w
      fun e w' => ∃ A' c', e = .returned (.agg #[.int .i64 W', .int .i64 H', .slice A' n c']) ∧ Own w' w.heap.size 4 (.slice A' n c') n (pxCells (Lay.grid (Lay.stampAt ps qs W' Wq Hq x y m) W' H')) ∧ Below w.heap.size w w' := by
  obtain rfl := hp.pxLen
  have hmul : 1 * 1 ≤ H' * W' ∧ H' * W' ≤ 256 * 256 := ⟨Nat.mul_le_mul hH.1 hW.1, Nat.mul_le_mul hH.2 hW.2⟩
  have hn1 : 0 < ps.length := by omega
  have hn2 : ps.length ≤ 65536 := by omega
  obtain ⟨f, hf⟩ : ∃ f, f = Lay.stampAt ps qs W' Wq Hq x y m := ⟨_, rfl⟩
  rw [← hf]
  have HF := Lib.hid hf
  have HN := Lib.hid hn
  have HNQ := Lib.hid hnq
  have HP := Lib.hid hp
  have HQ := Lib.hid hq
  clear hf hn hnq hmul hp hq
  go_enter Tryd.func51, Tryd.ntmps51
  go_wp2_with fail
  refine (own_any _ _ _ _ _ ps _ ((((HP.out.alloc (Nat.le_refl _) _).alloc (by simp) _).alloc (by simp; omega) _).more (by simp; omega)) (by omega)).mono ?_
  rintro e w1 ⟨A', c', rfl, hO, hb1⟩
  obtain ⟨ga, oa, rfl, hga1, hga2⟩ := hO.addr hn1
  go_wp2_with fail
  obtain ⟨g5, hg5⟩ : ∃ g5, g5 = w1.heap.size := ⟨_, rfl⟩
  obtain ⟨w2, hw2⟩ : ∃ w2, w2 = w1.alloc (.cells #[.int .i64 W', .int .i64 H', .slice (some ⟨ga, oa, none⟩) ps.length c'] 37) := ⟨_, rfl⟩
  have F0 : StR W' H' A ps.length c Wq Hq Aq nq cq w g5 ga oa c' (Lay.mixTo f ps W' 0 0) w2 := by
    rw [hw2, hg5, Lay.mixTo_start]
    have hb0 : Below w.heap.size w w1 := Below.trans (by go_grown) (hb1.mono (by simp; omega))
    have hz := hb1.size
    simp at hz
    refine ⟨?_, ?_, ?_, Blk.new _ _ _ rfl, ?_, ?_, ?_, hb0.alloc (by omega) _⟩
    · exact ((((Blk.new _ _ _ rfl).alloc _).alloc _).below hb1 (by simp; omega)).alloc _
    · exact (((Blk.new _ _ _ (by simp)).alloc _).below hb1 (by simp)).alloc _
    · exact ((Blk.new _ _ _ (by simp)).below hb1 (by simp)).alloc _
    · exact (hO.alloc _).mono (by simp)
    · omega
    · omega
  rw [← hw2, ← hg5]
  clear hw2 hg5 hO hb1 hga1 hga2
  go_loopw [12] (fun i wr => ∃ k, k ≤ H' ∧ i = .int .i64 k ∧ StR W' H' A ps.length c Wq Hq Aq nq cq w g5 ga oa c' (Lay.mixTo f ps W' k 0) wr) (fun i _ => H' - (intOf i).toNat)
  case atStart => exact ⟨0, Nat.zero_le _, rfl, F0⟩
  case round =>
    clear F0
    obtain ⟨k, hk, rfl, F0⟩ := hrel
    obtain ⟨wo, rfl⟩ : ∃ wo : World, wo = wr := ⟨_, rfl⟩
    have c1 := F0.b1.cell
    have c11 := F0.b11.cell
    have c10 := F0.b10.cell
    have f10 := F0.b10.free
    by_cases hlt : k < H'
    · go_wp2_with fail
      go_loopw [13] (fun i wr => ∃ j, j ≤ W' ∧ i = .int .i64 j ∧ StR W' H' A ps.length c Wq Hq Aq nq cq w g5 ga oa c' (Lay.mixTo f ps W' k j) wr) (fun i _ => W' - (intOf i).toNat)
      case atStart => exact ⟨0, Nat.zero_le _, rfl, F0⟩
      case round =>
        clear F0 c1 c11 c10 f10
        obtain ⟨j, hj, rfl, F⟩ := hrel
        obtain ⟨wi, rfl⟩ : ∃ wi : World, wi = wr := ⟨_, rfl⟩
        have c1 := F.b1.cell
        have c2 := F.b2.cell
        by_cases hjl : j < W'
        · obtain ⟨i, hi⟩ : ∃ i, k * W' + j = i := ⟨_, rfl⟩
          have hil : i < ps.length := by
            have := Nat.mul_le_mul_right W' (show k + 1 ≤ H' by omega)
            rw [Nat.succ_mul] at this
            have := HN.out
            omega
          obtain ⟨bI, hbi⟩ : ∃ b, Lay.inP Wq Hq ((j : Int) - x) ((k : Int) - y) = b := ⟨_, rfl⟩
          have HI := Lib.hid hi
          have HBI := Lib.hid hbi
          clear hi hbi
          go_wp2_with fail
          refine (inRef_any Wq Hq _ _ Aq nq cq _).mono ?_
          rw [HBI.out]
          rintro e wI ⟨rfl, hbI⟩
          have G := F.step hbI
          have d1 := G.b1.cell
          have d2 := G.b2.cell
          have d11 := G.b11.cell
          clear c1 c2 hbI F
          cases bI with
          | false =>
            go_wp2_with fail
            go_roundw
            case rel => exact ⟨j + 1, by omega, by go_num, by
              rw [← Lay.mixTo_keep f ps W' k j (by rw [HI.out]; exact hil) (by rw [HF.out, Lay.stampAt, HBI.out]; rfl)]
              exact G⟩
            case measure => simp [intOf]; omega
          | true =>
            have hbt := HBI.out
            simp only [Lay.inP, Bool.and_eq_true, decide_eq_true_eq] at hbt
            obtain ⟨ux, hux⟩ : ∃ u, (j : Int) - x = u := ⟨_, rfl⟩
            obtain ⟨vy, hvy⟩ : ∃ v, (k : Int) - y = v := ⟨_, rfl⟩
            rw [hux, hvy] at hbt
            obtain ⟨⟨⟨b1, b2⟩, b3⟩, b4⟩ := hbt
            have hw1 : IntKind.i64.wrap ((j : Int) - x) = ux := by rw [hux]; exact IntWalk.i64_in _ (by omega)
            have hw2 : IntKind.i64.wrap ((k : Int) - y) = vy := by rw [hvy]; exact IntWalk.i64_in _ (by omega)
            have v1 : (vy + 1) * Wq ≤ Hq * Wq := Int.mul_le_mul_of_nonneg_right (by omega) (by omega)
            have v2 : 0 ≤ vy * Wq := Int.mul_nonneg b2 (by omega)
            have v3 : Hq * Wq ≤ 256 * 256 := Int.mul_le_mul hHq.2 hWq.2 hWq.1 (by omega)
            rw [Int.add_mul, Int.one_mul] at v1
            obtain ⟨kq, hkq⟩ : ∃ kq : Nat, vy * Wq + ux = kq := ⟨(vy * Wq + ux).toNat, by omega⟩
            have hkl : kq < qs.length := by have := HNQ.out; rw [Int.mul_comm] at this; omega
            have hyq : 0 ≤ vy * Wq ∧ vy * Wq ≤ 1048576 := by omega
            obtain ⟨pq, hpq⟩ : ∃ p, qs[kq]? = some p := ⟨_, List.getElem?_eq_getElem hkl⟩
            obtain ⟨pp, hpp⟩ : ∃ p, ps[i]? = some p := ⟨_, List.getElem?_eq_getElem hil⟩
            obtain ⟨z, hz⟩ : ∃ z, k * W' = z := ⟨_, rfl⟩
            have hzi : z + j = i := by rw [← hz]; exact HI.out
            have hz' : (k : Int) * (W' : Int) = (z : Int) := by rw [← hz, Int.natCast_mul]
            have hw3 : IntKind.i64.wrap ((k : Int) * (W' : Int)) = (z : Int) := by rw [hz']; exact IntWalk.i64_in _ (by omega)
            have hw4 : IntKind.i64.wrap ((z : Int) + (j : Int)) = (i : Int) := by rw [← hzi, Int.natCast_add]; exact IntWalk.i64_in _ (by omega)
            have hp4 : (z : Int) + (j : Int) = (i : Int) := by rw [← hzi, Int.natCast_add]
            have hw5 : IntKind.i64.wrap ux = ux := IntWalk.i64_in _ (by omega)
            have hw6 : IntKind.i64.wrap vy = vy := IntWalk.i64_in _ (by omega)
            have hw7 : IntKind.i64.wrap (z : Int) = (z : Int) := IntWalk.i64_in _ (by omega)
            have hw8 : IntKind.i64.wrap (i : Int) = (i : Int) := IntWalk.i64_in _ (by omega)
            obtain ⟨r, hr⟩ : ∃ r, Pix.over m pq pp = r := ⟨_, rfl⟩
            have HFR := Lib.hid (show f j k = r by
              rw [HF.out, Lay.stampAt, HBI.out, if_pos rfl, hux, hvy, hkq, HI.out, Int.toNat_natCast, List.getD_eq_getElem?_getD, List.getD_eq_getElem?_getD, hpq, hpp]
              exact hr)
            have HR := Lib.hid hr
            have HPQ := Lib.hid hpq
            have HPP := Lib.hid hpp
            have HKQ := Lib.hid hkq
            have HZI := Lib.hid (show (k : Int) * (W' : Int) + (j : Int) = (i : Int) by rw [hz', ← hzi, Int.natCast_add])
            have HZB := Lib.hid (show 0 ≤ (k : Int) * (W' : Int) ∧ (k : Int) * (W' : Int) ≤ 1048576 by rw [hz']; omega)
            have HYQ := Lib.hid hyq
            have HUX := Lib.hid (show 0 ≤ ux ∧ ux ≤ 1048576 by omega)
            have HJX := Lib.hid (show 0 ≤ (j : Int) ∧ (j : Int) ≤ 1048576 by omega)
            have HQ1 := Lib.hid ((HQ.out.below G.bel (Nat.le_refl _)).more G.bel.size)
            have HP1 := Lib.hid ((HP.out.below G.bel (Nat.le_refl _)).more G.bel.size)
            have HLEN := Lib.hid (Lay.mixTo_length f ps W' k j (by rw [HI.out]; omega))
            have hge := (G.own.lt ga rfl).1
            have hz1 : w.heap.size < ga := by omega
            have hz2 : w.heap.size + 1 < ga := by omega
            have hz5 : ∀ (a o : Nat), (⟨ga, a, none⟩ : Addr) ≠ ⟨g5, o, none⟩ := fun a o e => G.ne (by injection e)
            have i0 : (0 : Int) ≤ (i : Int) := by omega
            have i1 : (i : Int) < (ps.length : Int) := by omega
            have s0 : wI.cell? ⟨w.heap.size, 0, none⟩ = some (.int .i64 W') := (G.b1.cell 0).trans rfl
            have s1 : wI.cell? ⟨w.heap.size, 1, none⟩ = some (.int .i64 H') := (G.b1.cell 1).trans rfl
            have s2 : wI.cell? ⟨w.heap.size, 2, none⟩ = some (.slice A ps.length c) := (G.b1.cell 2).trans rfl
            have t0 : wI.cell? ⟨w.heap.size + 1, 0, none⟩ = some (.int .i64 Wq) := (G.b2.cell 0).trans rfl
            have t1 : wI.cell? ⟨w.heap.size + 1, 1, none⟩ = some (.int .i64 Hq) := (G.b2.cell 1).trans rfl
            have t2 : wI.cell? ⟨w.heap.size + 1, 2, none⟩ = some (.slice Aq nq cq) := (G.b2.cell 2).trans rfl
            have o2 : wI.cell? ⟨g5, 2, none⟩ = some (.slice (some ⟨ga, oa, none⟩) ps.length c') := (G.b11.cell 2).trans rfl
            have HA1 := Lib.hid (atRef_any Wq Hq Aq nq cq qs ux vy kq pq wI.drew HQ1.out HPQ.out HYQ.out HUX.out HKQ.out)
            clear hr hpq hpp hkq hz hzi hyq v1 v2 v3 hkl b3 b4 d1 d2 d11
            go_wp2_with fail
            go_region_held3 (fun w' => w'.cell? ⟨w.heap.size, 0, none⟩ = some (.int .i64 W') ∧ w'.cell? ⟨w.heap.size, 1, none⟩ = some (.int .i64 H') ∧ w'.cell? ⟨w.heap.size, 2, none⟩ = some (.slice A ps.length c) ∧ w'.cell? ⟨w.heap.size + 1, 0, none⟩ = some (.int .i64 Wq) ∧ w'.cell? ⟨w.heap.size + 1, 1, none⟩ = some (.int .i64 Hq) ∧ w'.cell? ⟨w.heap.size + 1, 2, none⟩ = some (.slice Aq nq cq) ∧ w'.cell? ⟨g5, 2, none⟩ = some (.slice (some ⟨ga, oa, none⟩) ps.length c'))
              ((go_split_ands
                refine ⟨?_, ?_, ?_, ?_, ?_, ?_, ?_⟩
                · ((repeat' (first | (with_reducible exact s0) | (with_reducible refine cell_set_other _ (ne_blk hz1 _ _) ?_) | (with_reducible refine bkeep hbC ?_) | (with_reducible refine bkeep hbB ?_) | (with_reducible refine bkeep hbA ?_))) <;> exact s0)
                · ((repeat' (first | (with_reducible exact s1) | (with_reducible refine cell_set_other _ (ne_blk hz1 _ _) ?_) | (with_reducible refine bkeep hbC ?_) | (with_reducible refine bkeep hbB ?_) | (with_reducible refine bkeep hbA ?_))) <;> exact s1)
                · ((repeat' (first | (with_reducible exact s2) | (with_reducible refine cell_set_other _ (ne_blk hz1 _ _) ?_) | (with_reducible refine bkeep hbC ?_) | (with_reducible refine bkeep hbB ?_) | (with_reducible refine bkeep hbA ?_))) <;> exact s2)
                · ((repeat' (first | (with_reducible exact t0) | (with_reducible refine cell_set_other _ (ne_blk hz2 _ _) ?_) | (with_reducible refine bkeep hbC ?_) | (with_reducible refine bkeep hbB ?_) | (with_reducible refine bkeep hbA ?_))) <;> exact t0)
                · ((repeat' (first | (with_reducible exact t1) | (with_reducible refine cell_set_other _ (ne_blk hz2 _ _) ?_) | (with_reducible refine bkeep hbC ?_) | (with_reducible refine bkeep hbB ?_) | (with_reducible refine bkeep hbA ?_))) <;> exact t1)
                · ((repeat' (first | (with_reducible exact t2) | (with_reducible refine cell_set_other _ (ne_blk hz2 _ _) ?_) | (with_reducible refine bkeep hbC ?_) | (with_reducible refine bkeep hbB ?_) | (with_reducible refine bkeep hbA ?_))) <;> exact t2)
                · ((repeat' (first | (with_reducible exact o2) | (with_reducible refine cell_set_other _ (hz5 _ _) ?_) | (with_reducible refine bkeep hbC ?_) | (with_reducible refine bkeep hbB ?_) | (with_reducible refine bkeep hbA ?_))) <;> exact o2)))
              (first
                | (have hcc := atRef_any W' H' A ps.length c ps j k i pp wA ((HP1.out.below ((Below.here wI).trans hbA) (Nat.le_refl _)).more hbA.size) HPP.out HZB.out HJX.out HZI.out; go_at_call 75; with_reducible refine hcc.mono ?_; rintro e wB ⟨rfl, hbB⟩)
                | (go_at_call 75; with_reducible refine HA1.out.mono ?_; rintro e wA ⟨rfl, hbA⟩)
                | (go_at_call 74; refine (overOf_agg m pq pp r wB HR.out).mono ?_; rintro e wC ⟨rfl, hbC⟩; have hzA : wI.heap.size ≤ wA.heap.size := hbA.size; have hzB : wI.heap.size ≤ wB.heap.size := Nat.le_trans hzA hbB.size; have hbI : Below wI.heap.size wI wC := (((Below.here wI).trans hbA).trans (hbB.mono hzA)).trans (hbC.mono hzB); have GC := G.step hbI; have yy := GC.own.reads.2.px i (Nat.lt_of_lt_of_eq hil HLEN.out.symm); obtain ⟨y0, y1, y2, y3⟩ := yy; have hth := GC.own.there i hil; have f0 := (hth 0 (Nat.zero_lt_succ _)).2; have f1 := (hth 1 (Nat.lt_of_sub_eq_succ rfl)).2; have f2 := (hth 2 (Nat.lt_of_sub_eq_succ rfl)).2; have f3 := (hth 3 (Nat.lt_of_sub_eq_succ rfl)).2; simp only [Nat.add_zero] at f0))
            have H := GC.put i hil r
            have HH := Lib.hid H
            clear H hbA hbB hbC s0 s1 s2 t0 t1 t2 o2 hw1 hw2 hw3 hw4 hw5 hw6 hw7 hw8 hp4 hz' hux hvy y0 y1 y2 y3 f0 f1 f2 f3 hth
            go_wp2_with fail
            go_roundw
            case rel => exact ⟨j + 1, by omega, by go_num, by
              have h := HH.out
              rw [← HI.out, ← HFR.out, Lay.mixTo_set f ps W' k j (by rw [HI.out]; exact hil)] at h
              rw [HFR.out, HI.out] at h
              exact h⟩
            case measure => simp [intOf]; omega
        · go_wp2_with fail
          have e : j = W' := by omega
          subst e
          rw [Lay.mixTo_full] at F
          go_roundw
          case rel => exact ⟨k + 1, by omega, by go_num, F⟩
          case measure => simp [intOf]; omega
    · have e : k = H' := by omega
      subst e
      rw [Lay.mixTo_end f ps W' k HN.out] at F0
      have ho := F0.own
      have n1 : (Value.slice (some ⟨ga, oa, none⟩) ps.length c').ownBlock ≠ some (w.heap.size + 1 + 1) := by have := (ho.lt ga rfl).1; simp [Value.ownBlock]; omega
      have HO := Lib.hid ho
      have HN1 := Lib.hid n1
      clear ho n1
      go_wp2_with fail
      refine bodyPost_ret (v := .agg #[.int .i64 W', .int .i64 k, .slice (some ⟨ga, oa, none⟩) ps.length c']) (by simp [results, Tryd.results51, go_sem, c10]) rfl ⟨some ⟨ga, oa, none⟩, c', rfl, ?_, ?_⟩
      · exact (((HO.out.setCell HN1.out _).setCell HN1.out _).setCell HN1.out _).mono (by omega)
      · have hz : w.heap.size ≤ w.heap.size + 1 + 1 := by omega
        exact (((F0.bel.setCell hz _).setCell hz _).setCell hz _)
end Go.Proofs.YtfadnkfceggjaaaDoor
/- layercakeref3.FlatOf: the walk. -/
namespace Go.Proofs.YtfadnkfceggjaaaDoor
open Go Go.RowKit

namespace Lay
/-- Pixels in place, one by one. -/
def fadeTo (qs : List Px) (o : Int) (j : Nat) : List Px := mixTo (fun x _ => Pix.fade (qs.getD x default) o) qs qs.length 0 j
theorem fadeTo_zero (qs : List Px) (o : Int) : fadeTo qs o 0 = qs := mixTo_start _ _ _
theorem fadeTo_length (qs : List Px) (o : Int) (j : Nat) (h : j ≤ qs.length) : (fadeTo qs o j).length = qs.length := mixTo_length _ _ _ _ _ (by omega)
theorem fadeTo_set (qs : List Px) (o : Int) (j : Nat) (p q : Px) (h : qs[j]? = some p) (hq : Pix.fade p o = q) : (fadeTo qs o j).set j q = fadeTo qs o (j + 1) := by
  obtain ⟨hj, e⟩ := List.getElem?_eq_some_iff.1 h
  have := mixTo_set (fun x _ => Pix.fade (qs.getD x default) o) qs qs.length 0 j (by omega)
  rw [Nat.zero_mul, Nat.zero_add, List.getD_eq_getElem?_getD, h] at this
  rw [← hq]
  exact this
theorem fadeTo_here (qs : List Px) (o : Int) (j : Nat) : (fadeTo qs o j)[j]? = qs[j]? := by
  have := mixTo_here (fun x _ => Pix.fade (qs.getD x default) o) qs qs.length 0 j
  rw [Nat.zero_mul, Nat.zero_add] at this
  exact this
theorem fadeTo_all (qs : List Px) (o : Int) : fadeTo qs o qs.length = qs.map fun p => Pix.fade p o := by
  unfold fadeTo
  rw [mixTo_full, mixTo_end _ _ _ _ (by omega)]
  apply List.ext_getElem?
  intro i
  by_cases h : i < qs.length
  · have := grid_at (fun x _ => Pix.fade (qs.getD x default) o) qs.length 1 i 0 h (by omega)
    rw [Nat.zero_mul, Nat.zero_add, List.getD_eq_getElem?_getD] at this
    rw [this, List.getElem?_map, List.getElem?_eq_getElem h]
    rfl
  · rw [List.getElem?_eq_none (by rw [grid_length]; omega), List.getElem?_eq_none (by rw [List.length_map]; omega)]
end Lay

theorem fadeOf_agg (p : Px) (o : Int) (q : Px) (w : World) (h0 : 0 ≤ o) (h1 : o ≤ 255) (hq : Pix.fade p o = q) :
    Calls Tryd.prog 50 #[.agg #[.int .u8 p.r.toNat, .int .u8 p.g.toNat, .int .u8 p.b.toNat, .int .u8 p.a.toNat], .int .i64 o] w
      fun e w' => e = .returned (.agg #[.int .u8 q.r.toNat, .int .u8 q.g.toNat, .int .u8 q.b.toNat, .int .u8 q.a.toNat]) ∧ Below w.heap.size w w' := by
  subst hq
  exact fadeOf_any p o w h0 h1

/-- What stands through FlatOf's loop. -/
structure FoR (W' H' : Nat) (A : Option Addr) (n c : Nat) (w : World) (g3 ga oa m c' : Nat) (l : List Px) (wr : World) : Prop where
  b1 : Blk wr w.heap.size 24 #[.int .i64 W', .int .i64 H', .slice A n c]
  b2 : Blk wr (w.heap.size + 1) 37 #[.int .i64 0, .int .i64 0, .slice none 0 0]
  b3 : Blk wr g3 37 #[.int .i64 W', .int .i64 H', .slice (some ⟨ga, oa, none⟩) m c']
  own : Own wr (w.heap.size + 2) 4 (.slice (some ⟨ga, oa, none⟩) m c') m (pxCells l)
  ne : ga ≠ g3
  g3h : w.heap.size + 2 ≤ g3
  bel : Below w.heap.size w wr
section
variable {W' H' : Nat} {A : Option Addr} {n c : Nat} {w wr w' : World} {g3 ga oa m c' : Nat} {l : List Px}
theorem FoR.step (h : FoR W' H' A n c w g3 ga oa m c' l wr) (hb : Below wr.heap.size wr w') : FoR W' H' A n c w g3 ga oa m c' l w' :=
  ⟨h.b1.below hb h.b1.lt, h.b2.below hb h.b2.lt, h.b3.below hb h.b3.lt, h.own.below hb (Nat.le_refl _), h.ne, h.g3h, h.bel.trans (hb.mono (by have := h.b1.lt; omega))⟩
theorem FoR.put (h : FoR W' H' A n c w g3 ga oa m c' l wr) {wS : World} {gb ob c2 : Nat} {l2 : List Px} (hb : Below wr.heap.size wr wS) (ho : Own wS wr.heap.size 4 (.slice (some ⟨gb, ob, none⟩) m c2) m (pxCells l2)) :
    FoR W' H' A n c w g3 gb ob m c2 l2 (((wS.setCell ⟨g3, 0, none⟩ (.int .i64 W')).setCell ⟨g3, 1, none⟩ (.int .i64 H')).setCell ⟨g3, 2, none⟩ (.slice (some ⟨gb, ob, none⟩) m c2)) := by
  have h1 := h.step hb
  have h3 := h.b3.lt
  have hw := h.b1.lt
  have hg := h.g3h
  have hgb := (ho.lt gb rfl).1
  have n1 : (Value.slice (some ⟨gb, ob, none⟩) m c2).ownBlock ≠ some g3 := by simp [Value.ownBlock]; omega
  refine ⟨((h1.b1.far (by simp; omega) _).far (by simp; omega) _).far (by simp; omega) _, ((h1.b2.far (by simp; omega) _).far (by simp; omega) _).far (by simp; omega) _, ?_, ((((ho.setCell n1 _).setCell n1 _).setCell n1 _).mono (by omega)), by omega, h.g3h, ?_⟩
  · have := ((h1.b3.set_ 0 (.int .i64 W')).set_ 1 (.int .i64 H')).set_ 2 (.slice (some ⟨gb, ob, none⟩) m c2)
    simpa using this
  · have hz : w.heap.size ≤ g3 := by omega
    exact ((h1.bel.setCell hz _).setCell hz _).setCell hz _
end

/-- What stands through its inner loop. -/
structure FiR (wo : World) (m : LM) (gL gq gp op cq : Nat) (l : List Px) (wr : World) : Prop where
  bL : Blk wr gL 58 #[.string m.l.name, .int .i64 m.l.x, .int .i64 m.l.y, .bool false, .int .i64 m.l.opacity, .int .i64 m.l.mode, .int .i64 m.l.wide, .int .i64 m.l.high, .slice m.A m.n m.c]
  bq : Blk wr gq 37 #[.int .i64 m.l.wide, .int .i64 m.l.high, .slice (some ⟨gp, op, none⟩) m.n cq]
  own : Own wr wo.heap.size 4 (.slice (some ⟨gp, op, none⟩) m.n cq) m.n (pxCells l)
  neL : gp ≠ gL
  neq : gp ≠ gq
  bel : Below wo.heap.size wo wr
section
variable {wo wr w' : World} {m : LM} {gL gq gp op cq : Nat} {l : List Px}
theorem FiR.step (h : FiR wo m gL gq gp op cq l wr) (hb : Below wr.heap.size wr w') : FiR wo m gL gq gp op cq l w' :=
  ⟨h.bL.below hb h.bL.lt, h.bq.below hb h.bq.lt, h.own.below hb (Nat.le_refl _), h.neL, h.neq, h.bel.trans (hb.mono h.bel.size)⟩
theorem FiR.put (h : FiR wo m gL gq gp op cq l wr) (i : Nat) (hi : i < m.n) (q : Px) : FiR wo m gL gq gp op cq (l.set i q) (wr.setCells gp (op + i * 4) (pxCs q)) :=
  ⟨h.bL.setCells_ (fun e => h.neL e.symm) _ _, h.bq.setCells_ (fun e => h.neq e.symm) _ _, h.own.setPx i hi q, h.neL, h.neq, Below.setCells_ h.bel (h.own.lt gp rfl).1 _ _⟩
end

set_option maxRecDepth 100000 in
set_option maxHeartbeats 4000000 in
theorem flatOf_any (W' H' : Nat) (A : Option Addr) (n c : Nat) (ms : List LM) (w : World) (hL : Lays w w.heap.size A n ms) (hok : ∀ m ∈ ms, LayOK m) (hn : n ≤ 4096) (hW : 1 ≤ W' ∧ W' ≤ 256) (hH : 1 ≤ H' ∧ H' ≤ 256) :
    Calls Tryd.prog 18 #[.agg #[.int .i64 W', .int .i64 H', .slice A n c]] w
      fun e w' => ∃ A' c', e = .returned (.agg #[.int .i64 W', .int .i64 H', .slice A' (H' * W') c']) ∧ Own w' w.heap.size 4 (.slice A' (H' * W') c') (H' * W') (pxCells (Lay.flat (lsOf ms) W' H')) ∧ Below w.heap.size w w' := by
  obtain rfl := hL.len
  have hmul : 1 * 1 ≤ H' * W' ∧ H' * W' ≤ 256 * 256 := ⟨Nat.mul_le_mul hH.1 hW.1, Nat.mul_le_mul hH.2 hW.2⟩
  obtain ⟨M, hM⟩ : ∃ M, H' * W' = M := ⟨_, rfl⟩
  rw [hM] at hmul ⊢
  have hWH : (W' : Int) * (H' : Int) = (M : Int) := by rw [← hM, Int.natCast_mul, Int.mul_comm]
  have HM := Lib.hid hM
  have HWH := Lib.hid hWH
  have HOK := Lib.hid hok
  obtain ⟨hm1, hm2⟩ := hmul
  clear hok hM hWH
  go_enter Tryd.func18, Tryd.ntmps18
  go_wp2_with fail
  refine (blank_any W' H' M ⟨0, 0, 0, 0⟩ _ (by omega) (by omega) HWH.out (by omega)).mono ?_
  rintro e w1 ⟨A', c', rfl, hO, hb1⟩
  obtain ⟨ga, oa, rfl, hga1, hga2⟩ := hO.addr (by omega)
  go_wp2_with fail
  obtain ⟨g3, hg3⟩ : ∃ g3, g3 = w1.heap.size := ⟨_, rfl⟩
  obtain ⟨w2, hw2⟩ : ∃ w2, w2 = w1.alloc (.cells #[.int .i64 W', .int .i64 H', .slice (some ⟨ga, oa, none⟩) M c'] 37) := ⟨_, rfl⟩
  have F0 : FoR W' H' A ms.length c w g3 ga oa M c' (Lay.flat ((lsOf ms).take 0) W' H') w2 := by
    rw [hw2, hg3, List.take_zero, Lay.flat_none, Nat.mul_comm, HM.out]
    have hb0 : Below w.heap.size w w1 := Below.trans (by go_grown) (hb1.mono (by simp; omega))
    have hz := hb1.size
    simp at hz
    refine ⟨?_, ?_, Blk.new _ _ _ rfl, ?_, ?_, ?_, hb0.alloc (by omega) _⟩
    · exact (((Blk.new _ _ _ rfl).alloc _).below hb1 (by simp; omega)).alloc _
    · exact ((Blk.new _ _ _ (by simp)).below hb1 (by simp)).alloc _
    · exact (hO.alloc _).mono (by simp)
    · omega
    · omega
  rw [← hw2, ← hg3]
  clear hw2 hg3 hO hb1 hga1 hga2
  go_loopw [4] (fun i wr => ∃ k ga oa c', k ≤ ms.length ∧ i = .int .i64 k ∧ FoR W' H' A ms.length c w g3 ga oa M c' (Lay.flat ((lsOf ms).take k) W' H') wr) (fun i _ => ms.length - (intOf i).toNat)
  case atStart => exact ⟨0, ga, oa, c', Nat.zero_le _, rfl, F0⟩
  case round =>
    clear F0
    obtain ⟨k, ga, oa, c', hk, rfl, F⟩ := hrel
    obtain ⟨wo, rfl⟩ : ∃ wo : World, wo = wr := ⟨_, rfl⟩
    have c1 := F.b1.cell
    have c3 := F.b3.cell
    have c2 := F.b2.cell
    have f2 := F.b2.free
    by_cases hlt : k < ms.length
    · obtain ⟨b, off, rfl, hbl⟩ := hL.1.addr (by omega)
      have hLo := hL.below F.bel (Nat.le_refl _)
      have q0 := hLo.at k hlt 0 (by omega)
      have q1 := hLo.at k hlt 1 (by omega)
      have q2 := hLo.at k hlt 2 (by omega)
      have q3 := hLo.at k hlt 3 (by omega)
      have q4 := hLo.at k hlt 4 (by omega)
      have q5 := hLo.at k hlt 5 (by omega)
      have q6 := hLo.at k hlt 6 (by omega)
      have q7 := hLo.at k hlt 7 (by omega)
      have q8 := hLo.at k hlt 8 (by omega)
      have hrp := (hLo.px k hlt).more F.bel.size
      obtain ⟨⟨ox1, ox2⟩, ⟨oy1, oy2⟩, ⟨oo1, oo2⟩, omd, ⟨ow1, ow2⟩, ⟨oh1, oh2⟩, on⟩ := HOK.out ms[k] (List.getElem_mem hlt)
      have HT := Lib.hid (show (lsOf ms).take (k + 1) = (lsOf ms).take k ++ [ms[k].l] by
        rw [List.take_succ_eq_append_getElem (by rw [lsOf_len]; exact hlt), lsOf_get ms k hlt])
      obtain ⟨m, hm⟩ : ∃ m, m = ms[k] := ⟨_, rfl⟩
      rw [← hm] at q0 q1 q2 q3 q4 q5 q6 q7 q8 hrp ox1 ox2 oy1 oy2 oo1 oo2 omd ow1 ow2 oh1 oh2 on HT
      simp only [layCs, List.getElem?_cons_zero, List.getElem?_cons_succ] at q0 q1 q2 q3 q4 q5 q6 q7 q8
      rw [Nat.add_zero] at q0
      obtain ⟨ls0, hls⟩ : ∃ ls0, (lsOf ms).take k = ls0 := ⟨_, rfl⟩
      rw [hls] at HT F
      have hpl := hrp.pxLen
      have HPL := Lib.hid hpl
      have HON := Lib.hid on
      obtain ⟨z4, z5⟩ := mul_bounds (show 0 ≤ m.l.wide by omega) ow2 (show 0 ≤ m.l.high by omega) oh2
      have z6 : 1 * 1 ≤ m.l.wide * m.l.high := Int.mul_le_mul ow1 oh1 (by omega) (by omega)
      have hnb : m.n ≤ 65536 := by omega
      have hnb0 : 0 < m.n := by omega
      clear hm hLo hls hpl on z4 z5 z6 omd
      cases hh : m.l.hidden with
      | true =>
        rw [hh] at q3
        go_wp2_with fail
        go_roundw
        case rel => exact ⟨k + 1, ga, oa, c', by omega, by go_num, by
          rw [HT.out, Lay.flat_skip _ _ _ _ hh]
          exact F.step (Below.alloc (Below.refl _ _) (Nat.le_refl _) _)⟩
        case measure => simp [intOf]; omega
      | false =>
        rw [hh] at q3
        have HH := Lib.hid hh
        clear hh
        go_wp2_with fail
        obtain ⟨gL, hgL⟩ : ∃ gL, gL = wo.heap.size := ⟨_, rfl⟩
        obtain ⟨wL, hwL⟩ : ∃ wL, wL = wo.alloc (.cells #[.string m.l.name, .int .i64 m.l.x, .int .i64 m.l.y, .bool false, .int .i64 m.l.opacity, .int .i64 m.l.mode, .int .i64 m.l.wide, .int .i64 m.l.high, .slice m.A m.n m.c] 58) := ⟨_, rfl⟩
        have bL : Blk wL gL 58 #[.string m.l.name, .int .i64 m.l.x, .int .i64 m.l.y, .bool false, .int .i64 m.l.opacity, .int .i64 m.l.mode, .int .i64 m.l.wide, .int .i64 m.l.high, .slice m.A m.n m.c] := by rw [hwL, hgL]; exact Blk.new _ _ _ rfl
        have hbL : Below wo.heap.size wo wL := by rw [hwL]; exact (Below.refl _ _).alloc (Nat.le_refl _) _
        have hrL := (hrp.below hbL (Nat.le_refl _)).more hbL.size
        rw [← hwL, ← hgL]
        have HGL := Lib.hid hgL
        clear hwL hgL q0 q1 q2 q3 q4 q5 q6 q7 q8 hrp c1 c3 c2 f2
        go_wp2_with fail
        refine (own_any _ _ _ _ _ m.l.ps _ hrL (by omega)).mono ?_
        rintro e w3 ⟨A3, c3, rfl, hO3, hb3⟩
        obtain ⟨gp, op, rfl, hgp1, hgp2⟩ := hO3.addr hnb0
        go_wp2_with fail
        obtain ⟨gq, hgq⟩ : ∃ gq, gq = w3.heap.size := ⟨_, rfl⟩
        obtain ⟨w4, hw4⟩ : ∃ w4, w4 = w3.alloc (.cells #[.int .i64 m.l.wide, .int .i64 m.l.high, .slice (some ⟨gp, op, none⟩) m.n c3] 37) := ⟨_, rfl⟩
        have G0 : FiR wo m gL gq gp op c3 (Lay.fadeTo m.l.ps m.l.opacity 0) w4 := by
          rw [hw4, hgq, Lay.fadeTo_zero]
          have hzL := hbL.size
          have hlt' := bL.lt
          exact ⟨(bL.below hb3 bL.lt).alloc _, Blk.new _ _ _ rfl, (hO3.alloc _).mono hzL, by omega, by omega, (hbL.trans (hb3.mono hzL)).alloc (Nat.le_trans hzL hb3.size) _⟩
        rw [← hw4, ← hgq]
        have HF := Lib.hid F
        clear hw4 hgq hO3 hb3 hgp1 hgp2 bL hbL hrL F
        go_loopw [7] (fun i wr => ∃ j, j ≤ m.n ∧ i = .int .i64 j ∧ FiR wo m gL gq gp op c3 (Lay.fadeTo m.l.ps m.l.opacity j) wr) (fun i _ => m.n - (intOf i).toNat)
        case atStart => exact ⟨0, Nat.zero_le _, rfl, G0⟩
        case round =>
          clear G0
          obtain ⟨j, hj, rfl, G⟩ := hrel
          obtain ⟨wi, rfl⟩ : ∃ wi : World, wi = wr := ⟨_, rfl⟩
          have dq := G.bq.cell
          by_cases hjl : j < m.n
          · obtain ⟨p, hp⟩ : ∃ p, m.l.ps[j]? = some p := ⟨_, List.getElem?_eq_getElem (by have := HPL.out; omega)⟩
            obtain ⟨q, hq⟩ : ∃ q, Pix.fade p m.l.opacity = q := ⟨_, rfl⟩
            have HP := Lib.hid hp
            have HQ := Lib.hid hq
            have hjn : j < (Lay.fadeTo m.l.ps m.l.opacity j).length := by rw [Lay.fadeTo_length _ _ _ (by have := HPL.out; omega)]; have := HPL.out; omega
            have yy := G.own.reads.2.px j hjn
            rw [show (Lay.fadeTo m.l.ps m.l.opacity j)[j] = p from Option.some.inj ((List.getElem?_eq_getElem hjn).symm.trans ((Lay.fadeTo_here m.l.ps m.l.opacity j).trans HP.out))] at yy
            obtain ⟨y0, y1, y2, y3⟩ := yy
            have so : wi.cell? ⟨gL, 4, none⟩ = some (.int .i64 m.l.opacity) := (G.bL.cell 4).trans rfl
            have sq : wi.cell? ⟨gq, 2, none⟩ = some (.slice (some ⟨gp, op, none⟩) m.n c3) := (G.bq.cell 2).trans rfl
            have HJN := Lib.hid hjn
            have j0 : (0 : Int) ≤ (j : Int) := by omega
            have j1 : (j : Int) < (m.n : Int) := by omega
            clear hp hq hjn
            go_wp2_with fail
            go_region_law
              ((go_simp; go_at_call 50; refine (fadeOf_agg p m.l.opacity q _ oo1 oo2 HQ.out).mono ?_; rintro e wA ⟨rfl, hbA⟩; have aq := bkeep hbA sq; have GA := G.step ((Below.here wi).trans hbA); have zz := GA.own.reads.2.px j HJN.out; obtain ⟨v0, v1, v2, v3⟩ := zz; have hth := GA.own.there j hjl; have f0 := (hth 0 (Nat.zero_lt_succ _)).2; have f1 := (hth 1 (Nat.lt_of_sub_eq_succ rfl)).2; have f2 := (hth 2 (Nat.lt_of_sub_eq_succ rfl)).2; have f3 := (hth 3 (Nat.lt_of_sub_eq_succ rfl)).2; simp only [Nat.add_zero] at f0))
            all_goals
              have K := GA.put j hjl q
              rw [Lay.fadeTo_set _ _ _ p q HP.out HQ.out] at K
              have HK := Lib.hid K
              clear K hbA aq v0 v1 v2 v3 hth f0 f1 f2 f3 so sq y0 y1 y2 y3 dq
              go_wp2_with fail
              go_roundw
              case rel => exact ⟨j + 1, by omega, by go_num, HK.out⟩
              case measure => simp [intOf]; omega
          · have e : j = m.n := by omega
            subst e
            have F := HF.out.step G.bel
            have d3 := F.b3.cell
            have dL := G.bL.cell
            have hEnd := Lib.hid (show Lay.fadeTo m.l.ps m.l.opacity m.n = m.l.ps.map fun p => Pix.fade p m.l.opacity by rw [HPL.out]; exact Lay.fadeTo_all _ _)
            have RQ := Lib.hid (G.own.reads.2)
            have RF := Lib.hid (F.own.reads.2)
            have hst := Lib.hid (Lay.flat_stamp ls0 m.l W' H' HH.out (by rw [← HPL.out]; exact HON.out))
            have g3l := F.b3.lt
            go_wp2_with fail
            refine (stampOf_any W' H' (some ⟨ga, oa, none⟩) M c' (Lay.flat ls0 W' H') m.l.wide m.l.high (some ⟨gp, op, none⟩) m.n c3 (m.l.ps.map fun p => Pix.fade p m.l.opacity) m.l.x m.l.y m.l.mode _ RF.out (by rw [← hEnd.out]; exact RQ.out) hW hH (Lay.flat_length _ _ _) (by omega) (by omega) (by rw [List.length_map, ← HPL.out]; exact HON.out) ⟨ox1, ox2⟩ ⟨oy1, oy2⟩).mono ?_
            rw [hst.out, ← HT.out]
            rintro e wS ⟨AS, cS, rfl, hOS, hbS⟩
            obtain ⟨gS, oS, rfl, hgS1, hgS2⟩ := hOS.addr (by omega)
            have FS := F.step hbS
            have e3 := FS.b3.cell
            have u3 := FS.b3.free
            have HPUT := Lib.hid (F.put hbS hOS)
            clear d3 dL dq FS hOS hbS
            go_wp2_with fail
            go_roundw
            case rel => exact ⟨k + 1, gS, oS, cS, by omega, by go_num, HPUT.out⟩
            case measure => simp [intOf]; omega
    · have e : k = ms.length := by omega
      subst e
      rw [List.take_of_length_le (by rw [lsOf_len]; exact Nat.le_refl _)] at F
      have ho := F.own
      have n1 : (Value.slice (some ⟨ga, oa, none⟩) M c').ownBlock ≠ some (w.heap.size + 1) := by have := (ho.lt ga rfl).1; simp [Value.ownBlock]; omega
      have HO := Lib.hid ho
      have HN1 := Lib.hid n1
      clear ho n1
      go_wp2_with fail
      refine bodyPost_ret (v := .agg #[.int .i64 W', .int .i64 H', .slice (some ⟨ga, oa, none⟩) M c']) (by simp [results, Tryd.results18, go_sem, c2]) rfl ⟨some ⟨ga, oa, none⟩, c', rfl, ?_, ?_⟩
      · exact (((HO.out.setCell HN1.out _).setCell HN1.out _).setCell HN1.out _).mono (by omega)
      · have hz : w.heap.size ≤ w.heap.size + 1 := by omega
        exact (((F.bel.setCell hz _).setCell hz _).setCell hz _)
end Go.Proofs.YtfadnkfceggjaaaDoor
