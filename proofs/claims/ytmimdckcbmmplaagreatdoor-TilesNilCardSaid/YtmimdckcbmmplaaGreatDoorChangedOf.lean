/- Are two pictures of one size the same? slices.Equal of pixels: the walks. The reference's CropOf: the walk. The reference's ChangedOf; sameRects: the walks. -/
import Derived.Test.YtmimdckcbmmplaaGreatDoorBase
import Derived.Test.YtmimdckcbmmplaaGreatDoorRects
import Derived.Deep.RegionHeld3
import Derived.IntWalk
import Derived.Test.YtmimdckcbmmplaaGreatDoorTileLaw
namespace Go.Proofs.YtmimdckcbmmplaaGreatDoor
open Go Go.RowKit

theorem take_same {α : Type} {l m : List α} {k : Nat} (h : l.take k = m.take k) (hl : k < l.length) (hm : k < m.length) (e : l[k] = m[k]) : l.take (k + 1) = m.take (k + 1) := by
  rw [List.take_succ_eq_append_getElem hl, List.take_succ_eq_append_getElem hm, h, e]
theorem take_other {α : Type} {l m : List α} {k : Nat} (hl : k < l.length) (hm : k < m.length) (e : ¬ l[k] = m[k]) : ¬ l = m := by
  intro h
  subst h
  exact e rfl
set_option maxRecDepth 100000 in
set_option maxHeartbeats 1000000 in
theorem samePicture_eq (W H : Int) (A1 : Option Addr) (n c1 : Nat) (A2 : Option Addr) (c2 : Nat) (l m : List Px) (w : World) (h1 : Reads w w.heap.size 4 A1 n (pxCells l)) (h2 : Reads w w.heap.size 4 A2 n (pxCells m)) (hn : n ≤ 1048576) :
    Calls Tryz.prog 16 #[.agg #[.int .i64 W, .int .i64 H, .slice A1 n c1], .agg #[.int .i64 W, .int .i64 H, .slice A2 n c2]] w fun e w' => e = .returned (.bool (decide (l = m))) ∧ Below w.heap.size w w' := by
  obtain rfl := h1.pxLen
  have hlm := h2.pxLen
  have HLM := Lib.hid hlm
  clear hlm
  go_enter Tryz.func16, Tryz.ntmps16
  go_wp2_with fail
  have k1 := ((h1.alloc (Nat.le_refl _) (.cells #[.int .i64 W, .int .i64 H, .slice A1 l.length c1] 24)).alloc (by first | omega | (simp; done) | (simp; omega)) (.cells #[.int .i64 W, .int .i64 H, .slice A2 l.length c2] 24))
  have k2 := ((h2.alloc (Nat.le_refl _) (.cells #[.int .i64 W, .int .i64 H, .slice A1 l.length c1] 24)).alloc (by first | omega | (simp; done) | (simp; omega)) (.cells #[.int .i64 W, .int .i64 H, .slice A2 l.length c2] 24))
  have d1 : ((w.alloc (.cells #[.int .i64 W, .int .i64 H, .slice A1 l.length c1] 24)).alloc (.cells #[.int .i64 W, .int .i64 H, .slice A2 l.length c2] 24)).cell? ⟨w.heap.size, 2, none⟩ = some (.slice A1 l.length c1) := cell_past _ (cell_made _ _ _ rfl rfl)
  have d2 : ((w.alloc (.cells #[.int .i64 W, .int .i64 H, .slice A1 l.length c1] 24)).alloc (.cells #[.int .i64 W, .int .i64 H, .slice A2 l.length c2] 24)).cell? ⟨w.heap.size + 1, 2, none⟩ = some (.slice A2 l.length c2) := cell_made _ _ _ (by simp) rfl
  have hb : Below w.heap.size w ((w.alloc (.cells #[.int .i64 W, .int .i64 H, .slice A1 l.length c1] 24)).alloc (.cells #[.int .i64 W, .int .i64 H, .slice A2 l.length c2] 24)) := by go_grown
  generalize (w.alloc (.cells #[.int .i64 W, .int .i64 H, .slice A1 l.length c1] 24)).alloc (.cells #[.int .i64 W, .int .i64 H, .slice A2 l.length c2] 24) = w2 at *
  go_loopw [5] (fun i wr => ∃ k q, k ≤ l.length ∧ i = .int .i64 k ∧ l.take k = m.take k ∧ wr = w2.drewN q) (fun i _ => l.length - (intOf i).toNat)
  case atStart => exact ⟨0, 0, Nat.zero_le _, rfl, rfl, rfl⟩
  case round =>
    obtain ⟨k, q, hk, rfl, ht, rfl⟩ := hrel
    have HT := Lib.hid ht
    clear ht
    by_cases hlt : k < l.length
    · obtain ⟨b1, o1, rfl, _⟩ := k1.addr (by omega)
      obtain ⟨b2, o2, rfl, _⟩ := k2.addr (by omega)
      have hmk : k < m.length := by have := HLM.out; omega
      obtain ⟨y0, y1, y2, y3⟩ := k1.px k hlt
      obtain ⟨z0, z1, z2, z3⟩ := k2.px k hmk
      obtain ⟨x, hx⟩ : ∃ x, l[k] = x := ⟨_, rfl⟩
      obtain ⟨y, hy⟩ : ∃ y, m[k] = y := ⟨_, rfl⟩
      rw [hx] at y0 y1 y2 y3
      rw [hy] at z0 z1 z2 z3
      have HX := Lib.hid hx
      have HY := Lib.hid hy
      clear hx hy
      have hnq := fun w => run_neq_px w x y
      unfold pxV at hnq
      by_cases e : x = y
      · have HS := Lib.hid (take_same HT.out hlt hmk (by rw [HX.out, HY.out]; exact e))
        have hd : (!decide (x = y)) = false := by simp [e]
        rw [hd] at hnq
        clear e
        go_wp2_with fail
        go_quiet (fail)
        go_wp2_with fail
        go_roundw
        case rel => exact ⟨k + 1, _, by omega, by go_num, HS.out, rfl⟩
        case measure => simp [intOf]; omega
      · have HS := Lib.hid (take_other hlt hmk (by rw [HX.out, HY.out]; exact e))
        have hd : (!decide (x = y)) = true := by simp [e]
        rw [hd] at hnq
        clear e
        go_wp2_with fail
        go_quiet (fail)
        go_wp2_with fail
        go_ret
        exact ⟨by rw [decide_eq_false HS.out]; rfl, below_drewN (below_drewN hb _) _⟩
    · have HS := Lib.hid (show l = m by
        have h := HT.out
        have := HLM.out
        rwa [List.take_of_length_le (by omega), List.take_of_length_le (by omega)] at h)
      go_wp2_with fail
      go_ret
      exact ⟨by rw [decide_eq_true HS.out]; rfl, below_drewN hb q⟩

set_option maxRecDepth 100000 in
set_option maxHeartbeats 1000000 in
theorem equalPx_any (A1 : Option Addr) (n c1 : Nat) (A2 : Option Addr) (n2 c2 : Nat) (l m : List Px) (w : World) (h1 : Reads w w.heap.size 4 A1 n (pxCells l)) (h2 : Reads w w.heap.size 4 A2 n2 (pxCells m)) (hn : n ≤ 1048576) (hn2 : n2 ≤ 1048576) :
    Calls Tryz.prog 51 #[.slice A1 n c1, .slice A2 n2 c2] w fun e w' => e = .returned (.bool (decide (l = m))) ∧ Below w.heap.size w w' := by
  obtain rfl := h1.pxLen
  obtain rfl := h2.pxLen
  by_cases hln : l.length = m.length
  · have HLM := Lib.hid hln
    rw [← hln]
    rw [← hln] at h2
    clear hln
    go_enter Tryz.func51, Tryz.ntmps51
    go_wp2_with fail
    go_loopw [13] (fun i wr => ∃ k q, k ≤ l.length ∧ i = .int .i64 k ∧ l.take k = m.take k ∧ wr = w.drewN q) (fun i _ => l.length - (intOf i).toNat)
    case atStart => exact ⟨0, 0, Nat.zero_le _, rfl, rfl, rfl⟩
    case round =>
      obtain ⟨k, q, hk, rfl, ht, rfl⟩ := hrel
      have HT := Lib.hid ht
      clear ht
      by_cases hlt : k < l.length
      · obtain ⟨b1, o1, rfl, _⟩ := h1.addr (by omega)
        obtain ⟨b2, o2, rfl, _⟩ := h2.addr (by omega)
        have hmk : k < m.length := by have := HLM.out; omega
        obtain ⟨y0, y1, y2, y3⟩ := h1.px k hlt
        obtain ⟨z0, z1, z2, z3⟩ := h2.px k hmk
        obtain ⟨x, hx⟩ : ∃ x, l[k] = x := ⟨_, rfl⟩
        obtain ⟨y, hy⟩ : ∃ y, m[k] = y := ⟨_, rfl⟩
        rw [hx] at y0 y1 y2 y3
        rw [hy] at z0 z1 z2 z3
        have HX := Lib.hid hx
        have HY := Lib.hid hy
        clear hx hy
        have hnq := fun w => run_neq_px w x y
        unfold pxV at hnq
        by_cases e : x = y
        · have HS := Lib.hid (take_same HT.out hlt hmk (by rw [HX.out, HY.out]; exact e))
          have hd : (!decide (x = y)) = false := by simp [e]
          rw [hd] at hnq
          clear e
          go_wp2_with fail
          go_quiet (fail)
          go_wp2_with fail
          go_roundw
          case rel => exact ⟨k + 1, _, by omega, by go_num, HS.out, rfl⟩
          case measure => simp [intOf]; omega
        · have HS := Lib.hid (take_other hlt hmk (by rw [HX.out, HY.out]; exact e))
          have hd : (!decide (x = y)) = true := by simp [e]
          rw [hd] at hnq
          clear e
          go_wp2_with fail
          go_quiet (fail)
          go_wp2_with fail
          go_ret
          exact ⟨by rw [decide_eq_false HS.out]; rfl, below_drewN (below_drewN (Below.refl _ _) _) _⟩
      · have HS := Lib.hid (show l = m by
          have h := HT.out
          have := HLM.out
          rwa [List.take_of_length_le (by omega), List.take_of_length_le (by omega)] at h)
        go_wp2_with fail
        go_ret
        exact ⟨by rw [decide_eq_true HS.out]; rfl, below_drewN (Below.refl _ _) q⟩
  · have HS := Lib.hid (show ¬ l = m from fun e => hln (by rw [e]))
    have hi : ¬ (l.length : Int) = (m.length : Int) := by omega
    clear hln
    go_enter Tryz.func51, Tryz.ntmps51
    go_wp2_with fail
    go_ret
    exact ⟨by rw [decide_eq_false HS.out]; rfl, Below.refl _ _⟩
end Go.Proofs.YtmimdckcbmmplaaGreatDoor
namespace Go.Proofs.YtmimdckcbmmplaaGreatDoor
open Go Go.RowKit

/-- What stands through CropOf's loops. -/
structure CrR (W H : Int) (A : Option Addr) (n c : Nat) (r : Til.R) (w : World) (g5 ga oa m c' : Nat) (l : List Px) (wr : World) : Prop where
  b1 : Blk wr w.heap.size 24 #[.int .i64 W, .int .i64 H, .slice A n c]
  b2 : Blk wr (w.heap.size + 1) 35 #[.int .i64 r.x, .int .i64 r.y, .int .i64 r.w, .int .i64 r.h]
  b10 : Blk wr (w.heap.size + 1 + 1) 24 #[.int .i64 0, .int .i64 0, .slice none 0 0]
  b11 : Blk wr g5 24 #[.int .i64 r.w, .int .i64 r.h, .slice (some ⟨ga, oa, none⟩) m c']
  own : Own wr (w.heap.size + 3) 4 (.slice (some ⟨ga, oa, none⟩) m c') m (pxCells l)
  ne : ga ≠ g5
  g5h : w.heap.size + 3 ≤ g5
  bel : Below w.heap.size w wr
section
variable {W H : Int} {A : Option Addr} {n c : Nat} {r : Til.R} {w wr w' : World} {g5 ga oa m c' : Nat} {l : List Px}
theorem CrR.step (h : CrR W H A n c r w g5 ga oa m c' l wr) (hb : Below wr.heap.size wr w') : CrR W H A n c r w g5 ga oa m c' l w' :=
  ⟨h.b1.below hb h.b1.lt, h.b2.below hb h.b2.lt, h.b10.below hb h.b10.lt, h.b11.below hb h.b11.lt, h.own.below hb (Nat.le_refl _), h.ne, h.g5h, h.bel.trans (hb.mono (by have := h.b1.lt; omega))⟩
theorem CrR.put (h : CrR W H A n c r w g5 ga oa m c' l wr) (i : Nat) (hi : i < m) (q : Px) : CrR W H A n c r w g5 ga oa m c' (l.set i q) (wr.setCells ga (oa + i * 4) (pxCs q)) := by
  have hg := (h.own.lt ga rfl).1
  exact ⟨h.b1.setCells_ (by omega) _ _, h.b2.setCells_ (by omega) _ _, h.b10.setCells_ (by omega) _ _, h.b11.setCells_ (fun e => h.ne e.symm) _ _, h.own.setPx i hi q, h.ne, h.g5h, Below.setCells_ h.bel (by omega) _ _⟩
end

set_option maxRecDepth 100000 in
set_option maxHeartbeats 4000000 in
theorem cropOf_any (W H : Nat) (A : Option Addr) (n c : Nat) (ps : List Px) (r : Til.R) (w : World) (hp : Reads w w.heap.size 4 A n (pxCells ps)) (hW : W ≤ 256) (hH : H ≤ 256) (hn : ps.length = H * W) (hr : Til.In W H r) :
    Calls Tryz.prog 37 #[.agg #[.int .i64 W, .int .i64 H, .slice A n c], .agg #[.int .i64 r.x, .int .i64 r.y, .int .i64 r.w, .int .i64 r.h]] w
      fun e w' => ∃ A' c', e = .returned (.agg #[.int .i64 r.w, .int .i64 r.h, .slice A' (r.h * r.w) c']) ∧ Own w' w.heap.size 4 (.slice A' (r.h * r.w) c') (r.h * r.w) (pxCells (Til.crop ps W r)) ∧ Below w.heap.size w w' := by
  obtain rfl := hp.pxLen
  obtain ⟨rw1, rw16, rh1, rh16, rxw, ryh⟩ := hr
  obtain ⟨m, hm⟩ : ∃ m, r.h * r.w = m := ⟨_, rfl⟩
  have hmul : 1 * 1 ≤ r.h * r.w ∧ r.h * r.w ≤ 16 * 16 := ⟨Nat.mul_le_mul rh1 rw1, Nat.mul_le_mul rh16 rw16⟩
  rw [hm] at hmul ⊢
  obtain ⟨hm1, hm2⟩ := hmul
  have HWH := Lib.hid (show (r.w : Int) * (r.h : Int) = (m : Int) by rw [← hm, Int.natCast_mul, Int.mul_comm])
  obtain ⟨f, hf⟩ : ∃ f : Nat → Nat → Px, f = fun x y => ps.getD ((y + r.y) * W + (x + r.x)) default := ⟨_, rfl⟩
  have hfc : Til.crop ps W r = Lay.grid f r.w r.h := by rw [hf]; rfl
  rw [hfc]
  have HF := Lib.hid hf
  have HM := Lib.hid hm
  have HN := Lib.hid hn
  have HP := Lib.hid hp
  clear hm hf hfc hn hp
  go_enter Tryz.func37, Tryz.ntmps37
  go_wp2_with fail
  refine (blank_any r.w r.h m ⟨0, 0, 0, 0⟩ _ (by omega) (by omega) HWH.out (by omega)).mono ?_
  rintro e w1 ⟨A', c', rfl, hO, hb1⟩
  obtain ⟨ga, oa, rfl, hga1, hga2⟩ := hO.addr (by omega)
  go_wp2_with fail
  obtain ⟨g5, hg5⟩ : ∃ g5, g5 = w1.heap.size := ⟨_, rfl⟩
  obtain ⟨w2, hw2⟩ : ∃ w2, w2 = w1.alloc (.cells #[.int .i64 r.w, .int .i64 r.h, .slice (some ⟨ga, oa, none⟩) m c'] 24) := ⟨_, rfl⟩
  obtain ⟨zs, hzs⟩ : ∃ zs : List Px, List.replicate m ⟨0, 0, 0, 0⟩ = zs := ⟨_, rfl⟩
  have HZL := Lib.hid (show zs.length = r.h * r.w by rw [← hzs, List.length_replicate, HM.out])
  rw [hzs] at hO
  have F0 : CrR W H A ps.length c r w g5 ga oa m c' (Lay.mixTo f zs r.w 0 0) w2 := by
    rw [hw2, hg5, Lay.mixTo_start]
    have hb0 : Below w.heap.size w w1 := Below.trans (by go_grown) (hb1.mono (by simp; omega))
    have hz := hb1.size
    simp at hz
    refine ⟨?_, ?_, ?_, Blk.new _ _ _ rfl, ?_, ?_, ?_, hb0.alloc (by omega) _⟩
    · exact ((((Blk.new _ _ _ rfl).alloc _).alloc _).below hb1 (by simp; omega)).alloc _
    · exact (((Blk.new _ _ _ (by simp)).alloc _).below hb1 (by simp)).alloc _
    · exact ((Blk.new _ _ _ (by simp)).below hb1 (by simp)).alloc _
    · exact (hO.alloc _).mono (by simp)
    · omega
    · omega
  rw [← hw2, ← hg5]
  clear hw2 hg5 hO hb1 hga1 hga2 hzs
  go_loopw [6] (fun i wr => ∃ k, k ≤ r.h ∧ i = .int .i64 k ∧ CrR W H A ps.length c r w g5 ga oa m c' (Lay.mixTo f zs r.w k 0) wr) (fun i _ => r.h - (intOf i).toNat)
  case atStart => exact ⟨0, Nat.zero_le _, rfl, F0⟩
  case round =>
    clear F0
    obtain ⟨k, hk, rfl, F0⟩ := hrel
    obtain ⟨wo, rfl⟩ : ∃ wo : World, wo = wr := ⟨_, rfl⟩
    have c2 := F0.b2.cell
    have c11 := F0.b11.cell
    have c10 := F0.b10.cell
    have f10 := F0.b10.free
    by_cases hlt : k < r.h
    · go_wp2_with fail
      go_loopw [7] (fun i wr => ∃ j, j ≤ r.w ∧ i = .int .i64 j ∧ CrR W H A ps.length c r w g5 ga oa m c' (Lay.mixTo f zs r.w k j) wr) (fun i _ => r.w - (intOf i).toNat)
      case atStart => exact ⟨0, Nat.zero_le _, rfl, F0⟩
      case round =>
        clear F0 c2 c11 c10 f10
        obtain ⟨j, hj, rfl, F⟩ := hrel
        obtain ⟨wi, rfl⟩ : ∃ wi : World, wi = wr := ⟨_, rfl⟩
        have c2 := F.b2.cell
        by_cases hjl : j < r.w
        · have hil := Til.index_lt hjl hlt
          rw [HM.out] at hil
          obtain ⟨i, hi⟩ : ∃ i, k * r.w + j = i := ⟨_, rfl⟩
          rw [hi] at hil
          have hsl := Til.index_lt (show j + r.x < W by omega) (show k + r.y < H by omega)
          obtain ⟨si, hsi⟩ : ∃ si, (k + r.y) * W + (j + r.x) = si := ⟨_, rfl⟩
          rw [hsi, ← HN.out] at hsl
          obtain ⟨q, hq⟩ : ∃ q, ps[si]? = some q := ⟨_, List.getElem?_eq_getElem hsl⟩
          have HFQ := Lib.hid (show f j k = q by rw [HF.out]; simp only; rw [hsi, List.getD_eq_getElem?_getD, hq]; rfl)
          have hb := Nat.mul_le_mul (show k + r.y ≤ 256 by omega) hW
          have HZB := Lib.hid (show 0 ≤ ((k + r.y : Nat) : Int) * (W : Int) ∧ ((k + r.y : Nat) : Int) * (W : Int) ≤ 1048576 by rw [← Int.natCast_mul]; omega)
          have HZI := Lib.hid (show ((k + r.y : Nat) : Int) * (W : Int) + ((j + r.x : Nat) : Int) = (si : Int) by rw [← hsi, Int.natCast_add ((k + r.y) * W) (j + r.x), Int.natCast_mul (k + r.y) W])
          have HJX := Lib.hid (show 0 ≤ ((j + r.x : Nat) : Int) ∧ ((j + r.x : Nat) : Int) ≤ 1048576 by omega)
          have HI := Lib.hid hi
          have HQQ := Lib.hid hq
          obtain ⟨xx, hxx⟩ : ∃ xx : Int, ((j + r.x : Nat) : Int) = xx := ⟨_, rfl⟩
          obtain ⟨yy, hyy⟩ : ∃ yy : Int, ((k + r.y : Nat) : Int) = yy := ⟨_, rfl⟩
          rw [hxx] at HZI HJX
          rw [hyy] at HZI HZB
          have hx1 : (r.x : Int) + (j : Int) = xx := by rw [← hxx]; omega
          have hy1 : (r.y : Int) + (k : Int) = yy := by rw [← hyy]; omega
          have hx2 : IntKind.i64.wrap ((r.x : Int) + (j : Int)) = xx := by rw [hx1]; exact IntWalk.i64_in _ (by omega)
          have hy2 : IntKind.i64.wrap ((r.y : Int) + (k : Int)) = yy := by rw [hy1]; exact IntWalk.i64_in _ (by omega)
          have hx3 : IntKind.i64.wrap xx = xx := IntWalk.i64_in _ (by omega)
          have hy3 : IntKind.i64.wrap yy = yy := IntWalk.i64_in _ (by omega)
          obtain ⟨z, hz⟩ : ∃ z, k * r.w = z := ⟨_, rfl⟩
          have hzi : z + j = i := by rw [← hz]; exact hi
          have hz' : (k : Int) * (r.w : Int) = (z : Int) := by rw [← hz, Int.natCast_mul]
          have hw3 : IntKind.i64.wrap ((k : Int) * (r.w : Int)) = (z : Int) := by rw [hz']; exact IntWalk.i64_in _ (by omega)
          have hp4 : (z : Int) + (j : Int) = (i : Int) := by rw [← hzi, Int.natCast_add]
          have hw4 : IntKind.i64.wrap ((z : Int) + (j : Int)) = (i : Int) := by rw [hp4]; exact IntWalk.i64_in _ (by omega)
          have hw7 : IntKind.i64.wrap (z : Int) = (z : Int) := IntWalk.i64_in _ (by omega)
          have hw8 : IntKind.i64.wrap (i : Int) = (i : Int) := IntWalk.i64_in _ (by omega)
          have i0 : (0 : Int) ≤ (i : Int) := by omega
          have i1 : (i : Int) < (m : Int) := by omega
          have HP1 := Lib.hid ((HP.out.below F.bel (Nat.le_refl _)).more F.bel.size)
          have HA1 := Lib.hid (atRef_any W H A ps.length c ps xx yy si q wi.drew HP1.out HQQ.out HZB.out HJX.out HZI.out)
          have HLEN := Lib.hid (Lay.mixTo_length f zs r.w k j (by rw [HZL.out, HM.out, HI.out]; omega))
          have HZM := Lib.hid (show zs.length = m by rw [HZL.out, HM.out])
          have hge := (F.own.lt ga rfl).1
          have hz1 : w.heap.size < ga := by omega
          have hz2 : w.heap.size + 1 < ga := by omega
          have hz5 : ∀ (a o : Nat), (⟨ga, a, none⟩ : Addr) ≠ ⟨g5, o, none⟩ := fun a o e => F.ne (by injection e)
          have s0 : wi.cell? ⟨w.heap.size, 0, none⟩ = some (.int .i64 W) := (F.b1.cell 0).trans rfl
          have s1 : wi.cell? ⟨w.heap.size, 1, none⟩ = some (.int .i64 H) := (F.b1.cell 1).trans rfl
          have s2 : wi.cell? ⟨w.heap.size, 2, none⟩ = some (.slice A ps.length c) := (F.b1.cell 2).trans rfl
          have t0 : wi.cell? ⟨w.heap.size + 1, 0, none⟩ = some (.int .i64 r.x) := (F.b2.cell 0).trans rfl
          have t1 : wi.cell? ⟨w.heap.size + 1, 1, none⟩ = some (.int .i64 r.y) := (F.b2.cell 1).trans rfl
          have t2 : wi.cell? ⟨w.heap.size + 1, 2, none⟩ = some (.int .i64 r.w) := (F.b2.cell 2).trans rfl
          have o2 : wi.cell? ⟨g5, 2, none⟩ = some (.slice (some ⟨ga, oa, none⟩) m c') := (F.b11.cell 2).trans rfl
          clear hq hsi hi hzi hz hsl hb hxx hyy c2
          go_wp2_with fail
          go_region_held3 (fun w' => w'.cell? ⟨w.heap.size, 0, none⟩ = some (.int .i64 W) ∧ w'.cell? ⟨w.heap.size, 1, none⟩ = some (.int .i64 H) ∧ w'.cell? ⟨w.heap.size, 2, none⟩ = some (.slice A ps.length c) ∧ w'.cell? ⟨w.heap.size + 1, 0, none⟩ = some (.int .i64 r.x) ∧ w'.cell? ⟨w.heap.size + 1, 1, none⟩ = some (.int .i64 r.y) ∧ w'.cell? ⟨w.heap.size + 1, 2, none⟩ = some (.int .i64 r.w) ∧ w'.cell? ⟨g5, 2, none⟩ = some (.slice (some ⟨ga, oa, none⟩) m c'))
            ((go_split_ands
              refine ⟨?_, ?_, ?_, ?_, ?_, ?_, ?_⟩
              · ((repeat' (first | (with_reducible exact s0) | (with_reducible refine cell_set_other _ (ne_blk hz1 _ _) ?_) | (with_reducible refine bkeep hbA ?_))) <;> exact s0)
              · ((repeat' (first | (with_reducible exact s1) | (with_reducible refine cell_set_other _ (ne_blk hz1 _ _) ?_) | (with_reducible refine bkeep hbA ?_))) <;> exact s1)
              · ((repeat' (first | (with_reducible exact s2) | (with_reducible refine cell_set_other _ (ne_blk hz1 _ _) ?_) | (with_reducible refine bkeep hbA ?_))) <;> exact s2)
              · ((repeat' (first | (with_reducible exact t0) | (with_reducible refine cell_set_other _ (ne_blk hz2 _ _) ?_) | (with_reducible refine bkeep hbA ?_))) <;> exact t0)
              · ((repeat' (first | (with_reducible exact t1) | (with_reducible refine cell_set_other _ (ne_blk hz2 _ _) ?_) | (with_reducible refine bkeep hbA ?_))) <;> exact t1)
              · ((repeat' (first | (with_reducible exact t2) | (with_reducible refine cell_set_other _ (ne_blk hz2 _ _) ?_) | (with_reducible refine bkeep hbA ?_))) <;> exact t2)
              · ((repeat' (first | (with_reducible exact o2) | (with_reducible refine cell_set_other _ (hz5 _ _) ?_) | (with_reducible refine bkeep hbA ?_))) <;> exact o2)))
            ((go_at_call 60; with_reducible refine HA1.out.mono ?_; rintro e wA ⟨rfl, hbA⟩; have hbI := Below.fromDrew hbA; have GC := F.step hbI; have yy9 := GC.own.reads.2.px i (Nat.lt_of_lt_of_eq hil (HZM.out.symm.trans HLEN.out.symm)); obtain ⟨y0, y1, y2, y3⟩ := yy9; have hth := GC.own.there i hil; obtain ⟨f0, f1, f2, f3⟩ := there4 hth))
          have K := GC.put i hil q
          have HK := Lib.hid K
          clear K hbA s0 s1 s2 t0 t1 t2 o2 hw3 hw4 hw7 hw8 hp4 hz' hx1 hx2 hx3 hy1 hy2 hy3 y0 y1 y2 y3 f0 f1 f2 f3 hth
          go_wp2_with fail
          go_roundw
          case rel => exact ⟨j + 1, by omega, by go_num, by
            have h := HK.out
            rw [← HI.out, ← HFQ.out, Lay.mixTo_set f zs r.w k j (by rw [HZM.out, HI.out]; exact hil)] at h
            rw [HFQ.out, HI.out] at h
            exact h⟩
          case measure => simp [intOf]; omega
        · go_wp2_with fail
          have e : j = r.w := by omega
          subst e
          rw [Lay.mixTo_full] at F
          go_roundw
          case rel => exact ⟨k + 1, by omega, by go_num, F⟩
          case measure => simp [intOf]; omega
    · have e : k = r.h := by omega
      subst e
      rw [Lay.mixTo_end f zs r.w r.h HZL.out] at F0
      have ho := F0.own
      have n1 : (Value.slice (some ⟨ga, oa, none⟩) m c').ownBlock ≠ some (w.heap.size + 1 + 1) := by have := (ho.lt ga rfl).1; simp [Value.ownBlock]; omega
      have HO := Lib.hid ho
      have HN1 := Lib.hid n1
      clear ho n1
      go_wp2_with fail
      refine bodyPost_ret (v := .agg #[.int .i64 r.w, .int .i64 r.h, .slice (some ⟨ga, oa, none⟩) m c']) (by simp [results, Tryz.results37, go_sem, c10]) rfl ⟨some ⟨ga, oa, none⟩, c', rfl, ?_, ?_⟩
      · exact (((HO.out.setCell HN1.out _).setCell HN1.out _).setCell HN1.out _).mono (by omega)
      · have hz : w.heap.size ≤ w.heap.size + 1 + 1 := by omega
        exact (((F0.bel.setCell hz _).setCell hz _).setCell hz _)
end Go.Proofs.YtmimdckcbmmplaaGreatDoor
namespace Go.Proofs.YtmimdckcbmmplaaGreatDoor
open Go Go.RowKit

theorem samePicture_is (W H : Int) (A1 : Option Addr) (n c1 : Nat) (A2 : Option Addr) (c2 : Nat) (l m : List Px) (b : Bool) (w : World) (h1 : Reads w w.heap.size 4 A1 n (pxCells l)) (h2 : Reads w w.heap.size 4 A2 n (pxCells m)) (hn : n ≤ 1048576) (hb : decide (l = m) = b) :
    Calls Tryz.prog 16 #[.agg #[.int .i64 W, .int .i64 H, .slice A1 n c1], .agg #[.int .i64 W, .int .i64 H, .slice A2 n c2]] w fun e w' => e = .returned (.bool b) ∧ Below w.heap.size w w' := by
  subst hb
  exact samePicture_eq W H A1 n c1 A2 c2 l m w h1 h2 hn

/-- What stands through the loops that collect tiles. -/
structure ChR (W H : Nat) (A1 : Option Addr) (n c1 : Nat) (A2 : Option Addr) (c2 : Nat) (w : World) (Ar : Option Addr) (N B0 : Nat) (v : Value) (l : List Til.R) (wr : World) : Prop where
  b1 : Blk wr w.heap.size 24 #[.int .i64 W, .int .i64 H, .slice A1 n c1]
  b2 : Blk wr (w.heap.size + 1) 24 #[.int .i64 W, .int .i64 H, .slice A2 n c2]
  rd : Reads wr B0 4 Ar N (rcCells (Til.rects W H))
  own : Own wr B0 4 v l.length (rcCells l)
  hB : w.heap.size + 2 ≤ B0
  lB : B0 ≤ wr.heap.size
  bel : Below w.heap.size w wr
section
variable {W H : Nat} {A1 : Option Addr} {n c1 : Nat} {A2 : Option Addr} {c2 : Nat} {w wr w' : World} {Ar : Option Addr} {N B0 : Nat} {v v' : Value} {l : List Til.R}
theorem ChR.step (h : ChR W H A1 n c1 A2 c2 w Ar N B0 v l wr) (hb : Below wr.heap.size wr w') : ChR W H A1 n c1 A2 c2 w Ar N B0 v l w' :=
  ⟨h.b1.below hb h.b1.lt, h.b2.below hb h.b2.lt, h.rd.below hb h.lB, h.own.below hb (Nat.le_refl _), h.hB, Nat.le_trans h.lB hb.size, h.bel.trans (hb.mono h.bel.size)⟩
theorem ChR.push (h : ChR W H A1 n c1 A2 c2 w Ar N B0 v l wr) (r : Til.R) (ho : Own w' B0 4 v' (l.length + 1) (rcCells (l ++ [r]))) (hg : wr.grownBy w' v.ownBlock) : ChR W H A1 n c1 A2 c2 w Ar N B0 v' (l ++ [r]) w' := by
  have hr : ∀ g, v.ownBlock = some g → B0 ≤ g := fun g e => (h.own.lt g e).1
  have hB := h.hB
  refine ⟨h.b1.grown hg (fun e => by have := hr _ e.symm; omega), h.b2.grown hg (fun e => by have := hr _ e.symm; omega), h.rd.grown hg h.lB hr, ?_, h.hB, Nat.le_trans h.lB hg.size, h.bel.grown hg h.bel.size (fun g e => by have := hr g e; omega)⟩
  rw [List.length_append]
  exact ho
end

set_option maxRecDepth 100000 in
set_option maxHeartbeats 4000000 in
theorem changedOf_any (W H : Nat) (A1 : Option Addr) (n c1 : Nat) (A2 : Option Addr) (c2 : Nat) (ps qs : List Px) (w : World) (hp : Reads w w.heap.size 4 A1 n (pxCells ps)) (hq : Reads w w.heap.size 4 A2 n (pxCells qs)) (hW : W ≤ 256) (hH : H ≤ 256) (hn : ps.length = H * W) :
    Calls Tryz.prog 19 #[.agg #[.int .i64 W, .int .i64 H, .slice A1 n c1], .agg #[.int .i64 W, .int .i64 H, .slice A2 n c2]] w
      fun e w' => ∃ A c, e = .returned (.slice A (Til.diff ps qs W (Til.rects W H)).length c) ∧ Reads w' w'.heap.size 4 A (Til.diff ps qs W (Til.rects W H)).length (rcCells (Til.diff ps qs W (Til.rects W H))) ∧ Below w.heap.size w w' := by
  obtain ⟨i0, hi, hz0, hz1, hz2⟩ := info_parts rcInfo
  have HP := Lib.hid hp
  have HQ := Lib.hid hq
  have HN := Lib.hid hn
  have HNQ := Lib.hid (show qs.length = H * W by rw [← hq.pxLen, hp.pxLen, hn])
  obtain ⟨D, hD⟩ : ∃ D, Til.diff ps qs W (Til.rects W H) = D := ⟨_, rfl⟩
  rw [hD]
  have HD := Lib.hid hD
  clear hp hq hn hD
  go_enter Tryz.func19, Tryz.ntmps19
  go_wp2_with fail
  refine (refRects_any W H _ hW hH).mono ?_
  rintro e w1 ⟨Ar, cr, rfl, hO, hb1⟩
  have hlr := Til.rects_length W H
  obtain ⟨N, hN⟩ : ∃ N, (Til.rects W H).length = N := ⟨_, rfl⟩
  have hN1 : N ≤ 1000 := by
    have h1 : Til.cols W ≤ 16 := by unfold Til.cols; omega
    have h2 : Til.cols H ≤ 16 := by unfold Til.cols; omega
    have := Nat.mul_le_mul h2 h1
    omega
  have HNN := Lib.hid hN
  rw [hN] at hO ⊢
  have F0 : ChR W H A1 n c1 A2 c2 w Ar N w1.heap.size (.slice none 0 0) [] w1 := by
    have hz := hb1.size
    simp at hz
    exact ⟨((Blk.new w 24 #[.int .i64 W, .int .i64 H, .slice A1 n c1] rfl).alloc _).below hb1 (by simp; omega), (Blk.new (w.alloc (.cells #[.int .i64 W, .int .i64 H, .slice A1 n c1] 24)) 24 #[.int .i64 W, .int .i64 H, .slice A2 n c2] (g := w.heap.size + 1) (by simp)).below hb1 (by simp), hO.reads.2, Own.nil _ _ _, by omega, Nat.le_refl _, Below.trans (by go_grown) (hb1.mono (by simp; omega))⟩
  obtain ⟨B0, hB0⟩ : ∃ B0, w1.heap.size = B0 := ⟨_, rfl⟩
  rw [hB0] at F0
  clear hO hlr hN hb1 hB0
  go_wp2_with fail
  go_loopw [5, 7] (fun v i wr => ∃ (k : Nat), k ≤ N ∧ i = .int .i64 k ∧ ChR W H A1 n c1 A2 c2 w Ar N B0 v (Til.diff ps qs W ((Til.rects W H).take k)) wr) (fun _ i _ => N - (intOf i).toNat)
  case atStart => exact ⟨0, Nat.zero_le _, rfl, F0⟩
  case round =>
    clear F0
    obtain ⟨k, hk, rfl, F⟩ := hrel
    obtain ⟨wi, rfl⟩ : ∃ wi : World, wi = wr := ⟨_, rfl⟩
    by_cases hlt : k < N
    · obtain ⟨br, orr, rfl, hbrr⟩ := F.rd.addr (by omega)
      have hkl : k < (Til.rects W H).length := by rw [HNN.out]; exact hlt
      obtain ⟨x0, x1, x2, x3⟩ := F.rd.rc k hkl
      have hrin := Til.rects_in (List.getElem_mem hkl)
      have HTK := Lib.hid (List.take_succ_eq_append_getElem hkl)
      obtain ⟨r, hr⟩ : ∃ r, (Til.rects W H)[k] = r := ⟨_, rfl⟩
      rw [hr] at x0 x1 x2 x3 hrin HTK
      obtain ⟨l, hl⟩ : ∃ l, Til.diff ps qs W ((Til.rects W H).take k) = l := ⟨_, rfl⟩
      have hll : l.length ≤ 1000 := by
        rw [← hl]
        have h1 := Til.diff_length ps qs W ((Til.rects W H).take k)
        rw [List.length_take] at h1
        omega
      rw [hl] at F
      have HL := Lib.hid hl
      have h16 := Nat.mul_le_mul hrin.h16 hrin.w16
      obtain ⟨Av, cv, hv, hcv, _⟩ := F.own.form
      subst hv
      obtain ⟨bd, hbd⟩ : ∃ b, decide (Til.crop ps W r = Til.crop qs W r) = b := ⟨_, rfl⟩
      have HBD := Lib.hid hbd
      have s0 : wi.cell? ⟨w.heap.size, 0, none⟩ = some (.int .i64 W) := (F.b1.cell 0).trans rfl
      have s1 : wi.cell? ⟨w.heap.size, 1, none⟩ = some (.int .i64 H) := (F.b1.cell 1).trans rfl
      have s2 : wi.cell? ⟨w.heap.size, 2, none⟩ = some (.slice A1 n c1) := (F.b1.cell 2).trans rfl
      have t0 : wi.cell? ⟨w.heap.size + 1, 0, none⟩ = some (.int .i64 W) := (F.b2.cell 0).trans rfl
      have t1 : wi.cell? ⟨w.heap.size + 1, 1, none⟩ = some (.int .i64 H) := (F.b2.cell 1).trans rfl
      have t2 : wi.cell? ⟨w.heap.size + 1, 2, none⟩ = some (.slice A2 n c2) := (F.b2.cell 2).trans rfl
      have HP1 := Lib.hid ((HP.out.below F.bel (Nat.le_refl _)).more F.bel.size)
      have HQ1 := Lib.hid ((HQ.out.below F.bel (Nat.le_refl _)).more F.bel.size)
      have HC := Lib.hid (cropOf_any W H A1 n c1 ps r wi.drew HP1.out hW hH HN.out hrin)
      have k0 : (0 : Int) ≤ (k : Int) := by omega
      have k1 : (k : Int) < (N : Int) := by omega
      have HF := Lib.hid F
      clear hr hkl F hl hbd hcv
      go_wp2_with fail
      go_region_held3 (fun w' => w'.cell? ⟨w.heap.size, 0, none⟩ = some (.int .i64 W) ∧ w'.cell? ⟨w.heap.size, 1, none⟩ = some (.int .i64 H) ∧ w'.cell? ⟨w.heap.size, 2, none⟩ = some (.slice A1 n c1) ∧ w'.cell? ⟨w.heap.size + 1, 0, none⟩ = some (.int .i64 W) ∧ w'.cell? ⟨w.heap.size + 1, 1, none⟩ = some (.int .i64 H) ∧ w'.cell? ⟨w.heap.size + 1, 2, none⟩ = some (.slice A2 n c2) ∧ w'.cell? ⟨br, orr + k * 4, none⟩ = some (.int .i64 r.x) ∧ w'.cell? ⟨br, orr + k * 4 + 1, none⟩ = some (.int .i64 r.y) ∧ w'.cell? ⟨br, orr + k * 4 + 2, none⟩ = some (.int .i64 r.w) ∧ w'.cell? ⟨br, orr + k * 4 + 3, none⟩ = some (.int .i64 r.h))
        ((go_split_ands
          refine ⟨?_, ?_, ?_, ?_, ?_, ?_, ?_, ?_, ?_, ?_⟩
          · ((repeat' (first | (with_reducible exact s0) | (with_reducible refine bkeep hbC ?_) | (with_reducible refine bkeep hbB ?_) | (with_reducible refine bkeep hbA ?_))) <;> exact s0)
          · ((repeat' (first | (with_reducible exact s1) | (with_reducible refine bkeep hbC ?_) | (with_reducible refine bkeep hbB ?_) | (with_reducible refine bkeep hbA ?_))) <;> exact s1)
          · ((repeat' (first | (with_reducible exact s2) | (with_reducible refine bkeep hbC ?_) | (with_reducible refine bkeep hbB ?_) | (with_reducible refine bkeep hbA ?_))) <;> exact s2)
          · ((repeat' (first | (with_reducible exact t0) | (with_reducible refine bkeep hbC ?_) | (with_reducible refine bkeep hbB ?_) | (with_reducible refine bkeep hbA ?_))) <;> exact t0)
          · ((repeat' (first | (with_reducible exact t1) | (with_reducible refine bkeep hbC ?_) | (with_reducible refine bkeep hbB ?_) | (with_reducible refine bkeep hbA ?_))) <;> exact t1)
          · ((repeat' (first | (with_reducible exact t2) | (with_reducible refine bkeep hbC ?_) | (with_reducible refine bkeep hbB ?_) | (with_reducible refine bkeep hbA ?_))) <;> exact t2)
          · ((repeat' (first | (with_reducible exact x0) | (with_reducible refine bkeep hbC ?_) | (with_reducible refine bkeep hbB ?_) | (with_reducible refine bkeep hbA ?_))) <;> exact x0)
          · ((repeat' (first | (with_reducible exact x1) | (with_reducible refine bkeep hbC ?_) | (with_reducible refine bkeep hbB ?_) | (with_reducible refine bkeep hbA ?_))) <;> exact x1)
          · ((repeat' (first | (with_reducible exact x2) | (with_reducible refine bkeep hbC ?_) | (with_reducible refine bkeep hbB ?_) | (with_reducible refine bkeep hbA ?_))) <;> exact x2)
          · ((repeat' (first | (with_reducible exact x3) | (with_reducible refine bkeep hbC ?_) | (with_reducible refine bkeep hbB ?_) | (with_reducible refine bkeep hbA ?_))) <;> exact x3)))
        (first
          | (have hcc := cropOf_any W H A2 n c2 qs r wA ((HQ1.out.below (Below.fromDrew hbA) (Nat.le_refl _)).more (Below.fromDrew hbA).size) hW hH HNQ.out hrin; go_at_call 37; with_reducible refine hcc.mono ?_; rintro e wB ⟨A4, c4, rfl, hO4, hbB⟩; have RA := (hO3.below hbB (Nat.le_refl _)).reads.2)
          | (go_at_call 37; with_reducible refine HC.out.mono ?_; rintro e wA ⟨A3, c3, rfl, hO3, hbA⟩; have hbI := Below.fromDrew hbA)
          | (go_at_call 16; refine (samePicture_is r.w r.h A3 (r.h * r.w) c3 A4 c4 (Til.crop ps W r) (Til.crop qs W r) bd wB RA hO4.reads.2 (by omega) HBD.out).mono ?_; rintro e wC ⟨rfl, hbC⟩))
      have G := ((HF.out.step hbI).step hbB).step hbC
      have x0' : wC.cell? ⟨br, orr + k * 4, none⟩ = some (.int .i64 r.x) := bkeep hbC (bkeep hbB (bkeep hbI x0))
      have x1' : wC.cell? ⟨br, orr + k * 4 + 1, none⟩ = some (.int .i64 r.y) := bkeep hbC (bkeep hbB (bkeep hbI x1))
      have x2' : wC.cell? ⟨br, orr + k * 4 + 2, none⟩ = some (.int .i64 r.w) := bkeep hbC (bkeep hbB (bkeep hbI x2))
      have x3' : wC.cell? ⟨br, orr + k * 4 + 3, none⟩ = some (.int .i64 r.h) := bkeep hbC (bkeep hbB (bkeep hbI x3))
      have HG := Lib.hid G
      clear G hbA hbB hbC hbI hO3 hO4 RA s0 s1 s2 t0 t1 t2 x0 x1 x2 x3 HF
      cases bd with
      | true =>
        have HE := Lib.hid (show l = Til.diff ps qs W ((Til.rects W H).take (k + 1)) by rw [HTK.out, Til.diff_yes (by simpa using HBD.out), HL.out])
        go_wp2_with fail
        go_roundw
        case rel => exact ⟨k + 1, by omega, by go_num, by rw [← HE.out]; exact HG.out⟩
        case measure => simp [intOf]; omega
      | false =>
        have HE := Lib.hid (show l ++ [r] = Til.diff ps qs W ((Til.rects W H).take (k + 1)) by rw [HTK.out, Til.diff_no (by simpa using HBD.out), HL.out])
        have HO := Lib.hid HG.out.own
        obtain ⟨m, hm⟩ : ∃ m, l.length = m := ⟨_, rfl⟩
        have HM := Lib.hid hm
        rw [hm] at HO hll ⊢
        have HLB := HG.out.lB
        clear hm
        go_wp2_with (at_builtin; refine wpList_append_S rfl (.tmp 35) (.tmp 40) 43 43 rfl (B0) 35 i0 _ 4 32 Tryz.underlying43 hi hz0 hz1 hz2 rfl (by decide) (.slice Av m cv) (m) (rcCells (l)) rfl (HO.out.alloc _) (rcCells_one _) (1) ([.int .i64 r.x, .int .i64 r.y, .int .i64 r.w, .int .i64 r.h]) (Src.made Tryz.underlying43 (by first | rfl | simp) rfl (fun u hu => rcCells_one [r] u (by rw [rcCells_single]; exact hu))) (m + 1) (by omega) (rcCells (l ++ [r])) (by rw [rcCells_append, rcCells_single]; rfl) (by unfold maxLen; omega) (by omega) (by first | omega | (simp; done) | (simp; omega)) ?_; intro A' c' w4 hown4 hg4 hat4)
        have G4 := (HG.out.step (Below.alloc (Below.refl _ _) (Nat.le_refl _) _)).push r (by rw [HM.out]; exact hown4) (by rw [HM.out]; exact hg4)
        have HG4 := Lib.hid G4
        clear G4 hown4 hg4 hat4
        go_roundw
        case rel => exact ⟨k + 1, by omega, by go_num, by rw [← HE.out]; exact HG4.out⟩
        case measure => simp [intOf]; omega
    · have e : k = N := by omega
      rw [e, ← HNN.out, List.take_length, HD.out] at F
      obtain ⟨Av, cv, hv, hcv, hr⟩ := F.own.form
      subst hv
      have hbw := F.bel
      have HR := Lib.hid hr
      clear hr e
      go_wp2_with fail
      go_ret
      exact ⟨Av, cv, rfl, HR.out, hbw⟩

theorem rcEqIn (w : World) (x y a b : Int) : (Op.equalIn 10000 35 (.agg #[.int .i64 x, .int .i64 y, .int .i64 a, .int .i64 b]) (.agg #[.int .i64 x, .int .i64 y, .int .i64 a, .int .i64 b])).run Tryz.prog w = .ok true w := by
  have hS : Tryz.prog.underlying 35 = some (.struct (Tryz.prog.fieldsOf 35)) := by kernel_rfl
  have hp : Tryz.prog.stoodInHeld 35 = false := by kernel_rfl
  have u5 := Tryz.underlying3
  have a5 : ∀ w, (isAgg 3).run Tryz.prog w = .ok false w := fun _ => by kernel_rfl
  have z5 : ∀ w, (sizeOf 3).run Tryz.prog w = .ok 1 w := fun _ => by kernel_rfl
  rw [show (10000 : Nat) = 9999 + 1 from rfl, run_equalIn_agg w 9999 35 _ _ hS hp]
  simp only [Program.fieldsOf, Tryz.underlying35]
  go_simp
theorem run_neq_rc (w : World) (x y a b : Int) : (binOp .neq 35 (.agg #[.int .i64 x, .int .i64 y, .int .i64 a, .int .i64 b]) (.agg #[.int .i64 x, .int .i64 y, .int .i64 a, .int .i64 b])).run Tryz.prog w = .ok (.bool false) w := by
  have h : (Op.equalIn Op.maxDepth 35 (.agg #[.int .i64 x, .int .i64 y, .int .i64 a, .int .i64 b]) (.agg #[.int .i64 x, .int .i64 y, .int .i64 a, .int .i64 b])).run Tryz.prog w = .ok true w := rcEqIn w x y a b
  simp [binOp, Op.equal, h]
set_option maxRecDepth 100000 in
set_option maxHeartbeats 1000000 in
theorem sameRects_any (A1 : Option Addr) (n c1 : Nat) (A2 : Option Addr) (n2 c2 : Nat) (l : List Til.R) (w : World) (h1 : Reads w w.heap.size 4 A1 n (rcCells l)) (h2 : Reads w w.heap.size 4 A2 n2 (rcCells l)) (hn : n ≤ 1048576) :
    Calls Tryz.prog 18 #[.slice A1 n c1, .slice A2 n2 c2] w fun e w' => e = .returned (.bool true) ∧ Below w.heap.size w w' := by
  obtain rfl := h1.rcLen
  obtain rfl := h2.rcLen
  go_enter Tryz.func18, Tryz.ntmps18
  go_wp2_with fail
  go_loopw [5] (fun i wr => ∃ k q, k ≤ l.length ∧ i = .int .i64 k ∧ wr = w.drewN q) (fun i _ => l.length - (intOf i).toNat)
  case atStart => exact ⟨0, 0, Nat.zero_le _, rfl, rfl⟩
  case round =>
    obtain ⟨k, q, hk, rfl, rfl⟩ := hrel
    by_cases hlt : k < l.length
    · obtain ⟨b1, o1, rfl, _⟩ := h1.addr (by omega)
      obtain ⟨b2, o2, rfl, _⟩ := h2.addr (by omega)
      obtain ⟨y0, y1, y2, y3⟩ := h1.rc k hlt
      obtain ⟨z0, z1, z2, z3⟩ := h2.rc k hlt
      obtain ⟨r, hr⟩ : ∃ r, l[k] = r := ⟨_, rfl⟩
      rw [hr] at y0 y1 y2 y3 z0 z1 z2 z3
      have hnq := fun w => run_neq_rc w r.x r.y r.w r.h
      clear hr
      go_wp2_with fail
      go_quiet (fail)
      go_wp2_with fail
      go_roundw
      case rel => exact ⟨k + 1, _, by omega, by go_num, rfl⟩
      case measure => simp [intOf]; omega
    · go_wp2_with fail
      go_ret
      exact ⟨rfl, below_drewN (Below.refl _ _) q⟩
end Go.Proofs.YtmimdckcbmmplaaGreatDoor
