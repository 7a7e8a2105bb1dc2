/- The tiles of a size: the reference's TilesOf, tiles.rects: the walks. Printed by mkrects.py. -/
import Derived.Test.YtmimdckcbmmplaaGreatDoorTileMem
import Derived.Test.YtmimdckcbmmplaaGreatDoorBase
import Derived.LoopTactic
namespace Go.Proofs.YtmimdckcbmmplaaGreatDoor
open Go Go.RowKit

theorem rcInfo : (Tryz.prog.info? 35).map (fun i => (i.zero, i.size, i.bytes)) = some (some (.agg #[.int .i64 0, .int .i64 0, .int .i64 0, .int .i64 0]), 4, 32) := by kernel_rfl
/-- What stands through the loops over tiles. -/
structure RcR (w : World) (W H k i : Nat) (v : Value) (wr : World) : Prop where
  own : Own wr w.heap.size 4 v (Til.rectsTo W H k i).length (rcCells (Til.rectsTo W H k i))
  bel : Below w.heap.size w wr
theorem RcR.full {w wr : World} {W H k : Nat} {v : Value} (h : RcR w W H k (Til.cols W) v wr) : RcR w W H (k + 1) 0 v wr := ⟨by rw [← Til.rectsTo_full]; exact h.own, h.bel⟩
theorem rc_snoc (W H k i : Nat) (news : List Value) (h : rcCs (Til.rectAt W H i k) = news) : rcCells (Til.rectsTo W H k i) ++ news = rcCells (Til.rectsTo W H k (i + 1)) := by
  rw [Til.rectsTo_succ, rcCells_append, rcCells_single, h]
theorem rc_len (W H k i : Nat) : (Til.rectsTo W H k i).length + 1 = (Til.rectsTo W H k (i + 1)).length := by rw [Til.rectsTo_succ]; simp
theorem rc_small (W H k i : Nat) (hW : W ≤ 256) (hH : H ≤ 256) (hk : k ≤ Til.cols H) (hi : i ≤ Til.cols W) : (Til.rectsTo W H k i).length ≤ 1000 := by
  rw [Til.rectsTo_length]
  have h1 : Til.cols W ≤ 16 := by unfold Til.cols; omega
  have h2 : Til.cols H ≤ 16 := by unfold Til.cols; omega
  have := Nat.mul_le_mul (show k ≤ 16 by omega) h1
  omega

set_option maxRecDepth 100000 in
set_option maxHeartbeats 8000000 in
theorem refRects_any (W H : Nat) (w : World) (hW : W ≤ 256) (hH : H ≤ 256) :
    Calls Tryz.prog 36 #[.int .i64 W, .int .i64 H] w
      fun e w' => ∃ A c, e = .returned (.slice A (Til.rects W H).length c) ∧ Own w' w.heap.size 4 (.slice A (Til.rects W H).length c) (Til.rects W H).length (rcCells (Til.rects W H)) ∧ Below w.heap.size w w' := by
  obtain ⟨i0, hi, hz0, hz1, hz2⟩ := info_parts rcInfo
  go_enter Tryz.func36, Tryz.ntmps36
  go_wp2_with fail
  go_loopw [5, 6] (fun v y wr => ∃ k, k ≤ Til.cols H ∧ y = .int .i64 ((16 * k : Nat) : Int) ∧ RcR w W H k 0 v wr) (fun _ y _ => 300 - (intOf y).toNat)
  case atStart => exact ⟨0, Nat.zero_le _, rfl, Own.nil _ _ _, Below.refl _ _⟩
  case round =>
    obtain ⟨k, hk, rfl, F0⟩ := hrel
    obtain ⟨wo, rfl⟩ : ∃ wo : World, wo = wr := ⟨_, rfl⟩
    obtain ⟨yy, hyy⟩ : ∃ yy, 16 * k = yy := ⟨_, rfl⟩
    have HYY := Lib.hid hyy
    rw [hyy]
    by_cases hlt : k < Til.cols H
    · have hyH : yy < H := by have := Til.cols_lt.1 hlt; omega
      have hyH' : (yy : Int) < (H : Int) := by omega
      clear hyy
      go_wp2_with fail
      go_loopw [5, 7] (fun v x wr => ∃ i, i ≤ Til.cols W ∧ x = .int .i64 ((16 * i : Nat) : Int) ∧ RcR w W H k i v wr) (fun _ x _ => 300 - (intOf x).toNat)
      case atStart => exact ⟨0, Nat.zero_le _, rfl, F0⟩
      case round =>
        clear F0
        obtain ⟨i, hil, rfl, F⟩ := hrel
        obtain ⟨wi, rfl⟩ : ∃ wi : World, wi = wr := ⟨_, rfl⟩
        obtain ⟨xx, hxx⟩ : ∃ xx, 16 * i = xx := ⟨_, rfl⟩
        have HXX := Lib.hid hxx
        rw [hxx]
        by_cases hlt2 : i < Til.cols W
        · have hxW : xx < W := by have := Til.cols_lt.1 hlt2; omega
          have hxW' : (xx : Int) < (W : Int) := by omega
          have hsm := rc_small W H k i hW hH hk hil
          have hln := rc_len W H k i
          obtain ⟨Av, cv, hv, _, _⟩ := F.own.form
          subst hv
          obtain ⟨n, hn⟩ : ∃ n, (Til.rectsTo W H k i).length = n := ⟨_, rfl⟩
          have F1 := F.own
          rw [hn] at F1 hsm hln
          have hblk : ∀ g, (Value.slice Av n cv).ownBlock = some g → w.heap.size ≤ g := fun g e => (F1.lt g e).1
          have HBLK := Lib.hid hblk
          have hbz := F.bel.size
          have HB := Lib.hid F.bel
          have HF1 := Lib.hid F1
          have HLN := Lib.hid hln
          clear hxx hblk F F1 hln
          rw [hn]
          clear hn
          rcases (show xx + 16 ≤ W ∨ W < xx + 16 by omega) with cx | cx
          all_goals rcases (show yy + 16 ≤ H ∨ H < yy + 16 by omega) with cy | cy
          · have cx' : (xx : Int) + 16 ≤ (W : Int) := by omega
            have cy' : (yy : Int) + 16 ≤ (H : Int) := by omega
            have cx2 : ¬ ((W : Int) - (xx : Int) < 16) := by omega
            have cy2 : ¬ ((H : Int) - (yy : Int) < 16) := by omega
            have HNW := Lib.hid (show rcCs (Til.rectAt W H i k) = [.int .i64 xx, .int .i64 yy, .int .i64 16, .int .i64 16] by
              have e1 : ((min 16 (W - xx) : Nat) : Int) = 16 := by omega
              have e2 : ((min 16 (H - yy) : Nat) : Int) = 16 := by omega
              simp only [rcCs, Til.rectAt, HXX.out, HYY.out]
              rw [e1, e2])
            go_wp2_with (at_builtin; refine wpList_append_S rfl (.tmp 38) (.tmp 40) 43 43 rfl (w.heap.size) 35 i0 _ 4 32 Tryz.underlying43 hi hz0 hz1 hz2 rfl (by decide) (.slice Av n cv) (n) (rcCells (Til.rectsTo W H k i)) rfl (((HF1.out.alloc _).alloc _)) (rcCells_one _) (1) ([.int .i64 xx, .int .i64 yy, .int .i64 16, .int .i64 16]) (Src.made Tryz.underlying43 (by first | rfl | simp) rfl (fun u hu => rcCells_one [Til.rectAt W H i k] u (by rw [rcCells_single, HNW.out]; exact hu))) (n + 1) (by omega) (rcCells (Til.rectsTo W H k (i + 1))) (rc_snoc W H k i _ HNW.out) (by unfold maxLen; omega) (by omega) (by first | omega | (simp; done) | (simp; omega)) ?_; intro A' c' w4 hown4 hg4 hat4)
            go_roundw
            case rel => exact ⟨i + 1, by omega, congrArg (Value.int .i64) (by have := HXX.out; omega), (by rw [← HLN.out]; exact hown4), Below.grown ((HB.out.alloc hbz _).alloc (by simp; omega) _) hg4 (by simp; omega) HBLK.out⟩
            case measure => simp [intOf]; omega
          · have cx' : (xx : Int) + 16 ≤ (W : Int) := by omega
            have cy' : (H : Int) < (yy : Int) + 16 := by omega
            have cx2 : ¬ ((W : Int) - (xx : Int) < 16) := by omega
            have cy2 : (H : Int) - (yy : Int) < 16 := by omega
            have HNW := Lib.hid (show rcCs (Til.rectAt W H i k) = [.int .i64 xx, .int .i64 yy, .int .i64 16, .int .i64 ((H : Int) - (yy : Int))] by
              have e1 : ((min 16 (W - xx) : Nat) : Int) = 16 := by omega
              have e2 : ((min 16 (H - yy) : Nat) : Int) = ((H : Int) - (yy : Int)) := by omega
              simp only [rcCs, Til.rectAt, HXX.out, HYY.out]
              rw [e1, e2])
            go_wp2_with (at_builtin; refine wpList_append_S rfl (.tmp 38) (.tmp 40) 43 43 rfl (w.heap.size) 35 i0 _ 4 32 Tryz.underlying43 hi hz0 hz1 hz2 rfl (by decide) (.slice Av n cv) (n) (rcCells (Til.rectsTo W H k i)) rfl (((HF1.out.alloc _).alloc _)) (rcCells_one _) (1) ([.int .i64 xx, .int .i64 yy, .int .i64 16, .int .i64 ((H : Int) - (yy : Int))]) (Src.made Tryz.underlying43 (by first | rfl | simp) rfl (fun u hu => rcCells_one [Til.rectAt W H i k] u (by rw [rcCells_single, HNW.out]; exact hu))) (n + 1) (by omega) (rcCells (Til.rectsTo W H k (i + 1))) (rc_snoc W H k i _ HNW.out) (by unfold maxLen; omega) (by omega) (by first | omega | (simp; done) | (simp; omega)) ?_; intro A' c' w4 hown4 hg4 hat4)
            go_roundw
            case rel => exact ⟨i + 1, by omega, congrArg (Value.int .i64) (by have := HXX.out; omega), (by rw [← HLN.out]; exact hown4), Below.grown ((HB.out.alloc hbz _).alloc (by simp; omega) _) hg4 (by simp; omega) HBLK.out⟩
            case measure => simp [intOf]; omega
          · have cx' : (W : Int) < (xx : Int) + 16 := by omega
            have cy' : (yy : Int) + 16 ≤ (H : Int) := by omega
            have cx2 : (W : Int) - (xx : Int) < 16 := by omega
            have cy2 : ¬ ((H : Int) - (yy : Int) < 16) := by omega
            have HNW := Lib.hid (show rcCs (Til.rectAt W H i k) = [.int .i64 xx, .int .i64 yy, .int .i64 ((W : Int) - (xx : Int)), .int .i64 16] by
              have e1 : ((min 16 (W - xx) : Nat) : Int) = ((W : Int) - (xx : Int)) := by omega
              have e2 : ((min 16 (H - yy) : Nat) : Int) = 16 := by omega
              simp only [rcCs, Til.rectAt, HXX.out, HYY.out]
              rw [e1, e2])
            go_wp2_with (at_builtin; refine wpList_append_S rfl (.tmp 38) (.tmp 40) 43 43 rfl (w.heap.size) 35 i0 _ 4 32 Tryz.underlying43 hi hz0 hz1 hz2 rfl (by decide) (.slice Av n cv) (n) (rcCells (Til.rectsTo W H k i)) rfl (((HF1.out.alloc _).alloc _)) (rcCells_one _) (1) ([.int .i64 xx, .int .i64 yy, .int .i64 ((W : Int) - (xx : Int)), .int .i64 16]) (Src.made Tryz.underlying43 (by first | rfl | simp) rfl (fun u hu => rcCells_one [Til.rectAt W H i k] u (by rw [rcCells_single, HNW.out]; exact hu))) (n + 1) (by omega) (rcCells (Til.rectsTo W H k (i + 1))) (rc_snoc W H k i _ HNW.out) (by unfold maxLen; omega) (by omega) (by first | omega | (simp; done) | (simp; omega)) ?_; intro A' c' w4 hown4 hg4 hat4)
            go_roundw
            case rel => exact ⟨i + 1, by omega, congrArg (Value.int .i64) (by have := HXX.out; omega), (by rw [← HLN.out]; exact hown4), Below.grown ((HB.out.alloc hbz _).alloc (by simp; omega) _) hg4 (by simp; omega) HBLK.out⟩
            case measure => simp [intOf]; omega
          · have cx' : (W : Int) < (xx : Int) + 16 := by omega
            have cy' : (H : Int) < (yy : Int) + 16 := by omega
            have cx2 : (W : Int) - (xx : Int) < 16 := by omega
            have cy2 : (H : Int) - (yy : Int) < 16 := by omega
            have HNW := Lib.hid (show rcCs (Til.rectAt W H i k) = [.int .i64 xx, .int .i64 yy, .int .i64 ((W : Int) - (xx : Int)), .int .i64 ((H : Int) - (yy : Int))] by
              have e1 : ((min 16 (W - xx) : Nat) : Int) = ((W : Int) - (xx : Int)) := by omega
              have e2 : ((min 16 (H - yy) : Nat) : Int) = ((H : Int) - (yy : Int)) := by omega
              simp only [rcCs, Til.rectAt, HXX.out, HYY.out]
              rw [e1, e2])
            go_wp2_with (at_builtin; refine wpList_append_S rfl (.tmp 38) (.tmp 40) 43 43 rfl (w.heap.size) 35 i0 _ 4 32 Tryz.underlying43 hi hz0 hz1 hz2 rfl (by decide) (.slice Av n cv) (n) (rcCells (Til.rectsTo W H k i)) rfl (((HF1.out.alloc _).alloc _)) (rcCells_one _) (1) ([.int .i64 xx, .int .i64 yy, .int .i64 ((W : Int) - (xx : Int)), .int .i64 ((H : Int) - (yy : Int))]) (Src.made Tryz.underlying43 (by first | rfl | simp) rfl (fun u hu => rcCells_one [Til.rectAt W H i k] u (by rw [rcCells_single, HNW.out]; exact hu))) (n + 1) (by omega) (rcCells (Til.rectsTo W H k (i + 1))) (rc_snoc W H k i _ HNW.out) (by unfold maxLen; omega) (by omega) (by first | omega | (simp; done) | (simp; omega)) ?_; intro A' c' w4 hown4 hg4 hat4)
            go_roundw
            case rel => exact ⟨i + 1, by omega, congrArg (Value.int .i64) (by have := HXX.out; omega), (by rw [← HLN.out]; exact hown4), Below.grown ((HB.out.alloc hbz _).alloc (by simp; omega) _) hg4 (by simp; omega) HBLK.out⟩
            case measure => simp [intOf]; omega
        · have e : i = Til.cols W := by omega
          subst e
          have F := F.full
          have hxW : W ≤ xx := by have := fun h => (Til.cols_lt (W := W) (i := Til.cols W)).2 h; omega
          have hxW' : (W : Int) ≤ (xx : Int) := by omega
          clear hxx
          go_wp2_with fail
          go_roundw
          case rel => exact ⟨k + 1, by omega, congrArg (Value.int .i64) (by have := HYY.out; omega), F⟩
          case measure => simp [intOf]; omega
    · have e : k = Til.cols H := by omega
      subst e
      have F1 := F0.own
      rw [Til.rectsTo_end] at F1
      have hyH : H ≤ yy := by have := fun h => (Til.cols_lt (W := H) (i := Til.cols H)).2 h; omega
      have hyH' : (H : Int) ≤ (yy : Int) := by omega
      obtain ⟨Av, cv, hv, _, _⟩ := F1.form
      subst hv
      clear hyy
      go_wp2_with fail
      go_ret
      exact ⟨Av, cv, rfl, F1, F0.bel⟩

set_option maxRecDepth 100000 in
set_option maxHeartbeats 8000000 in
theorem rects_any (W H : Nat) (w : World) (hW : W ≤ 256) (hH : H ≤ 256) :
    Calls Tryz.prog 22 #[.int .i64 W, .int .i64 H] w
      fun e w' => ∃ A c, e = .returned (.slice A (Til.rects W H).length c) ∧ Own w' w.heap.size 4 (.slice A (Til.rects W H).length c) (Til.rects W H).length (rcCells (Til.rects W H)) ∧ Below w.heap.size w w' := by
  obtain ⟨i0, hi, hz0, hz1, hz2⟩ := info_parts rcInfo
  go_enter Tryz.func22, Tryz.ntmps22
  go_wp2_with fail
  go_loopw [5, 6] (fun v y wr => ∃ k, k ≤ Til.cols H ∧ y = .int .i64 ((16 * k : Nat) : Int) ∧ RcR w W H k 0 v wr) (fun _ y _ => 300 - (intOf y).toNat)
  case atStart => exact ⟨0, Nat.zero_le _, rfl, Own.nil _ _ _, Below.refl _ _⟩
  case round =>
    obtain ⟨k, hk, rfl, F0⟩ := hrel
    obtain ⟨wo, rfl⟩ : ∃ wo : World, wo = wr := ⟨_, rfl⟩
    obtain ⟨yy, hyy⟩ : ∃ yy, 16 * k = yy := ⟨_, rfl⟩
    have HYY := Lib.hid hyy
    rw [hyy]
    by_cases hlt : k < Til.cols H
    · have hyH : yy < H := by have := Til.cols_lt.1 hlt; omega
      have hyH' : (yy : Int) < (H : Int) := by omega
      clear hyy
      go_wp2_with fail
      go_loopw [5, 7] (fun v x wr => ∃ i, i ≤ Til.cols W ∧ x = .int .i64 ((16 * i : Nat) : Int) ∧ RcR w W H k i v wr) (fun _ x _ => 300 - (intOf x).toNat)
      case atStart => exact ⟨0, Nat.zero_le _, rfl, F0⟩
      case round =>
        clear F0
        obtain ⟨i, hil, rfl, F⟩ := hrel
        obtain ⟨wi, rfl⟩ : ∃ wi : World, wi = wr := ⟨_, rfl⟩
        obtain ⟨xx, hxx⟩ : ∃ xx, 16 * i = xx := ⟨_, rfl⟩
        have HXX := Lib.hid hxx
        rw [hxx]
        by_cases hlt2 : i < Til.cols W
        · have hxW : xx < W := by have := Til.cols_lt.1 hlt2; omega
          have hxW' : (xx : Int) < (W : Int) := by omega
          have hsm := rc_small W H k i hW hH hk hil
          have hln := rc_len W H k i
          obtain ⟨Av, cv, hv, _, _⟩ := F.own.form
          subst hv
          obtain ⟨n, hn⟩ : ∃ n, (Til.rectsTo W H k i).length = n := ⟨_, rfl⟩
          have F1 := F.own
          rw [hn] at F1 hsm hln
          have hblk : ∀ g, (Value.slice Av n cv).ownBlock = some g → w.heap.size ≤ g := fun g e => (F1.lt g e).1
          have HBLK := Lib.hid hblk
          have hbz := F.bel.size
          have HB := Lib.hid F.bel
          have HF1 := Lib.hid F1
          have HLN := Lib.hid hln
          clear hxx hblk F F1 hln
          rw [hn]
          clear hn
          rcases (show xx + 16 ≤ W ∨ W < xx + 16 by omega) with cx | cx
          all_goals rcases (show yy + 16 ≤ H ∨ H < yy + 16 by omega) with cy | cy
          · have cx' : (xx : Int) + 16 ≤ (W : Int) := by omega
            have cy' : (yy : Int) + 16 ≤ (H : Int) := by omega
            have cx2 : ¬ ((W : Int) - (xx : Int) < 16) := by omega
            have cy2 : ¬ ((H : Int) - (yy : Int) < 16) := by omega
            have HNW := Lib.hid (show rcCs (Til.rectAt W H i k) = [.int .i64 xx, .int .i64 yy, .int .i64 16, .int .i64 16] by
              have e1 : ((min 16 (W - xx) : Nat) : Int) = 16 := by omega
              have e2 : ((min 16 (H - yy) : Nat) : Int) = 16 := by omega
              simp only [rcCs, Til.rectAt, HXX.out, HYY.out]
              rw [e1, e2])
            go_wp2_with (at_builtin; refine wpList_append_S rfl (.tmp 18) (.tmp 30) 43 43 rfl (w.heap.size) 35 i0 _ 4 32 Tryz.underlying43 hi hz0 hz1 hz2 rfl (by decide) (.slice Av n cv) (n) (rcCells (Til.rectsTo W H k i)) rfl ((HF1.out.alloc _)) (rcCells_one _) (1) ([.int .i64 xx, .int .i64 yy, .int .i64 16, .int .i64 16]) (Src.made Tryz.underlying43 (by first | rfl | simp) rfl (fun u hu => rcCells_one [Til.rectAt W H i k] u (by rw [rcCells_single, HNW.out]; exact hu))) (n + 1) (by omega) (rcCells (Til.rectsTo W H k (i + 1))) (rc_snoc W H k i _ HNW.out) (by unfold maxLen; omega) (by omega) (by first | omega | (simp; done) | (simp; omega)) ?_; intro A' c' w4 hown4 hg4 hat4)
            go_roundw
            case rel => exact ⟨i + 1, by omega, congrArg (Value.int .i64) (by have := HXX.out; omega), (by rw [← HLN.out]; exact hown4), Below.grown (HB.out.alloc hbz _) hg4 (by simp; omega) HBLK.out⟩
            case measure => simp [intOf]; omega
          · have cx' : (xx : Int) + 16 ≤ (W : Int) := by omega
            have cy' : (H : Int) < (yy : Int) + 16 := by omega
            have cx2 : ¬ ((W : Int) - (xx : Int) < 16) := by omega
            have cy2 : (H : Int) - (yy : Int) < 16 := by omega
            have HNW := Lib.hid (show rcCs (Til.rectAt W H i k) = [.int .i64 xx, .int .i64 yy, .int .i64 16, .int .i64 ((H : Int) - (yy : Int))] by
              have e1 : ((min 16 (W - xx) : Nat) : Int) = 16 := by omega
              have e2 : ((min 16 (H - yy) : Nat) : Int) = ((H : Int) - (yy : Int)) := by omega
              simp only [rcCs, Til.rectAt, HXX.out, HYY.out]
              rw [e1, e2])
            go_wp2_with (at_builtin; refine wpList_append_S rfl (.tmp 18) (.tmp 30) 43 43 rfl (w.heap.size) 35 i0 _ 4 32 Tryz.underlying43 hi hz0 hz1 hz2 rfl (by decide) (.slice Av n cv) (n) (rcCells (Til.rectsTo W H k i)) rfl ((HF1.out.alloc _)) (rcCells_one _) (1) ([.int .i64 xx, .int .i64 yy, .int .i64 16, .int .i64 ((H : Int) - (yy : Int))]) (Src.made Tryz.underlying43 (by first | rfl | simp) rfl (fun u hu => rcCells_one [Til.rectAt W H i k] u (by rw [rcCells_single, HNW.out]; exact hu))) (n + 1) (by omega) (rcCells (Til.rectsTo W H k (i + 1))) (rc_snoc W H k i _ HNW.out) (by unfold maxLen; omega) (by omega) (by first | omega | (simp; done) | (simp; omega)) ?_; intro A' c' w4 hown4 hg4 hat4)
            go_roundw
            case rel => exact ⟨i + 1, by omega, congrArg (Value.int .i64) (by have := HXX.out; omega), (by rw [← HLN.out]; exact hown4), Below.grown (HB.out.alloc hbz _) hg4 (by simp; omega) HBLK.out⟩
            case measure => simp [intOf]; omega
          · have cx' : (W : Int) < (xx : Int) + 16 := by omega
            have cy' : (yy : Int) + 16 ≤ (H : Int) := by omega
            have cx2 : (W : Int) - (xx : Int) < 16 := by omega
            have cy2 : ¬ ((H : Int) - (yy : Int) < 16) := by omega
            have HNW := Lib.hid (show rcCs (Til.rectAt W H i k) = [.int .i64 xx, .int .i64 yy, .int .i64 ((W : Int) - (xx : Int)), .int .i64 16] by
              have e1 : ((min 16 (W - xx) : Nat) : Int) = ((W : Int) - (xx : Int)) := by omega
              have e2 : ((min 16 (H - yy) : Nat) : Int) = 16 := by omega
              simp only [rcCs, Til.rectAt, HXX.out, HYY.out]
              rw [e1, e2])
            go_wp2_with (at_builtin; refine wpList_append_S rfl (.tmp 18) (.tmp 30) 43 43 rfl (w.heap.size) 35 i0 _ 4 32 Tryz.underlying43 hi hz0 hz1 hz2 rfl (by decide) (.slice Av n cv) (n) (rcCells (Til.rectsTo W H k i)) rfl ((HF1.out.alloc _)) (rcCells_one _) (1) ([.int .i64 xx, .int .i64 yy, .int .i64 ((W : Int) - (xx : Int)), .int .i64 16]) (Src.made Tryz.underlying43 (by first | rfl | simp) rfl (fun u hu => rcCells_one [Til.rectAt W H i k] u (by rw [rcCells_single, HNW.out]; exact hu))) (n + 1) (by omega) (rcCells (Til.rectsTo W H k (i + 1))) (rc_snoc W H k i _ HNW.out) (by unfold maxLen; omega) (by omega) (by first | omega | (simp; done) | (simp; omega)) ?_; intro A' c' w4 hown4 hg4 hat4)
            go_roundw
            case rel => exact ⟨i + 1, by omega, congrArg (Value.int .i64) (by have := HXX.out; omega), (by rw [← HLN.out]; exact hown4), Below.grown (HB.out.alloc hbz _) hg4 (by simp; omega) HBLK.out⟩
            case measure => simp [intOf]; omega
          · have cx' : (W : Int) < (xx : Int) + 16 := by omega
            have cy' : (H : Int) < (yy : Int) + 16 := by omega
            have cx2 : (W : Int) - (xx : Int) < 16 := by omega
            have cy2 : (H : Int) - (yy : Int) < 16 := by omega
            have HNW := Lib.hid (show rcCs (Til.rectAt W H i k) = [.int .i64 xx, .int .i64 yy, .int .i64 ((W : Int) - (xx : Int)), .int .i64 ((H : Int) - (yy : Int))] by
              have e1 : ((min 16 (W - xx) : Nat) : Int) = ((W : Int) - (xx : Int)) := by omega
              have e2 : ((min 16 (H - yy) : Nat) : Int) = ((H : Int) - (yy : Int)) := by omega
              simp only [rcCs, Til.rectAt, HXX.out, HYY.out]
              rw [e1, e2])
            go_wp2_with (at_builtin; refine wpList_append_S rfl (.tmp 18) (.tmp 30) 43 43 rfl (w.heap.size) 35 i0 _ 4 32 Tryz.underlying43 hi hz0 hz1 hz2 rfl (by decide) (.slice Av n cv) (n) (rcCells (Til.rectsTo W H k i)) rfl ((HF1.out.alloc _)) (rcCells_one _) (1) ([.int .i64 xx, .int .i64 yy, .int .i64 ((W : Int) - (xx : Int)), .int .i64 ((H : Int) - (yy : Int))]) (Src.made Tryz.underlying43 (by first | rfl | simp) rfl (fun u hu => rcCells_one [Til.rectAt W H i k] u (by rw [rcCells_single, HNW.out]; exact hu))) (n + 1) (by omega) (rcCells (Til.rectsTo W H k (i + 1))) (rc_snoc W H k i _ HNW.out) (by unfold maxLen; omega) (by omega) (by first | omega | (simp; done) | (simp; omega)) ?_; intro A' c' w4 hown4 hg4 hat4)
            go_roundw
            case rel => exact ⟨i + 1, by omega, congrArg (Value.int .i64) (by have := HXX.out; omega), (by rw [← HLN.out]; exact hown4), Below.grown (HB.out.alloc hbz _) hg4 (by simp; omega) HBLK.out⟩
            case measure => simp [intOf]; omega
        · have e : i = Til.cols W := by omega
          subst e
          have F := F.full
          have hxW : W ≤ xx := by have := fun h => (Til.cols_lt (W := W) (i := Til.cols W)).2 h; omega
          have hxW' : (W : Int) ≤ (xx : Int) := by omega
          clear hxx
          go_wp2_with fail
          go_roundw
          case rel => exact ⟨k + 1, by omega, congrArg (Value.int .i64) (by have := HYY.out; omega), F⟩
          case measure => simp [intOf]; omega
    · have e : k = Til.cols H := by omega
      subst e
      have F1 := F0.own
      rw [Til.rectsTo_end] at F1
      have hyH : H ≤ yy := by have := fun h => (Til.cols_lt (W := H) (i := Til.cols H)).2 h; omega
      have hyH' : (H : Int) ≤ (yy : Int) := by omega
      obtain ⟨Av, cv, hv, _, _⟩ := F1.form
      subst hv
      clear hyy
      go_wp2_with fail
      go_ret
      exact ⟨Av, cv, rfl, F1, F0.bel⟩
end Go.Proofs.YtmimdckcbmmplaaGreatDoor
