/- The tiles of a size: the reference's TilesOf, tiles.rects: the walks. Printed by mkrects.py. tiles.newTile (its closure, slices.ContainsFunc), cut: the walks. tiles.Of: the walk. -/
import Derived.Test.YthohmpjoeffckaaGreatDoorTileMem
import Derived.Test.YthohmpjoeffckaaGreatDoorBase
import Derived.LoopTactic
import Derived.Test.YthohmpjoeffckaaGreatDoorCrop
import Derived.Test.YthohmpjoeffckaaGreatDoorPxKey
import Derived.Test.YthohmpjoeffckaaGreatDoorEr4
namespace Go.Proofs.YthohmpjoeffckaaGreatDoor
open Go Go.RowKit

theorem rcInfo : (Tryz.prog.info? 52).map (fun i => (i.zero, i.size, i.bytes)) = some (some (.agg #[.int .i64 0, .int .i64 0, .int .i64 0, .int .i64 0]), 4, 32) := by kernel_rfl
/-- What stands through the loops over tiles. -/
structure RcR (w : World) (W H k i : Nat) (v : Value) (wr : World) : Prop where
  own : Own wr w.heap.size 4 v (Til.rectsTo W H k i).length (rcCells (Til.rectsTo W H k i))
  bel : Below w.heap.size w wr
theorem RcR.full {w wr : World} {W H k : Nat} {v : Value} (h : RcR w W H k (Til.cols W) v wr) : RcR w W H (k + 1) 0 v wr := ⟨by rw [← Til.rectsTo_full]; exact h.own, h.bel⟩
theorem rc_snoc (W H k i : Nat) (news : List Value) (h : rcCs (Til.rectAt W H i k) = news) : rcCells (Til.rectsTo W H k i) ++ news = rcCells (Til.rectsTo W H k (i + 1)) := by
  rw [Til.rectsTo_succ, rcCells_append, rcCells_single, h]
theorem rc_len (W H k i : Nat) : (Til.rectsTo W H k i).length + 1 = (Til.rectsTo W H k (i + 1)).length := by rw [Til.rectsTo_succ]; simp
theorem rc_small (W H k i : Nat) (hW : W ≤ 256) (hH : H ≤ 256) (hk : k ≤ Til.cols H) (hi : i ≤ Til.cols W) : (Til.rectsTo W H k i).length ≤ 1000 := by
  rw [Til.rectsTo_length]
  have h1 : Til.cols W ≤ 16 := by unfold Til.cols; omega
  have h2 : Til.cols H ≤ 16 := by unfold Til.cols; omega
  have := Nat.mul_le_mul (show k ≤ 16 by omega) h1
  omega

set_option maxRecDepth 100000 in
set_option maxHeartbeats 8000000 in
theorem refRects_any (W H : Nat) (w : World) (hW : W ≤ 256) (hH : H ≤ 256) :
    Calls Tryz.prog 13 #[.int .i64 W, .int .i64 H] w
      fun e w' => ∃ A c, e = .returned (.slice A (Til.rects W H).length c) ∧ Own w' w.heap.size 4 (.slice A (Til.rects W H).length c) (Til.rects W H).length (rcCells (Til.rects W H)) ∧ Below w.heap.size w w' := by
  obtain ⟨i0, hi, hz0, hz1, hz2⟩ := info_parts rcInfo
  go_enter Tryz.func13, Tryz.ntmps13
  go_wp2_with fail
  go_loopw [5, 6] (fun v y wr => ∃ k, k ≤ Til.cols H ∧ y = .int .i64 ((16 * k : Nat) : Int) ∧ RcR w W H k 0 v wr) (fun _ y _ => 300 - (intOf y).toNat)
  case atStart => exact ⟨0, Nat.zero_le _, rfl, Own.nil _ _ _, Below.refl _ _⟩
  case round =>
    obtain ⟨k, hk, rfl, F0⟩ := hrel
    obtain ⟨wo, rfl⟩ : ∃ wo : World, wo = wr := ⟨_, rfl⟩
    obtain ⟨yy, hyy⟩ : ∃ yy, 16 * k = yy := ⟨_, rfl⟩
    have HYY := Lib.hid hyy
    rw [hyy]
    by_cases hlt : k < Til.cols H
    · have hyH : yy < H := by have := Til.cols_lt.1 hlt; omega
      have hyH' : (yy : Int) < (H : Int) := by omega
      clear hyy
      go_wp2_with fail
      go_loopw [5, 7] (fun v x wr => ∃ i, i ≤ Til.cols W ∧ x = .int .i64 ((16 * i : Nat) : Int) ∧ RcR w W H k i v wr) (fun _ x _ => 300 - (intOf x).toNat)
      case atStart => exact ⟨0, Nat.zero_le _, rfl, F0⟩
      case round =>
        clear F0
        obtain ⟨i, hil, rfl, F⟩ := hrel
        obtain ⟨wi, rfl⟩ : ∃ wi : World, wi = wr := ⟨_, rfl⟩
        obtain ⟨xx, hxx⟩ : ∃ xx, 16 * i = xx := ⟨_, rfl⟩
        have HXX := Lib.hid hxx
        rw [hxx]
        by_cases hlt2 : i < Til.cols W
        · have hxW : xx < W := by have := Til.cols_lt.1 hlt2; omega
          have hxW' : (xx : Int) < (W : Int) := by omega
          have hsm := rc_small W H k i hW hH hk hil
          have hln := rc_len W H k i
          obtain ⟨Av, cv, hv, _, _⟩ := F.own.form
          subst hv
          obtain ⟨n, hn⟩ : ∃ n, (Til.rectsTo W H k i).length = n := ⟨_, rfl⟩
          have F1 := F.own
          rw [hn] at F1 hsm hln
          have hblk : ∀ g, (Value.slice Av n cv).ownBlock = some g → w.heap.size ≤ g := fun g e => (F1.lt g e).1
          have HBLK := Lib.hid hblk
          have hbz := F.bel.size
          have HB := Lib.hid F.bel
          have HF1 := Lib.hid F1
          have HLN := Lib.hid hln
          clear hxx hblk F F1 hln
          rw [hn]
          clear hn
          rcases (show xx + 16 ≤ W ∨ W < xx + 16 by omega) with cx | cx
          all_goals rcases (show yy + 16 ≤ H ∨ H < yy + 16 by omega) with cy | cy
          · have cx' : (xx : Int) + 16 ≤ (W : Int) := by omega
            have cy' : (yy : Int) + 16 ≤ (H : Int) := by omega
            have cx2 : ¬ ((W : Int) - (xx : Int) < 16) := by omega
            have cy2 : ¬ ((H : Int) - (yy : Int) < 16) := by omega
            have HNW := Lib.hid (show rcCs (Til.rectAt W H i k) = [.int .i64 xx, .int .i64 yy, .int .i64 16, .int .i64 16] by
              have e1 : ((min 16 (W - xx) : Nat) : Int) = 16 := by omega
              have e2 : ((min 16 (H - yy) : Nat) : Int) = 16 := by omega
              simp only [rcCs, Til.rectAt, HXX.out, HYY.out]
              rw [e1, e2])
            go_wp2_with (at_builtin; refine wpList_append_S rfl (.tmp 38) (.tmp 40) 37 37 rfl (w.heap.size) 52 i0 _ 4 32 Tryz.underlying37 hi hz0 hz1 hz2 rfl (by decide) (.slice Av n cv) (n) (rcCells (Til.rectsTo W H k i)) rfl (((HF1.out.alloc _).alloc _)) (rcCells_one _) (1) ([.int .i64 xx, .int .i64 yy, .int .i64 16, .int .i64 16]) (Src.made Tryz.underlying37 (by first | rfl | simp) rfl (fun u hu => rcCells_one [Til.rectAt W H i k] u (by rw [rcCells_single, HNW.out]; exact hu))) (n + 1) (by omega) (rcCells (Til.rectsTo W H k (i + 1))) (rc_snoc W H k i _ HNW.out) (by unfold maxLen; omega) (by omega) (by first | omega | (simp; done) | (simp; omega)) ?_; intro A' c' w4 hown4 hg4 hat4)
            go_roundw
            case rel => exact ⟨i + 1, by omega, congrArg (Value.int .i64) (by have := HXX.out; omega), (by rw [← HLN.out]; exact hown4), Below.grown ((HB.out.alloc hbz _).alloc (by simp; omega) _) hg4 (by simp; omega) HBLK.out⟩
            case measure => simp [intOf]; omega
          · have cx' : (xx : Int) + 16 ≤ (W : Int) := by omega
            have cy' : (H : Int) < (yy : Int) + 16 := by omega
            have cx2 : ¬ ((W : Int) - (xx : Int) < 16) := by omega
            have cy2 : (H : Int) - (yy : Int) < 16 := by omega
            have HNW := Lib.hid (show rcCs (Til.rectAt W H i k) = [.int .i64 xx, .int .i64 yy, .int .i64 16, .int .i64 ((H : Int) - (yy : Int))] by
              have e1 : ((min 16 (W - xx) : Nat) : Int) = 16 := by omega
              have e2 : ((min 16 (H - yy) : Nat) : Int) = ((H : Int) - (yy : Int)) := by omega
              simp only [rcCs, Til.rectAt, HXX.out, HYY.out]
              rw [e1, e2])
            go_wp2_with (at_builtin; refine wpList_append_S rfl (.tmp 38) (.tmp 40) 37 37 rfl (w.heap.size) 52 i0 _ 4 32 Tryz.underlying37 hi hz0 hz1 hz2 rfl (by decide) (.slice Av n cv) (n) (rcCells (Til.rectsTo W H k i)) rfl (((HF1.out.alloc _).alloc _)) (rcCells_one _) (1) ([.int .i64 xx, .int .i64 yy, .int .i64 16, .int .i64 ((H : Int) - (yy : Int))]) (Src.made Tryz.underlying37 (by first | rfl | simp) rfl (fun u hu => rcCells_one [Til.rectAt W H i k] u (by rw [rcCells_single, HNW.out]; exact hu))) (n + 1) (by omega) (rcCells (Til.rectsTo W H k (i + 1))) (rc_snoc W H k i _ HNW.out) (by unfold maxLen; omega) (by omega) (by first | omega | (simp; done) | (simp; omega)) ?_; intro A' c' w4 hown4 hg4 hat4)
            go_roundw
            case rel => exact ⟨i + 1, by omega, congrArg (Value.int .i64) (by have := HXX.out; omega), (by rw [← HLN.out]; exact hown4), Below.grown ((HB.out.alloc hbz _).alloc (by simp; omega) _) hg4 (by simp; omega) HBLK.out⟩
            case measure => simp [intOf]; omega
          · have cx' : (W : Int) < (xx : Int) + 16 := by omega
            have cy' : (yy : Int) + 16 ≤ (H : Int) := by omega
            have cx2 : (W : Int) - (xx : Int) < 16 := by omega
            have cy2 : ¬ ((H : Int) - (yy : Int) < 16) := by omega
            have HNW := Lib.hid (show rcCs (Til.rectAt W H i k) = [.int .i64 xx, .int .i64 yy, .int .i64 ((W : Int) - (xx : Int)), .int .i64 16] by
              have e1 : ((min 16 (W - xx) : Nat) : Int) = ((W : Int) - (xx : Int)) := by omega
              have e2 : ((min 16 (H - yy) : Nat) : Int) = 16 := by omega
              simp only [rcCs, Til.rectAt, HXX.out, HYY.out]
              rw [e1, e2])
            go_wp2_with (at_builtin; refine wpList_append_S rfl (.tmp 38) (.tmp 40) 37 37 rfl (w.heap.size) 52 i0 _ 4 32 Tryz.underlying37 hi hz0 hz1 hz2 rfl (by decide) (.slice Av n cv) (n) (rcCells (Til.rectsTo W H k i)) rfl (((HF1.out.alloc _).alloc _)) (rcCells_one _) (1) ([.int .i64 xx, .int .i64 yy, .int .i64 ((W : Int) - (xx : Int)), .int .i64 16]) (Src.made Tryz.underlying37 (by first | rfl | simp) rfl (fun u hu => rcCells_one [Til.rectAt W H i k] u (by rw [rcCells_single, HNW.out]; exact hu))) (n + 1) (by omega) (rcCells (Til.rectsTo W H k (i + 1))) (rc_snoc W H k i _ HNW.out) (by unfold maxLen; omega) (by omega) (by first | omega | (simp; done) | (simp; omega)) ?_; intro A' c' w4 hown4 hg4 hat4)
            go_roundw
            case rel => exact ⟨i + 1, by omega, congrArg (Value.int .i64) (by have := HXX.out; omega), (by rw [← HLN.out]; exact hown4), Below.grown ((HB.out.alloc hbz _).alloc (by simp; omega) _) hg4 (by simp; omega) HBLK.out⟩
            case measure => simp [intOf]; omega
          · have cx' : (W : Int) < (xx : Int) + 16 := by omega
            have cy' : (H : Int) < (yy : Int) + 16 := by omega
            have cx2 : (W : Int) - (xx : Int) < 16 := by omega
            have cy2 : (H : Int) - (yy : Int) < 16 := by omega
            have HNW := Lib.hid (show rcCs (Til.rectAt W H i k) = [.int .i64 xx, .int .i64 yy, .int .i64 ((W : Int) - (xx : Int)), .int .i64 ((H : Int) - (yy : Int))] by
              have e1 : ((min 16 (W - xx) : Nat) : Int) = ((W : Int) - (xx : Int)) := by omega
              have e2 : ((min 16 (H - yy) : Nat) : Int) = ((H : Int) - (yy : Int)) := by omega
              simp only [rcCs, Til.rectAt, HXX.out, HYY.out]
              rw [e1, e2])
            go_wp2_with (at_builtin; refine wpList_append_S rfl (.tmp 38) (.tmp 40) 37 37 rfl (w.heap.size) 52 i0 _ 4 32 Tryz.underlying37 hi hz0 hz1 hz2 rfl (by decide) (.slice Av n cv) (n) (rcCells (Til.rectsTo W H k i)) rfl (((HF1.out.alloc _).alloc _)) (rcCells_one _) (1) ([.int .i64 xx, .int .i64 yy, .int .i64 ((W : Int) - (xx : Int)), .int .i64 ((H : Int) - (yy : Int))]) (Src.made Tryz.underlying37 (by first | rfl | simp) rfl (fun u hu => rcCells_one [Til.rectAt W H i k] u (by rw [rcCells_single, HNW.out]; exact hu))) (n + 1) (by omega) (rcCells (Til.rectsTo W H k (i + 1))) (rc_snoc W H k i _ HNW.out) (by unfold maxLen; omega) (by omega) (by first | omega | (simp; done) | (simp; omega)) ?_; intro A' c' w4 hown4 hg4 hat4)
            go_roundw
            case rel => exact ⟨i + 1, by omega, congrArg (Value.int .i64) (by have := HXX.out; omega), (by rw [← HLN.out]; exact hown4), Below.grown ((HB.out.alloc hbz _).alloc (by simp; omega) _) hg4 (by simp; omega) HBLK.out⟩
            case measure => simp [intOf]; omega
        · have e : i = Til.cols W := by omega
          subst e
          have F := F.full
          have hxW : W ≤ xx := by have := fun h => (Til.cols_lt (W := W) (i := Til.cols W)).2 h; omega
          have hxW' : (W : Int) ≤ (xx : Int) := by omega
          clear hxx
          go_wp2_with fail
          go_roundw
          case rel => exact ⟨k + 1, by omega, congrArg (Value.int .i64) (by have := HYY.out; omega), F⟩
          case measure => simp [intOf]; omega
    · have e : k = Til.cols H := by omega
      subst e
      have F1 := F0.own
      rw [Til.rectsTo_end] at F1
      have hyH : H ≤ yy := by have := fun h => (Til.cols_lt (W := H) (i := Til.cols H)).2 h; omega
      have hyH' : (H : Int) ≤ (yy : Int) := by omega
      obtain ⟨Av, cv, hv, _, _⟩ := F1.form
      subst hv
      clear hyy
      go_wp2_with fail
      go_ret
      exact ⟨Av, cv, rfl, F1, F0.bel⟩

set_option maxRecDepth 100000 in
set_option maxHeartbeats 8000000 in
theorem rects_any (W H : Nat) (w : World) (hW : W ≤ 256) (hH : H ≤ 256) :
    Calls Tryz.prog 18 #[.int .i64 W, .int .i64 H] w
      fun e w' => ∃ A c, e = .returned (.slice A (Til.rects W H).length c) ∧ Own w' w.heap.size 4 (.slice A (Til.rects W H).length c) (Til.rects W H).length (rcCells (Til.rects W H)) ∧ Below w.heap.size w w' := by
  obtain ⟨i0, hi, hz0, hz1, hz2⟩ := info_parts rcInfo
  go_enter Tryz.func18, Tryz.ntmps18
  go_wp2_with fail
  go_loopw [5, 6] (fun v y wr => ∃ k, k ≤ Til.cols H ∧ y = .int .i64 ((16 * k : Nat) : Int) ∧ RcR w W H k 0 v wr) (fun _ y _ => 300 - (intOf y).toNat)
  case atStart => exact ⟨0, Nat.zero_le _, rfl, Own.nil _ _ _, Below.refl _ _⟩
  case round =>
    obtain ⟨k, hk, rfl, F0⟩ := hrel
    obtain ⟨wo, rfl⟩ : ∃ wo : World, wo = wr := ⟨_, rfl⟩
    obtain ⟨yy, hyy⟩ : ∃ yy, 16 * k = yy := ⟨_, rfl⟩
    have HYY := Lib.hid hyy
    rw [hyy]
    by_cases hlt : k < Til.cols H
    · have hyH : yy < H := by have := Til.cols_lt.1 hlt; omega
      have hyH' : (yy : Int) < (H : Int) := by omega
      clear hyy
      go_wp2_with fail
      go_loopw [5, 7] (fun v x wr => ∃ i, i ≤ Til.cols W ∧ x = .int .i64 ((16 * i : Nat) : Int) ∧ RcR w W H k i v wr) (fun _ x _ => 300 - (intOf x).toNat)
      case atStart => exact ⟨0, Nat.zero_le _, rfl, F0⟩
      case round =>
        clear F0
        obtain ⟨i, hil, rfl, F⟩ := hrel
        obtain ⟨wi, rfl⟩ : ∃ wi : World, wi = wr := ⟨_, rfl⟩
        obtain ⟨xx, hxx⟩ : ∃ xx, 16 * i = xx := ⟨_, rfl⟩
        have HXX := Lib.hid hxx
        rw [hxx]
        by_cases hlt2 : i < Til.cols W
        · have hxW : xx < W := by have := Til.cols_lt.1 hlt2; omega
          have hxW' : (xx : Int) < (W : Int) := by omega
          have hsm := rc_small W H k i hW hH hk hil
          have hln := rc_len W H k i
          obtain ⟨Av, cv, hv, _, _⟩ := F.own.form
          subst hv
          obtain ⟨n, hn⟩ : ∃ n, (Til.rectsTo W H k i).length = n := ⟨_, rfl⟩
          have F1 := F.own
          rw [hn] at F1 hsm hln
          have hblk : ∀ g, (Value.slice Av n cv).ownBlock = some g → w.heap.size ≤ g := fun g e => (F1.lt g e).1
          have HBLK := Lib.hid hblk
          have hbz := F.bel.size
          have HB := Lib.hid F.bel
          have HF1 := Lib.hid F1
          have HLN := Lib.hid hln
          clear hxx hblk F F1 hln
          rw [hn]
          clear hn
          rcases (show xx + 16 ≤ W ∨ W < xx + 16 by omega) with cx | cx
          all_goals rcases (show yy + 16 ≤ H ∨ H < yy + 16 by omega) with cy | cy
          · have cx' : (xx : Int) + 16 ≤ (W : Int) := by omega
            have cy' : (yy : Int) + 16 ≤ (H : Int) := by omega
            have cx2 : ¬ ((W : Int) - (xx : Int) < 16) := by omega
            have cy2 : ¬ ((H : Int) - (yy : Int) < 16) := by omega
            have HNW := Lib.hid (show rcCs (Til.rectAt W H i k) = [.int .i64 xx, .int .i64 yy, .int .i64 16, .int .i64 16] by
              have e1 : ((min 16 (W - xx) : Nat) : Int) = 16 := by omega
              have e2 : ((min 16 (H - yy) : Nat) : Int) = 16 := by omega
              simp only [rcCs, Til.rectAt, HXX.out, HYY.out]
              rw [e1, e2])
            go_wp2_with (at_builtin; refine wpList_append_S rfl (.tmp 18) (.tmp 30) 37 37 rfl (w.heap.size) 52 i0 _ 4 32 Tryz.underlying37 hi hz0 hz1 hz2 rfl (by decide) (.slice Av n cv) (n) (rcCells (Til.rectsTo W H k i)) rfl ((HF1.out.alloc _)) (rcCells_one _) (1) ([.int .i64 xx, .int .i64 yy, .int .i64 16, .int .i64 16]) (Src.made Tryz.underlying37 (by first | rfl | simp) rfl (fun u hu => rcCells_one [Til.rectAt W H i k] u (by rw [rcCells_single, HNW.out]; exact hu))) (n + 1) (by omega) (rcCells (Til.rectsTo W H k (i + 1))) (rc_snoc W H k i _ HNW.out) (by unfold maxLen; omega) (by omega) (by first | omega | (simp; done) | (simp; omega)) ?_; intro A' c' w4 hown4 hg4 hat4)
            go_roundw
            case rel => exact ⟨i + 1, by omega, congrArg (Value.int .i64) (by have := HXX.out; omega), (by rw [← HLN.out]; exact hown4), Below.grown (HB.out.alloc hbz _) hg4 (by simp; omega) HBLK.out⟩
            case measure => simp [intOf]; omega
          · have cx' : (xx : Int) + 16 ≤ (W : Int) := by omega
            have cy' : (H : Int) < (yy : Int) + 16 := by omega
            have cx2 : ¬ ((W : Int) - (xx : Int) < 16) := by omega
            have cy2 : (H : Int) - (yy : Int) < 16 := by omega
            have HNW := Lib.hid (show rcCs (Til.rectAt W H i k) = [.int .i64 xx, .int .i64 yy, .int .i64 16, .int .i64 ((H : Int) - (yy : Int))] by
              have e1 : ((min 16 (W - xx) : Nat) : Int) = 16 := by omega
              have e2 : ((min 16 (H - yy) : Nat) : Int) = ((H : Int) - (yy : Int)) := by omega
              simp only [rcCs, Til.rectAt, HXX.out, HYY.out]
              rw [e1, e2])
            go_wp2_with (at_builtin; refine wpList_append_S rfl (.tmp 18) (.tmp 30) 37 37 rfl (w.heap.size) 52 i0 _ 4 32 Tryz.underlying37 hi hz0 hz1 hz2 rfl (by decide) (.slice Av n cv) (n) (rcCells (Til.rectsTo W H k i)) rfl ((HF1.out.alloc _)) (rcCells_one _) (1) ([.int .i64 xx, .int .i64 yy, .int .i64 16, .int .i64 ((H : Int) - (yy : Int))]) (Src.made Tryz.underlying37 (by first | rfl | simp) rfl (fun u hu => rcCells_one [Til.rectAt W H i k] u (by rw [rcCells_single, HNW.out]; exact hu))) (n + 1) (by omega) (rcCells (Til.rectsTo W H k (i + 1))) (rc_snoc W H k i _ HNW.out) (by unfold maxLen; omega) (by omega) (by first | omega | (simp; done) | (simp; omega)) ?_; intro A' c' w4 hown4 hg4 hat4)
            go_roundw
            case rel => exact ⟨i + 1, by omega, congrArg (Value.int .i64) (by have := HXX.out; omega), (by rw [← HLN.out]; exact hown4), Below.grown (HB.out.alloc hbz _) hg4 (by simp; omega) HBLK.out⟩
            case measure => simp [intOf]; omega
          · have cx' : (W : Int) < (xx : Int) + 16 := by omega
            have cy' : (yy : Int) + 16 ≤ (H : Int) := by omega
            have cx2 : (W : Int) - (xx : Int) < 16 := by omega
            have cy2 : ¬ ((H : Int) - (yy : Int) < 16) := by omega
            have HNW := Lib.hid (show rcCs (Til.rectAt W H i k) = [.int .i64 xx, .int .i64 yy, .int .i64 ((W : Int) - (xx : Int)), .int .i64 16] by
              have e1 : ((min 16 (W - xx) : Nat) : Int) = ((W : Int) - (xx : Int)) := by omega
              have e2 : ((min 16 (H - yy) : Nat) : Int) = 16 := by omega
              simp only [rcCs, Til.rectAt, HXX.out, HYY.out]
              rw [e1, e2])
            go_wp2_with (at_builtin; refine wpList_append_S rfl (.tmp 18) (.tmp 30) 37 37 rfl (w.heap.size) 52 i0 _ 4 32 Tryz.underlying37 hi hz0 hz1 hz2 rfl (by decide) (.slice Av n cv) (n) (rcCells (Til.rectsTo W H k i)) rfl ((HF1.out.alloc _)) (rcCells_one _) (1) ([.int .i64 xx, .int .i64 yy, .int .i64 ((W : Int) - (xx : Int)), .int .i64 16]) (Src.made Tryz.underlying37 (by first | rfl | simp) rfl (fun u hu => rcCells_one [Til.rectAt W H i k] u (by rw [rcCells_single, HNW.out]; exact hu))) (n + 1) (by omega) (rcCells (Til.rectsTo W H k (i + 1))) (rc_snoc W H k i _ HNW.out) (by unfold maxLen; omega) (by omega) (by first | omega | (simp; done) | (simp; omega)) ?_; intro A' c' w4 hown4 hg4 hat4)
            go_roundw
            case rel => exact ⟨i + 1, by omega, congrArg (Value.int .i64) (by have := HXX.out; omega), (by rw [← HLN.out]; exact hown4), Below.grown (HB.out.alloc hbz _) hg4 (by simp; omega) HBLK.out⟩
            case measure => simp [intOf]; omega
          · have cx' : (W : Int) < (xx : Int) + 16 := by omega
            have cy' : (H : Int) < (yy : Int) + 16 := by omega
            have cx2 : (W : Int) - (xx : Int) < 16 := by omega
            have cy2 : (H : Int) - (yy : Int) < 16 := by omega
            have HNW := Lib.hid (show rcCs (Til.rectAt W H i k) = [.int .i64 xx, .int .i64 yy, .int .i64 ((W : Int) - (xx : Int)), .int .i64 ((H : Int) - (yy : Int))] by
              have e1 : ((min 16 (W - xx) : Nat) : Int) = ((W : Int) - (xx : Int)) := by omega
              have e2 : ((min 16 (H - yy) : Nat) : Int) = ((H : Int) - (yy : Int)) := by omega
              simp only [rcCs, Til.rectAt, HXX.out, HYY.out]
              rw [e1, e2])
            go_wp2_with (at_builtin; refine wpList_append_S rfl (.tmp 18) (.tmp 30) 37 37 rfl (w.heap.size) 52 i0 _ 4 32 Tryz.underlying37 hi hz0 hz1 hz2 rfl (by decide) (.slice Av n cv) (n) (rcCells (Til.rectsTo W H k i)) rfl ((HF1.out.alloc _)) (rcCells_one _) (1) ([.int .i64 xx, .int .i64 yy, .int .i64 ((W : Int) - (xx : Int)), .int .i64 ((H : Int) - (yy : Int))]) (Src.made Tryz.underlying37 (by first | rfl | simp) rfl (fun u hu => rcCells_one [Til.rectAt W H i k] u (by rw [rcCells_single, HNW.out]; exact hu))) (n + 1) (by omega) (rcCells (Til.rectsTo W H k (i + 1))) (rc_snoc W H k i _ HNW.out) (by unfold maxLen; omega) (by omega) (by first | omega | (simp; done) | (simp; omega)) ?_; intro A' c' w4 hown4 hg4 hat4)
            go_roundw
            case rel => exact ⟨i + 1, by omega, congrArg (Value.int .i64) (by have := HXX.out; omega), (by rw [← HLN.out]; exact hown4), Below.grown (HB.out.alloc hbz _) hg4 (by simp; omega) HBLK.out⟩
            case measure => simp [intOf]; omega
        · have e : i = Til.cols W := by omega
          subst e
          have F := F.full
          have hxW : W ≤ xx := by have := fun h => (Til.cols_lt (W := W) (i := Til.cols W)).2 h; omega
          have hxW' : (W : Int) ≤ (xx : Int) := by omega
          clear hxx
          go_wp2_with fail
          go_roundw
          case rel => exact ⟨k + 1, by omega, congrArg (Value.int .i64) (by have := HYY.out; omega), F⟩
          case measure => simp [intOf]; omega
    · have e : k = Til.cols H := by omega
      subst e
      have F1 := F0.own
      rw [Til.rectsTo_end] at F1
      have hyH : H ≤ yy := by have := fun h => (Til.cols_lt (W := H) (i := Til.cols H)).2 h; omega
      have hyH' : (H : Int) ≤ (yy : Int) := by omega
      obtain ⟨Av, cv, hv, _, _⟩ := F1.form
      subst hv
      clear hyy
      go_wp2_with fail
      go_ret
      exact ⟨Av, cv, rfl, F1, F0.bel⟩
end Go.Proofs.YthohmpjoeffckaaGreatDoor
namespace Go.Proofs.YthohmpjoeffckaaGreatDoor
open Go Go.RowKit

theorem Own.capLe {w : World} {base size m c n : Nat} {A : Option Addr} {xs : List Value} (h : Own w base size (.slice A m c) n xs) : n ≤ c := by
  obtain ⟨_, _, e, h2, _⟩ := h.form
  injection e with _ _ e3
  omega
set_option maxRecDepth 100000 in
theorem tileBad_any (x q : Px) (pb b off n c : Nat) (w : World) (hb : Blk w pb 22 #[.slice (some ⟨b, off, none⟩) n c]) (hn : 0 < n) (q0 : w.cell? ⟨b, off, none⟩ = some (.int .u8 q.r.toNat)) (q1 : w.cell? ⟨b, off + 1, none⟩ = some (.int .u8 q.g.toNat)) (q2 : w.cell? ⟨b, off + 2, none⟩ = some (.int .u8 q.b.toNat)) (q3 : w.cell? ⟨b, off + 3, none⟩ = some (.int .u8 q.a.toNat)) :
    Calls Tryz.prog 50 #[.agg #[.int .u8 x.r.toNat, .int .u8 x.g.toNat, .int .u8 x.b.toNat, .int .u8 x.a.toNat], .pointer (some ⟨pb, 0, none⟩)] w fun e w' => e = .returned (.bool (!decide (x = q))) ∧ Below w.heap.size w w' := by
  have c0 : w.cell? ⟨pb, 0, none⟩ = some (.slice (some ⟨b, off, none⟩) n c) := (hb.cell 0).trans rfl
  have lb := cell_lt q0
  have lp := hb.lt
  have p0 := fun o => cell_past (w := w) o c0
  have r0 := fun o => cell_past (w := w) o q0
  have r1 := fun o => cell_past (w := w) o q1
  have r2 := fun o => cell_past (w := w) o q2
  have r3 := fun o => cell_past (w := w) o q3
  have hnq := fun w => run_neq_px w x q
  unfold pxV at hnq
  have n1 : (0 : Int) < (n : Int) := by omega
  clear c0 q0 q1 q2 q3
  go_enter Tryz.func50, Tryz.ntmps50
  go_wp2_with fail
  go_quiet (fail)
  go_wp2_with fail
  go_ret
  exact ⟨rfl, below_drewN (by go_grown) _⟩

/-- Where a pixel stands first that is not as the first one: nowhere, if all are alike. -/
def IdxSays (l : List Px) (e : Ending) : Prop := ∃ r : Int, e = .returned (.int .i64 r) ∧ ((Til.flatB l = true ∧ r = -1) ∨ (Til.flatB l = false ∧ 0 ≤ r))
theorem flatB_of {l : List Px} (h : ∀ j, (hj : j < l.length) → l[j] = l.getD 0 default) : Til.flatB l = true := by
  unfold Til.flatB
  rw [List.all_eq_true]
  intro p hp
  obtain ⟨j, hj, rfl⟩ := List.getElem_of_mem hp
  simpa using h j hj
theorem flatB_not {l : List Px} {k : Nat} (hk : k < l.length) (h : ¬ l[k] = l.getD 0 default) : Til.flatB l = false := by
  cases hf : Til.flatB l with
  | false => rfl
  | true =>
    have := Til.flatB_at hf k hk
    rw [List.getD_eq_getElem?_getD, List.getElem?_eq_getElem hk] at this
    exact absurd this h
set_option maxRecDepth 100000 in
set_option maxHeartbeats 1000000 in
theorem indexTile_any (b off n c pb : Nat) (l : List Px) (w : World) (hp : Reads w w.heap.size 4 (some ⟨b, off, none⟩) n (pxCells l)) (hb : Blk w pb 22 #[.slice (some ⟨b, off, none⟩) n c]) (hn : 0 < n) (hm : n ≤ 1048576) :
    Calls Tryz.prog 80 #[.slice (some ⟨b, off, none⟩) n c, .func (.func 50) #[] #[.pointer (some ⟨pb, 0, none⟩)]] w fun e w' => IdxSays l e ∧ Below w.heap.size w w' := by
  obtain rfl := hp.pxLen
  obtain ⟨q, hq⟩ : ∃ q, l.getD 0 default = q := ⟨_, rfl⟩
  have hq0 : l[0] = q := by rw [← hq, List.getD_eq_getElem?_getD, List.getElem?_eq_getElem hn]; rfl
  have HQ := Lib.hid hq
  have HQ0 := Lib.hid hq0
  clear hq hq0
  go_enter Tryz.func80, Tryz.ntmps80
  go_wp2_with fail
  go_loopw [8] (fun i wr => ∃ k : Nat, k ≤ l.length ∧ i = .int .i64 k ∧ Below w.heap.size w wr ∧ ∀ j, (hj : j < l.length) → j < k → l[j] = q) (fun i _ => l.length - (intOf i).toNat)
  case atStart => exact ⟨0, Nat.zero_le _, rfl, Below.refl _ _, fun j _ hj => by omega⟩
  case round =>
    obtain ⟨k, hk, rfl, hbl, hall⟩ := hrel
    obtain ⟨wo, rfl⟩ : ∃ wo : World, wo = wr := ⟨_, rfl⟩
    have HA := Lib.hid hall
    clear hall
    by_cases hlt : k < l.length
    · have hpo := (hp.below hbl (Nat.le_refl _)).more hbl.size
      obtain ⟨y0, y1, y2, y3⟩ := hpo.px k hlt
      obtain ⟨z0, z1, z2, z3⟩ := hpo.px 0 hn
      rw [HQ0.out, Nat.zero_mul, Nat.add_zero] at z0 z1 z2 z3
      have Z0 := Lib.hid z0
      have Z1 := Lib.hid z1
      have Z2 := Lib.hid z2
      have Z3 := Lib.hid z3
      have HB := Lib.hid (hb.below hbl hb.lt)
      obtain ⟨x, hx⟩ : ∃ x, l[k] = x := ⟨_, rfl⟩
      rw [hx] at y0 y1 y2 y3
      have HX := Lib.hid hx
      clear z0 z1 z2 z3 hpo hx
      by_cases e : x = q
      · have HE := Lib.hid e
        have hd : (!decide (x = q)) = false := by simp [e]
        clear e
        go_wp2_with fail
        refine (tileBad_any x q pb b off l.length c _ HB.out hn Z0.out Z1.out Z2.out Z3.out).mono ?_
        rw [hd]
        rintro e w3 ⟨rfl, hb3⟩
        go_wp2_with fail
        go_roundw
        case rel =>
          refine ⟨k + 1, by omega, by go_num, hbl.trans (hb3.mono hbl.size), fun j hj hjk => ?_⟩
          by_cases ej : j = k
          · subst ej; rw [HX.out]; exact HE.out
          · exact HA.out j hj (by omega)
        case measure => simp [intOf]; omega
      · have HF := Lib.hid (flatB_not hlt (by rw [HX.out, HQ.out]; exact e))
        have hd : (!decide (x = q)) = true := by simp [e]
        clear e
        go_wp2_with fail
        refine (tileBad_any x q pb b off l.length c _ HB.out hn Z0.out Z1.out Z2.out Z3.out).mono ?_
        rw [hd]
        rintro e w3 ⟨rfl, hb3⟩
        go_wp2_with fail
        go_ret
        exact ⟨⟨_, rfl, .inr ⟨HF.out, by omega⟩⟩, hbl.trans (hb3.mono hbl.size)⟩
    · have HF := Lib.hid (flatB_of (l := l) fun j hj => by rw [HQ.out]; exact HA.out j hj (by omega))
      go_wp2_with fail
      go_ret
      exact ⟨⟨_, rfl, .inl ⟨HF.out, rfl⟩⟩, hbl⟩

set_option maxRecDepth 100000 in
theorem containsTile_any (b off n c pb : Nat) (l : List Px) (w : World) (hp : Reads w w.heap.size 4 (some ⟨b, off, none⟩) n (pxCells l)) (hb : Blk w pb 22 #[.slice (some ⟨b, off, none⟩) n c]) (hn : 0 < n) (hm : n ≤ 1048576) :
    Calls Tryz.prog 49 #[.slice (some ⟨b, off, none⟩) n c, .func (.func 50) #[] #[.pointer (some ⟨pb, 0, none⟩)]] w fun e w' => e = .returned (.bool (!Til.flatB l)) ∧ Below w.heap.size w w' := by
  go_enter Tryz.func49, Tryz.ntmps49
  go_wp2_with fail
  refine (indexTile_any b off n c pb l _ hp hb hn hm).mono ?_
  rintro e w1 ⟨⟨r, rfl, hr⟩, hb1⟩
  rcases hr with ⟨hf, rfl⟩ | ⟨hf, h0⟩
  · have HF := Lib.hid hf
    go_wp2_with fail
    go_ret
    exact ⟨by rw [HF.out]; rfl, hb1⟩
  · have HF := Lib.hid hf
    go_wp2_with fail
    go_ret
    exact ⟨by rw [HF.out]; first | (simp; done) | (simp; omega), hb1⟩

set_option maxRecDepth 100000 in
set_option maxHeartbeats 2000000 in
theorem newTile_any (W H : Nat) (A : Option Addr) (n c : Nat) (l : List Px) (w : World) (hp : Reads w w.heap.size 4 A n (pxCells l)) (hn : 0 < n) (hm : n ≤ 1048576) (hc : n ≤ c) :
    Calls Tryz.prog 32 #[.int .i64 W, .int .i64 H, .slice A n c] w
      fun e w' => ∃ t : TM, e = .returned (.pointer (some ⟨t.b, 0, none⟩)) ∧ t.w = W ∧ t.A = A ∧ w.heap.size ≤ t.b ∧ t.l = Til.small l ∧ TileIn w' t ∧ Below w.heap.size w w' := by
  obtain ⟨b, off, rfl, hbl⟩ := hp.addr (by omega)
  have hp1 := fun o => (hp.alloc (Nat.le_refl _) o).more (show w.heap.size ≤ (w.alloc o).heap.size by simp)
  have HP1 := Lib.hid hp1
  have hln := hp.pxLen
  have HLN := Lib.hid hln
  have c1 : (1 : Int) ≤ (c : Int) := by omega
  clear hp1 hln
  cases hf : Til.flatB l with
  | false =>
    have HF := Lib.hid hf
    have HS := Lib.hid (show Til.small l = l by rw [Til.small, if_neg (by rw [hf]; exact Bool.false_ne_true)])
    clear hf
    go_enter Tryz.func32, Tryz.ntmps32
    go_wp2_with fail
    refine (containsTile_any b off n c w.heap.size l _ (HP1.out _) (Blk.new _ _ _ rfl) hn hm).mono ?_
    rw [HF.out]
    rintro e w1 ⟨rfl, hb1⟩
    have B1 := (Blk.new w 22 #[.slice (some ⟨b, off, none⟩) n c] rfl).below hb1 (by simp)
    have hbw : Below w.heap.size w w1 := Below.trans (by go_grown) (hb1.mono (by simp))
    have cB := B1.cell
    have lB := B1.lt
    clear hb1
    go_wp2_with fail
    go_ret
    refine ⟨⟨w1.heap.size, W, H, some ⟨b, off, none⟩, n, c, l⟩, rfl, rfl, rfl, hbw.size, HS.out.symm, ⟨Blk.new _ _ _ rfl, ?_⟩, hbw.alloc hbw.size _⟩
    exact ((hp.below hbw (Nat.le_refl _)).more hbw.size).alloc (Nat.le_refl _) _ |>.more (by simp)
  | true =>
    have HF := Lib.hid hf
    have HS := Lib.hid (show Til.small l = l.take 1 by rw [Til.small, if_pos hf])
    clear hf
    go_enter Tryz.func32, Tryz.ntmps32
    go_wp2_with fail
    refine (containsTile_any b off n c w.heap.size l _ (HP1.out _) (Blk.new _ _ _ rfl) hn hm).mono ?_
    rw [HF.out]
    rintro e w1 ⟨rfl, hb1⟩
    have B1 := (Blk.new w 22 #[.slice (some ⟨b, off, none⟩) n c] rfl).below hb1 (by simp)
    have hbw : Below w.heap.size w w1 := Below.trans (by go_grown) (hb1.mono (by simp))
    have cB := B1.cell
    have fB := B1.free
    have lB := B1.lt
    clear hb1
    go_wp2_with fail
    go_ret
    refine ⟨⟨w1.heap.size, W, H, some ⟨b, off, none⟩, 1, 1, l.take 1⟩, rfl, rfl, rfl, hbw.size, HS.out.symm, ⟨Blk.new _ _ _ (by simp [World.setCell]), ?_⟩, (hbw.setCell (Nat.le_refl _) _).alloc (by have := hbw.size; simp [World.setCell]; omega) _⟩
    have h1 := (hp.take (k := 1) (by omega)).below (hbw.setCell (p := ⟨w.heap.size, 0, none⟩) (Nat.le_refl _) (.slice (some ⟨b, off, none⟩) 1 1)) (Nat.le_refl _)
    have e : (pxCells l).take (1 * 4) = pxCells (l.take 1) := by
      match l, HLN.out with
      | a :: r, _ => rfl
      | [], h => simp at h; omega
    rw [e] at h1
    exact ((h1.more (by have := hbw.size; simp [World.setCell]; omega)).alloc (Nat.le_refl _) _).more (by simp)

set_option maxRecDepth 100000 in
set_option maxHeartbeats 1000000 in
theorem cut_any (W H : Nat) (A : Option Addr) (n c : Nat) (ps : List Px) (r : Til.R) (w : World) (hp : Reads w w.heap.size 4 A n (pxCells ps)) (hW : W ≤ 256) (hH : H ≤ 256) (hn : ps.length = H * W) (hr : Til.In W H r) :
    Calls Tryz.prog 19 #[.agg #[.int .i64 W, .int .i64 H, .slice A n c], .agg #[.int .i64 r.x, .int .i64 r.y, .int .i64 r.w, .int .i64 r.h]] w
      fun e w' => ∃ t : TM, e = .returned (.pointer (some ⟨t.b, 0, none⟩)) ∧ t.w = r.w ∧ Above w.heap.size t ∧ t.l = Til.small (Til.crop ps W r) ∧ TileIn w' t ∧ Below w.heap.size w w' := by
  have hm1 : 1 * 1 ≤ r.h * r.w ∧ r.h * r.w ≤ 16 * 16 := ⟨Nat.mul_le_mul hr.h1 hr.w1, Nat.mul_le_mul hr.h16 hr.w16⟩
  have HMM := Lib.hid hm1
  have hp1 := fun o o2 => ((hp.alloc (Nat.le_refl _) o).more (show w.heap.size ≤ (w.alloc o).heap.size by simp)).alloc (Nat.le_refl _) o2 |>.more (show (w.alloc o).heap.size ≤ ((w.alloc o).alloc o2).heap.size by simp)
  have HP1 := Lib.hid hp1
  have HRI := Lib.hid hr
  have HN := Lib.hid hn
  clear hp1 hp hr hm1 hn
  go_enter Tryz.func19, Tryz.ntmps19
  go_wp2_with fail
  refine (crop_any W H A n c ps r _ (HP1.out _ _) hW hH HN.out HRI.out).mono ?_
  rintro e w1 ⟨A', c', rfl, hO, hb1⟩
  have B2 := (Blk.new (w.alloc (.cells #[.int .i64 W, .int .i64 H, .slice A n c] 24)) 52 #[.int .i64 r.x, .int .i64 r.y, .int .i64 r.w, .int .i64 r.h] (g := w.heap.size + 1) (by simp)).below hb1 (by simp)
  have hbw : Below w.heap.size w w1 := Below.trans (by go_grown) (hb1.mono (by simp; omega))
  have c2 := B2.cell
  have l2 := B2.lt
  have RO := Lib.hid hO.reads.2
  have HCV := Lib.hid hO.capLe
  have HLO := Lib.hid (fun b off (e : A' = some ⟨b, off, none⟩) => (hO.lt b (by rw [e]; rfl)).1)
  clear hO hb1
  have HNT := Lib.hid (newTile_any r.w r.h A' (r.h * r.w) c' (Til.crop ps W r) (w1.alloc (.cells #[.int .i64 r.w, .int .i64 r.h, .slice A' (r.h * r.w) c'] 24)) ((RO.out.alloc (Nat.le_refl _) _).more (by simp)) (by have := HMM.out; omega) (by have := HMM.out; omega) HCV.out)
  go_wp2_with fail
  with_reducible refine HNT.out.mono ?_
  rintro e w2 ⟨t, rfl, ht1, htA, htb, ht2, ht3, hb2⟩
  have HAB := Lib.hid (show Above w.heap.size t from ⟨by have := hbw.size; simp at htb; omega, fun b off e => by have := HLO.out b off (htA.symm.trans e); simp at this; omega⟩)
  have HT1 := Lib.hid ht1
  have HT2 := Lib.hid ht2
  have HT3 := Lib.hid ht3
  have hbw2 : Below w.heap.size w w2 := (hbw.alloc hbw.size _).trans (hb2.mono (by have := hbw.size; simp; omega))
  clear ht1 ht2 ht3 hb2 htA htb
  go_wp2_with fail
  go_ret
  exact ⟨t, rfl, HT1.out, HAB.out, HT2.out, HT3.out, hbw2⟩
end Go.Proofs.YthohmpjoeffckaaGreatDoor
namespace Go.Proofs.YthohmpjoeffckaaGreatDoor
open Go Go.RowKit

theorem tmInfo : (Tryz.prog.info? 53).map (fun i => (i.zero, i.size, i.bytes)) = some (some (.pointer none), 1, 8) := by kernel_rfl
/-- What stands through Of's loop. -/
structure OfR (W H : Nat) (A : Option Addr) (n c : Nat) (w : World) (gG : Nat) (v : Value) (ts : List TM) (wr : World) : Prop where
  b1 : Blk wr w.heap.size 24 #[.int .i64 W, .int .i64 H, .slice A n c]
  bG : Blk wr gG 50 #[.int .i64 W, .int .i64 H, v]
  own : Own wr (gG + 1) 1 v ts.length (tmCells ts)
  ti : ∀ t ∈ ts, TileIn wr t
  ab : ∀ t ∈ ts, Above (gG + 1) t
  off : ∀ t ∈ ts, Off v.ownBlock t
  gh : w.heap.size + 1 ≤ gG
  bel : Below w.heap.size w wr
section
variable {W H : Nat} {A : Option Addr} {n c : Nat} {w wr w' : World} {gG : Nat} {v v' : Value} {ts : List TM}
theorem OfR.step (h : OfR W H A n c w gG v ts wr) (hb : Below wr.heap.size wr w') : OfR W H A n c w gG v ts w' :=
  ⟨h.b1.below hb h.b1.lt, h.bG.below hb h.bG.lt, h.own.below hb (Nat.le_refl _), fun t ht => (h.ti t ht).step hb, h.ab, h.off, h.gh, h.bel.trans (hb.mono (by have := h.b1.lt; omega))⟩
theorem OfR.nG (h : OfR W H A n c w gG v ts wr) : v.ownBlock ≠ some gG := fun e => by have := (h.own.lt _ e).1; omega
theorem OfR.push {wi wA wT : World} {t : TM} {o : Obj} (F : OfR W H A n c w gG v ts wi) (hb : Below wi.heap.size wi wA) (ht : TileIn wA t) (hta : Above wi.heap.size t)
    (ho : Own wT (gG + 1) 1 v' (ts.length + 1) (tmCells ts ++ [tmPtr t])) (hg : (wA.alloc o).grownBy wT v.ownBlock) (hat : v'.ownBlock = v.ownBlock ∨ v'.ownBlock = some (wA.alloc o).heap.size) :
    OfR W H A n c w gG v' (ts ++ [t]) (wT.setCell ⟨gG, 2, none⟩ v') := by
  have F1 := (F.step hb).step (Below.alloc (Below.refl _ _) (Nat.le_refl _) o)
  have ht1 := ht.step (Below.alloc (Below.refl _ _) (Nat.le_refl _) o)
  have h1 := F1.b1.lt
  have hG := F1.bG.lt
  have hGi := F.bG.lt
  have hgh := F.gh
  have nv : ∀ g, g < gG + 1 → some g ≠ v.ownBlock := fun g hg' e => by have := (F1.own.lt g e.symm).1; omega
  have n5 : v'.ownBlock ≠ some gG := fun e => by have := (ho.lt _ e).1; omega
  have hotv : Off v.ownBlock t := by
    cases hv : v.ownBlock with
    | none => exact Off.none_ t
    | some g => exact hta.off (by have := (F.own.lt g hv).2; exact this)
  have hall : ∀ s ∈ ts ++ [t], TileIn (wA.alloc o) s ∧ Above (gG + 1) s ∧ Off v.ownBlock s := by
    intro s hs
    rcases List.mem_append.1 hs with hs | hs
    · exact ⟨F1.ti s hs, F.ab s hs, F.off s hs⟩
    · rw [List.mem_singleton.1 hs]
      exact ⟨ht1, hta.mono (by omega), hotv⟩
  refine ⟨(F1.b1.grown hg (nv _ (by omega))).far (by simp; omega) _, ?_, ?_, fun s hs => ?_, fun s hs => (hall s hs).2.1, fun s hs => ?_, F.gh, ?_⟩
  · have := (F1.bG.grown hg (nv _ (by omega))).set_ 2 v'
    simpa using this
  · rw [List.length_append, tmCells_append]
    exact ho.setCell n5 _
  · exact (((hall s hs).1.grown hg (hall s hs).2.2)).set_ ((hall s hs).2.1.off (by simp)) _
  · rcases hat with e | e
    · rw [e]; exact (hall s hs).2.2
    · rw [e]; exact (hall s hs).1.off (Nat.le_refl _)
  · exact (F1.bel.grown hg (by omega) (fun g e => by have := (F1.own.lt g e).1; omega)).setCell (by show w.heap.size ≤ gG; omega) _
theorem OfR.gd (h : OfR W H A n c w gG v ts wr) : Gd wr gG W H ts := by
  obtain ⟨Av, cv, hv, _, hr⟩ := h.own.form
  subst hv
  exact ⟨⟨Av, cv, h.bG, hr⟩, h.ti⟩
end

/-- The list of tiles' places stands through the loop. -/
structure RcK (gG : Nat) (Ar : Option Addr) (N : Nat) (l : List Til.R) (v : Value) (wr : World) : Prop where
  rd : Reads wr wr.heap.size 4 Ar N (rcCells l)
  nv : ∀ b off, Ar = some ⟨b, off, none⟩ → 0 < N → v.ownBlock ≠ some b
  ng : ∀ b off, Ar = some ⟨b, off, none⟩ → gG < b
theorem RcK.step {gG : Nat} {Ar : Option Addr} {N : Nat} {l : List Til.R} {v : Value} {wr w' : World} (h : RcK gG Ar N l v wr) (hb : Below wr.heap.size wr w') : RcK gG Ar N l v w' := ⟨(h.rd.below hb (Nat.le_refl _)).more hb.size, h.nv, h.ng⟩
theorem RcK.push {gG : Nat} {Ar : Option Addr} {N : Nat} {l : List Til.R} {v v' : Value} {wi wA wT : World} {o : Obj} (h : RcK gG Ar N l v wi) (hb : Below wi.heap.size wi wA) (hg : (wA.alloc o).grownBy wT v.ownBlock) (hat : v'.ownBlock = v.ownBlock ∨ v'.ownBlock = some (wA.alloc o).heap.size) :
    RcK gG Ar N l v' (wT.setCell ⟨gG, 2, none⟩ v') := by
  have h1 := (h.step hb).step (Below.alloc (Below.refl _ _) (Nat.le_refl _) o)
  refine ⟨?_, fun b off e hn => ?_, h.ng⟩
  · have h2 := h1.rd.keepAt hg.size fun b off e hb2 hn => hg.block b hb2 (fun e2 => h.nv b off e (by omega) e2.symm)
    exact h2.keepAt (by simp [World.setCell]) fun b off e _ _ => Below.heap_setCell wT ⟨gG, 2, none⟩ v' b (fun e2 => by have := h.ng b off e; simp at e2; omega)
  · rcases hat with e2 | e2
    · rw [e2]; exact h.nv b off e hn
    · rw [e2]
      intro e3
      injection e3 with e3
      obtain ⟨b2, o2, e4, hb2, _⟩ := h1.rd.2 (by omega)
      rw [e] at e4
      injection e4 with e4
      injection e4 with e4
      omega

set_option maxRecDepth 100000 in
set_option maxHeartbeats 4000000 in
theorem of_good (W H : Nat) (A : Option Addr) (n c : Nat) (ps : List Px) (w : World) (hp : Reads w w.heap.size 4 A n (pxCells ps)) (hW : 1 ≤ W ∧ W ≤ 256) (hH : 1 ≤ H ∧ H ≤ 256) (hn : ps.length = H * W) :
    Calls Tryz.prog 7 #[.agg #[.int .i64 W, .int .i64 H, .slice A n c]] w
      fun e w' => ∃ gG ts, e = .returned (.tuple #[.pointer (some ⟨gG, 0, none⟩), .nilIface]) ∧ Gd w' gG W H ts ∧ TsOf ps W H ts ∧ Below w.heap.size w w' := by
  obtain ⟨i0, hi, hz0, hz1, hz2⟩ := info_parts tmInfo
  have hpl := hp.pxLen
  have HRB := Lib.hid (show rightB (W : Int) (H : Int) n = true by
    have h1 : sideB (W : Int) = true := by simp [sideB]; omega
    have h2 : sideB (H : Int) = true := by simp [sideB]; omega
    simp only [rightB, h1, h2, Bool.true_and]
    rw [hpl, hn, Int.natCast_mul, Int.mul_comm]
    simp)
  have HP := Lib.hid hp
  have HN := Lib.hid hn
  obtain ⟨hW1, hW2⟩ := hW
  obtain ⟨hH1, hH2⟩ := hH
  clear hp hn hpl
  go_enter Tryz.func7, Tryz.ntmps7
  go_wp2_with fail
  refine (rright_any W H A n c _).mono ?_
  rw [HRB.out]
  rintro e w1 ⟨rfl, hb1⟩
  have B1 := (Blk.new w 24 #[.int .i64 W, .int .i64 H, .slice A n c] rfl).below hb1 (by simp)
  have hbw : Below w.heap.size w w1 := Below.trans (by go_grown) (hb1.mono (by simp))
  have c1 := B1.cell
  have l1 := B1.lt
  clear hb1
  go_wp2_with fail
  obtain ⟨gG, hgG⟩ : ∃ gG, gG = w1.heap.size := ⟨_, rfl⟩
  obtain ⟨w2, hw2⟩ : ∃ w2, w2 = w1.alloc (.cells #[.int .i64 W, .int .i64 H, .slice none 0 0] 50) := ⟨_, rfl⟩
  have F0 : OfR W H A n c w gG (.slice none 0 0) [] w2 := by
    rw [hw2, hgG]
    exact ⟨B1.alloc _, Blk.new _ _ _ rfl, Own.nil _ _ _, (fun t h => by cases h), (fun t h => by cases h), (fun t h => by cases h), by omega, hbw.alloc hbw.size _⟩
  rw [← hw2, ← hgG]
  clear hw2 hgG B1 hbw c1 l1
  refine (rects_any W H _ hW2 hH2).mono ?_
  rintro e w3 ⟨Ar, cr, rfl, hO, hb3⟩
  have F3 := F0.step hb3
  have R3 : RcK gG Ar (Til.rects W H).length (Til.rects W H) (.slice none 0 0) w3 := ⟨hO.reads.2, (fun b off e _ e2 => by simp [Value.ownBlock] at e2), fun b off e => by have := (hO.lt b (by rw [e]; rfl)).1; have := F0.bG.lt; omega⟩
  have hlr := Til.rects_length W H
  obtain ⟨N, hN⟩ : ∃ N, (Til.rects W H).length = N := ⟨_, rfl⟩
  have hN1 : N ≤ 1000 := by
    have h1 : Til.cols W ≤ 16 := by unfold Til.cols; omega
    have h2 : Til.cols H ≤ 16 := by unfold Til.cols; omega
    have := Nat.mul_le_mul h2 h1
    omega
  have HNN := Lib.hid hN
  rw [hN] at R3 ⊢
  clear F0 hO hlr hN hb3
  go_wp2_with fail
  go_loopw [23] (fun i wr => ∃ (k : Nat) (v : Value) (ts : List TM), k ≤ N ∧ i = .int .i64 k ∧ OfR W H A n c w gG v ts wr ∧ RcK gG Ar N (Til.rects W H) v wr ∧ ts.map (·.l) = ((Til.rects W H).take k).map (fun r => Til.small (Til.crop ps W r)) ∧ ts.map (·.w) = ((Til.rects W H).take k).map (·.w)) (fun i _ => N - (intOf i).toNat)
  case atStart => exact ⟨0, _, [], Nat.zero_le _, rfl, F3, R3, rfl, rfl⟩
  case round =>
    clear F3 R3
    obtain ⟨k, v, ts, hk, rfl, F, RK, hl1, hl2⟩ := hrel
    obtain ⟨wi, rfl⟩ : ∃ wi : World, wi = wr := ⟨_, rfl⟩
    have HL1 := Lib.hid hl1
    have HL2 := Lib.hid hl2
    have htl : ts.length = k := by
      have := congrArg List.length hl1
      rw [List.length_map, List.length_map, List.length_take, HNN.out] at this
      omega
    have HTL := Lib.hid htl
    clear hl1 hl2
    by_cases hlt : k < N
    · obtain ⟨br, orr, rfl, hbrr⟩ := RK.rd.addr (by omega)
      have hkl : k < (Til.rects W H).length := by rw [HNN.out]; exact hlt
      obtain ⟨x0, x1, x2, x3⟩ := RK.rd.rc k hkl
      have hrin := Til.rects_in (List.getElem_mem hkl)
      have HTK := Lib.hid (List.take_succ_eq_append_getElem hkl)
      obtain ⟨r, hr⟩ : ∃ r, (Til.rects W H)[k] = r := ⟨_, rfl⟩
      rw [hr] at x0 x1 x2 x3 hrin HTK
      obtain ⟨Av, cv, hv, hcv, _⟩ := F.own.form
      subst hv
      obtain ⟨m, hm⟩ : ∃ m, ts.length = m := ⟨_, rfl⟩
      have hm1 : m ≤ 1000 := by rw [← hm, htl]; omega
      have hFo := F.own
      have F' := F.step (Below.alloc (Below.refl _ _) (Nat.le_refl _) (.cells #[.int .i64 r.x, .int .i64 r.y, .int .i64 r.w, .int .i64 r.h] 52))
      have RK' := RK.step (Below.alloc (Below.refl _ _) (Nat.le_refl _) (.cells #[.int .i64 r.x, .int .i64 r.y, .int .i64 r.w, .int .i64 r.h] 52))
      rw [hm] at hFo F' RK' F
      have HM := Lib.hid hm
      clear hr hkl htl hcv hm
      go_wp2_with fail
      obtain ⟨gB, hgB⟩ : ∃ gB, gB = wi.heap.size := ⟨_, rfl⟩
      obtain ⟨wB, hwB⟩ : ∃ wB, wB = wi.alloc (.cells #[.int .i64 r.x, .int .i64 r.y, .int .i64 r.w, .int .i64 r.h] 52) := ⟨_, rfl⟩
      have BB : Blk wB gB 52 #[.int .i64 r.x, .int .i64 r.y, .int .i64 r.w, .int .i64 r.h] := by rw [hwB, hgB]; exact Blk.new _ _ _ rfl
      rw [← hwB] at F' RK'
      rw [← hwB, ← hgB]
      have s0 : wB.cell? ⟨w.heap.size, 0, none⟩ = some (.int .i64 W) := (F'.b1.cell 0).trans rfl
      have s1 : wB.cell? ⟨w.heap.size, 1, none⟩ = some (.int .i64 H) := (F'.b1.cell 1).trans rfl
      have s2 : wB.cell? ⟨w.heap.size, 2, none⟩ = some (.slice A n c) := (F'.b1.cell 2).trans rfl
      have s3 : wB.cell? ⟨gB, 0, none⟩ = some (.int .i64 r.x) := (BB.cell 0).trans rfl
      have s4 : wB.cell? ⟨gB, 1, none⟩ = some (.int .i64 r.y) := (BB.cell 1).trans rfl
      have s5 : wB.cell? ⟨gB, 2, none⟩ = some (.int .i64 r.w) := (BB.cell 2).trans rfl
      have s6 : wB.cell? ⟨gB, 3, none⟩ = some (.int .i64 r.h) := (BB.cell 3).trans rfl
      have s7 : wB.cell? ⟨gG, 2, none⟩ = some (.slice Av m cv) := (F'.bG.cell 2).trans rfl
      have hGl := F'.bG.lt
      have p7 := fun o => cell_past (w := wB) o s7
      have RP := (HP.out.below F'.bel (Nat.le_refl _)).more F'.bel.size
      have HCUT := Lib.hid (cut_any W H A n c ps r wB.drew RP hW2 hH2 HN.out hrin)
      have HF := Lib.hid F'
      have HRK := Lib.hid RK'
      have HFO := Lib.hid (show Own wB (gG + 1) 1 (.slice Av m cv) m (tmCells ts) by have h := F'.own; rw [HM.out] at h; exact h)
      have HFG := Lib.hid (F'.bG.free 2)
      have HFN := Lib.hid F'.nG
      clear hwB hgB BB F' RK' F RK hFo x0 x1 x2 x3 RP hrin
      go_region_law
        (first
          | (go_simp; go_at_call 19; refine HCUT.out.mono ?_; rintro e wA ⟨t, rfl, htw, hta, htl, hti, hbA⟩; have hzA : wB.heap.size ≤ wA.heap.size := hbA.size; have a7 := bkeep hbA s7; have r7 := fun o => cell_past (w := wA) o a7; have hbI := Below.fromDrew hbA; have HOA := HFO.out.below hbI (Nat.le_refl _))
          | (refine step_append_Own _ rfl (.tmp 31) (.tmp 35) 48 48 rfl (gG + 1) 53 i0 _ 1 8 Tryz.underlying48 hi hz0 hz1 hz2 rfl (by decide) (.slice Av m cv) m (tmCells ts) rfl (HOA.alloc _) (tmCells_one _) 1 [tmPtr t] (Src.blk Tryz.underlying48 (Blk.new _ _ _ rfl) rfl (tmCells_one [t])) (by unfold maxLen; omega) (by omega) (by simp; omega) ?_; intro vT wT hownT hgT hatT; obtain ⟨AT, cT, rfl, hcT, _⟩ := hownT.form; have t5 : wT.cell? ⟨gG, 2, none⟩ = some (.slice Av m cv) := (hgT.cell_far ⟨gG, 2, none⟩ (by simp; omega) (fun e => HFN.out e.symm)).trans (cell_past _ (bkeep hbA s7)); have f5 : wT.frozen? ⟨gG, 2, none⟩ = false := (hgT.frozen_far ⟨gG, 2, none⟩ (by simp; omega) (fun e => HFN.out e.symm)).trans (free_past _ (by simp; omega) (bfree_ hbA hGl HFG.out))))
      all_goals
        have F9 := HF.out.push (Below.fromDrew hbA) hti hta (by rw [HM.out]; exact hownT) hgT hatT
        have R9 := HRK.out.push (Below.fromDrew hbA) hgT hatT
        have HF9 := Lib.hid F9
        have HR9 := Lib.hid R9
        have HTW := Lib.hid htw
        have HTLL := Lib.hid htl
        clear F9 R9 hownT hgT hatT t5 f5 a7 r7 p7 s0 s1 s2 s3 s4 s5 s6 s7 htw hta htl hti hbA HOA hbI
        go_wp2_with fail
        go_roundw
        case rel =>
          refine ⟨k + 1, _, ts ++ [t], by omega, by go_num, HF9.out, HR9.out, ?_, ?_⟩
          · rw [HTK.out, List.map_append, List.map_append, HL1.out]
            simp only [List.map_cons, List.map_nil, HTLL.out]
          · rw [HTK.out, List.map_append, List.map_append, HL2.out]
            simp only [List.map_cons, List.map_nil, HTW.out]
        case measure => simp [intOf]; omega
    · have e : k = N := by omega
      have hl1 := HL1.out
      have hl2 := HL2.out
      rw [e, ← HNN.out, List.take_length] at hl1 hl2
      have HTS := Lib.hid (show TsOf ps W H ts from ⟨hl1, hl2⟩)
      have HGD := Lib.hid F.gd
      have hbw := F.bel
      clear hl1 hl2 e htl
      go_wp2_with fail
      go_ret2
      exact ⟨gG, ts, rfl, HGD.out, HTS.out, hbw⟩
end Go.Proofs.YthohmpjoeffckaaGreatDoor
