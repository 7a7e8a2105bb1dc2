/- Grid.Stamp: the walks. Printed by mkgpaint.py. -/
import Derived.Test.YtcdbhcjiimdhhaaDoorGridChg
import Derived.Test.YtcdbhcjiimdhhaaDoorGridPix
import Derived.Test.YtcdbhcjiimdhhaaDoorRStamp
namespace Go.Proofs.YtcdbhcjiimdhhaaDoor
open Go Go.RowKit

set_option maxRecDepth 100000 in
set_option maxHeartbeats 8000000 in
theorem gstamp_good (gb W H : Nat) (ts : List TM) (ps : List Px) (Wq Hq : Nat) (Aq : Option Addr) (nq cq : Nat) (qs : List Px) (x y m : Int) (w : World) (hg : Gd w gb W H ts) (ht : TsOf ps W H ts) (hn : ps.length = H * W) (hW : 1 ≤ W ∧ W ≤ 256) (hH : 1 ≤ H ∧ H ≤ 256) (hq : Reads w w.heap.size 4 Aq nq (pxCells qs)) (hWq : 1 ≤ Wq ∧ Wq ≤ 256) (hHq : 1 ≤ Hq ∧ Hq ≤ 256) (hnq : qs.length = Hq * Wq) (hx : nearB x = true) (hy : nearB y = true) (hm : modeB m = true) :
    Calls Tryd.prog 18 #[.pointer (some ⟨gb, 0, none⟩), .agg #[.int .i64 Wq, .int .i64 Hq, .slice Aq nq cq], .int .i64 x, .int .i64 y, .int .i64 m] w
      fun e w' => ∃ gG A9 c9 ts', e = .returned (.tuple #[.pointer (some ⟨gG, 0, none⟩), .nilIface]) ∧ GdNew w.heap.size w' ts gG W H A9 c9 ts' ∧ TsOf (Lay.grid (Lay.stampAt ps qs W Wq Hq x y m) W H) W H ts' ∧ Below w.heap.size w w' := by
  have HG := Lib.hid hg
  have HT := Lib.hid ht
  have HNL := Lib.hid hn
  clear hg ht hn
  have HQ := Lib.hid hq
  have HNQ := Lib.hid hnq
  have HX := Lib.hid hx
  have HY := Lib.hid hy
  have HM := Lib.hid hm
  have hX : -10000 ≤ x ∧ x ≤ 10000 := by simpa [nearB] using hx
  have hY : -10000 ≤ y ∧ y ≤ 10000 := by simpa [nearB] using hy
  clear hq hnq hx hy hm
  go_enter Tryd.func18, Tryd.ntmps18
  go_wp2_with fail
  obtain ⟨W0, hW0⟩ : ∃ W0, W0 = w.alloc (.cells #[.int .i64 Wq, .int .i64 Hq, .slice Aq nq cq] 24) := ⟨_, rfl⟩
  have B1 : Blk W0 w.heap.size 24 #[.int .i64 Wq, .int .i64 Hq, .slice Aq nq cq] := by rw [hW0]; exact Blk.new _ _ _ rfl
  have hbw0 : Below w.heap.size w W0 := by rw [hW0]; go_grown
  have hzR : w.heap.size < W0.heap.size := B1.lt
  rw [← hW0]
  clear hW0
  have t0 : W0.cell? ⟨w.heap.size, 0, none⟩ = some (.int .i64 Wq) := (B1.cell 0).trans rfl
  have t1 : W0.cell? ⟨w.heap.size, 1, none⟩ = some (.int .i64 Hq) := (B1.cell 1).trans rfl
  have t2 : W0.cell? ⟨w.heap.size, 2, none⟩ = some (.slice Aq nq cq) := (B1.cell 2).trans rfl
  have HG0 := Lib.hid (HG.out.step hbw0)
  have HQ0 := Lib.hid ((HQ.out.below hbw0 (Nat.le_refl _)).more hbw0.size)
  have HPA := Lib.hid (gpicture_any gb W H ts ps W0.drew (HG0.out.step (Below.here W0)) HT.out HNL.out hW hH)
  have HPB := Lib.hid (gpicture_any gb W H ts ps (W0.alloc (.cells #[.int .i64 0, .int .i64 0, .slice none 0 0] 24)).drew (HG0.out.step (((Below.refl W0.heap.size W0).alloc (Nat.le_refl _) (.cells #[.int .i64 0, .int .i64 0, .slice none 0 0] 24)).drew)) HT.out HNL.out hW hH)
  have HZS := Lib.hid (show W0.heap.size ≤ (W0.alloc (.cells #[.int .i64 0, .int .i64 0, .slice none 0 0] 24)).drew.heap.size by simp)
  have HZT := Lib.hid (show W0.heap.size < (W0.alloc (.cells #[.int .i64 0, .int .i64 0, .slice none 0 0] 24)).drew.heap.size by simp)
  go_region_held3 (fun w' => w'.cell? ⟨w.heap.size, 0, none⟩ = some (.int .i64 Wq) ∧ w'.cell? ⟨w.heap.size, 1, none⟩ = some (.int .i64 Hq) ∧ w'.cell? ⟨w.heap.size, 2, none⟩ = some (.slice Aq nq cq))
    ((go_split_ands
      refine ⟨?_, ?_, ?_⟩
      · ((repeat' (first | (with_reducible exact t0) | (with_reducible refine cell_set_other _ (ne_blk hzR _ _) ?_) | (with_reducible refine bkeep hbB ?_) | (with_reducible refine bkeep hbA ?_) | (with_reducible refine cell_past _ ?_))) <;> first | exact t0 | exact cell_past _ t0)
      · ((repeat' (first | (with_reducible exact t1) | (with_reducible refine cell_set_other _ (ne_blk hzR _ _) ?_) | (with_reducible refine bkeep hbB ?_) | (with_reducible refine bkeep hbA ?_) | (with_reducible refine cell_past _ ?_))) <;> first | exact t1 | exact cell_past _ t1)
      · ((repeat' (first | (with_reducible exact t2) | (with_reducible refine cell_set_other _ (ne_blk hzR _ _) ?_) | (with_reducible refine bkeep hbB ?_) | (with_reducible refine bkeep hbA ?_) | (with_reducible refine cell_past _ ?_))) <;> first | exact t2 | exact cell_past _ t2)))
    (first
      | (go_at_call 12; with_reducible refine HPA.out.mono ?_; rintro e wA ⟨A1, c1, rfl, hO1, hbA⟩; have hbI : Below W0.heap.size W0 wA := Below.fromDrew hbA; have hzA := hbI.size)
      | (go_at_call 12; with_reducible refine HPB.out.mono ?_; rintro e wA ⟨A1, c1, rfl, hO1, hbA⟩; have hbI : Below W0.heap.size W0 wA := (((Below.refl W0.heap.size W0).alloc (Nat.le_refl _) (.cells #[.int .i64 0, .int .i64 0, .slice none 0 0] 24)).drew).trans (hbA.mono HZS.out); have hzA := hbI.size; have kB : Blk wA W0.heap.size 24 #[.int .i64 0, .int .i64 0, .slice none 0 0] := (Blk.drew (Blk.new W0 _ _ rfl)).below hbA HZT.out)
      | (have kA := kB; go_at_call 37; refine (rstamp_good W H A1 ps.length c1 ps Wq Hq Aq nq cq qs x y m wA (hO1.reads.2) ((HQ0.out.below hbI (Nat.le_refl _)).more (hbI).size) hW hH HNL.out hWq hHq HNQ.out HX.out HY.out HM.out).mono ?_; rintro e wB ⟨A2, c2, rfl, hO2, hbB⟩; have kC := kA.below hbB kA.lt; have hzB := hbB.size; have kc := kC.cell; have kf := kC.free; have kl := kC.lt)
      | (have hcc := rstamp_good W H A1 ps.length c1 ps Wq Hq Aq nq cq qs x y m wA (hO1.reads.2) ((HQ0.out.below hbI (Nat.le_refl _)).more (hbI).size) hW hH HNL.out hWq hHq HNQ.out HX.out HY.out HM.out; go_at_call 37; with_reducible refine hcc.mono ?_; rintro e wB ⟨A2, c2, rfl, hO2, hbB⟩; have hzB := hbB.size)
      | (have kA := Blk.new wA 24 #[.int .i64 0, .int .i64 0, .slice none 0 0] rfl; have hcc := rstamp_good W H A1 ps.length c1 ps Wq Hq Aq nq cq qs x y m (wA.alloc (.cells #[.int .i64 0, .int .i64 0, .slice none 0 0] 24)) ((hO1.alloc _).reads.2) ((HQ0.out.below (hbI.alloc hbI.size _) (Nat.le_refl _)).more ((hbI.alloc hbI.size _)).size) hW hH HNL.out hWq hHq HNQ.out HX.out HY.out HM.out; go_at_call 37; with_reducible refine hcc.mono ?_; rintro e wB ⟨A2, c2, rfl, hO2, hbB⟩; have kC := kA.below hbB kA.lt; have hzB := hbB.size; have kc := kC.cell; have kf := kC.free; have kl := kC.lt; have hzR : w.heap.size < wA.heap.size := Nat.lt_of_lt_of_le hzR hzA))
  obtain ⟨W3, hW3⟩ : ∃ W3, W3 = wB.alloc (.cells #[.int .i64 W, .int .i64 H, .slice A2 (ps.length) c2] 24) := ⟨_, rfl⟩
  obtain ⟨g8, hg8⟩ : ∃ g8, g8 = wB.heap.size := ⟨_, rfl⟩
  have B8 : Blk W3 g8 24 #[.int .i64 W, .int .i64 H, .slice A2 (ps.length) c2] := by rw [hW3, hg8]; exact Blk.new _ _ _ rfl
  have hb3 : Below W0.heap.size W0 W3 := by rw [hW3]; exact (hbI.trans (hbB.mono hzA)).alloc (by omega) _
  have hO3 : Own W3 W0.heap.size 4 (.slice A2 (ps.length) c2) (ps.length) (pxCells (Lay.grid (Lay.stampAt ps qs W Wq Hq x y m) W H)) := by rw [hW3]; exact (hO2.mono hzA).alloc _
  rw [← hW3]
  try rw [← hg8]
  clear hW3 hg8
  rotate_left
  obtain ⟨W3, hW3⟩ : ∃ W3, W3 = (((wB.setCell ⟨wA.heap.size, 0, none⟩ (.int .i64 W)).setCell ⟨wA.heap.size, 1, none⟩ (.int .i64 H)).setCell ⟨wA.heap.size, 2, none⟩ (.slice A2 (ps.length) c2)) := ⟨_, rfl⟩
  obtain ⟨g8, hg8⟩ : ∃ g8, g8 = wA.heap.size := ⟨_, rfl⟩
  have B8 : Blk W3 g8 24 #[.int .i64 W, .int .i64 H, .slice A2 (ps.length) c2] := by
    rw [hW3, hg8]
    have := ((kC.set_ 0 (.int .i64 W)).set_ 1 (.int .i64 H)).set_ 2 (.slice A2 (ps.length) c2)
    simpa using this
  have hb3 : Below W0.heap.size W0 W3 := by
    rw [hW3]
    exact (((((hbI.alloc hbI.size _).trans (hbB.mono (by simp; omega))).setCell (by first | omega | (simp; done) | (simp; omega)) _).setCell (by first | omega | (simp; done) | (simp; omega)) _).setCell (by first | omega | (simp; done) | (simp; omega)) _)
  have hO3 : Own W3 W0.heap.size 4 (.slice A2 (ps.length) c2) (ps.length) (pxCells (Lay.grid (Lay.stampAt ps qs W Wq Hq x y m) W H)) := by
    rw [hW3]
    have n1 : (Value.slice A2 (ps.length) c2).ownBlock ≠ some (wA.heap.size) := fun e => by have h9 := (hO2.lt _ e).1; have h10 := kA.lt; first | (simp at h9; done) | (simp at h9; omega) | omega
    exact ((((hO2.setCell n1 _).setCell n1 _).setCell n1 _).mono (by first | omega | (simp; done) | (simp; omega)))
  rw [← hW3, ← hg8]
  clear hW3 hg8 kA kC kc kf kl
  rotate_left
  obtain ⟨W3, hW3⟩ : ∃ W3, W3 = (((wB.setCell ⟨W0.heap.size, 0, none⟩ (.int .i64 W)).setCell ⟨W0.heap.size, 1, none⟩ (.int .i64 H)).setCell ⟨W0.heap.size, 2, none⟩ (.slice A2 (ps.length) c2)) := ⟨_, rfl⟩
  obtain ⟨g8, hg8⟩ : ∃ g8, g8 = W0.heap.size := ⟨_, rfl⟩
  have B8 : Blk W3 g8 24 #[.int .i64 W, .int .i64 H, .slice A2 (ps.length) c2] := by
    rw [hW3, hg8]
    have := ((kC.set_ 0 (.int .i64 W)).set_ 1 (.int .i64 H)).set_ 2 (.slice A2 (ps.length) c2)
    simpa using this
  have hb3 : Below W0.heap.size W0 W3 := by
    rw [hW3]
    exact ((((hbI.trans (hbB.mono hzA)).setCell (by first | omega | (simp; done) | (simp; omega)) _).setCell (by first | omega | (simp; done) | (simp; omega)) _).setCell (by first | omega | (simp; done) | (simp; omega)) _)
  have hO3 : Own W3 W0.heap.size 4 (.slice A2 (ps.length) c2) (ps.length) (pxCells (Lay.grid (Lay.stampAt ps qs W Wq Hq x y m) W H)) := by
    rw [hW3]
    have n1 : (Value.slice A2 (ps.length) c2).ownBlock ≠ some (W0.heap.size) := fun e => by have h9 := (hO2.lt _ e).1; have h10 := kA.lt; first | (simp at h9; done) | (simp at h9; omega) | omega
    exact ((((hO2.setCell n1 _).setCell n1 _).setCell n1 _).mono (by first | omega | (simp; done) | (simp; omega)))
  rw [← hW3, ← hg8]
  clear hW3 hg8 kA kC kc kf kl
  rotate_left
  all_goals
    have hbw3 := hbw0.trans (hb3.mono hbw0.size)
    have b8 := B8.cell
    have HG3 := Lib.hid (HG.out.step hbw3)
    have HR3 := Lib.hid (hO3.reads.2)
    have l8 := B8.lt
    have C1 := B1.below hb3 B1.lt
    have d1 := C1.cell
    clear hbA hbB hbI hO1 hO2 hO3
    go_wp2_with fail
    refine (gchanged_any gb W H ts ps (Lay.grid (Lay.stampAt ps qs W Wq Hq x y m) W H) A2 ps.length c2 x y Wq Hq W3 HG3.out HT.out HR3.out (Lay.grid_length _ _ _) hW hH hX hY ⟨by omega, by omega⟩ ⟨by omega, by omega⟩ (Til.stamp_out ps qs W H Wq Hq x y m)).mono ?_
    rintro e w4 ⟨gG, A9, c9, ts', rfl, hG4, hT4, hb4⟩
    have HG4 := Lib.hid (hG4.low hbw3.size)
    have HT4 := Lib.hid hT4
    have hbw4 := hbw3.trans (hb4.mono hbw3.size)
    clear hG4 hT4 hb4 b8 d1
    go_wp2_with fail
    go_ret2
    exact ⟨gG, A9, c9, ts', rfl, HG4.out, HT4.out, hbw4⟩


set_option maxRecDepth 100000 in
set_option maxHeartbeats 8000000 in
theorem gstamp_shape (gb W H : Nat) (ts : List TM) (ps : List Px) (Wq Hq : Int) (Aq : Option Addr) (nq cq : Nat) (x y m : Int) (E : Nat → Addr) (w : World) (hg : Gd w gb W H ts) (ht : TsOf ps W H ts) (hn : ps.length = H * W) (hW : 1 ≤ W ∧ W ≤ 256) (hH : 1 ≤ H ∧ H ≤ 256) (hE : ErrsAt w E) (hq : rightB Wq Hq nq = false) :
    Calls Tryd.prog 18 #[.pointer (some ⟨gb, 0, none⟩), .agg #[.int .i64 Wq, .int .i64 Hq, .slice Aq nq cq], .int .i64 x, .int .i64 y, .int .i64 m] w
      fun e w' => e = .returned (.tuple #[.pointer none, errV (E 2)]) ∧ Below w.heap.size w w' := by
  have HG := Lib.hid hg
  have HT := Lib.hid ht
  have HNL := Lib.hid hn
  clear hg ht hn
  have HE := Lib.hid hE
  have HQ := Lib.hid hq
  clear hE hq
  go_enter Tryd.func18, Tryd.ntmps18
  go_wp2_with fail
  obtain ⟨W0, hW0⟩ : ∃ W0, W0 = w.alloc (.cells #[.int .i64 Wq, .int .i64 Hq, .slice Aq nq cq] 24) := ⟨_, rfl⟩
  have B1 : Blk W0 w.heap.size 24 #[.int .i64 Wq, .int .i64 Hq, .slice Aq nq cq] := by rw [hW0]; exact Blk.new _ _ _ rfl
  have hbw0 : Below w.heap.size w W0 := by rw [hW0]; go_grown
  have hzR : w.heap.size < W0.heap.size := B1.lt
  rw [← hW0]
  clear hW0
  have t0 : W0.cell? ⟨w.heap.size, 0, none⟩ = some (.int .i64 Wq) := (B1.cell 0).trans rfl
  have t1 : W0.cell? ⟨w.heap.size, 1, none⟩ = some (.int .i64 Hq) := (B1.cell 1).trans rfl
  have t2 : W0.cell? ⟨w.heap.size, 2, none⟩ = some (.slice Aq nq cq) := (B1.cell 2).trans rfl
  have HG0 := Lib.hid (HG.out.step hbw0)
  have HE0 := Lib.hid (HE.out.below hbw0)
  have HPA := Lib.hid (gpicture_any gb W H ts ps W0.drew (HG0.out.step (Below.here W0)) HT.out HNL.out hW hH)
  have HPB := Lib.hid (gpicture_any gb W H ts ps (W0.alloc (.cells #[.int .i64 0, .int .i64 0, .slice none 0 0] 24)).drew (HG0.out.step (((Below.refl W0.heap.size W0).alloc (Nat.le_refl _) (.cells #[.int .i64 0, .int .i64 0, .slice none 0 0] 24)).drew)) HT.out HNL.out hW hH)
  have HZS := Lib.hid (show W0.heap.size ≤ (W0.alloc (.cells #[.int .i64 0, .int .i64 0, .slice none 0 0] 24)).drew.heap.size by simp)
  have HZT := Lib.hid (show W0.heap.size < (W0.alloc (.cells #[.int .i64 0, .int .i64 0, .slice none 0 0] 24)).drew.heap.size by simp)
  go_region_held3 (fun w' => w'.cell? ⟨w.heap.size, 0, none⟩ = some (.int .i64 Wq) ∧ w'.cell? ⟨w.heap.size, 1, none⟩ = some (.int .i64 Hq) ∧ w'.cell? ⟨w.heap.size, 2, none⟩ = some (.slice Aq nq cq))
    ((go_split_ands
      refine ⟨?_, ?_, ?_⟩
      · ((repeat' (first | (with_reducible exact t0) | (with_reducible refine cell_set_other _ (ne_blk hzR _ _) ?_) | (with_reducible refine bkeep hbB ?_) | (with_reducible refine bkeep hbA ?_) | (with_reducible refine cell_past _ ?_))) <;> first | exact t0 | exact cell_past _ t0)
      · ((repeat' (first | (with_reducible exact t1) | (with_reducible refine cell_set_other _ (ne_blk hzR _ _) ?_) | (with_reducible refine bkeep hbB ?_) | (with_reducible refine bkeep hbA ?_) | (with_reducible refine cell_past _ ?_))) <;> first | exact t1 | exact cell_past _ t1)
      · ((repeat' (first | (with_reducible exact t2) | (with_reducible refine cell_set_other _ (ne_blk hzR _ _) ?_) | (with_reducible refine bkeep hbB ?_) | (with_reducible refine bkeep hbA ?_) | (with_reducible refine cell_past _ ?_))) <;> first | exact t2 | exact cell_past _ t2)))
    (first
      | (go_at_call 12; with_reducible refine HPA.out.mono ?_; rintro e wA ⟨A1, c1, rfl, hO1, hbA⟩; have hbI : Below W0.heap.size W0 wA := Below.fromDrew hbA; have hzA := hbI.size)
      | (go_at_call 12; with_reducible refine HPB.out.mono ?_; rintro e wA ⟨A1, c1, rfl, hO1, hbA⟩; have hbI : Below W0.heap.size W0 wA := (((Below.refl W0.heap.size W0).alloc (Nat.le_refl _) (.cells #[.int .i64 0, .int .i64 0, .slice none 0 0] 24)).drew).trans (hbA.mono HZS.out); have hzA := hbI.size; have kB : Blk wA W0.heap.size 24 #[.int .i64 0, .int .i64 0, .slice none 0 0] := (Blk.drew (Blk.new W0 _ _ rfl)).below hbA HZT.out)
      | (have kA := kB; go_at_call 37; refine (rstamp_shape W H A1 ps.length c1 Wq Hq Aq nq cq x y m E wA (HE0.out.below hbI) (right_nat hW hH HNL.out) HQ.out).mono ?_; rintro e wB ⟨rfl, hbB⟩; have kC := kA.below hbB kA.lt; have hzB := hbB.size; have kc := kC.cell; have kf := kC.free; have kl := kC.lt)
      | (have hcc := rstamp_shape W H A1 ps.length c1 Wq Hq Aq nq cq x y m E wA (HE0.out.below hbI) (right_nat hW hH HNL.out) HQ.out; go_at_call 37; with_reducible refine hcc.mono ?_; rintro e wB ⟨rfl, hbB⟩; have hzB := hbB.size)
      | (have kA := Blk.new wA 24 #[.int .i64 0, .int .i64 0, .slice none 0 0] rfl; have hcc := rstamp_shape W H A1 ps.length c1 Wq Hq Aq nq cq x y m E (wA.alloc (.cells #[.int .i64 0, .int .i64 0, .slice none 0 0] 24)) (HE0.out.below (hbI.alloc hbI.size _)) (right_nat hW hH HNL.out) HQ.out; go_at_call 37; with_reducible refine hcc.mono ?_; rintro e wB ⟨rfl, hbB⟩; have kC := kA.below hbB kA.lt; have hzB := hbB.size; have kc := kC.cell; have kf := kC.free; have kl := kC.lt; have hzR : w.heap.size < wA.heap.size := Nat.lt_of_lt_of_le hzR hzA))
  obtain ⟨W3, hW3⟩ : ∃ W3, W3 = wB.alloc (.cells #[.int .i64 0, .int .i64 0, .slice none 0 0] 24) := ⟨_, rfl⟩
  obtain ⟨g8, hg8⟩ : ∃ g8, g8 = wB.heap.size := ⟨_, rfl⟩
  have B8 : Blk W3 g8 24 #[.int .i64 0, .int .i64 0, .slice none 0 0] := by rw [hW3, hg8]; exact Blk.new _ _ _ rfl
  have hb3 : Below W0.heap.size W0 W3 := by rw [hW3]; exact (hbI.trans (hbB.mono hzA)).alloc (by omega) _
  rw [← hW3]
  try rw [← hg8]
  clear hW3 hg8
  rotate_left
  obtain ⟨W3, hW3⟩ : ∃ W3, W3 = (((wB.setCell ⟨wA.heap.size, 0, none⟩ (.int .i64 0)).setCell ⟨wA.heap.size, 1, none⟩ (.int .i64 0)).setCell ⟨wA.heap.size, 2, none⟩ (.slice none 0 0)) := ⟨_, rfl⟩
  obtain ⟨g8, hg8⟩ : ∃ g8, g8 = wA.heap.size := ⟨_, rfl⟩
  have B8 : Blk W3 g8 24 #[.int .i64 0, .int .i64 0, .slice none 0 0] := by
    rw [hW3, hg8]
    have := ((kC.set_ 0 (.int .i64 0)).set_ 1 (.int .i64 0)).set_ 2 (.slice none 0 0)
    simpa using this
  have hb3 : Below W0.heap.size W0 W3 := by
    rw [hW3]
    exact (((((hbI.alloc hbI.size _).trans (hbB.mono (by simp; omega))).setCell (by first | omega | (simp; done) | (simp; omega)) _).setCell (by first | omega | (simp; done) | (simp; omega)) _).setCell (by first | omega | (simp; done) | (simp; omega)) _)
  rw [← hW3, ← hg8]
  clear hW3 hg8 kA kC kc kf kl
  rotate_left
  obtain ⟨W3, hW3⟩ : ∃ W3, W3 = (((wB.setCell ⟨W0.heap.size, 0, none⟩ (.int .i64 0)).setCell ⟨W0.heap.size, 1, none⟩ (.int .i64 0)).setCell ⟨W0.heap.size, 2, none⟩ (.slice none 0 0)) := ⟨_, rfl⟩
  obtain ⟨g8, hg8⟩ : ∃ g8, g8 = W0.heap.size := ⟨_, rfl⟩
  have B8 : Blk W3 g8 24 #[.int .i64 0, .int .i64 0, .slice none 0 0] := by
    rw [hW3, hg8]
    have := ((kC.set_ 0 (.int .i64 0)).set_ 1 (.int .i64 0)).set_ 2 (.slice none 0 0)
    simpa using this
  have hb3 : Below W0.heap.size W0 W3 := by
    rw [hW3]
    exact ((((hbI.trans (hbB.mono hzA)).setCell (by first | omega | (simp; done) | (simp; omega)) _).setCell (by first | omega | (simp; done) | (simp; omega)) _).setCell (by first | omega | (simp; done) | (simp; omega)) _)
  rw [← hW3, ← hg8]
  clear hW3 hg8 kA kC kc kf kl
  rotate_left
  all_goals
    have hbw3 := hbw0.trans (hb3.mono hbw0.size)
    have b8 := B8.cell
    have l8 := B8.lt
    have C1 := B1.below hb3 B1.lt
    have d1 := C1.cell
    clear hbA hbB hbI hO1
    try unfold errV
    go_wp2_with fail
    go_ret2
    exact ⟨rfl, hbw3⟩


set_option maxRecDepth 100000 in
set_option maxHeartbeats 8000000 in
theorem gstamp_bound (gb W H : Nat) (ts : List TM) (ps : List Px) (Wq Hq : Int) (Aq : Option Addr) (nq cq : Nat) (x y m : Int) (E : Nat → Addr) (w : World) (hg : Gd w gb W H ts) (ht : TsOf ps W H ts) (hn : ps.length = H * W) (hW : 1 ≤ W ∧ W ≤ 256) (hH : 1 ≤ H ∧ H ≤ 256) (hE : ErrsAt w E) (hq : rightB Wq Hq nq = true) (hb : [x, y].all nearB = false ∨ modeB m = false) :
    Calls Tryd.prog 18 #[.pointer (some ⟨gb, 0, none⟩), .agg #[.int .i64 Wq, .int .i64 Hq, .slice Aq nq cq], .int .i64 x, .int .i64 y, .int .i64 m] w
      fun e w' => e = .returned (.tuple #[.pointer none, errV (E 1)]) ∧ Below w.heap.size w w' := by
  have HG := Lib.hid hg
  have HT := Lib.hid ht
  have HNL := Lib.hid hn
  clear hg ht hn
  have HE := Lib.hid hE
  have HQ := Lib.hid hq
  have HB := Lib.hid hb
  clear hb
  clear hE hq
  go_enter Tryd.func18, Tryd.ntmps18
  go_wp2_with fail
  obtain ⟨W0, hW0⟩ : ∃ W0, W0 = w.alloc (.cells #[.int .i64 Wq, .int .i64 Hq, .slice Aq nq cq] 24) := ⟨_, rfl⟩
  have B1 : Blk W0 w.heap.size 24 #[.int .i64 Wq, .int .i64 Hq, .slice Aq nq cq] := by rw [hW0]; exact Blk.new _ _ _ rfl
  have hbw0 : Below w.heap.size w W0 := by rw [hW0]; go_grown
  have hzR : w.heap.size < W0.heap.size := B1.lt
  rw [← hW0]
  clear hW0
  have t0 : W0.cell? ⟨w.heap.size, 0, none⟩ = some (.int .i64 Wq) := (B1.cell 0).trans rfl
  have t1 : W0.cell? ⟨w.heap.size, 1, none⟩ = some (.int .i64 Hq) := (B1.cell 1).trans rfl
  have t2 : W0.cell? ⟨w.heap.size, 2, none⟩ = some (.slice Aq nq cq) := (B1.cell 2).trans rfl
  have HG0 := Lib.hid (HG.out.step hbw0)
  have HE0 := Lib.hid (HE.out.below hbw0)
  have HPA := Lib.hid (gpicture_any gb W H ts ps W0.drew (HG0.out.step (Below.here W0)) HT.out HNL.out hW hH)
  have HPB := Lib.hid (gpicture_any gb W H ts ps (W0.alloc (.cells #[.int .i64 0, .int .i64 0, .slice none 0 0] 24)).drew (HG0.out.step (((Below.refl W0.heap.size W0).alloc (Nat.le_refl _) (.cells #[.int .i64 0, .int .i64 0, .slice none 0 0] 24)).drew)) HT.out HNL.out hW hH)
  have HZS := Lib.hid (show W0.heap.size ≤ (W0.alloc (.cells #[.int .i64 0, .int .i64 0, .slice none 0 0] 24)).drew.heap.size by simp)
  have HZT := Lib.hid (show W0.heap.size < (W0.alloc (.cells #[.int .i64 0, .int .i64 0, .slice none 0 0] 24)).drew.heap.size by simp)
  go_region_held3 (fun w' => w'.cell? ⟨w.heap.size, 0, none⟩ = some (.int .i64 Wq) ∧ w'.cell? ⟨w.heap.size, 1, none⟩ = some (.int .i64 Hq) ∧ w'.cell? ⟨w.heap.size, 2, none⟩ = some (.slice Aq nq cq))
    ((go_split_ands
      refine ⟨?_, ?_, ?_⟩
      · ((repeat' (first | (with_reducible exact t0) | (with_reducible refine cell_set_other _ (ne_blk hzR _ _) ?_) | (with_reducible refine bkeep hbB ?_) | (with_reducible refine bkeep hbA ?_) | (with_reducible refine cell_past _ ?_))) <;> first | exact t0 | exact cell_past _ t0)
      · ((repeat' (first | (with_reducible exact t1) | (with_reducible refine cell_set_other _ (ne_blk hzR _ _) ?_) | (with_reducible refine bkeep hbB ?_) | (with_reducible refine bkeep hbA ?_) | (with_reducible refine cell_past _ ?_))) <;> first | exact t1 | exact cell_past _ t1)
      · ((repeat' (first | (with_reducible exact t2) | (with_reducible refine cell_set_other _ (ne_blk hzR _ _) ?_) | (with_reducible refine bkeep hbB ?_) | (with_reducible refine bkeep hbA ?_) | (with_reducible refine cell_past _ ?_))) <;> first | exact t2 | exact cell_past _ t2)))
    (first
      | (go_at_call 12; with_reducible refine HPA.out.mono ?_; rintro e wA ⟨A1, c1, rfl, hO1, hbA⟩; have hbI : Below W0.heap.size W0 wA := Below.fromDrew hbA; have hzA := hbI.size)
      | (go_at_call 12; with_reducible refine HPB.out.mono ?_; rintro e wA ⟨A1, c1, rfl, hO1, hbA⟩; have hbI : Below W0.heap.size W0 wA := (((Below.refl W0.heap.size W0).alloc (Nat.le_refl _) (.cells #[.int .i64 0, .int .i64 0, .slice none 0 0] 24)).drew).trans (hbA.mono HZS.out); have hzA := hbI.size; have kB : Blk wA W0.heap.size 24 #[.int .i64 0, .int .i64 0, .slice none 0 0] := (Blk.drew (Blk.new W0 _ _ rfl)).below hbA HZT.out)
      | (have kA := kB; go_at_call 37; refine (rstamp_bound W H A1 ps.length c1 Wq Hq Aq nq cq x y m E wA (HE0.out.below hbI) (right_nat hW hH HNL.out) HQ.out HB.out).mono ?_; rintro e wB ⟨rfl, hbB⟩; have kC := kA.below hbB kA.lt; have hzB := hbB.size; have kc := kC.cell; have kf := kC.free; have kl := kC.lt)
      | (have hcc := rstamp_bound W H A1 ps.length c1 Wq Hq Aq nq cq x y m E wA (HE0.out.below hbI) (right_nat hW hH HNL.out) HQ.out HB.out; go_at_call 37; with_reducible refine hcc.mono ?_; rintro e wB ⟨rfl, hbB⟩; have hzB := hbB.size)
      | (have kA := Blk.new wA 24 #[.int .i64 0, .int .i64 0, .slice none 0 0] rfl; have hcc := rstamp_bound W H A1 ps.length c1 Wq Hq Aq nq cq x y m E (wA.alloc (.cells #[.int .i64 0, .int .i64 0, .slice none 0 0] 24)) (HE0.out.below (hbI.alloc hbI.size _)) (right_nat hW hH HNL.out) HQ.out HB.out; go_at_call 37; with_reducible refine hcc.mono ?_; rintro e wB ⟨rfl, hbB⟩; have kC := kA.below hbB kA.lt; have hzB := hbB.size; have kc := kC.cell; have kf := kC.free; have kl := kC.lt; have hzR : w.heap.size < wA.heap.size := Nat.lt_of_lt_of_le hzR hzA))
  obtain ⟨W3, hW3⟩ : ∃ W3, W3 = wB.alloc (.cells #[.int .i64 0, .int .i64 0, .slice none 0 0] 24) := ⟨_, rfl⟩
  obtain ⟨g8, hg8⟩ : ∃ g8, g8 = wB.heap.size := ⟨_, rfl⟩
  have B8 : Blk W3 g8 24 #[.int .i64 0, .int .i64 0, .slice none 0 0] := by rw [hW3, hg8]; exact Blk.new _ _ _ rfl
  have hb3 : Below W0.heap.size W0 W3 := by rw [hW3]; exact (hbI.trans (hbB.mono hzA)).alloc (by omega) _
  rw [← hW3]
  try rw [← hg8]
  clear hW3 hg8
  rotate_left
  obtain ⟨W3, hW3⟩ : ∃ W3, W3 = (((wB.setCell ⟨wA.heap.size, 0, none⟩ (.int .i64 0)).setCell ⟨wA.heap.size, 1, none⟩ (.int .i64 0)).setCell ⟨wA.heap.size, 2, none⟩ (.slice none 0 0)) := ⟨_, rfl⟩
  obtain ⟨g8, hg8⟩ : ∃ g8, g8 = wA.heap.size := ⟨_, rfl⟩
  have B8 : Blk W3 g8 24 #[.int .i64 0, .int .i64 0, .slice none 0 0] := by
    rw [hW3, hg8]
    have := ((kC.set_ 0 (.int .i64 0)).set_ 1 (.int .i64 0)).set_ 2 (.slice none 0 0)
    simpa using this
  have hb3 : Below W0.heap.size W0 W3 := by
    rw [hW3]
    exact (((((hbI.alloc hbI.size _).trans (hbB.mono (by simp; omega))).setCell (by first | omega | (simp; done) | (simp; omega)) _).setCell (by first | omega | (simp; done) | (simp; omega)) _).setCell (by first | omega | (simp; done) | (simp; omega)) _)
  rw [← hW3, ← hg8]
  clear hW3 hg8 kA kC kc kf kl
  rotate_left
  obtain ⟨W3, hW3⟩ : ∃ W3, W3 = (((wB.setCell ⟨W0.heap.size, 0, none⟩ (.int .i64 0)).setCell ⟨W0.heap.size, 1, none⟩ (.int .i64 0)).setCell ⟨W0.heap.size, 2, none⟩ (.slice none 0 0)) := ⟨_, rfl⟩
  obtain ⟨g8, hg8⟩ : ∃ g8, g8 = W0.heap.size := ⟨_, rfl⟩
  have B8 : Blk W3 g8 24 #[.int .i64 0, .int .i64 0, .slice none 0 0] := by
    rw [hW3, hg8]
    have := ((kC.set_ 0 (.int .i64 0)).set_ 1 (.int .i64 0)).set_ 2 (.slice none 0 0)
    simpa using this
  have hb3 : Below W0.heap.size W0 W3 := by
    rw [hW3]
    exact ((((hbI.trans (hbB.mono hzA)).setCell (by first | omega | (simp; done) | (simp; omega)) _).setCell (by first | omega | (simp; done) | (simp; omega)) _).setCell (by first | omega | (simp; done) | (simp; omega)) _)
  rw [← hW3, ← hg8]
  clear hW3 hg8 kA kC kc kf kl
  rotate_left
  all_goals
    have hbw3 := hbw0.trans (hb3.mono hbw0.size)
    have b8 := B8.cell
    have l8 := B8.lt
    have C1 := B1.below hb3 B1.lt
    have d1 := C1.cell
    clear hbA hbB hbI hO1
    try unfold errV
    go_wp2_with fail
    go_ret2
    exact ⟨rfl, hbw3⟩

end Go.Proofs.YtcdbhcjiimdhhaaDoor
