/- A grid's picture: the walk. -/
import Derived.Test.YtcdbhcjiimdhhaaDoorGridPix
namespace Go.Proofs.YtcdbhcjiimdhhaaDoor
open Go Go.RowKit

set_option maxRecDepth 100000 in
set_option maxHeartbeats 4000000 in
theorem gpicture_any (gb W H : Nat) (ts : List TM) (ps : List Px) (w : World) (hg : Gd w gb W H ts) (ht : TsOf ps W H ts) (hn : ps.length = H * W) (hW : 1 ≤ W ∧ W ≤ 256) (hH : 1 ≤ H ∧ H ≤ 256) :
    Calls Tryd.prog 12 #[.pointer (some ⟨gb, 0, none⟩)] w
      fun e w' => ∃ A' c', e = .returned (.agg #[.int .i64 W, .int .i64 H, .slice A' ps.length c']) ∧ Own w' w.heap.size 4 (.slice A' ps.length c') ps.length (pxCells ps) ∧ Below w.heap.size w w' := by
  obtain ⟨i0, hi, hz0, hz1, hz2⟩ := info_parts pxInfo
  obtain ⟨f, hf⟩ : ∃ f : Nat → Nat → Px, f = fun x y => ps.getD (y * W + x) default := ⟨_, rfl⟩
  have HGR := Lib.hid (show Lay.grid f W H = ps by rw [hf]; exact Til.grid_of ps W H hn)
  have HF := Lib.hid hf
  have HG := Lib.hid hg
  have HT := Lib.hid ht
  obtain ⟨hW1, hW2⟩ := hW
  obtain ⟨hH1, hH2⟩ := hH
  obtain ⟨A, c, hbG, _⟩ := hg.ex
  have HBG := Lib.hid hbG
  have hlg := hbG.lt
  have d0 : w.cell? ⟨gb, 0, none⟩ = some (.int .i64 W) := (hbG.cell 0).trans rfl
  have d1 : w.cell? ⟨gb, 1, none⟩ = some (.int .i64 H) := (hbG.cell 1).trans rfl
  have p0 := fun o => cell_past (w := w) o d0
  have p1 := fun o => cell_past (w := w) o d1
  have q0 := fun o o2 => cell_past (w := w.alloc o) o2 (cell_past (w := w) o d0)
  have q1 := fun o o2 => cell_past (w := w.alloc o) o2 (cell_past (w := w) o d1)
  clear hg ht hn hf hbG
  go_enter Tryd.func12, Tryd.ntmps12
  go_wp2_with fail
  go_region
  obtain ⟨w2, hw2⟩ : ∃ w2, w2 = ((w.alloc (.cells #[.int .i64 0, .int .i64 0, .slice none 0 0] 24)).alloc (.cells #[.int .i64 W, .int .i64 H, .slice none 0 0] 24)).drew := ⟨_, rfl⟩
  have F0 : EaR W H w (.slice none 0 0) [] w2 := by
    rw [hw2]
    exact ⟨((Blk.new _ _ _ rfl).alloc _).drew, (Blk.new _ _ _ (by simp)).drew, Own.nil _ _ _, (show Below w.heap.size w ((w.alloc (.cells #[.int .i64 0, .int .i64 0, .slice none 0 0] 24)).alloc (.cells #[.int .i64 W, .int .i64 H, .slice none 0 0] 24)) by go_grown).drew⟩
  rw [← hw2]
  clear hw2 p0 p1 q0 q1
  have e1 : w2.cell? ⟨gb, 1, none⟩ = some (.int .i64 H) := bkeep F0.bel d1
  go_wp2_with fail
  go_loopw [22] (fun i wr => ∃ (k : Nat) (v : Value), k ≤ H ∧ i = .int .i64 k ∧ EaR W H w v (Lay.grid f W k) wr) (fun i _ => H - (intOf i).toNat)
  case atStart => exact ⟨0, _, Nat.zero_le _, rfl, F0⟩
  case round =>
    clear F0 e1
    obtain ⟨k, v0, hk, rfl, F0⟩ := hrel
    obtain ⟨wo, rfl⟩ : ∃ wo : World, wo = wr := ⟨_, rfl⟩
    have e0 : wo.cell? ⟨gb, 0, none⟩ = some (.int .i64 W) := bkeep F0.bel d0
    have c5 := F0.b5.cell
    have c1' := F0.b1.cell
    have f1 := F0.b1.free
    by_cases hlt : k < H
    · go_wp2_with fail
      go_loopw [29] (fun i wr => ∃ (j : Nat) (v : Value), j ≤ W ∧ i = .int .i64 j ∧ EaR W H w v (Lay.gridTo f W k j) wr) (fun i _ => W - (intOf i).toNat)
      case atStart => exact ⟨0, v0, Nat.zero_le _, rfl, by rw [Lay.gridTo_zero]; exact F0⟩
      case round =>
        clear F0 c5 c1' f1 e0
        obtain ⟨j, v, hj, rfl, F⟩ := hrel
        obtain ⟨wi, rfl⟩ : ∃ wi : World, wi = wr := ⟨_, rfl⟩
        by_cases hjl : j < W
        · obtain ⟨Av, cv, rfl, hcv, _⟩ := F.own.form
          have hlen := Lay.gridTo_length f W k j
          obtain ⟨l, hl⟩ : ∃ l, l = Lay.gridTo f W k j := ⟨_, rfl⟩
          rw [← hl] at F hlen
          have hll : l.length ≤ 131072 := by
            have := Nat.mul_le_mul hk hW2
            have : H * 256 ≤ 65536 := by omega
            omega
          have HL := Lib.hid hl
          clear hl hlen
          obtain ⟨q, hq⟩ : ∃ q, f j k = q := ⟨_, rfl⟩
          have HQ := Lib.hid hq
          clear hq
          have HC := Lib.hid (gpixel_any gb W H ts ps j k q wi.drew ((HG.out.step F.bel).step (Below.here wi)) HT.out ⟨hW1, hW2⟩ ⟨hH1, hH2⟩ hjl hlt (by rw [← HQ.out, HF.out]))
          have s5 : wi.cell? ⟨w.heap.size + 1, 2, none⟩ = some (.slice Av l.length cv) := (F.b5.cell 2).trans rfl
          have h5l := F.b5.lt
          go_wp2_with fail
          have p5 := fun o => cell_past (w := wi) o s5
          go_region_law
            (first
              | (refine step_append_Own _ rfl (.tmp 33) (.tmp 38) 22 22 rfl (w.heap.size + 2) 41 i0 _ 4 4 Tryd.underlying22 hi hz0 hz1 hz2 rfl (by decide) (.slice Av l.length cv) l.length (pxCells l) rfl ((F.own.below (Below.fromDrew hbA) (Nat.le_refl _)).alloc _) (pxCells_one _) 1 (pxCs q) (Src.blk Tryd.underlying22 (Blk.new _ _ _ rfl) rfl (pxCells_one [q])) (by unfold maxLen; omega) (by omega) (by simp; omega) ?_; intro vT wT hownT hgT hatT; obtain ⟨AT, cT, rfl, hcT, _⟩ := hownT.form; have t5 : wT.cell? ⟨w.heap.size + 1, 2, none⟩ = some (.slice Av l.length cv) := (hgT.cell_far ⟨w.heap.size + 1, 2, none⟩ (by simp; omega) (fun e => F.n5 e.symm)).trans (cell_past _ (bkeep hbA s5)); have f5 : wT.frozen? ⟨w.heap.size + 1, 2, none⟩ = false := (hgT.frozen_far ⟨w.heap.size + 1, 2, none⟩ (by simp; omega) (fun e => F.n5 e.symm)).trans (free_past _ (by simp; omega) (bfree_ hbA h5l (F.b5.free 2))))
              | (go_simp; go_at_call 33; refine HC.out.mono ?_; rintro e wA ⟨rfl, hbA⟩; have hzA : wi.heap.size ≤ wA.heap.size := hbA.size; have a5 := bkeep hbA s5; have r5 := fun o => cell_past (w := wA) o a5))
          all_goals
            have F9 := F.push (Below.fromDrew hbA) hownT hgT
            have HF9 := Lib.hid F9
            clear F9 hownT hgT hatT t5 f5 a5 r5 p5 s5
            go_wp2_with fail
            go_roundw
            case rel => exact ⟨j + 1, _, by omega, by go_num, by rw [Lay.gridTo_succ, HQ.out, ← HL.out]; exact HF9.out⟩
            case measure => simp [intOf]; omega
        · go_wp2_with fail
          have e : j = W := by omega
          subst e
          rw [Lay.gridTo_full] at F
          go_roundw
          case rel => exact ⟨k + 1, v, by omega, by go_num, F⟩
          case measure => simp [intOf]; omega
    · have e : k = H := by omega
      rw [e] at F0
      have ho := F0.own
      rw [HGR.out] at ho
      obtain ⟨Av, cv, hv, hcv, _⟩ := ho.form
      subst hv
      have n1 : (Value.slice Av ps.length cv).ownBlock ≠ some w.heap.size := fun e => by have := (ho.lt _ e).1; omega
      have HO := Lib.hid ho
      have HN1 := Lib.hid n1
      clear ho n1 e
      go_wp2_with fail
      refine bodyPost_ret (v := .agg #[.int .i64 W, .int .i64 H, .slice Av ps.length cv]) (by simp [results, Tryd.results12, go_sem, c1']) rfl ⟨Av, cv, rfl, ?_, ?_⟩
      · exact (((HO.out.setCell HN1.out _).setCell HN1.out _).setCell HN1.out _).mono (by omega)
      · exact (((F0.bel.setCell (Nat.le_refl _) _).setCell (Nat.le_refl _) _).setCell (Nat.le_refl _) _)
end Go.Proofs.YtcdbhcjiimdhhaaDoor
