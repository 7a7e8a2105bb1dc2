/- raster.each with Crop's closure; raster.in, check, Crop: the walks. -/
import Derived.Test.YtcdbhcjiimdhhaaDoorTileMem
import Derived.Test.YtcdbhcjiimdhhaaDoorBlank
import Derived.Test.YtcdbhcjiimdhhaaDoorAtRef
import Derived.Test.YtcdbhcjiimdhhaaDoorKeeps
import Derived.Deep.RegionLaw
import Derived.Deep.QuietTactic
import Derived.BigQuiet
namespace Go.Proofs.YtcdbhcjiimdhhaaDoor
open Go Go.RowKit

/-- What stands through each's loops. -/
structure EaR (W' H' : Nat) (w : World) (v : Value) (l : List Px) (wr : World) : Prop where
  b1 : Blk wr w.heap.size 24 #[.int .i64 0, .int .i64 0, .slice none 0 0]
  b5 : Blk wr (w.heap.size + 1) 24 #[.int .i64 W', .int .i64 H', v]
  own : Own wr (w.heap.size + 2) 4 v l.length (pxCells l)
  bel : Below w.heap.size w wr
section
variable {W' H' : Nat} {w wr w' : World} {v v' : Value} {l : List Px}
theorem EaR.step (h : EaR W' H' w v l wr) (hb : Below wr.heap.size wr w') : EaR W' H' w v l w' :=
  ⟨h.b1.below hb h.b1.lt, h.b5.below hb h.b5.lt, h.own.below hb (Nat.le_refl _), h.bel.trans (hb.mono (by have := h.b1.lt; omega))⟩
theorem EaR.n5 (h : EaR W' H' w v l wr) : v.ownBlock ≠ some (w.heap.size + 1) := fun e => by have := (h.own.lt _ e).1; omega
theorem EaR.push {wi wA wT : World} {q : Px} {o : Obj} (F : EaR W' H' w v l wi) (hb : Below wi.heap.size wi wA) (ho : Own wT (w.heap.size + 2) 4 v' (l.length + 1) (pxCells l ++ pxCs q))
    (hg : (wA.alloc o).grownBy wT v.ownBlock) : EaR W' H' w v' (l ++ [q]) (wT.setCell ⟨w.heap.size + 1, 2, none⟩ v') := by
  have F1 := (F.step hb).step (Below.alloc (Below.refl _ _) (Nat.le_refl _) o)
  have h1 := F1.b1.lt
  have h5 := F1.b5.lt
  have ne : ∀ g, g < w.heap.size + 2 → some g ≠ v.ownBlock := fun g hg' e => by have := (F1.own.lt g e.symm).1; omega
  have n5 : v'.ownBlock ≠ some (w.heap.size + 1) := fun e => by have := (ho.lt _ e).1; omega
  refine ⟨(F1.b1.grown hg (ne _ (by omega))).far (by simp) _, ?_, ?_, ?_⟩
  · have := (F1.b5.grown hg (ne _ (by omega))).set_ 2 v'
    simpa using this
  · rw [pxCells_append, List.length_append]
    simp only [pxCells, List.flatMap_cons, List.flatMap_nil, List.append_nil, List.length_singleton] at ho ⊢
    exact ho.setCell n5 _
  · exact (F1.bel.grown hg (by omega) (fun g e => by have := (F1.own.lt g e).1; omega)).setCell (by show w.heap.size ≤ w.heap.size + 1; omega) _
end

set_option maxRecDepth 100000 in
set_option maxHeartbeats 4000000 in
theorem eachCrop_any (W' H' : Nat) (c1 c2 : Value) (f : Nat → Nat → Px) (w : World) (hW : W' ≤ 256) (hH : H' ≤ 256)
    (how : ∀ (x y : Nat) (w' : World), x < W' → y < H' → Below w.heap.size w w' → Calls Tryd.prog 61 #[.int .i64 x, .int .i64 y, c1, c2] w' fun e w'' => e = .returned (.agg #[.int .u8 (f x y).r.toNat, .int .u8 (f x y).g.toNat, .int .u8 (f x y).b.toNat, .int .u8 (f x y).a.toNat]) ∧ Below w'.heap.size w' w'') :
    Calls Tryd.prog 58 #[.int .i64 W', .int .i64 H', .func (.func 61) #[] #[c1, c2]] w
      fun e w' => ∃ A' c', e = .returned (.agg #[.int .i64 W', .int .i64 H', .slice A' (H' * W') c']) ∧ Own w' w.heap.size 4 (.slice A' (H' * W') c') (H' * W') (pxCells (Lay.grid f W' H')) ∧ Below w.heap.size w w' := by
  obtain ⟨i0, hi, hz0, hz1, hz2⟩ := info_parts pxInfo
  have HOW := Lib.hid how
  clear how
  have HGL := Lib.hid (Lay.grid_length f W' H')
  go_enter Tryd.func58, Tryd.ntmps58
  go_wp2_with fail
  obtain ⟨w2, hw2⟩ : ∃ w2, w2 = (w.alloc (.cells #[.int .i64 0, .int .i64 0, .slice none 0 0] 24)).alloc (.cells #[.int .i64 W', .int .i64 H', .slice none 0 0] 24) := ⟨_, rfl⟩
  have F0 : EaR W' H' w (.slice none 0 0) [] w2 := by
    rw [hw2]
    exact ⟨(Blk.new _ _ _ rfl).alloc _, Blk.new _ _ _ (by simp), Own.nil _ _ _, by go_grown⟩
  rw [← hw2]
  clear hw2
  go_loopw [14] (fun i wr => ∃ (k : Nat) (v : Value), k ≤ H' ∧ i = .int .i64 k ∧ EaR W' H' w v (Lay.grid f W' k) wr) (fun i _ => H' - (intOf i).toNat)
  case atStart => exact ⟨0, _, Nat.zero_le _, rfl, F0⟩
  case round =>
    clear F0
    obtain ⟨k, v0, hk, rfl, F0⟩ := hrel
    obtain ⟨wo, rfl⟩ : ∃ wo : World, wo = wr := ⟨_, rfl⟩
    have c5 := F0.b5.cell
    have c1' := F0.b1.cell
    have f1 := F0.b1.free
    by_cases hlt : k < H'
    · go_wp2_with fail
      go_loopw [18] (fun i wr => ∃ (j : Nat) (v : Value), j ≤ W' ∧ i = .int .i64 j ∧ EaR W' H' w v (Lay.gridTo f W' k j) wr) (fun i _ => W' - (intOf i).toNat)
      case atStart => exact ⟨0, v0, Nat.zero_le _, rfl, by rw [Lay.gridTo_zero]; exact F0⟩
      case round =>
        clear F0 c5 c1' f1
        obtain ⟨j, v, hj, rfl, F⟩ := hrel
        obtain ⟨wi, rfl⟩ : ∃ wi : World, wi = wr := ⟨_, rfl⟩
        by_cases hjl : j < W'
        · obtain ⟨Av, cv, rfl, hcv, _⟩ := F.own.form
          have hlen := Lay.gridTo_length f W' k j
          have HS := Lib.hid (Lay.gridTo_succ f W' k j)
          obtain ⟨l, hl⟩ : ∃ l, l = Lay.gridTo f W' k j := ⟨_, rfl⟩
          rw [← hl] at F hlen HS
          have hll : l.length ≤ 131072 := by
            have := Nat.mul_le_mul hk hW
            have : H' * 256 ≤ 65536 := by omega
            omega
          have HL := Lib.hid hl
          clear hl hlen
          obtain ⟨q, hq⟩ : ∃ q, f j k = q := ⟨_, rfl⟩
          have HQ := Lib.hid hq
          clear hq
          have hcall := HOW.out j k wi.drew hjl hlt F.bel.drew
          rw [HQ.out] at hcall
          have HC := Lib.hid hcall
          clear hcall
          have s5 : wi.cell? ⟨w.heap.size + 1, 2, none⟩ = some (.slice Av l.length cv) := (F.b5.cell 2).trans rfl
          have h5l := F.b5.lt
          go_wp2_with fail
          have p5 := fun o => cell_past (w := wi) o s5
          go_region_law
            (first
              | (refine step_append_Own _ rfl (.tmp 22) (.tmp 27) 22 22 rfl (w.heap.size + 2) 41 i0 _ 4 4 Tryd.underlying22 hi hz0 hz1 hz2 rfl (by decide) (.slice Av l.length cv) l.length (pxCells l) rfl ((F.own.below (Below.fromDrew hbA) (Nat.le_refl _)).alloc _) (pxCells_one _) 1 (pxCs q) (Src.blk Tryd.underlying22 (Blk.new _ _ _ rfl) rfl (pxCells_one [q])) (by unfold maxLen; omega) (by omega) (by simp; omega) ?_; intro vT wT hownT hgT hatT; obtain ⟨AT, cT, rfl, hcT, _⟩ := hownT.form; have t5 : wT.cell? ⟨w.heap.size + 1, 2, none⟩ = some (.slice Av l.length cv) := (hgT.cell_far ⟨w.heap.size + 1, 2, none⟩ (by simp; omega) (fun e => F.n5 e.symm)).trans (cell_past _ (bkeep hbA s5)); have f5 : wT.frozen? ⟨w.heap.size + 1, 2, none⟩ = false := (hgT.frozen_far ⟨w.heap.size + 1, 2, none⟩ (by simp; omega) (fun e => F.n5 e.symm)).trans (free_past _ (by simp; omega) (bfree_ hbA h5l (F.b5.free 2))))
              | (go_simp; go_at_call 61; refine HC.out.mono ?_; rintro e wA ⟨rfl, hbA⟩; have hzA : wi.heap.size ≤ wA.heap.size := hbA.size; have a5 := bkeep hbA s5; have r5 := fun o => cell_past (w := wA) o a5))
          all_goals
            have F9 := F.push (Below.fromDrew hbA) hownT hgT
            have HF9 := Lib.hid F9
            clear F9 hownT hgT hatT t5 f5 a5 r5 p5 s5
            go_wp2_with fail
            go_roundw
            case rel => exact ⟨j + 1, _, by omega, by go_num, by rw [Lay.gridTo_succ, HQ.out, ← HL.out]; exact HF9.out⟩
            case measure => simp [intOf]; omega
        · go_wp2_with fail
          have e : j = W' := by omega
          subst e
          rw [Lay.gridTo_full] at F
          go_roundw
          case rel => exact ⟨k + 1, v, by omega, by go_num, F⟩
          case measure => simp [intOf]; omega
    · have e : k = H' := by omega
      rw [e] at F0
      have ho := F0.own
      rw [HGL.out] at ho
      obtain ⟨Av, cv, hv, hcv, _⟩ := ho.form
      subst hv
      have n1 : (Value.slice Av (H' * W') cv).ownBlock ≠ some w.heap.size := fun e => by have := (ho.lt _ e).1; omega
      have HO := Lib.hid ho
      have HN1 := Lib.hid n1
      clear ho n1 e
      go_wp2_with fail
      refine bodyPost_ret (v := .agg #[.int .i64 W', .int .i64 H', .slice Av (H' * W') cv]) (by simp [results, Tryd.results58, go_sem, c1']) rfl ⟨Av, cv, rfl, ?_, ?_⟩
      · exact (((HO.out.setCell HN1.out _).setCell HN1.out _).setCell HN1.out _).mono (by omega)
      · exact (((F0.bel.setCell (Nat.le_refl _) _).setCell (Nat.le_refl _) _).setCell (Nat.le_refl _) _)
end Go.Proofs.YtcdbhcjiimdhhaaDoor
