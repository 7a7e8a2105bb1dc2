/- raster.each with Crop's closure; raster.in, check, Crop: the walks. raster.in, check, Crop: the walks. raster.own: the walk. -/
import Derived.Test.YthohmpjoeffckaaGreatDoorTileMem
import Derived.Test.YthohmpjoeffckaaGreatDoorBase
import Derived.Test.YthohmpjoeffckaaGreatDoorMem
import Derived.Deep.RegionLaw
import Derived.Deep.QuietTactic
import Derived.BigQuiet
import Derived.Deep.RegionHeld3
namespace Go.Proofs.YthohmpjoeffckaaGreatDoor
open Go Go.RowKit

/-- What stands through each's loops. -/
structure EaR (W' H' : Nat) (w : World) (v : Value) (l : List Px) (wr : World) : Prop where
  b1 : Blk wr w.heap.size 24 #[.int .i64 0, .int .i64 0, .slice none 0 0]
  b5 : Blk wr (w.heap.size + 1) 24 #[.int .i64 W', .int .i64 H', v]
  own : Own wr (w.heap.size + 2) 4 v l.length (pxCells l)
  bel : Below w.heap.size w wr
section
variable {W' H' : Nat} {w wr w' : World} {v v' : Value} {l : List Px}
theorem EaR.step (h : EaR W' H' w v l wr) (hb : Below wr.heap.size wr w') : EaR W' H' w v l w' :=
  ⟨h.b1.below hb h.b1.lt, h.b5.below hb h.b5.lt, h.own.below hb (Nat.le_refl _), h.bel.trans (hb.mono (by have := h.b1.lt; omega))⟩
theorem EaR.n5 (h : EaR W' H' w v l wr) : v.ownBlock ≠ some (w.heap.size + 1) := fun e => by have := (h.own.lt _ e).1; omega
theorem EaR.push {wi wA wT : World} {q : Px} {o : Obj} (F : EaR W' H' w v l wi) (hb : Below wi.heap.size wi wA) (ho : Own wT (w.heap.size + 2) 4 v' (l.length + 1) (pxCells l ++ pxCs q))
    (hg : (wA.alloc o).grownBy wT v.ownBlock) : EaR W' H' w v' (l ++ [q]) (wT.setCell ⟨w.heap.size + 1, 2, none⟩ v') := by
  have F1 := (F.step hb).step (Below.alloc (Below.refl _ _) (Nat.le_refl _) o)
  have h1 := F1.b1.lt
  have h5 := F1.b5.lt
  have ne : ∀ g, g < w.heap.size + 2 → some g ≠ v.ownBlock := fun g hg' e => by have := (F1.own.lt g e.symm).1; omega
  have n5 : v'.ownBlock ≠ some (w.heap.size + 1) := fun e => by have := (ho.lt _ e).1; omega
  refine ⟨(F1.b1.grown hg (ne _ (by omega))).far (by simp) _, ?_, ?_, ?_⟩
  · have := (F1.b5.grown hg (ne _ (by omega))).set_ 2 v'
    simpa using this
  · rw [pxCells_append, List.length_append]
    simp only [pxCells, List.flatMap_cons, List.flatMap_nil, List.append_nil, List.length_singleton] at ho ⊢
    exact ho.setCell n5 _
  · exact (F1.bel.grown hg (by omega) (fun g e => by have := (F1.own.lt g e).1; omega)).setCell (by show w.heap.size ≤ w.heap.size + 1; omega) _
end

set_option maxRecDepth 100000 in
set_option maxHeartbeats 4000000 in
theorem eachCrop_any (W' H' : Nat) (c1 c2 : Value) (f : Nat → Nat → Px) (w : World) (hW : W' ≤ 256) (hH : H' ≤ 256)
    (how : ∀ (x y : Nat) (w' : World), x < W' → y < H' → Below w.heap.size w w' → Calls Tryz.prog 48 #[.int .i64 x, .int .i64 y, c1, c2] w' fun e w'' => e = .returned (.agg #[.int .u8 (f x y).r.toNat, .int .u8 (f x y).g.toNat, .int .u8 (f x y).b.toNat, .int .u8 (f x y).a.toNat]) ∧ Below w'.heap.size w' w'') :
    Calls Tryz.prog 47 #[.int .i64 W', .int .i64 H', .func (.func 48) #[] #[c1, c2]] w
      fun e w' => ∃ A' c', e = .returned (.agg #[.int .i64 W', .int .i64 H', .slice A' (H' * W') c']) ∧ Own w' w.heap.size 4 (.slice A' (H' * W') c') (H' * W') (pxCells (Lay.grid f W' H')) ∧ Below w.heap.size w w' := by
  obtain ⟨i0, hi, hz0, hz1, hz2⟩ := info_parts pxInfo
  have HOW := Lib.hid how
  clear how
  have HGL := Lib.hid (Lay.grid_length f W' H')
  go_enter Tryz.func47, Tryz.ntmps47
  go_wp2_with fail
  obtain ⟨w2, hw2⟩ : ∃ w2, w2 = (w.alloc (.cells #[.int .i64 0, .int .i64 0, .slice none 0 0] 24)).alloc (.cells #[.int .i64 W', .int .i64 H', .slice none 0 0] 24) := ⟨_, rfl⟩
  have F0 : EaR W' H' w (.slice none 0 0) [] w2 := by
    rw [hw2]
    exact ⟨(Blk.new _ _ _ rfl).alloc _, Blk.new _ _ _ (by simp), Own.nil _ _ _, by go_grown⟩
  rw [← hw2]
  clear hw2
  go_loopw [14] (fun i wr => ∃ (k : Nat) (v : Value), k ≤ H' ∧ i = .int .i64 k ∧ EaR W' H' w v (Lay.grid f W' k) wr) (fun i _ => H' - (intOf i).toNat)
  case atStart => exact ⟨0, _, Nat.zero_le _, rfl, F0⟩
  case round =>
    clear F0
    obtain ⟨k, v0, hk, rfl, F0⟩ := hrel
    obtain ⟨wo, rfl⟩ : ∃ wo : World, wo = wr := ⟨_, rfl⟩
    have c5 := F0.b5.cell
    have c1' := F0.b1.cell
    have f1 := F0.b1.free
    by_cases hlt : k < H'
    · go_wp2_with fail
      go_loopw [18] (fun i wr => ∃ (j : Nat) (v : Value), j ≤ W' ∧ i = .int .i64 j ∧ EaR W' H' w v (Lay.gridTo f W' k j) wr) (fun i _ => W' - (intOf i).toNat)
      case atStart => exact ⟨0, v0, Nat.zero_le _, rfl, by rw [Lay.gridTo_zero]; exact F0⟩
      case round =>
        clear F0 c5 c1' f1
        obtain ⟨j, v, hj, rfl, F⟩ := hrel
        obtain ⟨wi, rfl⟩ : ∃ wi : World, wi = wr := ⟨_, rfl⟩
        by_cases hjl : j < W'
        · obtain ⟨Av, cv, rfl, hcv, _⟩ := F.own.form
          have hlen := Lay.gridTo_length f W' k j
          have HS := Lib.hid (Lay.gridTo_succ f W' k j)
          obtain ⟨l, hl⟩ : ∃ l, l = Lay.gridTo f W' k j := ⟨_, rfl⟩
          rw [← hl] at F hlen HS
          have hll : l.length ≤ 131072 := by
            have := Nat.mul_le_mul hk hW
            have : H' * 256 ≤ 65536 := by omega
            omega
          have HL := Lib.hid hl
          clear hl hlen
          obtain ⟨q, hq⟩ : ∃ q, f j k = q := ⟨_, rfl⟩
          have HQ := Lib.hid hq
          clear hq
          have hcall := HOW.out j k wi.drew hjl hlt F.bel.drew
          rw [HQ.out] at hcall
          have HC := Lib.hid hcall
          clear hcall
          have s5 : wi.cell? ⟨w.heap.size + 1, 2, none⟩ = some (.slice Av l.length cv) := (F.b5.cell 2).trans rfl
          have h5l := F.b5.lt
          go_wp2_with fail
          have p5 := fun o => cell_past (w := wi) o s5
          go_region_law
            (first
              | (refine step_append_Own _ rfl (.tmp 22) (.tmp 27) 22 22 rfl (w.heap.size + 2) 47 i0 _ 4 4 Tryz.underlying22 hi hz0 hz1 hz2 rfl (by decide) (.slice Av l.length cv) l.length (pxCells l) rfl ((F.own.below (Below.fromDrew hbA) (Nat.le_refl _)).alloc _) (pxCells_one _) 1 (pxCs q) (Src.blk Tryz.underlying22 (Blk.new _ _ _ rfl) rfl (pxCells_one [q])) (by unfold maxLen; omega) (by omega) (by simp; omega) ?_; intro vT wT hownT hgT hatT; obtain ⟨AT, cT, rfl, hcT, _⟩ := hownT.form; have t5 : wT.cell? ⟨w.heap.size + 1, 2, none⟩ = some (.slice Av l.length cv) := (hgT.cell_far ⟨w.heap.size + 1, 2, none⟩ (by simp; omega) (fun e => F.n5 e.symm)).trans (cell_past _ (bkeep hbA s5)); have f5 : wT.frozen? ⟨w.heap.size + 1, 2, none⟩ = false := (hgT.frozen_far ⟨w.heap.size + 1, 2, none⟩ (by simp; omega) (fun e => F.n5 e.symm)).trans (free_past _ (by simp; omega) (bfree_ hbA h5l (F.b5.free 2))))
              | (go_simp; go_at_call 48; refine HC.out.mono ?_; rintro e wA ⟨rfl, hbA⟩; have hzA : wi.heap.size ≤ wA.heap.size := hbA.size; have a5 := bkeep hbA s5; have r5 := fun o => cell_past (w := wA) o a5))
          all_goals
            have F9 := F.push (Below.fromDrew hbA) hownT hgT
            have HF9 := Lib.hid F9
            clear F9 hownT hgT hatT t5 f5 a5 r5 p5 s5
            go_wp2_with fail
            go_roundw
            case rel => exact ⟨j + 1, _, by omega, by go_num, by rw [Lay.gridTo_succ, HQ.out, ← HL.out]; exact HF9.out⟩
            case measure => simp [intOf]; omega
        · go_wp2_with fail
          have e : j = W' := by omega
          subst e
          rw [Lay.gridTo_full] at F
          go_roundw
          case rel => exact ⟨k + 1, v, by omega, by go_num, F⟩
          case measure => simp [intOf]; omega
    · have e : k = H' := by omega
      rw [e] at F0
      have ho := F0.own
      rw [HGL.out] at ho
      obtain ⟨Av, cv, hv, hcv, _⟩ := ho.form
      subst hv
      have n1 : (Value.slice Av (H' * W') cv).ownBlock ≠ some w.heap.size := fun e => by have := (ho.lt _ e).1; omega
      have HO := Lib.hid ho
      have HN1 := Lib.hid n1
      clear ho n1 e
      go_wp2_with fail
      refine bodyPost_ret (v := .agg #[.int .i64 W', .int .i64 H', .slice Av (H' * W') cv]) (by simp [results, Tryz.results47, go_sem, c1']) rfl ⟨Av, cv, rfl, ?_, ?_⟩
      · exact (((HO.out.setCell HN1.out _).setCell HN1.out _).setCell HN1.out _).mono (by omega)
      · exact (((F0.bel.setCell (Nat.le_refl _) _).setCell (Nat.le_refl _) _).setCell (Nat.le_refl _) _)
end Go.Proofs.YthohmpjoeffckaaGreatDoor
namespace Go.Proofs.YthohmpjoeffckaaGreatDoor
open Go Go.RowKit

set_option maxRecDepth 100000 in
theorem rin_any (W H x y : Int) (A : Option Addr) (n c : Nat) (w : World) :
    Calls Tryz.prog 45 #[.agg #[.int .i64 W, .int .i64 H, .slice A n c], .int .i64 x, .int .i64 y] w fun e w' => e = .returned (.bool (Lay.inP W H x y)) ∧ Below w.heap.size w w' := by
  rcases (show x < 0 ∨ (0 ≤ x ∧ W ≤ x) ∨ (0 ≤ x ∧ x < W ∧ y < 0) ∨ (0 ≤ x ∧ x < W ∧ 0 ≤ y ∧ H ≤ y) ∨ (0 ≤ x ∧ x < W ∧ 0 ≤ y ∧ y < H) by omega) with h1 | ⟨h1, h2⟩ | ⟨h1, h2, h3⟩ | ⟨h1, h2, h3, h4⟩ | ⟨h1, h2, h3, h4⟩
  all_goals
    go_enter Tryz.func45, Tryz.ntmps45
    go_wp2_with fail
    go_ret
  all_goals exact ⟨by first | (simp [Lay.inP]; done) | (simp [Lay.inP]; omega), by go_grown⟩

set_option maxRecDepth 100000 in
theorem rcheck_fine (W H : Int) (A : Option Addr) (n c : Nat) (w : World) (h : rightB W H n = true) :
    Calls Tryz.prog 46 #[.agg #[.int .i64 W, .int .i64 H, .slice A n c], .bool true] w fun e w' => e = .returned .nilIface ∧ Below w.heap.size w w' := by
  go_enter Tryz.func46, Tryz.ntmps46
  go_wp2_with fail
  refine (rright_any W H A n c _).mono ?_
  rw [h]
  rintro e w1 ⟨rfl, hb1⟩
  have hb := Below.trans (show Below w.heap.size w (w.alloc (.cells #[.int .i64 W, .int .i64 H, .slice A n c] 24)) by go_grown) (hb1.mono (by simp))
  clear hb1
  go_wp2_with fail
  go_ret
  exact ⟨rfl, hb⟩

set_option maxRecDepth 100000 in
set_option maxHeartbeats 1000000 in
theorem crop1_any (W H : Int) (A : Option Addr) (n c : Nat) (ps : List Px) (r : Til.R) (pb rb : Nat) (x y k : Nat) (q : Px) (w : World) (b1 : Blk w pb 24 #[.int .i64 W, .int .i64 H, .slice A n c]) (b2 : Blk w rb 52 #[.int .i64 r.x, .int .i64 r.y, .int .i64 r.w, .int .i64 r.h])
    (hp : Reads w w.heap.size 4 A n (pxCells ps)) (hq : ps[k]? = some q) (hyb : 0 ≤ ((y + r.y : Nat) : Int) * W ∧ ((y + r.y : Nat) : Int) * W ≤ 1048576) (hxb : x + r.x ≤ 1048576) (hyy : y + r.y ≤ 1048576) (hk : ((y + r.y : Nat) : Int) * W + ((x + r.x : Nat) : Int) = k) :
    Calls Tryz.prog 48 #[.int .i64 x, .int .i64 y, .pointer (some ⟨pb, 0, none⟩), .pointer (some ⟨rb, 0, none⟩)] w
      fun e w' => e = .returned (.agg #[.int .u8 q.r.toNat, .int .u8 q.g.toNat, .int .u8 q.b.toNat, .int .u8 q.a.toNat]) ∧ Below w.heap.size w w' := by
  obtain ⟨hl, hlq⟩ := List.getElem?_eq_some_iff.1 hq
  obtain rfl := hp.pxLen
  obtain ⟨b, off, rfl, hb⟩ := hp.addr (by omega)
  have c1 := fun o => (b1.alloc o).cell
  have c2 := fun o => (b2.alloc o).cell
  have c1 := c1 (.cells #[.int .u8 0, .int .u8 0, .int .u8 0, .int .u8 0] 47)
  have c2 := c2 (.cells #[.int .u8 0, .int .u8 0, .int .u8 0, .int .u8 0] 47)
  obtain ⟨y0, y1, y2, y3⟩ := (hp.alloc (Nat.le_refl _) (.cells #[.int .u8 0, .int .u8 0, .int .u8 0, .int .u8 0] 47)).px k hl
  rw [hlq] at y0 y1 y2 y3
  have l1 := b1.lt
  have l2 := b2.lt
  obtain ⟨yy, hy⟩ : ∃ yy : Int, ((y + r.y : Nat) : Int) = yy := ⟨_, rfl⟩
  rw [hy] at hyb hk
  obtain ⟨z, hz⟩ : ∃ z, yy * W = z := ⟨_, rfl⟩
  rw [hz] at hyb hk
  have e1 : (y : Int) + (r.y : Int) = yy := by rw [← hy]; omega
  have e2 : z + (x : Int) + (r.x : Int) = (k : Int) := by omega
  have hw1 : IntKind.i64.wrap ((y : Int) + (r.y : Int)) = yy := by rw [e1]; exact IntWalk.i64_in _ (by omega)
  have hw2 : IntKind.i64.wrap (yy * W) = z := by rw [hz]; exact IntWalk.i64_in _ (by omega)
  have hw3 : IntKind.i64.wrap (z + (x : Int)) = z + (x : Int) := IntWalk.i64_in _ (by omega)
  have hw4 : IntKind.i64.wrap (z + (x : Int) + (r.x : Int)) = (k : Int) := by rw [e2]; exact IntWalk.i64_in _ (by omega)
  have k0 : (0 : Int) ≤ (k : Int) := by omega
  have k1 : (k : Int) < (ps.length : Int) := by omega
  clear hlq hq hy hk hp b1 b2
  go_enter Tryz.func48, Tryz.ntmps48
  go_wp2_with fail
  refine bodyPost_ret (v := .agg #[.int .u8 q.r.toNat, .int .u8 q.g.toNat, .int .u8 q.b.toNat, .int .u8 q.a.toNat]) (by simp [results, Tryz.results48, go_sem]) rfl ⟨rfl, by go_grown⟩

set_option maxRecDepth 100000 in
set_option maxHeartbeats 2000000 in
theorem crop_any (W H : Nat) (A : Option Addr) (n c : Nat) (ps : List Px) (r : Til.R) (w : World) (hp : Reads w w.heap.size 4 A n (pxCells ps)) (hW : W ≤ 256) (hH : H ≤ 256) (hn : ps.length = H * W) (hr : Til.In W H r) :
    Calls Tryz.prog 31 #[.agg #[.int .i64 W, .int .i64 H, .slice A n c], .agg #[.int .i64 r.x, .int .i64 r.y, .int .i64 r.w, .int .i64 r.h]] w
      fun e w' => ∃ A' c', e = .returned (.tuple #[.agg #[.int .i64 r.w, .int .i64 r.h, .slice A' (r.h * r.w) c'], .nilIface]) ∧ Own w' w.heap.size 4 (.slice A' (r.h * r.w) c') (r.h * r.w) (pxCells (Til.crop ps W r)) ∧ Below w.heap.size w w' := by
  have hpl := hp.pxLen
  have HRI := Lib.hid hr
  obtain ⟨rw1, rw16, rh1, rh16, rxw, ryh⟩ := hr
  have HRB := Lib.hid (show rightB (W : Int) (H : Int) n = true by
    have h1 : sideB (W : Int) = true := by simp [sideB]; omega
    have h2 : sideB (H : Int) = true := by simp [sideB]; omega
    simp only [rightB, h1, h2, Bool.true_and]
    rw [hpl, hn, Int.natCast_mul, Int.mul_comm]
    simp)
  have HIN := Lib.hid (show Lay.inP (W : Int) (H : Int) (r.x : Int) (r.y : Int) = true by simp [Lay.inP]; omega)
  have HP := Lib.hid hp
  have HN := Lib.hid hn
  have HPL := Lib.hid hpl
  have d1 : (1 : Int) ≤ (r.w : Int) := by omega
  have d2 : (1 : Int) ≤ (r.h : Int) := by omega
  have d3 : (r.w : Int) ≤ (W : Int) - (r.x : Int) := by omega
  have d4 : (r.h : Int) ≤ (H : Int) - (r.y : Int) := by omega
  clear hp hn hpl
  go_enter Tryz.func31, Tryz.ntmps31
  go_wp2_with fail
  refine (rin_any W H r.x r.y A n c _).mono ?_
  rw [HIN.out]
  rintro e w1 ⟨rfl, hb1⟩
  have B1 := (((Blk.new w 24 #[.int .i64 W, .int .i64 H, .slice A n c] rfl).alloc (.cells #[.int .i64 r.x, .int .i64 r.y, .int .i64 r.w, .int .i64 r.h] 52)).alloc (.cells #[.int .i64 0, .int .i64 0, .slice none 0 0] 24)).below hb1 (by simp; omega)
  have B2 := ((Blk.new (w.alloc (.cells #[.int .i64 W, .int .i64 H, .slice A n c] 24)) 52 #[.int .i64 r.x, .int .i64 r.y, .int .i64 r.w, .int .i64 r.h] (g := w.heap.size + 1) (by simp)).alloc (.cells #[.int .i64 0, .int .i64 0, .slice none 0 0] 24)).below hb1 (by simp)
  have B3 := (Blk.new ((w.alloc (.cells #[.int .i64 W, .int .i64 H, .slice A n c] 24)).alloc (.cells #[.int .i64 r.x, .int .i64 r.y, .int .i64 r.w, .int .i64 r.h] 52)) 24 #[.int .i64 0, .int .i64 0, .slice none 0 0] (g := w.heap.size + 1 + 1) (by simp)).below hb1 (by simp)
  have hbw : Below w.heap.size w w1 := Below.trans (by go_grown) (hb1.mono (by simp; omega))
  have c1 := B1.cell
  have c2 := B2.cell
  clear hb1
  go_wp2_with fail
  refine (rcheck_fine W H A n c _ HRB.out).mono ?_
  rintro e w2 ⟨rfl, hb2⟩
  have C1 := B1.below hb2 B1.lt
  have C2 := B2.below hb2 B2.lt
  have C3 := B3.below hb2 B3.lt
  have hbw2 := hbw.trans (hb2.mono hbw.size)
  have e1 := C1.cell
  have e2 := C2.cell
  clear hb2 c1 c2 B1 B2 B3 hbw
  have RP := Lib.hid ((HP.out.below hbw2 (Nat.le_refl _)).more hbw2.size)
  have HOW := Lib.hid (show ∀ (x y : Nat) (w' : World), x < r.w → y < r.h → Below w2.heap.size w2 w' → Calls Tryz.prog 48 #[.int .i64 x, .int .i64 y, .pointer (some ⟨w.heap.size, 0, none⟩), .pointer (some ⟨w.heap.size + 1, 0, none⟩)] w' fun e w'' => e = .returned (.agg #[.int .u8 (ps.getD ((y + r.y) * W + (x + r.x)) default).r.toNat, .int .u8 (ps.getD ((y + r.y) * W + (x + r.x)) default).g.toNat, .int .u8 (ps.getD ((y + r.y) * W + (x + r.x)) default).b.toNat, .int .u8 (ps.getD ((y + r.y) * W + (x + r.x)) default).a.toNat]) ∧ Below w'.heap.size w' w'' from fun x y w' hx hy hb => by
    have hsl := Til.index_lt (show x + r.x < W by omega) (show y + r.y < H by omega)
    have hb5 := Nat.mul_le_mul (show y + r.y ≤ 256 by omega) hW
    rw [← HN.out] at hsl
    refine crop1_any W H A n c ps r w.heap.size (w.heap.size + 1) x y ((y + r.y) * W + (x + r.x)) _ w' (C1.below hb C1.lt) (C2.below hb C2.lt) ((RP.out.below hb (Nat.le_refl _)).more hb.size) (by rw [List.getD_eq_getElem?_getD, List.getElem?_eq_getElem hsl]; rfl) ?_ (by omega) (by omega) ?_
    · rw [← Int.natCast_mul]; omega
    · rw [Int.natCast_add ((y + r.y) * W) (x + r.x), Int.natCast_mul (y + r.y) W])
  go_wp2_with fail
  refine (eachCrop_any r.w r.h _ _ (fun x y => ps.getD ((y + r.y) * W + (x + r.x)) default) _ (by omega) (by omega) HOW.out).mono ?_
  rintro e w3 ⟨A', c', rfl, hO, hb3⟩
  have D3 := C3.below hb3 C3.lt
  have hbw3 := hbw2.trans (hb3.mono hbw2.size)
  have f3 := D3.cell
  have g3 := D3.free
  have hz : w.heap.size ≤ w.heap.size + 1 + 1 := by omega
  have l3 := C3.lt
  have n1 : (Value.slice A' (r.h * r.w) c').ownBlock ≠ some (w.heap.size + 1 + 1) := fun e => by have := (hO.lt _ e).1; omega
  have HO := Lib.hid hO
  have HN1 := Lib.hid n1
  clear hO n1 hb3 e1 e2
  go_wp2_with fail
  refine bodyPost_ret (v := .tuple #[.agg #[.int .i64 r.w, .int .i64 r.h, .slice A' (r.h * r.w) c'], .nilIface]) (by simp [results, Tryz.results31, go_sem, f3]) rfl ⟨A', c', rfl, ?_, ?_⟩
  · exact (((HO.out.setCell HN1.out _).setCell HN1.out _).setCell HN1.out _).mono hbw2.size
  · exact (((hbw3.setCell hz _).setCell hz _).setCell hz _)
end Go.Proofs.YthohmpjoeffckaaGreatDoor
namespace Go.Proofs.YthohmpjoeffckaaGreatDoor
open Go Go.RowKit

end Go.Proofs.YthohmpjoeffckaaGreatDoor
