/- (png.reader).pixels where a pixel is four bytes; png.Colors: the walks. Printed by mk.py. -/
import Derived.Test.YtkegkelaffohjaaGreatDoorQCFilmTwicePngUn
import Derived.Deep.RegionLaw
namespace Go.Proofs.YtkegkelaffohjaaGreatDoor
open Go Go.RowKit
theorem Pak.pixels_four (s : List UInt8) (i : Nat) (h : i + 4 ≤ s.length) : Pak.pixels (s.drop i) = ⟨s[i], s[i + 1], s[i + 2], s[i + 3]⟩ :: Pak.pixels (s.drop (i + 4)) := by
 rw [List.drop_eq_getElem_cons (by omega), List.drop_eq_getElem_cons (show i + 1 < s.length by omega), List.drop_eq_getElem_cons (show i + 1 + 1 < s.length by omega), List.drop_eq_getElem_cons (show i + 1 + 1 + 1 < s.length by omega)]
 rfl
theorem zero_int_ (w : World) : (zeroValue 3).run Tryz.prog w = .ok (.int .i64 0) w := by kernel_rfl
theorem row_at {s row : ByteArray} {a b j i : Nat} (hr : s.extract a b = row) (hj : j < row.size) (hi : i < (lst s).length) (e : i = a + j) (hjb : j < b - a) : row[j] = (lst s)[i] := by
 have h1 : (lst row)[j]? = (lst s)[i]? := by rw [← hr, lst_extract, List.getElem?_take_of_lt hjb, List.getElem?_drop, e]
 rw [List.getElem?_eq_getElem (by rw [lst_length]; exact hj), List.getElem?_eq_getElem hi] at h1
 exact Option.some.inj h1
structure PpxR (w : World) (gr W H : Nat) (acc : List Px) (v : Value) (wr : World) : Prop where
 r0 : wr.cell? ⟨gr, 0, none⟩ = some (.int .i64 W)
 r1 : wr.cell? ⟨gr, 1, none⟩ = some (.int .i64 H)
 r3 : wr.cell? ⟨gr, 3, none⟩ = some (.int .i64 6)
 b6 : Blk wr w.heap.size 44 #[.int .i64 0, .int .i64 0, .slice none 0 0]
 b8 : Blk wr (w.heap.size + 1) 44 #[.int .i64 W, .int .i64 H, v]
 own : Own wr (w.heap.size + 2) 4 v acc.length (pxCells acc)
 bel : Below w.heap.size w wr
section
variable {w wi wA wT : World} {gr W H : Nat} {acc : List Px} {v v' : Value} {q : Px} {o : Obj}
theorem PpxR.step (F : PpxR w gr W H acc v wi) (hb : Below wi.heap.size wi wA) : PpxR w gr W H acc v wA := by
 have h1 := F.b8.lt
 exact ⟨bkeep hb F.r0, bkeep hb F.r1, bkeep hb F.r3, F.b6.below hb F.b6.lt, F.b8.below hb F.b8.lt, F.own.below hb (Nat.le_refl _), F.bel.trans (hb.mono F.bel.size)⟩
theorem PpxR.push (F : PpxR w gr W H acc v wi) (hgr : gr < w.heap.size) (hb : Below wi.heap.size wi wA) (ho : Own wT (w.heap.size + 2) 4 v' (acc.length + 1) (pxCells acc ++ pxCs q))
  (hg : (wA.alloc o).drew.grownBy wT v.ownBlock) (hat : v'.ownBlock = v.ownBlock ∨ v'.ownBlock = some (wA.alloc o).drew.heap.size) : PpxR w gr W H (acc ++ [q]) v' (wT.setCell ⟨w.heap.size + 1, 2, none⟩ v') := by
 have F1 := (F.step hb).step (Below.drew (Below.alloc (Below.refl _ _) (Nat.le_refl _) o))
 have h6 := F1.b6.lt
 have h8 := F1.b8.lt
 have ne : ∀ g, g < w.heap.size + 2 → some g ≠ v.ownBlock := fun g hg' e => by have := (F1.own.lt g e.symm).1; omega
 have n5 : v'.ownBlock ≠ some (w.heap.size + 1) := by
  intro e
  rcases hat with h | h <;> rw [h] at e
  ·exact ne _ (by omega) e.symm
  ·injection e with e
   omega
 have far : ∀ k u, (wA.alloc o).cell? ⟨gr, k, none⟩ = some u → (wT.setCell ⟨w.heap.size + 1, 2, none⟩ v').cell? ⟨gr, k, none⟩ = some u := fun k u h =>
  cell_set_other _ (ne_blk (by omega) _ _) ((hg.cell_far ⟨gr, k, none⟩ (by show gr < _; omega) (ne _ (by show gr < _; omega))).trans h)
 refine ⟨far _ _ F1.r0, far _ _ F1.r1, far _ _ F1.r3, (F1.b6.grown hg (ne _ (by omega))).far (by simp) _, ?_, ?_, ?_⟩
 ·have := (F1.b8.grown hg (ne _ (by omega))).set_ 2 v'
  simpa using this
 ·rw [pxCells_append, List.length_append]
  simp only [pxCells, List.flatMap_cons, List.flatMap_nil, List.append_nil, List.length_singleton] at ho ⊢
  exact ho.setCell n5 _
 ·exact (F1.bel.grown hg (by omega) (fun g e => by have := (F1.own.lt g e).1; omega)).setCell (by show w.heap.size ≤ w.heap.size + 1; omega) _
end
theorem PpxR.init {w : World} {gr W H : Nat} (hr0 : w.cell? ⟨gr, 0, none⟩ = some (.int .i64 W)) (hr1 : w.cell? ⟨gr, 1, none⟩ = some (.int .i64 H)) (hr3 : w.cell? ⟨gr, 3, none⟩ = some (.int .i64 6)) :
  PpxR w gr W H [] (.slice none 0 0) ((((((w.alloc (.cells #[.int .i64 0, .int .i64 0, .slice none 0 0] 44)).alloc (.cells #[.int .i64 0, .int .i64 0, .slice none 0 0] 44)).drew).setCell ⟨w.heap.size + 1, 0, none⟩ (.int .i64 W)).setCell ⟨w.heap.size + 1, 1, none⟩ (.int .i64 H)).setCell ⟨w.heap.size + 1, 2, none⟩ (.slice none 0 0)) := by
 have hgr : gr < w.heap.size := cell_lt hr0
 have B6 := ((Blk.new w 44 #[.int .i64 0, .int .i64 0, .slice none 0 0] rfl).alloc (.cells #[.int .i64 0, .int .i64 0, .slice none 0 0] 44)).drew
 have B8 := (Blk.new (w.alloc (.cells #[.int .i64 0, .int .i64 0, .slice none 0 0] 44)) 44 #[.int .i64 0, .int .i64 0, .slice none 0 0] (g := w.heap.size + 1) (by simp)).drew
 have kb : Below w.heap.size w ((w.alloc (.cells #[.int .i64 0, .int .i64 0, .slice none 0 0] 44)).alloc (.cells #[.int .i64 0, .int .i64 0, .slice none 0 0] 44)).drew := (((Below.refl _ _).alloc (Nat.le_refl _) _).alloc (by simp) _).drew
 have z0 := bkeep kb hr0
 have z1 := bkeep kb hr1
 have z3 := bkeep kb hr3
 generalize ((w.alloc (.cells #[.int .i64 0, .int .i64 0, .slice none 0 0] 44)).alloc (.cells #[.int .i64 0, .int .i64 0, .slice none 0 0] 44)).drew = wa at *
 have far : ∀ k u, wa.cell? ⟨gr, k, none⟩ = some u → (((wa.setCell ⟨w.heap.size + 1, 0, none⟩ (.int .i64 W)).setCell ⟨w.heap.size + 1, 1, none⟩ (.int .i64 H)).setCell ⟨w.heap.size + 1, 2, none⟩ (.slice none 0 0)).cell? ⟨gr, k, none⟩ = some u := fun k u h =>
  cell_set_other _ (ne_blk (by omega) _ _) (cell_set_other _ (ne_blk (by omega) _ _) (cell_set_other _ (ne_blk (by omega) _ _) h))
 have hq : ∀ j, w.heap.size ≤ (⟨w.heap.size + 1, j, none⟩ : Addr).block := fun _ => by show w.heap.size ≤ w.heap.size + 1; omega
 refine ⟨far _ _ z0, far _ _ z1, far _ _ z3, ((B6.far (by simp) _).far (by simp) _).far (by simp) _, ?_, Own.nil _ _ _, ((kb.setCell (hq 0) _).setCell (hq 1) _).setCell (hq 2) _⟩
 have := ((B8.set_ 0 (.int .i64 W)).set_ 1 (.int .i64 H)).set_ 2 (.slice none 0 0)
 simpa using this
set_option maxHeartbeats 8000000 in
set_option maxRecDepth 100000 in
theorem ppix_any (gr W H : Nat) (s : ByteArray) (w : World) (hr0 : w.cell? ⟨gr, 0, none⟩ = some (.int .i64 W)) (hr1 : w.cell? ⟨gr, 1, none⟩ = some (.int .i64 H)) (hr3 : w.cell? ⟨gr, 3, none⟩ = some (.int .i64 6))
  (hW : W ≤ 256) (hH : H ≤ 256) (hs : s.size = H * (4 * W)) :
  Calls Tryz.prog 50 #[.pointer (some ⟨gr, 0, none⟩), .string s, .int .i64 (4 * W : Nat)] w fun e w' => ∃ A c, e = .returned (.tuple #[.agg #[.int .i64 W, .int .i64 H, .slice A (Pak.pixels (lst s)).length c], .bool true]) ∧ Own w' w.heap.size 4 (.slice A (Pak.pixels (lst s)).length c) (Pak.pixels (lst s)).length (pxCells (Pak.pixels (lst s))) ∧ Below w.heap.size w w' := by
 obtain ⟨i0, hi, hz0, hz1, hz2⟩ := info_parts pxInfo
 obtain ⟨P, hP⟩ : ∃ P, P = Pak.pixels (lst s) := ⟨_, rfl⟩
 rw [← hP]
 have hgr : gr < w.heap.size := cell_lt hr0
 obtain ⟨V, hV⟩ : ∃ V, V = 4 * W := ⟨_, rfl⟩
 rw [← hV] at hs ⊢
 have HP := Lib.hid hP
 have HV := Lib.hid hV
 have HS := Lib.hid hs
 clear hP hV hs
 go_enter Tryz.func50, Tryz.ntmps50
 go_upto_region 1 with (fail)
 have HI := Lib.hid (PpxR.init hr0 hr1 hr3)
 have HGR := Lib.hid (show gr < w.heap.size + 1 by omega)
 have s0 : (w.alloc (.cells #[.int .i64 0, .int .i64 0, .slice none 0 0] 44)).cell? ⟨gr, 0, none⟩ = some (.int .i64 W) := cell_past _ hr0
 have s1 : (w.alloc (.cells #[.int .i64 0, .int .i64 0, .slice none 0 0] 44)).cell? ⟨gr, 1, none⟩ = some (.int .i64 H) := cell_past _ hr1
 clear hr0 hr1 hr3
 refine wp_region_held_drew (S := (fun w' => w'.cell? ⟨gr, 0, none⟩ = some (.int .i64 W) ∧ w'.cell? ⟨gr, 1, none⟩ = some (.int .i64 H))) (by kernel_rfl) ?_ (fun hHeld => ?_)
 ·exact ⟨s0, s1⟩
 refine opT 0 rfl ?_; refine opT 1 rfl ?_; refine opT 2 rfl ?_; refine opT 3 rfl ?_; refine opT 4 rfl ?_; refine opT 5 rfl ?_; refine opT 6 rfl ?_; refine opT 7 rfl ?_; refine opT 8 rfl ?_
 refine opD 9 rfl (fun K hK => ?_)
 go_simp
 refine hK.out _ _ ?_ (fun hHeld => ?_)
 ·exact ⟨cell_past _ hHeld.1, cell_past _ hHeld.2⟩
 clear hK K
 (try simp only [Act.put, nz1, nz2, nz3, nz4, nz5, nz6])
 have B8 := (Blk.new (w.alloc (.cells #[.int .i64 0, .int .i64 0, .slice none 0 0] 44)) 44 #[.int .i64 0, .int .i64 0, .slice none 0 0] (g := w.heap.size + 1) (by simp)).drew
 generalize hwa : ((w.alloc (.cells #[.int .i64 0, .int .i64 0, .slice none 0 0] 44)).alloc (.cells #[.int .i64 0, .int .i64 0, .slice none 0 0] 44)).drew = wa at *
 clear hwa
 refine opD 10 rfl (fun K hK => ?_)
 have c80 := B8.cell 0
 have c81 := B8.cell 1
 have c82 := B8.cell 2
 have f80 := B8.free 0
 have f81 := B8.free 1
 have f82 := B8.free 2
 clear B8
 go_simp
 refine hK.out _ _ ?_ (fun hHeld => ?_)
 ·exact ⟨cell_set_other _ (ne_blk HGR.out _ _) (cell_set_other _ (ne_blk HGR.out _ _) (cell_set_other _ (ne_blk HGR.out _ _) hHeld.1)), cell_set_other _ (ne_blk HGR.out _ _) (cell_set_other _ (ne_blk HGR.out _ _) (cell_set_other _ (ne_blk HGR.out _ _) hHeld.2))⟩
 clear hK K
 (try simp only [Act.put, nz1, nz2, nz3, nz4, nz5, nz6])
 refine wpAnyH_done (by kernel_rfl) ?_ _
 clear c80 c81 c82 f80 f81 f82 s0 s1
 generalize ((wa.setCell ⟨w.heap.size + 1, 0, none⟩ (.int .i64 W)).setCell ⟨w.heap.size + 1, 1, none⟩ (.int .i64 H)).setCell ⟨w.heap.size + 1, 2, none⟩ (.slice none 0 0) = wz at *
 have x1 := HI.out.r1
 go_wp2_with fail
 clear hHeld x1
 go_loopw [29] (fun i wr => ∃ (y : Nat) (acc : List Px) (v : Value), y ≤ H ∧ i = .int .i64 y ∧ acc.length = y * W ∧ acc ++ Pak.pixels ((lst s).drop (4 * (y * W))) = P ∧ PpxR w gr W H acc v wr) (fun i _ => H - (intOf i).toNat)
 case atStart => exact ⟨0, [], _, Nat.zero_le _, rfl, by rw [Nat.zero_mul]; rfl, by rw [Nat.zero_mul, Nat.mul_zero, List.drop_zero, List.nil_append]; exact HP.out.symm, HI.out⟩
 case round =>
  obtain ⟨y, acc, v, hy, rfl, hal, hac, F⟩ := hrel
  obtain ⟨wo, hwo⟩ : ∃ wo, wo = wr := ⟨_, rfl⟩
  rw [← hwo] at F ⊢
  clear hwo
  have HAL := Lib.hid hal
  have HAC := Lib.hid hac
  have x0 := F.r0
  have HF := Lib.hid F
  clear hal hac F
  by_cases hlt : y < H
  ·obtain ⟨a, ha⟩ : ∃ a, a = y * V := ⟨_, rfl⟩
   obtain ⟨y1, hy1⟩ : ∃ y1, y1 = y + 1 := ⟨_, rfl⟩
   obtain ⟨b, hb⟩ : ∃ b, b = y1 * V := ⟨_, rfl⟩
   have hab : b = a + V := by rw [hb, hy1, ha, Nat.succ_mul]
   have hbs : b ≤ s.size := by rw [HS.out, hb]; exact Nat.mul_le_mul_right _ (by omega)
   have hsz : s.size ≤ 262144 := by
    have h1 := HS.out
    have h2 : H * V ≤ 256 * 1024 := Nat.mul_le_mul hH (by have := HV.out; omega)
    omega
   have i1 : (y : Int) * (V : Int) = a := by rw [ha, Int.natCast_mul]
   have i2 : (y : Int) + 1 = y1 := by omega
   have i3 : (y1 : Int) * (V : Int) = b := by rw [hb, Int.natCast_mul]
   have v1 : IntKind.i64.wrap (a : Int) = a := IntWalk.i64_in _ (by omega)
   have v2 : IntKind.i64.wrap (y1 : Int) = y1 := IntWalk.i64_in _ (by omega)
   have v3 : IntKind.i64.wrap (b : Int) = b := IntWalk.i64_in _ (by omega)
   have hab2 : (a : Int) ≤ b := by omega
   have hbsi : (b : Int) ≤ s.size := by omega
   have HA := Lib.hid ha
   have HY1 := Lib.hid hy1
   have HBA := Lib.hid hab
   have HBS0 := Lib.hid hbs
   clear ha hy1 hb hab hbs
   go_wp2_with fail
   generalize hrow : s.extract a b = row at *
   have HROW := Lib.hid hrow
   have hrz : row.size = V := by rw [← hrow, ByteArray.size_extract]; have := HBA.out; have := HBS0.out; omega
   clear hrow i1 i2 i3 v1 v2 v3 x0 hab2 hbsi
   go_loopw [45] (fun i wr => ∃ (k : Nat) (acc : List Px) (v : Value), k ≤ W ∧ i = .int .i64 k ∧ acc.length = y * W + k ∧ acc ++ Pak.pixels ((lst s).drop (4 * (y * W + k))) = P ∧ PpxR w gr W H acc v wr) (fun i _ => W - (intOf i).toNat)
   case atStart => exact ⟨0, acc, v, Nat.zero_le _, rfl, HAL.out, HAC.out, HF.out⟩
   case round =>
    clear HAL HAC HF
    clear acc v
    obtain ⟨k, acc, v, hk, rfl, hal, hac, F⟩ := hrel
    obtain ⟨wi, hwi⟩ : ∃ wi, wi = wr := ⟨_, rfl⟩
    rw [← hwi] at F ⊢
    clear hwi
    have r3 := F.r3
    have hgrs : gr < wi.heap.size := cell_lt r3
    by_cases hkl : k < W
    ·obtain ⟨j, hj⟩ : ∃ j, j = k * 4 := ⟨_, rfl⟩
     have i1 : (k : Int) * 4 = j := by omega
     have v1 : IntKind.i64.wrap (j : Int) = j := IntWalk.i64_in _ (by omega)
     have HF := Lib.hid F
     have HAL := Lib.hid hal
     have HAC := Lib.hid hac
     have HJ := Lib.hid hj
     have HZI := Lib.hid (fun w => zero_int_ w)
     clear F hal hac hj
     go_upto_region 9 with (fail)
     refine wp_region_held_drew (S := (fun w' => w'.cell? ⟨gr, 3, none⟩ = some (.int .i64 6))) (by kernel_rfl) ?_ (fun hHeld => ?_)
     ·exact r3
     refine opT 0 rfl ?_; refine opT 2 rfl ?_; refine opT 3 rfl ?_; refine opT 4 rfl ?_; refine opT 5 rfl ?_
     refine opD 1 rfl (fun K hK => ?_)
     go_simp
     (go_at_call 48; refine (samples_any _).mono ?_; rintro e wS ⟨bm, rfl, hMA, hbm, hbS⟩; have HBS := Lib.hid hbS; have HMA := Lib.hid hMA; clear hMA)
     refine hK.out _ _ ?_ (fun hHeld => ?_)
     ·exact bcell_ hbS hgrs hHeld
     clear hK K
     (try simp only [Act.put, nz1, nz2, nz3, nz4, nz5, nz6])
     refine opD 6 rfl (fun K hK => ?_)
     (have hlk := run_lookup_at natKey Tryz.underlying109 (HZI.out _) HMA.out 6 false; replace hlk : (Instr.lookup 109 (.map (some bm)) (.int .i64 6) false).run Tryz.prog wS = .ok (.int .i64 4) wS := hlk; go_simp)
     refine hK.out _ _ ?_ (fun hHeld => ?_)
     ·exact hHeld
     clear hK K
     (try simp only [Act.put, nz1, nz2, nz3, nz4, nz5, nz6])
     refine opT 7 rfl ?_; refine opT 8 rfl ?_
     refine wpAnyH_done (by kernel_rfl) ?_ _
     have F9 := HF.out.step (Below.fromDrew HBS.out)
     have r3' := F9.r3
     obtain ⟨Av, cv, hv, hc, _⟩ := F9.own.form
     subst hv
     obtain ⟨N, hN⟩ : ∃ N, N = acc.length := ⟨_, rfl⟩
     have hN2 : N ≤ 65536 := by
      rw [hN, HAL.out]
      have h1 : y * W ≤ 255 * 256 := Nat.mul_le_mul (by omega) hW
      omega
     have s5 : wS.cell? ⟨w.heap.size + 1, 2, none⟩ = some (.slice Av N cv) := by rw [hN]; exact F9.b8.cell 2
     have f50 := F9.b8.free 2
     have l8 := F9.b8.lt
     have n8 : some (w.heap.size + 1) ≠ (Value.slice Av N cv).ownBlock := fun e => by have := (F9.own.lt (w.heap.size + 1) (by rw [e, hN])).1; omega
     have HOW := Lib.hid (show Own wS (w.heap.size + 2) 4 (.slice Av N cv) N (pxCells acc) by rw [hN]; exact F9.own)
     have HF9 := Lib.hid F9
     have HN := Lib.hid hN
     obtain ⟨j1, hj1⟩ : ∃ j1, j1 = j + 1 := ⟨_, rfl⟩
     obtain ⟨j2, hj2⟩ : ∃ j2, j2 = j + 2 := ⟨_, rfl⟩
     obtain ⟨j3, hj3⟩ : ∃ j3, j3 = j + 3 := ⟨_, rfl⟩
     have hV3 : j3 < V := by have := HV.out; have := HJ.out; omega
     have h0 : j < row.size := by omega
     have h1 : j1 < row.size := by omega
     have h2 : j2 < row.size := by omega
     have h3 : j3 < row.size := by omega
     have m0 : j < V := by omega
     have m1 : j1 < V := by omega
     have m2 : j2 < V := by omega
     have m3 : j3 < V := hV3
     have k1 : (j : Int) + 1 = j1 := by omega
     have k2 : (j : Int) + 2 = j2 := by omega
     have k3 : (j : Int) + 3 = j3 := by omega
     have w1 : IntKind.i64.wrap (j1 : Int) = j1 := IntWalk.i64_in _ (by omega)
     have w2 : IntKind.i64.wrap (j2 : Int) = j2 := IntWalk.i64_in _ (by omega)
     have w3 : IntKind.i64.wrap (j3 : Int) = j3 := IntWalk.i64_in _ (by omega)
     have hli : 4 * (y * W + k) + 4 ≤ (lst s).length := by
      rw [lst_length, HS.out, HV.out]
      have h1 : (y + 1) * W ≤ H * W := Nat.mul_le_mul_right _ (by omega)
      rw [Nat.succ_mul] at h1
      have h2 : H * (4 * W) = 4 * (H * W) := by rw [Nat.mul_left_comm]
      omega
     have haj : 4 * (y * W + k) = a + j := by
      rw [HA.out, HV.out, HJ.out, Nat.mul_add, Nat.mul_left_comm]
      omega
     have hbaj : b - a = V := by have := HBA.out; omega
     have hp4 := Pak.pixels_four (lst s) _ hli
     have hac := HAC.out
     rw [hp4] at hac
     rw [← row_at HROW.out h0 (by omega) haj (by omega), ← row_at HROW.out h1 (by omega) (by omega) (by omega), ← row_at HROW.out h2 (by omega) (by omega) (by omega), ← row_at HROW.out h3 (by omega) (by omega) (by omega)] at hac
     obtain ⟨qa, ha'⟩ : ∃ x : UInt8, row[j] = x := ⟨_, rfl⟩
     obtain ⟨qb, hb'⟩ : ∃ x : UInt8, row[j1] = x := ⟨_, rfl⟩
     obtain ⟨qc, hc'⟩ : ∃ x : UInt8, row[j2] = x := ⟨_, rfl⟩
     obtain ⟨qd, hd'⟩ : ∃ x : UInt8, row[j3] = x := ⟨_, rfl⟩
     rw [ha', hb', hc', hd'] at hac
     have HAC2 := Lib.hid (show (acc ++ [⟨qa, qb, qc, qd⟩]) ++ Pak.pixels ((lst s).drop (4 * (y * W + (k + 1)))) = P by rw [List.append_assoc]; exact hac)
     have hBS := Blk.new wS 53 #[.int .u8 qa.toNat, .int .u8 qb.toNat, .int .u8 qc.toNat, .int .u8 qd.toNat] rfl
     clear hp4 hac hj1 hj2 hj3 F9 hN hV3 hli haj hbaj r3 hHeld
     go_upto_region 16 with (fail)
     refine wp_region_X (S := (fun w' => w'.cell? ⟨w.heap.size + 1, 2, none⟩ = some (.slice Av N cv))) (x := 21) (by kernel_rfl) ?_ (fun hHeld => ?_)
     ·exact s5
     refine anyX_pure (i := 0) (v := ?_) rfl (by kernel_rfl) (by kernel_rfl) (by kernel_rfl) (by decide) (fun _ _ _ h => h) (Or.inl ⟨by rfl, ?_⟩) (by assumption) ?_
     rotate_left
     ·intro w hSw; go_simp <;> with_reducible rfl
     (try simp only [Act.put, nz1, nz2, nz4, nz5, nz6])
     refine anyX_take (i := 1) (v := ?_) rfl (by kernel_rfl) (by kernel_rfl) (by kernel_rfl) (by kernel_rfl) (by kernel_rfl) (fun _ _ _ h => h) (Or.inl ⟨by rfl, ?_⟩) (by assumption) ?_
     rotate_left
     ·intro w hSw; (try dsimp only at hSw); go_simp <;> with_reducible rfl
     (try simp only [Act.put, nz1, nz2, nz3, nz4, nz5, nz6])
     refine anyX_pure (i := 2) (v := ?_) rfl (by kernel_rfl) (by kernel_rfl) (by kernel_rfl) (by decide) (fun _ _ _ h => h) (Or.inl ⟨by rfl, ?_⟩) (by assumption) ?_
     rotate_left
     ·intro w hSw; go_simp <;> with_reducible rfl
     (try simp only [Act.put, nz1, nz2, nz3, nz4, nz5, nz6])
     refine anyX_pure (i := 3) (v := ?_) rfl (by kernel_rfl) (by kernel_rfl) (by kernel_rfl) (by decide) (fun _ _ _ h => h) (Or.inl ⟨by rfl, ?_⟩) (by assumption) ?_
     rotate_left
     ·intro w hSw; go_simp <;> with_reducible rfl
     (try simp only [Act.put, nz1, nz2, nz3, nz4, nz5, nz6])
     refine anyX_pure (i := 4) (v := ?_) rfl (by kernel_rfl) (by kernel_rfl) (by kernel_rfl) (by decide) (fun _ _ _ h => h) (Or.inl ⟨by rfl, ?_⟩) (by assumption) ?_
     rotate_left
     ·intro w hSw; go_simp <;> with_reducible rfl
     (try simp only [Act.put, nz1, nz2, nz3, nz4, nz5, nz6])
     refine anyX_pure (i := 5) (v := ?_) rfl (by kernel_rfl) (by kernel_rfl) (by kernel_rfl) (by decide) (fun _ _ _ h => h) (Or.inl ⟨by rfl, ?_⟩) (by assumption) ?_
     rotate_left
     ·intro w hSw; go_simp <;> with_reducible rfl
     (try simp only [Act.put, nz1, nz2, nz3, nz4, nz5, nz6])
     refine anyX_pure (i := 6) (v := ?_) rfl (by kernel_rfl) (by kernel_rfl) (by kernel_rfl) (by decide) (fun _ _ _ h => h) (Or.inl ⟨by rfl, ?_⟩) (by assumption) ?_
     rotate_left
     ·intro w hSw; go_simp <;> with_reducible rfl
     (try simp only [Act.put, nz1, nz2, nz3, nz4, nz5, nz6])
     refine anyX_pure (i := 7) (v := ?_) rfl (by kernel_rfl) (by kernel_rfl) (by kernel_rfl) (by decide) (fun _ _ _ h => h) (Or.inl ⟨by rfl, ?_⟩) (by assumption) ?_
     rotate_left
     ·intro w hSw; go_simp <;> with_reducible rfl
     (try simp only [Act.put, nz1, nz2, nz3, nz4, nz5, nz6])
     refine anyX_pure (i := 8) (v := ?_) rfl (by kernel_rfl) (by kernel_rfl) (by kernel_rfl) (by decide) (fun _ _ _ h => h) (Or.inl ⟨by rfl, ?_⟩) (by assumption) ?_
     rotate_left
     ·intro w hSw; go_simp <;> with_reducible rfl
     (try simp only [Act.put, nz1, nz2, nz3, nz4, nz5, nz6])
     refine anyX_pure (i := 9) (v := ?_) rfl (by kernel_rfl) (by kernel_rfl) (by kernel_rfl) (by decide) (fun _ _ _ h => h) (Or.inl ⟨by rfl, ?_⟩) (by assumption) ?_
     rotate_left
     ·intro w hSw; go_simp <;> with_reducible rfl
     (try simp only [Act.put, nz1, nz2, nz3, nz4, nz5, nz6])
     refine anyX_pure (i := 10) (v := ?_) rfl (by kernel_rfl) (by kernel_rfl) (by kernel_rfl) (by decide) (fun _ _ _ h => h) (Or.inl ⟨by rfl, ?_⟩) (by assumption) ?_
     rotate_left
     ·intro w hSw; go_simp <;> with_reducible rfl
     (try simp only [Act.put, nz1, nz2, nz3, nz4, nz5, nz6])
     refine anyX_pure (i := 11) (v := ?_) rfl (by kernel_rfl) (by kernel_rfl) (by kernel_rfl) (by decide) (fun _ _ _ h => h) (Or.inl ⟨by rfl, ?_⟩) (by assumption) ?_
     rotate_left
     ·intro w hSw; go_simp <;> with_reducible rfl
     (try simp only [Act.put, nz1, nz2, nz3, nz4, nz5, nz6])
     refine anyX_pure (i := 12) (v := ?_) rfl (by kernel_rfl) (by kernel_rfl) (by kernel_rfl) (by decide) (fun _ _ _ h => h) (Or.inl ⟨by rfl, ?_⟩) (by assumption) ?_
     rotate_left
     ·intro w hSw; go_simp <;> with_reducible rfl
     (try simp only [Act.put, nz1, nz2, nz3, nz4, nz5, nz6])
     refine anyX_pure (i := 13) (v := ?_) rfl (by kernel_rfl) (by kernel_rfl) (by kernel_rfl) (by decide) (fun _ _ _ h => h) (Or.inl ⟨by rfl, ?_⟩) (by assumption) ?_
     rotate_left
     ·intro w hSw; go_simp <;> with_reducible rfl
     (try simp only [Act.put, nz1, nz2, nz3, nz4, nz5, nz6])
     refine anyX_pure (i := 14) (v := ?_) rfl (by kernel_rfl) (by kernel_rfl) (by kernel_rfl) (by decide) (fun _ _ _ h => h) (Or.inl ⟨by rfl, ?_⟩) (by assumption) ?_
     rotate_left
     ·intro w hSw; go_simp <;> with_reducible rfl
     (try simp only [Act.put, nz1, nz2, nz3, nz4, nz5, nz6])
     refine anyX_pure (i := 15) (v := ?_) rfl (by kernel_rfl) (by kernel_rfl) (by kernel_rfl) (by decide) (fun _ _ _ h => h) (Or.inl ⟨by rfl, ?_⟩) (by assumption) ?_
     rotate_left
     ·intro w hSw; go_simp <;> with_reducible rfl
     (try simp only [Act.put, nz1, nz2, nz3, nz4, nz5, nz6])
     refine anyX_pure (i := 16) (v := ?_) rfl (by kernel_rfl) (by kernel_rfl) (by kernel_rfl) (by decide) (fun _ _ _ h => h) (Or.inl ⟨by rfl, ?_⟩) (by assumption) ?_
     rotate_left
     ·intro w hSw; go_simp <;> with_reducible rfl
     (try simp only [Act.put, nz1, nz2, nz3, nz4, nz5, nz6])
     refine anyX_pure (i := 17) (v := ?_) rfl (by kernel_rfl) (by kernel_rfl) (by kernel_rfl) (by decide) (fun _ _ _ h => h) (Or.inl ⟨by rfl, ?_⟩) (by assumption) ?_
     rotate_left
     ·intro w hSw; go_simp <;> with_reducible rfl
     (try simp only [Act.put, nz1, nz2, nz3, nz4, nz5, nz6])
     refine anyX_ready (rs := [18]) (by kernel_rfl) (by simp) ?_
     refine AllX.cons rfl (fun K hK => ?_) AllX.nil
     go_simp
     refine hK.out _ _ ?_ (fun hHeld => ?_)
     ·exact cell_past _ hHeld
     clear hK K
     (try simp only [Act.put, nz1, nz2, nz3, nz4, nz5, nz6])
     refine anyX_ready (rs := [19]) (by kernel_rfl) (by simp) ?_
     refine AllX.cons rfl (fun K hK => ?_) AllX.nil
     (refine step_append_Own _ rfl (.tmp 99) (.tmp 116) 42 42 rfl (w.heap.size + 2) 53 i0 _ 4 4 Tryz.underlying42 hi hz0 hz1 hz2 rfl (by decide) (.slice Av N cv) N (pxCells acc) rfl ((HOW.out.alloc _).drew) (pxCells_one _) 1 (pxCs ⟨qa, qb, qc, qd⟩) (Src.blk Tryz.underlying42 (Blk.drew hBS) rfl (pxCells_one [⟨qa, qb, qc, qd⟩])) (by unfold maxLen; omega) (by omega) (by simp; omega) ?_; intro vT wT hownT hgT hatT; obtain ⟨AT, cT, rfl, hcT, _⟩ := hownT.form; have t5 : wT.cell? ⟨w.heap.size + 1, 2, none⟩ = some (.slice Av N cv) := (hgT.cell_far ⟨w.heap.size + 1, 2, none⟩ (by simp; omega) n8).trans (cell_past _ s5); have f5 : wT.frozen? ⟨w.heap.size + 1, 2, none⟩ = false := (hgT.frozen_far ⟨w.heap.size + 1, 2, none⟩ (by simp; omega) n8).trans (free_past _ l8 f50))
     refine hK.out _ _ ?_ (fun hHeld => ?_)
     ·exact t5
     clear hK K
     (try simp only [Act.put, nz1, nz2, nz3, nz4, nz5, nz6])
     refine anyX_pure (i := 20) (v := ?_) rfl (by kernel_rfl) (by kernel_rfl) (by kernel_rfl) (by decide) (fun _ _ _ h => h) (Or.inl ⟨by rfl, ?_⟩) (by assumption) ?_
     rotate_left
     ·intro w hSw; go_simp <;> with_reducible rfl
     (try simp only [Act.put, nz1, nz2, nz3, nz4, nz5, nz6])
     refine anyX_ready (rs := [21]) (by kernel_rfl) (by simp) ?_
     refine AllX.past rfl (by kernel_rfl) (fun K hK => ?_) AllX.nil
     go_simp
     refine hK.out _ _ ?_
     clear hK K
     (try simp only [Act.put, nz1, nz2, nz3, nz4, nz5, nz6])
     refine anyX_done (by kernel_rfl) ?_ _
     have FP := HF9.out.push hgr (Below.refl _ _) (q := ⟨qa, qb, qc, qd⟩) (v' := .slice AT (N + 1) cT) (by rw [← HN.out]; exact hownT) (by rw [← HN.out]; exact hgT) (by rw [← HN.out]; exact hatT)
     have HFP := Lib.hid FP
     clear hgT hatT hownT hBS t5 f5 FP s5 f50
     go_wp2_with fail
     go_roundw
     case rel => exact ⟨k + 1, acc ++ [⟨qa, qb, qc, qd⟩], _, hkl, by go_num, by rw [List.length_append, HAL.out]; rfl, HAC2.out, HFP.out⟩
     case measure => simp [intOf]; omega
    ·have hkW : k = W := by omega
     subst hkW
     have HF := Lib.hid F
     have HAL := Lib.hid hal
     have HAC := Lib.hid hac
     have hy2 : IntKind.i64.wrap ((y : Int) + 1) = y1 := by rw [HY1.out]; exact IntWalk.i64_in _ (by omega)
     clear F hal hac hkl hrz
     go_wp2_with fail
     go_roundw
     case rel => exact ⟨y1, acc, v, by rw [HY1.out]; omega, rfl, by rw [HAL.out, HY1.out, Nat.succ_mul], by rw [HY1.out, show (y + 1) * k = y * k + k from Nat.succ_mul y k]; exact HAC.out, HF.out⟩
     case measure => simp [intOf]; have := HY1.out; omega
  ·have hyH : y = H := by omega
   have hac := HAC.out
   have hz : 4 * (y * W) = (lst s).length := by rw [lst_length, HS.out, HV.out, hyH, Nat.mul_left_comm]
   rw [hz, List.drop_length] at hac
   have hac2 : acc = P := by rw [← hac]; exact (List.append_nil acc).symm
   subst hac2
   have c60 := HF.out.b6.cell 0
   have c61 := HF.out.b6.cell 1
   have c62 := HF.out.b6.cell 2
   have f60 := HF.out.b6.free 0
   have f61 := HF.out.b6.free 1
   have f62 := HF.out.b6.free 2
   obtain ⟨Av, cv, hv, hcv, _⟩ := HF.out.own.form
   subst hv
   have c80 : wo.cell? ⟨w.heap.size + 1, 0, none⟩ = some (.int .i64 W) := HF.out.b8.cell 0
   have c81 : wo.cell? ⟨w.heap.size + 1, 1, none⟩ = some (.int .i64 H) := HF.out.b8.cell 1
   have c82 : wo.cell? ⟨w.heap.size + 1, 2, none⟩ = some (.slice Av acc.length cv) := HF.out.b8.cell 2
   have hn6 : (Value.slice Av acc.length cv).ownBlock ≠ some w.heap.size := fun e => by have := (HF.out.own.lt _ e).1; omega
   have HBZ := Lib.hid (((HF.out.b6.set_ 0 (.int .i64 W)).set_ 1 (.int .i64 H)).set_ 2 (.slice Av acc.length cv))
   have HOZ := Lib.hid ((((HF.out.own.setCell (p := ⟨w.heap.size, 0, none⟩) hn6 (.int .i64 W)).setCell (p := ⟨w.heap.size, 1, none⟩) hn6 (.int .i64 H)).setCell (p := ⟨w.heap.size, 2, none⟩) hn6 (.slice Av acc.length cv)).mono (show w.heap.size ≤ w.heap.size + 2 by omega))
   have HLZ := Lib.hid (((HF.out.bel.setCell (p := ⟨w.heap.size, 0, none⟩) (Nat.le_refl _) (.int .i64 W)).setCell (p := ⟨w.heap.size, 1, none⟩) (Nat.le_refl _) (.int .i64 H)).setCell (p := ⟨w.heap.size, 2, none⟩) (Nat.le_refl _) (.slice Av acc.length cv))
   have r0 : (((wo.setCell ⟨w.heap.size, 0, none⟩ (.int .i64 W)).setCell ⟨w.heap.size, 1, none⟩ (.int .i64 H)).setCell ⟨w.heap.size, 2, none⟩ (.slice Av acc.length cv)).cell? ⟨w.heap.size, 0, none⟩ = some (.int .i64 W) := HBZ.out.cell 0
   have r1 : (((wo.setCell ⟨w.heap.size, 0, none⟩ (.int .i64 W)).setCell ⟨w.heap.size, 1, none⟩ (.int .i64 H)).setCell ⟨w.heap.size, 2, none⟩ (.slice Av acc.length cv)).cell? ⟨w.heap.size, 1, none⟩ = some (.int .i64 H) := HBZ.out.cell 1
   have r2 : (((wo.setCell ⟨w.heap.size, 0, none⟩ (.int .i64 W)).setCell ⟨w.heap.size, 1, none⟩ (.int .i64 H)).setCell ⟨w.heap.size, 2, none⟩ (.slice Av acc.length cv)).cell? ⟨w.heap.size, 2, none⟩ = some (.slice Av acc.length cv) := HBZ.out.cell 2
   clear HF hac hz hlt HBZ HAL HAC HP HI HGR
   go_wp2_with fail
   generalize ((wo.setCell ⟨w.heap.size, 0, none⟩ (.int .i64 W)).setCell ⟨w.heap.size, 1, none⟩ (.int .i64 H)).setCell ⟨w.heap.size, 2, none⟩ (.slice Av acc.length cv) = w9 at *
   refine bodyPost_ret (v := .tuple #[.agg #[.int .i64 W, .int .i64 H, .slice Av acc.length cv], .bool true]) (by simp [results, Tryz.results50, go_sem, r0, r1, r2]) rfl ⟨Av, cv, rfl, HOZ.out, HLZ.out⟩
set_option maxHeartbeats 4000000 in
set_option maxRecDepth 100000 in
theorem pcolors_any (W H : Nat) (s : ByteArray) (w : World) (hW : W ≤ 256) (hH : H ≤ 256) (hs : s.size = H * (4 * W)) :
  Calls Tryz.prog 24 #[.int .i64 W, .int .i64 H, .string s] w fun e w' => ∃ A c, e = .returned (.agg #[.int .i64 W, .int .i64 H, .slice A (Pak.pixels (lst s)).length c]) ∧ Own w' w.heap.size 4 (.slice A (Pak.pixels (lst s)).length c) (Pak.pixels (lst s)).length (pxCells (Pak.pixels (lst s))) ∧ Below w.heap.size w w' := by
 obtain ⟨P, hP⟩ : ∃ P, P = Pak.pixels (lst s) := ⟨_, rfl⟩
 rw [← hP]
 have HP := Lib.hid hP
 clear hP
 have hv4 : IntKind.i64.wrap (4 * (W : Int)) = (4 * W : Nat) := IntWalk.i64_in _ (by omega)
 go_enter Tryz.func24, Tryz.ntmps24
 go_wp2_with fail
 have hW4 : (4 * (W : Int)) = (4 * W : Nat) := by omega
 have kb : Below w.heap.size w ((w.alloc (.cells #[.int .i64 0, .int .i64 0, .slice none 0 0] 44)).alloc (.cells #[.int .i64 W, .int .i64 H, .int .i64 8, .int .i64 6, .string ⟨#[]⟩, .string ⟨#[]⟩, .bool false, .bool false, .pointer none, .slice none 0 0, .int .i64 0] 106)) := ((Below.refl _ _).alloc (Nat.le_refl _) _).alloc (by simp) _
 have B6 := (Blk.new w 44 #[.int .i64 0, .int .i64 0, .slice none 0 0] rfl).alloc (.cells #[.int .i64 W, .int .i64 H, .int .i64 8, .int .i64 6, .string ⟨#[]⟩, .string ⟨#[]⟩, .bool false, .bool false, .pointer none, .slice none 0 0, .int .i64 0] 106)
 have BR := Blk.new (w.alloc (.cells #[.int .i64 0, .int .i64 0, .slice none 0 0] 44)) 106 #[.int .i64 W, .int .i64 H, .int .i64 8, .int .i64 6, .string ⟨#[]⟩, .string ⟨#[]⟩, .bool false, .bool false, .pointer none, .slice none 0 0, .int .i64 0] (g := w.heap.size + 1) (by simp)
 rw [hW4]
 generalize (w.alloc (.cells #[.int .i64 0, .int .i64 0, .slice none 0 0] 44)).alloc (.cells #[.int .i64 W, .int .i64 H, .int .i64 8, .int .i64 6, .string ⟨#[]⟩, .string ⟨#[]⟩, .bool false, .bool false, .pointer none, .slice none 0 0, .int .i64 0] 106) = w1 at *
 refine (ppix_any (w.heap.size + 1) W H s w1 (BR.cell 0) (BR.cell 1) (BR.cell 3) hW hH hs).mono ?_
 rintro e w2 ⟨A, c, rfl, ho, hb⟩
 rw [← HP.out] at ho ⊢
 have B62 := B6.below hb B6.lt
 have kb2 := kb.trans (hb.mono kb.size)
 have HKB := Lib.hid kb2
 have HO := Lib.hid (ho.mono kb.size)
 have HN6 := Lib.hid (show (Value.slice A P.length c).ownBlock ≠ some w.heap.size from fun e => by have h1 := (ho.lt _ e).1; have h2 := B6.lt; omega)
 have HB62 := Lib.hid B62
 have HL := Lib.hid B62.lt
 have hl := B62.lt
 have c60 : w2.cell? ⟨w.heap.size, 0, none⟩ = some (.int .i64 0) := B62.cell 0
 have c61 : w2.cell? ⟨w.heap.size, 1, none⟩ = some (.int .i64 0) := B62.cell 1
 have c62 : w2.cell? ⟨w.heap.size, 2, none⟩ = some (.slice none 0 0) := B62.cell 2
 have f60 := B62.free 0
 have f61 := B62.free 1
 have f62 := B62.free 2
 clear kb kb2 B6 BR B62 ho hb hW4 hv4
 have HBZ := Lib.hid ((((HB62.out.set_ 0 (.int .i64 W)).set_ 1 (.int .i64 H)).set_ 2 (.slice A P.length c)).alloc (.cells #[.int .i64 W, .int .i64 H, .slice A P.length c] 44))
 have HOZ := Lib.hid ((((HO.out.setCell (p := ⟨w.heap.size, 0, none⟩) HN6.out (.int .i64 W)).setCell (p := ⟨w.heap.size, 1, none⟩) HN6.out (.int .i64 H)).setCell (p := ⟨w.heap.size, 2, none⟩) HN6.out (.slice A P.length c)).alloc (.cells #[.int .i64 W, .int .i64 H, .slice A P.length c] 44))
 have hlz := ((HKB.out.setCell (p := ⟨w.heap.size, 0, none⟩) (Nat.le_refl _) (.int .i64 W)).setCell (p := ⟨w.heap.size, 1, none⟩) (Nat.le_refl _) (.int .i64 H)).setCell (p := ⟨w.heap.size, 2, none⟩) (Nat.le_refl _) (.slice A P.length c)
 have HLZ := Lib.hid (hlz.alloc hlz.size (.cells #[.int .i64 W, .int .i64 H, .slice A P.length c] 44))
 clear hlz
 have R0 := Lib.hid (show ((((w2.setCell ⟨w.heap.size, 0, none⟩ (.int .i64 W)).setCell ⟨w.heap.size, 1, none⟩ (.int .i64 H)).setCell ⟨w.heap.size, 2, none⟩ (.slice A P.length c)).alloc (.cells #[.int .i64 W, .int .i64 H, .slice A P.length c] 44)).cell? ⟨w.heap.size, 0, none⟩ = some (.int .i64 W) from HBZ.out.cell 0)
 have R1 := Lib.hid (show ((((w2.setCell ⟨w.heap.size, 0, none⟩ (.int .i64 W)).setCell ⟨w.heap.size, 1, none⟩ (.int .i64 H)).setCell ⟨w.heap.size, 2, none⟩ (.slice A P.length c)).alloc (.cells #[.int .i64 W, .int .i64 H, .slice A P.length c] 44)).cell? ⟨w.heap.size, 1, none⟩ = some (.int .i64 H) from HBZ.out.cell 1)
 have R2 := Lib.hid (show ((((w2.setCell ⟨w.heap.size, 0, none⟩ (.int .i64 W)).setCell ⟨w.heap.size, 1, none⟩ (.int .i64 H)).setCell ⟨w.heap.size, 2, none⟩ (.slice A P.length c)).alloc (.cells #[.int .i64 W, .int .i64 H, .slice A P.length c] 44)).cell? ⟨w.heap.size, 2, none⟩ = some (.slice A P.length c) from HBZ.out.cell 2)
 go_wp2_with fail
 have r0 := R0.out
 have r1 := R1.out
 have r2 := R2.out
 generalize (((w2.setCell ⟨w.heap.size, 0, none⟩ (.int .i64 W)).setCell ⟨w.heap.size, 1, none⟩ (.int .i64 H)).setCell ⟨w.heap.size, 2, none⟩ (.slice A P.length c)).alloc (.cells #[.int .i64 W, .int .i64 H, .slice A P.length c] 44) = w9 at *
 refine bodyPost_ret (v := .agg #[.int .i64 W, .int .i64 H, .slice A P.length c]) (by simp [results, Tryz.results24, go_sem, r0, r1, r2]) rfl ⟨A, c, rfl, HOZ.out, HLZ.out⟩
end Go.Proofs.YtkegkelaffohjaaGreatDoor
