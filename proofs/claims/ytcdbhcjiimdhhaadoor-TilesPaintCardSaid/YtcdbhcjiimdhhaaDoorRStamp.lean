/- raster.Stamp: the walk. raster.Stamp with a fault: the walks. -/
import Derived.Test.YtcdbhcjiimdhhaaDoorTileLaw
import Derived.Test.YtcdbhcjiimdhhaaDoorBase
import Derived.Test.YtcdbhcjiimdhhaaDoorRFill
import Derived.Test.YtcdbhcjiimdhhaaDoorCrop
import Derived.Test.YtcdbhcjiimdhhaaDoorPixOver
import Derived.Deep.RegionHeld3
import Derived.IntWalk
import Derived.Test.YtcdbhcjiimdhhaaDoorCode
namespace Go.Proofs.YtcdbhcjiimdhhaaDoor
open Go Go.RowKit

theorem rover_agg (m : Int) (t u q : Px) (w : World) (hm : modeB m = true) (hq : Pix.over m t u = q) :
    Calls Tryd.prog 53 #[.int .i64 m, .agg #[.int .u8 t.r.toNat, .int .u8 t.g.toNat, .int .u8 t.b.toNat, .int .u8 t.a.toNat], .agg #[.int .u8 u.r.toNat, .int .u8 u.g.toNat, .int .u8 u.b.toNat, .int .u8 u.a.toNat]] w
      fun e w' => e = .returned (.tuple #[.agg #[.int .u8 q.r.toNat, .int .u8 q.g.toNat, .int .u8 q.b.toNat, .int .u8 q.a.toNat], .nilIface]) ∧ Below w.heap.size w w' := by
  subst hq
  exact over_any m t u w hm
/-- What stands through Stamp's loops. -/
structure RsR (W H : Nat) (A : Option Addr) (n c : Nat) (Wq Hq : Nat) (Aq : Option Addr) (nq cq : Nat) (w : World) (g5 ga oa c' : Nat) (l : List Px) (wr : World) : Prop where
  b1 : Blk wr w.heap.size 24 #[.int .i64 W, .int .i64 H, .slice A n c]
  b2 : Blk wr (w.heap.size + 1) 24 #[.int .i64 Wq, .int .i64 Hq, .slice Aq nq cq]
  b10 : Blk wr (w.heap.size + 1 + 1) 24 #[.int .i64 0, .int .i64 0, .slice none 0 0]
  b12 : Blk wr g5 24 #[.int .i64 W, .int .i64 H, .slice (some ⟨ga, oa, none⟩) n c']
  own : Own wr (w.heap.size + 3) 4 (.slice (some ⟨ga, oa, none⟩) n c') n (pxCells l)
  ne : ga ≠ g5
  g5h : w.heap.size + 3 ≤ g5
  bel : Below w.heap.size w wr
section
variable {W H : Nat} {A : Option Addr} {n c : Nat} {Wq Hq : Nat} {Aq : Option Addr} {nq cq : Nat} {w wr w' : World} {g5 ga oa c' : Nat} {l : List Px}
theorem RsR.step (h : RsR W H A n c Wq Hq Aq nq cq w g5 ga oa c' l wr) (hb : Below wr.heap.size wr w') : RsR W H A n c Wq Hq Aq nq cq w g5 ga oa c' l w' :=
  ⟨h.b1.below hb h.b1.lt, h.b2.below hb h.b2.lt, h.b10.below hb h.b10.lt, h.b12.below hb h.b12.lt, h.own.below hb (Nat.le_refl _), h.ne, h.g5h, h.bel.trans (hb.mono (by have := h.b1.lt; omega))⟩
theorem RsR.put (h : RsR W H A n c Wq Hq Aq nq cq w g5 ga oa c' l wr) (i : Nat) (hi : i < n) (q : Px) : RsR W H A n c Wq Hq Aq nq cq w g5 ga oa c' (l.set i q) (wr.setCells ga (oa + i * 4) (pxCs q)) := by
  have hg := (h.own.lt ga rfl).1
  exact ⟨h.b1.setCells_ (by omega) _ _, h.b2.setCells_ (by omega) _ _, h.b10.setCells_ (by omega) _ _, h.b12.setCells_ (fun e => h.ne e.symm) _ _, h.own.setPx i hi q, h.ne, h.g5h, Below.setCells_ h.bel (by omega) _ _⟩
end
theorem right_nat {W H n : Nat} (hW : 1 ≤ W ∧ W ≤ 256) (hH : 1 ≤ H ∧ H ≤ 256) (hn : n = H * W) : rightB (W : Int) (H : Int) n = true := by
  have h1 : sideB (W : Int) = true := by simp [sideB]; omega
  have h2 : sideB (H : Int) = true := by simp [sideB]; omega
  simp only [rightB, h1, h2, Bool.true_and]
  rw [hn, Int.natCast_mul, Int.mul_comm]
  simp

set_option maxRecDepth 100000 in
set_option maxHeartbeats 4000000 in
theorem rstamp_good (W H : Nat) (A : Option Addr) (n c : Nat) (ps : List Px) (Wq Hq : Nat) (Aq : Option Addr) (nq cq : Nat) (qs : List Px) (x y m : Int) (w : World)
    (hp : Reads w w.heap.size 4 A n (pxCells ps)) (hq : Reads w w.heap.size 4 Aq nq (pxCells qs)) (hW : 1 ≤ W ∧ W ≤ 256) (hH : 1 ≤ H ∧ H ≤ 256) (hn : ps.length = H * W) (hWq : 1 ≤ Wq ∧ Wq ≤ 256) (hHq : 1 ≤ Hq ∧ Hq ≤ 256) (hnq : qs.length = Hq * Wq)
    (hx : nearB x = true) (hy : nearB y = true) (hm : modeB m = true) :
    Calls Tryd.prog 37 #[.agg #[.int .i64 W, .int .i64 H, .slice A n c], .agg #[.int .i64 Wq, .int .i64 Hq, .slice Aq nq cq], .int .i64 x, .int .i64 y, .int .i64 m] w
      fun e w' => ∃ A' c', e = .returned (.tuple #[.agg #[.int .i64 W, .int .i64 H, .slice A' n c'], .nilIface]) ∧ Own w' w.heap.size 4 (.slice A' n c') n (pxCells (Lay.grid (Lay.stampAt ps qs W Wq Hq x y m) W H)) ∧ Below w.heap.size w w' := by
  obtain rfl := hp.pxLen
  obtain rfl := hq.pxLen
  have hmul : 1 * 1 ≤ H * W ∧ H * W ≤ 256 * 256 := ⟨Nat.mul_le_mul hH.1 hW.1, Nat.mul_le_mul hH.2 hW.2⟩
  have hmuq : 1 * 1 ≤ Hq * Wq ∧ Hq * Wq ≤ 256 * 256 := ⟨Nat.mul_le_mul hHq.1 hWq.1, Nat.mul_le_mul hHq.2 hWq.2⟩
  have hn1 : 0 < ps.length := by omega
  have hn2 : ps.length ≤ 65536 := by omega
  have HRP := Lib.hid (right_nat hW hH hn)
  have HRQ := Lib.hid (right_nat hWq hHq hnq)
  have HNB := Lib.hid (show [x, y].all nearB = true by simp [hx, hy])
  obtain ⟨x1, x2⟩ : -10000 ≤ x ∧ x ≤ 10000 := by simpa [nearB] using hx
  obtain ⟨y1, y2⟩ : -10000 ≤ y ∧ y ≤ 10000 := by simpa [nearB] using hy
  obtain ⟨W1, W2⟩ := hW
  obtain ⟨H1, H2⟩ := hH
  obtain ⟨Wq1, Wq2⟩ := hWq
  obtain ⟨Hq1, Hq2⟩ := hHq
  have HMD := Lib.hid hm
  have HN := Lib.hid hn
  have HNQ := Lib.hid hnq
  have HP := Lib.hid hp
  have HQ := Lib.hid hq
  clear hn hnq hmul hmuq hp hq hx hy hm
  go_enter Tryd.func37, Tryd.ntmps37
  go_wp2_with fail
  obtain ⟨W0, hW0⟩ : ∃ W0, W0 = ((w.alloc (.cells #[.int .i64 W, .int .i64 H, .slice A ps.length c] 24)).alloc (.cells #[.int .i64 Wq, .int .i64 Hq, .slice Aq qs.length cq] 24)).alloc (.cells #[.int .i64 0, .int .i64 0, .slice none 0 0] 24) := ⟨_, rfl⟩
  have B1 : Blk W0 w.heap.size 24 #[.int .i64 W, .int .i64 H, .slice A ps.length c] := by rw [hW0]; exact ((Blk.new _ _ _ rfl).alloc _).alloc _
  have B2 : Blk W0 (w.heap.size + 1) 24 #[.int .i64 Wq, .int .i64 Hq, .slice Aq qs.length cq] := by rw [hW0]; exact (Blk.new _ _ _ (by simp)).alloc _
  have B3 : Blk W0 (w.heap.size + 1 + 1) 24 #[.int .i64 0, .int .i64 0, .slice none 0 0] := by rw [hW0]; exact Blk.new _ _ _ (by simp)
  have hb0 : Below w.heap.size w W0 := by rw [hW0]; go_grown
  rw [← hW0]
  clear hW0
  refine (rright_any W H A ps.length c _).mono ?_
  rw [HRP.out]
  rintro e w1 ⟨rfl, hb1⟩
  have C1 := B1.below hb1 B1.lt
  have C2 := B2.below hb1 B2.lt
  have C3 := B3.below hb1 B3.lt
  have hbw1 := hb0.trans (hb1.mono hb0.size)
  have c2 := C2.cell
  clear hb1 hb0 B1 B2 B3
  go_wp2_with fail
  refine (rright_any Wq Hq Aq qs.length cq _).mono ?_
  rw [HRQ.out]
  rintro e w2 ⟨rfl, hb2⟩
  have D1 := C1.below hb2 C1.lt
  have D2 := C2.below hb2 C2.lt
  have D3 := C3.below hb2 C3.lt
  have hbw2 := hbw1.trans (hb2.mono hbw1.size)
  have d1 := D1.cell
  clear hb2 hbw1 C1 C2 C3 c2
  go_wp2_with fail
  refine (rnear_any _ _ _ [x, y] _ _ (ints_blk (zs := [x, y]) (Blk.new w2 _ _ rfl)) (show (2 : Nat) ≤ 1048576 from Nat.le_of_ble_eq_true rfl) HNB.out).mono ?_
  rintro e w3 ⟨rfl, hb3⟩
  have hb3' := ((Below.refl w2.heap.size w2).alloc (Nat.le_refl _) _).trans (hb3.mono (by simp))
  have E1 := D1.below hb3' D1.lt
  have E2 := D2.below hb3' D2.lt
  have E3 := D3.below hb3' D3.lt
  have hbw3 := hbw2.trans (hb3'.mono hbw2.size)
  have e1 := E1.cell
  clear hb3 hb3' hbw2 D1 D2 D3 d1
  go_wp2_with fail
  refine (mode_any m _).mono ?_
  rw [HMD.out]
  rintro e w3' ⟨rfl, rfl⟩
  go_wp2_with fail
  refine (rown_any W H A ps.length c ps _ ((HP.out.below hbw3 (Nat.le_refl _)).more hbw3.size) hn1 (by omega)).mono ?_
  rintro e w4 ⟨A', c', rfl, hO, hb4⟩
  obtain ⟨ga, oa, rfl, hga1, hga2⟩ := hO.addr hn1
  have F1 := E1.below hb4 E1.lt
  have F2 := E2.below hb4 E2.lt
  have F3 := E3.below hb4 E3.lt
  have l3 := E3.lt
  have hbw4 := hbw3.trans (hb4.mono hbw3.size)
  have f2 := F2.cell
  clear hb4 E1 E2 E3 e1
  have l2 := F2.lt
  go_wp2_with fail
  obtain ⟨g5, hg5⟩ : ∃ g5, g5 = w4.heap.size := ⟨_, rfl⟩
  obtain ⟨w5, hw5⟩ : ∃ w5, w5 = w4.alloc (.cells #[.int .i64 W, .int .i64 H, .slice (some ⟨ga, oa, none⟩) ps.length c'] 24) := ⟨_, rfl⟩
  have G0 : RsR W H A ps.length c Wq Hq Aq qs.length cq w g5 ga oa c' (Lay.grid (Lay.stampTo ps qs W Wq Hq x y m 0 0) W H) w5 := by
    rw [hw5, hg5, Lay.stampTo_start ps qs W H Wq Hq x y m HN.out]
    refine ⟨F1.alloc _, F2.alloc _, F3.alloc _, Blk.new _ _ _ rfl, ?_, ?_, ?_, hbw4.alloc hbw4.size _⟩
    · exact (hO.alloc _).mono (by omega)
    · omega
    · omega
  rw [← hw5, ← hg5]
  clear hw5 hg5 hO hga1 hga2 F1 F2 F3 f2 l2 l3 hbw3 hbw4
  have cc2 := G0.b2.cell
  go_wp2_with fail
  go_loopw [42] (fun i wr => ∃ k, k ≤ Hq ∧ i = .int .i64 k ∧ RsR W H A ps.length c Wq Hq Aq qs.length cq w g5 ga oa c' (Lay.grid (Lay.stampTo ps qs W Wq Hq x y m k 0) W H) wr) (fun i _ => Hq - (intOf i).toNat)
  case atStart => exact ⟨0, Nat.zero_le _, rfl, G0⟩
  case round =>
    clear G0 cc2
    obtain ⟨k, hk, rfl, F0⟩ := hrel
    obtain ⟨wo, rfl⟩ : ∃ wo : World, wo = wr := ⟨_, rfl⟩
    have c2 := F0.b2.cell
    have c12 := F0.b12.cell
    have c10 := F0.b10.cell
    have f10 := F0.b10.free
    by_cases hlt : k < Hq
    · go_wp2_with fail
      go_loopw [47] (fun i wr => ∃ j, j ≤ Wq ∧ i = .int .i64 j ∧ RsR W H A ps.length c Wq Hq Aq qs.length cq w g5 ga oa c' (Lay.grid (Lay.stampTo ps qs W Wq Hq x y m k j) W H) wr) (fun i _ => Wq - (intOf i).toNat)
      case atStart => exact ⟨0, Nat.zero_le _, rfl, F0⟩
      case round =>
        clear F0 c2 c12 c10 f10
        obtain ⟨j, hj, rfl, F⟩ := hrel
        obtain ⟨wi, rfl⟩ : ∃ wi : World, wi = wr := ⟨_, rfl⟩
        have c1 := F.b1.cell
        by_cases hjl : j < Wq
        · obtain ⟨bI, hbi⟩ : ∃ b, Lay.inP W H ((j : Int) + x) ((k : Int) + y) = b := ⟨_, rfl⟩
          have HBI := Lib.hid hbi
          clear hbi
          go_wp2_with fail
          refine (rin_any W H _ _ A ps.length c _).mono ?_
          rw [HBI.out]
          rintro e wI ⟨rfl, hbI⟩
          have G := F.step hbI
          clear c1 hbI F
          cases bI with
          | false =>
            have HE := Lib.hid (Lay.stampTo_out ps qs W H Wq Hq x y m k j HBI.out)
            go_wp2_with fail
            go_roundw
            case rel => exact ⟨j + 1, by omega, by go_num, by rw [← HE.out]; exact G⟩
            case measure => simp [intOf]; omega
          | true =>
            have hbt := HBI.out
            simp only [Lay.inP, Bool.and_eq_true, decide_eq_true_eq] at hbt
            obtain ⟨⟨⟨b1, b2⟩, b3⟩, b4⟩ := hbt
            obtain ⟨a, ha⟩ : ∃ a : Nat, (a : Int) = (j : Int) + x := ⟨((j : Int) + x).toNat, by omega⟩
            obtain ⟨b, hb⟩ : ∃ b : Nat, (b : Int) = (k : Int) + y := ⟨((k : Int) + y).toNat, by omega⟩
            have haW : a < W := by omega
            have hbH : b < H := by omega
            have hil := Til.index_lt haW hbH
            rw [← HN.out] at hil
            obtain ⟨i, hi⟩ : ∃ i, b * W + a = i := ⟨_, rfl⟩
            rw [hi] at hil
            have hkl := Til.index_lt hjl hlt
            rw [← HNQ.out] at hkl
            obtain ⟨kq, hkq⟩ : ∃ kq, k * Wq + j = kq := ⟨_, rfl⟩
            rw [hkq] at hkl
            obtain ⟨pq, hpq⟩ : ∃ p, qs[kq]? = some p := ⟨_, List.getElem?_eq_getElem hkl⟩
            obtain ⟨pp, hpp⟩ : ∃ p, ps[i]? = some p := ⟨_, List.getElem?_eq_getElem hil⟩
            obtain ⟨r, hr⟩ : ∃ r, Pix.over m pq pp = r := ⟨_, rfl⟩
            have HST := Lib.hid (Lay.stampTo_in ps qs W H Wq Hq x y m k j a b hlt hjl ha hb haW hbH pq pp (by rw [hkq, List.getD_eq_getElem?_getD, hpq]; rfl) (by rw [hi, List.getD_eq_getElem?_getD, hpp]; rfl))
            obtain ⟨z, hz⟩ : ∃ z, b * W = z := ⟨_, rfl⟩
            have hzi : z + a = i := by rw [← hz]; exact hi
            have hz' : ((k : Int) + y) * (W : Int) = (z : Int) := by rw [← hb, ← hz, Int.natCast_mul]
            have hw1 : IntKind.i64.wrap (((k : Int) + y) * (W : Int)) = (z : Int) := by rw [hz']; exact IntWalk.i64_in _ (by omega)
            have hzb : z ≤ 65536 := by omega
            have hp4 : (z : Int) + (j : Int) + x = (i : Int) := by omega
            obtain ⟨z2, hz2⟩ : ∃ z, k * Wq = z := ⟨_, rfl⟩
            have hz2i : z2 + j = kq := by rw [← hz2]; exact hkq
            have hz2b : z2 ≤ 65536 := by rw [← hz2]; have := Nat.mul_le_mul (show k ≤ 256 by omega) Wq2; omega
            have hz2' : (k : Int) * (Wq : Int) = (z2 : Int) := by rw [← hz2, Int.natCast_mul]
            have hw3 : IntKind.i64.wrap ((k : Int) * (Wq : Int)) = (z2 : Int) := by rw [hz2']; exact IntWalk.i64_in _ (by omega)
            have hp5 : (z2 : Int) + (j : Int) = (kq : Int) := by omega
            have hw4 : IntKind.i64.wrap ((z2 : Int) + (j : Int)) = (kq : Int) := by rw [hp5]; exact IntWalk.i64_in _ (by omega)
            have hw7 : IntKind.i64.wrap (z2 : Int) = (z2 : Int) := IntWalk.i64_in _ (by omega)
            have hkqb : kq ≤ 131072 := by omega
            have hw8 : IntKind.i64.wrap (kq : Int) = (kq : Int) := IntWalk.i64_in _ (by omega)
            have i0 : (0 : Int) ≤ (i : Int) := by omega
            have i1 : (i : Int) < (ps.length : Int) := by omega
            have q0 : (0 : Int) ≤ (kq : Int) := by omega
            have q1 : (kq : Int) < (qs.length : Int) := by omega
            have HR := Lib.hid hr
            have HI := Lib.hid hi
            have RQ := (HQ.out.below G.bel (Nat.le_refl _)).more G.bel.size
            have RP := (HP.out.below G.bel (Nat.le_refl _)).more G.bel.size
            have RQ0 := HQ.out
            have RP0 := HP.out
            obtain ⟨bq, oq, rfl, hbq⟩ := RQ0.addr (by omega)
            obtain ⟨bp, op, rfl, hbp⟩ := RP0.addr (by omega)
            obtain ⟨_, hq2⟩ := List.getElem?_eq_some_iff.1 hpq
            obtain ⟨_, hp2⟩ := List.getElem?_eq_some_iff.1 hpp
            obtain ⟨x0, x1', x2', x3⟩ := RQ.px kq hkl
            obtain ⟨v0, v1, v2, v3⟩ := RP.px i hil
            rw [hq2] at x0 x1' x2' x3
            rw [hp2] at v0 v1 v2 v3
            have hge := (G.own.lt ga rfl).1
            have hz1 : w.heap.size < ga := by omega
            have hz2 : w.heap.size + 1 < ga := by omega
            have hz3 : bq < ga := by omega
            have hz4 : bp < ga := by omega
            have hz5 : ∀ (a o : Nat), (⟨ga, a, none⟩ : Addr) ≠ ⟨g5, o, none⟩ := fun a o e => G.ne (by injection e)
            have s0 : wI.cell? ⟨w.heap.size, 0, none⟩ = some (.int .i64 W) := (G.b1.cell 0).trans rfl
            have s2 : wI.cell? ⟨w.heap.size, 2, none⟩ = some (.slice (some ⟨bp, op, none⟩) ps.length c) := (G.b1.cell 2).trans rfl
            have t0 : wI.cell? ⟨w.heap.size + 1, 0, none⟩ = some (.int .i64 Wq) := (G.b2.cell 0).trans rfl
            have t2 : wI.cell? ⟨w.heap.size + 1, 2, none⟩ = some (.slice (some ⟨bq, oq, none⟩) qs.length cq) := (G.b2.cell 2).trans rfl
            have o2 : wI.cell? ⟨g5, 2, none⟩ = some (.slice (some ⟨ga, oa, none⟩) ps.length c') := (G.b12.cell 2).trans rfl
            have HLEN := Lib.hid (show (Lay.grid (Lay.stampTo ps qs W Wq Hq x y m k j) W H).length = ps.length by rw [Lay.grid_length, HN.out])
            have HG := Lib.hid G
            clear hr hpq hpp hkq hz hzi hz2i hq2 hp2 RQ RP RQ0 RP0 hi hb ha b1 b2 b3 b4 G
            go_wp2_with fail
            go_region_held3 (fun w' => w'.cell? ⟨w.heap.size + 1, 0, none⟩ = some (.int .i64 Wq) ∧ w'.cell? ⟨w.heap.size, 2, none⟩ = some (.slice (some ⟨bp, op, none⟩) ps.length c) ∧ w'.cell? ⟨w.heap.size + 1, 2, none⟩ = some (.slice (some ⟨bq, oq, none⟩) qs.length cq) ∧ w'.cell? ⟨g5, 2, none⟩ = some (.slice (some ⟨ga, oa, none⟩) ps.length c') ∧ w'.cell? ⟨bq, oq + kq * 4, none⟩ = some (.int .u8 pq.r.toNat) ∧ w'.cell? ⟨bq, oq + kq * 4 + 1, none⟩ = some (.int .u8 pq.g.toNat) ∧ w'.cell? ⟨bq, oq + kq * 4 + 2, none⟩ = some (.int .u8 pq.b.toNat) ∧ w'.cell? ⟨bq, oq + kq * 4 + 3, none⟩ = some (.int .u8 pq.a.toNat) ∧ w'.cell? ⟨bp, op + i * 4, none⟩ = some (.int .u8 pp.r.toNat) ∧ w'.cell? ⟨bp, op + i * 4 + 1, none⟩ = some (.int .u8 pp.g.toNat) ∧ w'.cell? ⟨bp, op + i * 4 + 2, none⟩ = some (.int .u8 pp.b.toNat) ∧ w'.cell? ⟨bp, op + i * 4 + 3, none⟩ = some (.int .u8 pp.a.toNat))
              ((go_split_ands
                refine ⟨?_, ?_, ?_, ?_, ?_, ?_, ?_, ?_, ?_, ?_, ?_, ?_⟩
                · ((repeat' (first | (with_reducible exact t0) | (with_reducible refine cell_set_other _ (ne_blk hz2 _ _) ?_) | (with_reducible refine bkeep hbC ?_))) <;> exact t0)
                · ((repeat' (first | (with_reducible exact s2) | (with_reducible refine cell_set_other _ (ne_blk hz1 _ _) ?_) | (with_reducible refine bkeep hbC ?_))) <;> exact s2)
                · ((repeat' (first | (with_reducible exact t2) | (with_reducible refine cell_set_other _ (ne_blk hz2 _ _) ?_) | (with_reducible refine bkeep hbC ?_))) <;> exact t2)
                · ((repeat' (first | (with_reducible exact o2) | (with_reducible refine cell_set_other _ (hz5 _ _) ?_) | (with_reducible refine bkeep hbC ?_))) <;> exact o2)
                · ((repeat' (first | (with_reducible exact x0) | (with_reducible refine cell_set_other _ (ne_blk hz3 _ _) ?_) | (with_reducible refine bkeep hbC ?_))) <;> exact x0)
                · ((repeat' (first | (with_reducible exact x1') | (with_reducible refine cell_set_other _ (ne_blk hz3 _ _) ?_) | (with_reducible refine bkeep hbC ?_))) <;> exact x1')
                · ((repeat' (first | (with_reducible exact x2') | (with_reducible refine cell_set_other _ (ne_blk hz3 _ _) ?_) | (with_reducible refine bkeep hbC ?_))) <;> exact x2')
                · ((repeat' (first | (with_reducible exact x3) | (with_reducible refine cell_set_other _ (ne_blk hz3 _ _) ?_) | (with_reducible refine bkeep hbC ?_))) <;> exact x3)
                · ((repeat' (first | (with_reducible exact v0) | (with_reducible refine cell_set_other _ (ne_blk hz4 _ _) ?_) | (with_reducible refine bkeep hbC ?_))) <;> exact v0)
                · ((repeat' (first | (with_reducible exact v1) | (with_reducible refine cell_set_other _ (ne_blk hz4 _ _) ?_) | (with_reducible refine bkeep hbC ?_))) <;> exact v1)
                · ((repeat' (first | (with_reducible exact v2) | (with_reducible refine cell_set_other _ (ne_blk hz4 _ _) ?_) | (with_reducible refine bkeep hbC ?_))) <;> exact v2)
                · ((repeat' (first | (with_reducible exact v3) | (with_reducible refine cell_set_other _ (ne_blk hz4 _ _) ?_) | (with_reducible refine bkeep hbC ?_))) <;> exact v3)))
              (first
                | (go_at_call 53; refine (rover_agg m pq pp r wI.drew HMD.out HR.out).mono ?_; rintro e wC ⟨rfl, hbC⟩; have hbI := Below.fromDrew hbC; have GC := HG.out.step hbI; have yy := GC.own.reads.2.px i (Nat.lt_of_lt_of_eq hil HLEN.out.symm); obtain ⟨y0, y1, y2, y3⟩ := yy; have hth := GC.own.there i hil; obtain ⟨f0, f1, f2, f3⟩ := there4 hth))
            have K := GC.put i hil r
            have HK := Lib.hid K
            clear K hbC hbI s0 s2 t0 t2 o2 x0 x1' x2' x3 v0 v1 v2 v3 hw1 hw3 hw4 hw7 hw8 hp4 hp5 hz' hz2' y0 y1 y2 y3 f0 f1 f2 f3 hth
            go_wp2_with fail
            go_roundw
            case rel => exact ⟨j + 1, by omega, by go_num, by
              have h := HK.out
              rw [← HR.out, ← HI.out, HST.out, HI.out, HR.out] at h
              exact h⟩
            case measure => simp [intOf]; omega
        · go_wp2_with fail
          have e : j = Wq := by omega
          rw [e, Lay.stampTo_full] at F
          go_roundw
          case rel => exact ⟨k + 1, by omega, by go_num, F⟩
          case measure => simp [intOf]; omega
    · have e : k = Hq := by omega
      rw [e, Lay.stampTo_end] at F0
      have ho := F0.own
      have n1 : (Value.slice (some ⟨ga, oa, none⟩) ps.length c').ownBlock ≠ some (w.heap.size + 1 + 1) := by have := (ho.lt ga rfl).1; simp [Value.ownBlock]; omega
      have HO := Lib.hid ho
      have HN1 := Lib.hid n1
      clear ho n1 e
      go_wp2_with fail
      refine bodyPost_ret (v := .tuple #[.agg #[.int .i64 W, .int .i64 H, .slice (some ⟨ga, oa, none⟩) ps.length c'], .nilIface]) (by simp [results, Tryd.results37, go_sem, c10]) rfl ⟨some ⟨ga, oa, none⟩, c', rfl, ?_, ?_⟩
      · exact (((HO.out.setCell HN1.out _).setCell HN1.out _).setCell HN1.out _).mono (by omega)
      · have hz : w.heap.size ≤ w.heap.size + 1 + 1 := by omega
        exact (((F0.bel.setCell hz _).setCell hz _).setCell hz _)
end Go.Proofs.YtcdbhcjiimdhhaaDoor
namespace Go.Proofs.YtcdbhcjiimdhhaaDoor
open Go Go.RowKit

set_option maxRecDepth 100000 in
set_option maxHeartbeats 2000000 in
theorem rstamp_shape (W H : Int) (A : Option Addr) (n c : Nat) (Wq Hq : Int) (Aq : Option Addr) (nq cq : Nat) (x y m : Int) (E : Nat → Addr) (w : World) (hE : ErrsAt w E) (hp : rightB W H n = true) (hq : rightB Wq Hq nq = false) :
    Calls Tryd.prog 37 #[.agg #[.int .i64 W, .int .i64 H, .slice A n c], .agg #[.int .i64 Wq, .int .i64 Hq, .slice Aq nq cq], .int .i64 x, .int .i64 y, .int .i64 m] w
      fun e w' => e = .returned (.tuple #[.agg #[.int .i64 0, .int .i64 0, .slice none 0 0], errV (E 2)]) ∧ Below w.heap.size w w' := by
  have HE := Lib.hid hE
  have lE := cell_lt hE.shape
  simp only at lE
  clear hE
  go_enter Tryd.func37, Tryd.ntmps37
  go_wp2_with fail
  obtain ⟨W0, hW0⟩ : ∃ W0, W0 = ((w.alloc (.cells #[.int .i64 W, .int .i64 H, .slice A n c] 24)).alloc (.cells #[.int .i64 Wq, .int .i64 Hq, .slice Aq nq cq] 24)).alloc (.cells #[.int .i64 0, .int .i64 0, .slice none 0 0] 24) := ⟨_, rfl⟩
  have B2 : Blk W0 (w.heap.size + 1) 24 #[.int .i64 Wq, .int .i64 Hq, .slice Aq nq cq] := by rw [hW0]; exact (Blk.new _ _ _ (by simp)).alloc _
  have B3 : Blk W0 (w.heap.size + 1 + 1) 24 #[.int .i64 0, .int .i64 0, .slice none 0 0] := by rw [hW0]; exact Blk.new _ _ _ (by simp)
  have hb0 : Below w.heap.size w W0 := by rw [hW0]; go_grown
  rw [← hW0]
  clear hW0
  refine (rright_any W H A n c _).mono ?_
  rw [hp]
  rintro e w1 ⟨rfl, hb1⟩
  have C2 := B2.below hb1 B2.lt
  have C3 := B3.below hb1 B3.lt
  have hbw1 := hb0.trans (hb1.mono hb0.size)
  have c2 := C2.cell
  clear hb1 hb0 B2 B3
  go_wp2_with fail
  refine (rright_any Wq Hq Aq nq cq _).mono ?_
  rw [hq]
  rintro e w2 ⟨rfl, hb2⟩
  have D3 := C3.below hb2 C3.lt
  have hbw2 := hbw1.trans (hb2.mono hbw1.size)
  have dS := (HE.out.below hbw2).shape
  have d3 := D3.cell
  have f3 := D3.free
  have l3 := D3.lt
  clear hb2 hbw1 C2 C3 c2
  go_wp2_with fail
  go_region
  all_goals
    go_wp2_with fail
    refine bodyPost_ret (v := .tuple #[.agg #[.int .i64 0, .int .i64 0, .slice none 0 0], errV (E 2)]) (by simp [results, Tryd.results37, go_sem, d3, errV]) rfl ⟨rfl, ?_⟩
    have hz : w.heap.size ≤ w.heap.size + 1 + 1 := by omega
    first | exact (((hbw2.drew.setCell hz _).setCell hz _).setCell hz _) | exact (((hbw2.setCell hz _).setCell hz _).setCell hz _).drew

set_option maxRecDepth 100000 in
set_option maxHeartbeats 2000000 in
theorem rstamp_bound (W H : Int) (A : Option Addr) (n c : Nat) (Wq Hq : Int) (Aq : Option Addr) (nq cq : Nat) (x y m : Int) (E : Nat → Addr) (w : World) (hE : ErrsAt w E) (hp : rightB W H n = true) (hq : rightB Wq Hq nq = true) (hb : [x, y].all nearB = false ∨ modeB m = false) :
    Calls Tryd.prog 37 #[.agg #[.int .i64 W, .int .i64 H, .slice A n c], .agg #[.int .i64 Wq, .int .i64 Hq, .slice Aq nq cq], .int .i64 x, .int .i64 y, .int .i64 m] w
      fun e w' => e = .returned (.tuple #[.agg #[.int .i64 0, .int .i64 0, .slice none 0 0], errV (E 1)]) ∧ Below w.heap.size w w' := by
  have HE := Lib.hid hE
  have lE := cell_lt hE.bound
  simp only at lE
  clear hE
  obtain ⟨nb, hnb⟩ : ∃ nb, [x, y].all nearB = nb := ⟨_, rfl⟩
  rw [hnb] at hb
  have HNB := Lib.hid hnb
  clear hnb
  go_enter Tryd.func37, Tryd.ntmps37
  go_wp2_with fail
  obtain ⟨W0, hW0⟩ : ∃ W0, W0 = ((w.alloc (.cells #[.int .i64 W, .int .i64 H, .slice A n c] 24)).alloc (.cells #[.int .i64 Wq, .int .i64 Hq, .slice Aq nq cq] 24)).alloc (.cells #[.int .i64 0, .int .i64 0, .slice none 0 0] 24) := ⟨_, rfl⟩
  have B2 : Blk W0 (w.heap.size + 1) 24 #[.int .i64 Wq, .int .i64 Hq, .slice Aq nq cq] := by rw [hW0]; exact (Blk.new _ _ _ (by simp)).alloc _
  have B3 : Blk W0 (w.heap.size + 1 + 1) 24 #[.int .i64 0, .int .i64 0, .slice none 0 0] := by rw [hW0]; exact Blk.new _ _ _ (by simp)
  have hb0 : Below w.heap.size w W0 := by rw [hW0]; go_grown
  rw [← hW0]
  clear hW0
  refine (rright_any W H A n c _).mono ?_
  rw [hp]
  rintro e w1 ⟨rfl, hb1⟩
  have C2 := B2.below hb1 B2.lt
  have C3 := B3.below hb1 B3.lt
  have hbw1 := hb0.trans (hb1.mono hb0.size)
  have c2 := C2.cell
  clear hb1 hb0 B2 B3
  go_wp2_with fail
  refine (rright_any Wq Hq Aq nq cq _).mono ?_
  rw [hq]
  rintro e w2 ⟨rfl, hb2⟩
  have D3 := C3.below hb2 C3.lt
  have hbw2 := hbw1.trans (hb2.mono hbw1.size)
  clear hb2 hbw1 C2 C3 c2
  go_wp2_with fail
  refine (rnear_any _ _ _ [x, y] _ _ (ints_blk (zs := [x, y]) (Blk.new w2 _ _ rfl)) (show (2 : Nat) ≤ 1048576 from Nat.le_of_ble_eq_true rfl) HNB.out).mono ?_
  rintro e w3 ⟨rfl, hb3⟩
  have hb3' := ((Below.refl w2.heap.size w2).alloc (Nat.le_refl _) _).trans (hb3.mono (by simp))
  have E3 := D3.below hb3' D3.lt
  have hbw3 := hbw2.trans (hb3'.mono hbw2.size)
  have dS := (HE.out.below hbw3).bound
  have d3 := E3.cell
  have f3 := E3.free
  have l3 := E3.lt
  clear hb3 hb3' hbw2 D3
  cases nb with
  | false =>
    go_wp2_with fail
    go_region
    all_goals
      go_wp2_with fail
      refine bodyPost_ret (v := .tuple #[.agg #[.int .i64 0, .int .i64 0, .slice none 0 0], errV (E 1)]) (by simp [results, Tryd.results37, go_sem, d3, errV]) rfl ⟨rfl, ?_⟩
      have hz : w.heap.size ≤ w.heap.size + 1 + 1 := by omega
      first | exact (((hbw3.drew.setCell hz _).setCell hz _).setCell hz _) | exact (((hbw3.setCell hz _).setCell hz _).setCell hz _).drew
  | true =>
    have hmb : modeB m = false := by
      rcases hb with h | h
      · cases h
      · exact h
    have HMB := Lib.hid hmb
    clear hmb hb
    go_wp2_with fail
    refine (mode_any m _).mono ?_
    rw [HMB.out]
    rintro e w3' ⟨rfl, rfl⟩
    go_wp2_with fail
    go_region
    all_goals
      go_wp2_with fail
      refine bodyPost_ret (v := .tuple #[.agg #[.int .i64 0, .int .i64 0, .slice none 0 0], errV (E 1)]) (by simp [results, Tryd.results37, go_sem, d3, errV]) rfl ⟨rfl, ?_⟩
      have hz : w.heap.size ≤ w.heap.size + 1 + 1 := by omega
      first | exact (((hbw3.drew.setCell hz _).setCell hz _).setCell hz _) | exact (((hbw3.setCell hz _).setCell hz _).setCell hz _).drew
end Go.Proofs.YtcdbhcjiimdhhaaDoor
