/- TilesOf: the law's walk. -/
import Derived.Test.YtcdbhcjiimdhhaaDoorOne
import Derived.Test.YtcdbhcjiimdhhaaDoorCoded
import Derived.Deep.RegionHeld3
namespace Go.Proofs.YtcdbhcjiimdhhaaDoor
open Go Go.RowKit

set_option maxRecDepth 100000 in
set_option maxHeartbeats 8000000 in
theorem tilesOf_any (W H : Int) (A : Option Addr) (n c : Nat) (ps : List Px) (x y : Int) (E : Nat → Addr) (w : World) (hp : Reads w w.heap.size 4 A n (pxCells ps)) (hE : ErrsAt w E) :
    Calls Tryd.prog 3 #[.agg #[.int .i64 W, .int .i64 H, .slice A n c], .int .i64 x, .int .i64 y] w fun e w' => e = .returned (.bool true) ∧ Below w.heap.size w w' := by
  obtain rfl := hp.pxLen
  have HP := Lib.hid hp
  have HE := Lib.hid hE
  clear hp hE
  obtain ⟨rb, hrb⟩ : ∃ rb, rightB W H ps.length = rb := ⟨_, rfl⟩
  have HRB := Lib.hid hrb
  clear hrb
  go_enter Tryd.func3, Tryd.ntmps3
  go_wp2_with fail
  refine (one_any _).mono ?_
  rintro e w1 ⟨rfl, hb1⟩
  have B1 := (Blk.new w 24 #[.int .i64 W, .int .i64 H, .slice A ps.length c] rfl).below hb1 (by simp)
  have hbw1 := Below.trans (show Below w.heap.size w (w.alloc (.cells #[.int .i64 W, .int .i64 H, .slice A ps.length c] 24)) by go_grown) (hb1.mono (by simp))
  have c1 := B1.cell
  clear hb1
  go_wp2_with fail
  refine (small_any W H A ps.length c _).mono ?_
  rintro e w2 ⟨rfl, hb2⟩
  have B2 := B1.below hb2 B1.lt
  have hbw2 := hbw1.trans (hb2.mono hbw1.size)
  have c2 := B2.cell
  clear hb2 c1 B1 hbw1
  by_cases hn3 : ps.length ≤ 3000
  · have hd : decide (ps.length ≤ 3000) = true := by simp [hn3]
    rw [hd]
    go_wp2_with fail
    refine (own_any W H A ps.length c ps _ ((HP.out.below hbw2 (Nat.le_refl _)).more hbw2.size) (by omega)).mono ?_
    rintro e w3 ⟨A3, c3, rfl, hO3, hb3⟩
    have B3 := B2.below hb3 B2.lt
    have hbw3 := hbw2.trans (hb3.mono hbw2.size)
    have R3 := hO3.reads.2
    have c3' := B3.cell
    clear hb3 c2 B2 hbw2 hO3 hd
    cases rb with
    | false =>
      go_wp2_with fail
      refine (of_bad W H A3 ps.length c3 E _ (HE.out.below hbw3) HRB.out).mono ?_
      rintro e w4 ⟨rfl, hb4⟩
      unfold errV
      have B4 := B3.below hb4 B3.lt
      have hbw4 := hbw3.trans (hb4.mono hbw3.size)
      have c4 := B4.cell
      clear hb4 c3' B3 hbw3 R3
      go_wp2_with fail
      refine (pright_any W H A ps.length c _).mono ?_
      rw [HRB.out]
      rintro e w5 ⟨rfl, hb5⟩
      have hbw5 := hbw4.trans (hb5.mono hbw4.size)
      have HX5 := Lib.hid (HE.out.below hbw5)
      clear hb5 c4 B4 hbw4
      go_wp2_with fail
      refine (coded_sent E 2 (by omega) 3 _ HX5.out).mono ?_
      rintro e w6 ⟨rfl, hb6⟩
      have hbw6 := hbw5.trans (hb6.mono hbw5.size)
      clear hb6
      go_wp2_with fail
      go_ret
      exact ⟨rfl, hbw6⟩
    | true =>
      obtain ⟨⟨W1, W2⟩, ⟨H1, H2⟩, hWH, _⟩ := rightB_true HRB.out
      obtain ⟨W', rfl⟩ : ∃ W' : Nat, W = W' := ⟨W.toNat, by omega⟩
      obtain ⟨H', rfl⟩ : ∃ H' : Nat, H = H' := ⟨H.toNat, by omega⟩
      have HNL := Lib.hid (show ps.length = H' * W' by
        have h1 : (ps.length : Int) = ((W' * H' : Nat) : Int) := by rw [Int.natCast_mul]; exact hWH
        rw [Nat.mul_comm]
        omega)
      have hW' : 1 ≤ W' ∧ W' ≤ 256 := by omega
      have hH' : 1 ≤ H' ∧ H' ≤ 256 := by omega
      clear hWH
      go_wp2_with fail
      refine (of_good W' H' A3 ps.length c3 ps _ R3 hW' hH' HNL.out).mono ?_
      rintro e w4 ⟨gG, ts, rfl, hG, hT, hb4⟩
      have B4 := B3.below hb4 B3.lt
      have hbw4 := hbw3.trans (hb4.mono hbw3.size)
      have c4 := B4.cell
      have hl : ts.length ≤ 1000 := by
        rw [hT.len]
        have h1 : Til.cols W' ≤ 16 := by unfold Til.cols; omega
        have h2 : Til.cols H' ≤ 16 := by unfold Til.cols; omega
        have := Nat.mul_le_mul h2 h1
        omega
      have HT := Lib.hid hT
      clear hb4 c3' B3 hbw3 R3 hT
      go_wp2_with fail
      refine (pright_any W' H' A ps.length c _).mono ?_
      rw [HRB.out]
      rintro e w5 ⟨rfl, hb5⟩
      have B5 := B4.below hb5 B4.lt
      have G5 := hG.step hb5
      have hbw5 := hbw4.trans (hb5.mono hbw4.size)
      have s0 : w5.cell? ⟨w.heap.size, 0, none⟩ = some (.int .i64 W') := (B5.cell 0).trans rfl
      have s1 : w5.cell? ⟨w.heap.size, 1, none⟩ = some (.int .i64 H') := (B5.cell 1).trans rfl
      have s2 : w5.cell? ⟨w.heap.size, 2, none⟩ = some (.slice A ps.length c) := (B5.cell 2).trans rfl
      have HG5 := Lib.hid G5
      have HB5 := Lib.hid B5
      have HW5 := Lib.hid hbw5
      clear hb5 c4 B4 hbw4 hG G5 B5 hbw5
      go_wp2_with fail
      go_region_held3 (fun w' => w'.cell? ⟨w.heap.size, 0, none⟩ = some (.int .i64 W') ∧ w'.cell? ⟨w.heap.size, 1, none⟩ = some (.int .i64 H') ∧ w'.cell? ⟨w.heap.size, 2, none⟩ = some (.slice A ps.length c))
        ((go_split_ands
          refine ⟨?_, ?_, ?_⟩
          · ((repeat' (first | (with_reducible exact s0) | (with_reducible refine bkeep hbC ?_) | (with_reducible refine bkeep hbB ?_) | (with_reducible refine bkeep hbA ?_))) <;> exact s0)
          · ((repeat' (first | (with_reducible exact s1) | (with_reducible refine bkeep hbC ?_) | (with_reducible refine bkeep hbB ?_) | (with_reducible refine bkeep hbA ?_))) <;> exact s1)
          · ((repeat' (first | (with_reducible exact s2) | (with_reducible refine bkeep hbC ?_) | (with_reducible refine bkeep hbB ?_) | (with_reducible refine bkeep hbA ?_))) <;> exact s2)))
        (first
          | (go_at_call 12; refine (gpicture_any gG W' H' ts ps w5.drew (HG5.out.step (Below.here w5)) HT.out HNL.out hW' hH').mono ?_; rintro e wA ⟨A6, c6, rfl, hO6, hbA⟩; have hbI := Below.fromDrew hbA; have RP := (HP.out.below (HW5.out.trans (hbI.mono HW5.out.size)) (Nat.le_refl _)).more (HW5.out.trans (hbI.mono HW5.out.size)).size)
          | (go_at_call 11; refine (samePicture_same W' H' A6 ps.length c6 A c ps wA hO6.reads.2 RP (by omega)).mono ?_; rintro e wB ⟨rfl, hbB⟩)
          | (go_at_call 13; refine (gplain_any gG W' H' ts ps wB ((HG5.out.step hbI).step hbB) HT.out hl).mono ?_; rintro e wZ ⟨rfl, rfl⟩)
          | (go_at_call 14; refine (plainOf_any W' H' A ps.length c ps _ ((RP.below hbB (Nat.le_refl _)).more hbB.size) hW'.2 hH'.2 HNL.out).mono ?_; rintro e wC ⟨rfl, hbC⟩))
      have hb5C : Below w5.heap.size w5 wC := (hbI.trans (hbB.mono hbI.size)).trans (hbC.mono (Nat.le_trans hbI.size hbB.size))
      have B6 := HB5.out.below hb5C HB5.out.lt
      have G6 := HG5.out.step hb5C
      have hbw6 := HW5.out.trans (hb5C.mono HW5.out.size)
      clear hbA hbB hbC hbI hO6 RP s0 s1 s2 hb5C
      go_wp2_with fail
      refine (gsize_any gG W' H' ts _ G6).mono ?_
      rintro e w7 ⟨rfl, hb7⟩
      have B7 := B6.below hb7 B6.lt
      have G7 := G6.step hb7
      have hbw7 := hbw6.trans (hb7.mono hbw6.size)
      clear hb7 B6 G6 hbw6
      cases hin : Lay.inP W' H' x y with
      | false =>
          have HIN := Lib.hid hin
          clear hin
          go_wp2_with fail
          refine (gat_out gG W' H' ts x y E _ (HE.out.below hbw7) G7 HIN.out).mono ?_
          rintro e w8 ⟨rfl, hb8⟩
          unfold errV
          have B8 := B7.below hb8 B7.lt
          have hbw8 := hbw7.trans (hb8.mono hbw7.size)
          have c8 := B8.cell
          have l8 := B8.lt
          clear hb8 B7 hbw7 G7
          go_wp2_with fail
          obtain ⟨gC, hgC⟩ : ∃ gC, gC = w8.heap.size := ⟨_, rfl⟩
          obtain ⟨w9, hw9⟩ : ∃ w9, w9 = w8.alloc (.cells #[.int .u8 0, .int .u8 0, .int .u8 0, .int .u8 0] 41) := ⟨_, rfl⟩
          have hb9 : Below w8.heap.size w8 w9 := by rw [hw9]; exact (Below.refl _ _).alloc (Nat.le_refl _) _
          have C9 : Blk w9 gC 41 #[.int .u8 0, .int .u8 0, .int .u8 0, .int .u8 0] := by rw [hw9, hgC]; exact Blk.new _ _ _ rfl
          have B9 := B8.below hb9 B8.lt
          have hbw9 := hbw8.trans (hb9.mono hbw8.size)
          rw [← hw9, ← hgC]
          clear hw9 hgC hb9 B8 hbw8 c8 l8
          refine (inRef_any W' H' _ _ A ps.length c _).mono ?_
          rw [HIN.out]
          rintro e w10 ⟨rfl, hb10⟩
          have C10 := C9.below hb10 C9.lt
          have B10 := B9.below hb10 B9.lt
          have hbw10 := hbw9.trans (hb10.mono hbw9.size)
          have cC := C10.cell
          have cB := B10.cell
          clear hb10 C9 B9 hbw9
          have HX := Lib.hid (HE.out.below hbw10)
          go_wp2_with fail
          refine (coded_sent E 1 (by omega) 2 _ HX.out).mono ?_
          rintro e w11 ⟨rfl, hb11⟩
          have C11 := C10.below hb11 C10.lt
          have c11 := C11.cell
          have hbw11 := hbw10.trans (hb11.mono hbw10.size)
          have heq := fun w => run_eql_px w Pix.nil Pix.nil
          unfold pxV Pix.nil at heq
          clear hb11 cC cB
          go_wp2_with fail
          go_ret
          exact ⟨rfl, hbw11⟩
      | true =>
          have HIN := Lib.hid hin
          simp only [Lay.inP, Bool.and_eq_true, decide_eq_true_eq] at hin
          obtain ⟨⟨⟨h1, h2⟩, h3⟩, h4⟩ := hin
          obtain ⟨x', rfl⟩ : ∃ x' : Nat, x = x' := ⟨x.toNat, by omega⟩
          obtain ⟨y', rfl⟩ : ∃ y' : Nat, y = y' := ⟨y.toNat, by omega⟩
          have hx' : x' < W' := by omega
          have hy' : y' < H' := by omega
          have hil := Til.index_lt hx' hy'
          rw [← HNL.out] at hil
          obtain ⟨i, hi⟩ : ∃ i, y' * W' + x' = i := ⟨_, rfl⟩
          rw [hi] at hil
          obtain ⟨q, hq⟩ : ∃ q, ps[i] = q := ⟨_, rfl⟩
          have HQ := Lib.hid (show ps.getD (y' * W' + x') default = q by rw [hi, List.getD_eq_getElem?_getD, List.getElem?_eq_getElem hil]; exact hq)
          have HQ2 := Lib.hid (show ps[i]? = some q by rw [List.getElem?_eq_getElem hil, hq])
          have HI := Lib.hid hi
          clear h1 h2 h3 h4 hi hq
          go_wp2_with fail
          refine (gat_in gG W' H' ts ps x' y' q _ G7 HT.out hW' hH' hx' hy' HQ.out).mono ?_
          rintro e w8 ⟨rfl, hb8⟩
          have B8 := B7.below hb8 B7.lt
          have hbw8 := hbw7.trans (hb8.mono hbw7.size)
          have c8 := B8.cell
          have l8 := B8.lt
          clear hb8 B7 hbw7 G7
          go_wp2_with fail
          obtain ⟨gC, hgC⟩ : ∃ gC, gC = w8.heap.size := ⟨_, rfl⟩
          obtain ⟨w9, hw9⟩ : ∃ w9, w9 = w8.alloc (.cells #[.int .u8 q.r.toNat, .int .u8 q.g.toNat, .int .u8 q.b.toNat, .int .u8 q.a.toNat] 41) := ⟨_, rfl⟩
          have hb9 : Below w8.heap.size w8 w9 := by rw [hw9]; exact (Below.refl _ _).alloc (Nat.le_refl _) _
          have C9 : Blk w9 gC 41 #[.int .u8 q.r.toNat, .int .u8 q.g.toNat, .int .u8 q.b.toNat, .int .u8 q.a.toNat] := by rw [hw9, hgC]; exact Blk.new _ _ _ rfl
          have B9 := B8.below hb9 B8.lt
          have hbw9 := hbw8.trans (hb9.mono hbw8.size)
          rw [← hw9, ← hgC]
          clear hw9 hgC hb9 B8 hbw8 c8 l8
          refine (inRef_any W' H' _ _ A ps.length c _).mono ?_
          rw [HIN.out]
          rintro e w10 ⟨rfl, hb10⟩
          have C10 := C9.below hb10 C9.lt
          have B10 := B9.below hb10 B9.lt
          have hbw10 := hbw9.trans (hb10.mono hbw9.size)
          have cC := C10.cell
          have cB := B10.cell
          clear hb10 C9 B9 hbw9
          have RP := (HP.out.below hbw10 (Nat.le_refl _)).more hbw10.size
          obtain ⟨bw, ow, rfl, hbw⟩ := RP.addr (by omega)
          have yy := RP.px i hil
          obtain ⟨hil2, hqe⟩ := List.getElem?_eq_some_iff.1 HQ2.out
          rw [hqe] at yy
          obtain ⟨y0, y1, y2, y3⟩ := yy
          have heq := fun w => run_eql_px w q q
          unfold pxV at heq
          have i0 : (0 : Int) ≤ (i : Int) := by omega
          have i1 : (i : Int) < (ps.length : Int) := by omega
          obtain ⟨z, hz⟩ : ∃ z, y' * W' = z := ⟨_, rfl⟩
          have hzi : (z : Int) + (x' : Int) = (i : Int) := by have := HI.out; rw [hz] at this; omega
          have hzz : (y' : Int) * (W' : Int) = (z : Int) := by rw [← hz, Int.natCast_mul]
          have hw1 : IntKind.i64.wrap ((y' : Int) * (W' : Int)) = (z : Int) := by rw [hzz]; exact IntWalk.i64_in _ (by omega)
          have hw2 : IntKind.i64.wrap ((z : Int) + (x' : Int)) = (i : Int) := by rw [hzi]; exact IntWalk.i64_in _ (by omega)
          have hw5 : IntKind.i64.wrap (z : Int) = (z : Int) := IntWalk.i64_in _ (by omega)
          have hw6 : IntKind.i64.wrap (i : Int) = (i : Int) := IntWalk.i64_in _ (by omega)
          clear hil2 hqe hz
          go_wp2_with fail
          go_quiet (fail)
          go_wp2_with fail
          go_ret
          exact ⟨rfl, below_drewN hbw10 _⟩
  · have hd : decide (ps.length ≤ 3000) = false := by simp [hn3]
    rw [hd]
    go_wp2_with fail
    go_ret
    exact ⟨rfl, hbw2⟩
end Go.Proofs.YtcdbhcjiimdhhaaDoor
