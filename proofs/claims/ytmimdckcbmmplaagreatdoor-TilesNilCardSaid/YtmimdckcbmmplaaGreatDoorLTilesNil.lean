/- TilesNil: the law's walk. Printed by mklnil.py. -/
import Derived.Test.YtmimdckcbmmplaaGreatDoorNilGrid
import Derived.Test.YtmimdckcbmmplaaGreatDoorOne
import Derived.Test.YtmimdckcbmmplaaGreatDoorChangedOf
import Derived.Test.YtmimdckcbmmplaaGreatDoorCoded
namespace Go.Proofs.YtmimdckcbmmplaaGreatDoor
open Go Go.RowKit

theorem npack_any (w : World) : Calls Tryz.prog 15 #[.pointer none] w fun e w' => e = .returned (.string ⟨#[]⟩) ∧ Below w.heap.size w w' := by
  go_enter Tryz.func15, Tryz.ntmps15
  go_wp2_with fail
  go_ret
  exact ⟨rfl, by first | exact Below.refl _ _ | go_grown | go_show⟩
theorem nfill_zero (E : Nat → Addr) (w : World) (hE : ErrsAt w E) :
    Calls Tryz.prog 8 #[.pointer none, .agg #[.int .i64 0, .int .i64 0, .int .i64 0, .int .i64 0], .agg #[.int .u8 0, .int .u8 0, .int .u8 0, .int .u8 0]] w fun e w' => e = .returned (.tuple #[.pointer none, errV (E 2)]) ∧ Below w.heap.size w w' :=
  nfill_any E w 0 0 0 0 ⟨0, 0, 0, 0⟩ hE
theorem sameNone (w : World) : Calls Tryz.prog 16 #[.agg #[.int .i64 0, .int .i64 0, .slice none 0 0], .agg #[.int .i64 0, .int .i64 0, .slice none 0 0]] w fun e w' => e = .returned (.bool true) ∧ Below w.heap.size w w' :=
  samePicture_same 0 0 none 0 0 none 0 [] w Reads.none_ Reads.none_ (by omega)
theorem right_len {W H : Nat} {n : Nat} (h : (n : Int) = (W : Int) * (H : Int)) : n = H * W := by
  have h1 : (n : Int) = ((W * H : Nat) : Int) := by rw [Int.natCast_mul]; exact h
  rw [Nat.mul_comm]
  omega
theorem of_some (W H : Int) (A : Option Addr) (n c : Nat) (ps : List Px) (E : Nat → Addr) (w : World) (hp : Reads w w.heap.size 4 A n (pxCells ps)) (hE : ErrsAt w E) :
    Calls Tryz.prog 6 #[.agg #[.int .i64 W, .int .i64 H, .slice A n c]] w fun e w' => ∃ gv ev, e = .returned (.tuple #[gv, ev]) ∧ Below w.heap.size w w' := by
  obtain rfl := hp.pxLen
  cases hr : rightB W H ps.length with
  | false => exact (of_bad W H A ps.length c E w hE hr).mono fun e w' ⟨he, hb⟩ => ⟨_, _, he, hb⟩
  | true =>
    obtain ⟨⟨W1, W2⟩, ⟨H1, H2⟩, hWH, _⟩ := rightB_true hr
    obtain ⟨W, rfl⟩ : ∃ m : Nat, W = m := ⟨W.toNat, by omega⟩
    obtain ⟨H, rfl⟩ : ∃ m : Nat, H = m := ⟨H.toNat, by omega⟩
    exact (of_good W H A ps.length c ps w hp (by omega) (by omega) (right_len hWH)).mono fun e w' ⟨gG, ts, he, _, _, hb⟩ => ⟨_, _, he, hb⟩
theorem changedOf_both (W H : Nat) (A1 : Option Addr) (n c1 : Nat) (A2 : Option Addr) (n2 c2 : Nat) (ps qs : List Px) (w : World) (hp : Reads w w.heap.size 4 A1 n (pxCells ps)) (hq : Reads w w.heap.size 4 A2 n2 (pxCells qs)) (hW : W ≤ 256) (hH : H ≤ 256) (hn : ps.length = H * W) (hn2 : qs.length = H * W) :
    Calls Tryz.prog 19 #[.agg #[.int .i64 W, .int .i64 H, .slice A1 n c1], .agg #[.int .i64 W, .int .i64 H, .slice A2 n2 c2]] w
      fun e w' => ∃ A c, e = .returned (.slice A (Til.diff ps qs W (Til.rects W H)).length c) ∧ Reads w' w'.heap.size 4 A (Til.diff ps qs W (Til.rects W H)).length (rcCells (Til.diff ps qs W (Til.rects W H))) ∧ Below w.heap.size w w' := by
  obtain rfl : n = n2 := by rw [hp.pxLen, hq.pxLen, hn, hn2]
  exact changedOf_any W H A1 n c1 A2 c2 ps qs w hp hq hW hH hn
/-- What stands all through the law. -/
structure NilAt (W H : Int) (A : Option Addr) (n c : Nat) (W2 H2 : Int) (A2 : Option Addr) (n2 c2 : Nat) (w x : World) : Prop where
  p : Blk x w.heap.size 24 #[.int .i64 W, .int .i64 H, .slice A n c]
  q : Blk x (w.heap.size + 1) 24 #[.int .i64 W2, .int .i64 H2, .slice A2 n2 c2]
  bel : Below w.heap.size w x
theorem NilAt.step {W H : Int} {A : Option Addr} {n c : Nat} {W2 H2 : Int} {A2 : Option Addr} {n2 c2 : Nat} {w x y : World} (h : NilAt W H A n c W2 H2 A2 n2 c2 w x) (hb : Below x.heap.size x y) : NilAt W H A n c W2 H2 A2 n2 c2 w y :=
  ⟨h.p.below hb h.p.lt, h.q.below hb h.q.lt, h.bel.trans (hb.mono h.bel.size)⟩

set_option maxRecDepth 100000 in
set_option maxHeartbeats 8000000 in
theorem tilesNil_any (W H : Int) (A : Option Addr) (n c : Nat) (ps : List Px) (W2 H2 : Int) (A2 : Option Addr) (n2 c2 : Nat) (qs : List Px) (E : Nat → Addr) (w : World) (hp : Reads w w.heap.size 4 A n (pxCells ps)) (hq : Reads w w.heap.size 4 A2 n2 (pxCells qs)) (hE : ErrsAt w E) :
    Calls Tryz.prog 3 #[.agg #[.int .i64 W, .int .i64 H, .slice A n c], .agg #[.int .i64 W2, .int .i64 H2, .slice A2 n2 c2]] w fun e w' => e = .returned (.bool true) ∧ Below w.heap.size w w' := by
  obtain rfl := hp.pxLen
  obtain rfl := hq.pxLen
  have HP := Lib.hid hp
  have HQ := Lib.hid hq
  have HE := Lib.hid hE
  clear hp hq hE
  obtain ⟨rb, hrb⟩ : ∃ rb, rightB W H ps.length = rb := ⟨_, rfl⟩
  have HRB := Lib.hid hrb
  obtain ⟨rq, hrq⟩ : ∃ rq, rightB W2 H2 qs.length = rq := ⟨_, rfl⟩
  have HRQ := Lib.hid hrq
  clear hrb hrq
  go_enter Tryz.func3, Tryz.ntmps3
  go_wp2_with fail
  refine (one_any _).mono ?_
  rintro e w1 ⟨rfl, hb1⟩
  have K1 : NilAt W H A ps.length c W2 H2 A2 qs.length c2 w w1 := NilAt.step ⟨(Blk.new _ _ _ rfl).alloc _, Blk.new _ _ _ (by simp), by go_grown⟩ hb1
  clear hb1
  have cp := K1.p.cell
  have cq := K1.q.cell
  have lq := K1.q.lt
  go_wp2_with fail
  refine (small_any W H A ps.length c _).mono ?_
  rintro e w2 ⟨rfl, hb2⟩
  have K2 := K1.step hb2
  by_cases hn3 : ps.length ≤ 3000
  case neg =>
    have hd : decide (ps.length ≤ 3000) = false := by simp [hn3]
    rw [hd]
    go_wp2_with fail
    go_ret
    exact ⟨rfl, K2.bel⟩
  have hd : decide (ps.length ≤ 3000) = true := by simp [hn3]
  rw [hd]
  clear hd
  clear cp cq lq
  have cp := K2.p.cell
  have cq := K2.q.cell
  have lq := K2.q.lt
  go_wp2_with fail
  refine (small_any W2 H2 A2 qs.length c2 _).mono ?_
  rintro e w3 ⟨rfl, hb3⟩
  have K3 := K2.step hb3
  by_cases hq3 : qs.length ≤ 3000
  case neg =>
    have hd : decide (qs.length ≤ 3000) = false := by simp [hq3]
    rw [hd]
    go_wp2_with fail
    go_ret
    exact ⟨rfl, K3.bel⟩
  have hd : decide (qs.length ≤ 3000) = true := by simp [hq3]
  rw [hd]
  clear hd
  clear cp cq lq
  have cp := K3.p.cell
  have cq := K3.q.cell
  have lq := K3.q.lt
  go_wp2_with fail
  refine (own_any W H A ps.length c ps _ ((HP.out.below K3.bel (Nat.le_refl _)).more K3.bel.size) (by omega)).mono ?_
  rintro e w4 ⟨A4, c4, rfl, hO4, hb4⟩
  have K4 := K3.step hb4
  have R4 := hO4.reads.2
  clear hO4
  cases rb with
  | false =>
    clear cp cq lq
    have cp := K4.p.cell
    have cq := K4.q.cell
    have lq := K4.q.lt
    go_wp2_with fail
    refine (of_bad W H A4 ps.length c4 E _ (HE.out.below K4.bel) HRB.out).mono ?_
    rintro e w5 ⟨rfl, hb5⟩
    have K5 := K4.step hb5
    unfold errV
    clear cp cq lq
    have cp := K5.p.cell
    have cq := K5.q.cell
    have lq := K5.q.lt
    go_wp2_with fail
    refine (own_any W2 H2 A2 qs.length c2 qs _ ((HQ.out.below K5.bel (Nat.le_refl _)).more K5.bel.size) (by omega)).mono ?_
    rintro e w6 ⟨A6, c6, rfl, hO6, hb6⟩
    have K6 := K5.step hb6
    clear cp cq lq
    have cp := K6.p.cell
    have cq := K6.q.cell
    have lq := K6.q.lt
    go_wp2_with fail
    refine (of_some W2 H2 A6 qs.length c6 qs E _ hO6.reads.2 (HE.out.below K6.bel)).mono ?_
    rintro e w7 ⟨gv, ev, rfl, hb7⟩
    have K7 := K6.step hb7
    clear cp cq lq
    have cp := K7.p.cell
    have cq := K7.q.cell
    have lq := K7.q.lt
    go_wp2_with fail
    go_ret
    exact ⟨rfl, K7.bel⟩
  | true =>
    obtain ⟨⟨a1, a2⟩, ⟨a3, a4⟩, hWH, _⟩ := rightB_true HRB.out
    obtain ⟨W', rfl⟩ : ∃ W' : Nat, W = W' := ⟨W.toNat, by omega⟩
    obtain ⟨H', rfl⟩ : ∃ H' : Nat, H = H' := ⟨H.toNat, by omega⟩
    have HNL := Lib.hid (right_len hWH)
    have hW' : 1 ≤ W' ∧ W' ≤ 256 := by omega
    have hH' : 1 ≤ H' ∧ H' ≤ 256 := by omega
    clear hWH a1 a2 a3 a4
    clear cp cq lq
    have cp := K4.p.cell
    have cq := K4.q.cell
    have lq := K4.q.lt
    go_wp2_with fail
    refine (of_good W' H' A4 ps.length c4 ps _ R4 hW' hH' HNL.out).mono ?_
    rintro e w5 ⟨g1, ts, rfl, G5, T5, hb5⟩
    have K5 := K4.step hb5
    have HT5 := Lib.hid T5
    have HG5 := Lib.hid G5
    clear T5 G5
    clear cp cq lq
    have cp := K5.p.cell
    have cq := K5.q.cell
    have lq := K5.q.lt
    go_wp2_with fail
    refine (own_any W2 H2 A2 qs.length c2 qs _ ((HQ.out.below K5.bel (Nat.le_refl _)).more K5.bel.size) (by omega)).mono ?_
    rintro e w6 ⟨A6, c6, rfl, hO6, hb6⟩
    have K6 := K5.step hb6
    have R6 := hO6.reads.2
    have HG6 := Lib.hid (HG5.out.step hb6)
    clear hO6
    cases rq with
    | false =>
      clear cp cq lq
      have cp := K6.p.cell
      have cq := K6.q.cell
      have lq := K6.q.lt
      go_wp2_with fail
      refine (of_bad W2 H2 A6 qs.length c6 E _ (HE.out.below K6.bel) HRQ.out).mono ?_
      rintro e w7 ⟨rfl, hb7⟩
      have K7 := K6.step hb7
      unfold errV
      clear cp cq lq
      have cp := K7.p.cell
      have cq := K7.q.cell
      have lq := K7.q.lt
      go_wp2_with fail
      go_ret
      exact ⟨rfl, K7.bel⟩
    | true =>
      obtain ⟨⟨a1, a2⟩, ⟨a3, a4⟩, hWH, _⟩ := rightB_true HRQ.out
      obtain ⟨V', rfl⟩ : ∃ W' : Nat, W2 = W' := ⟨W2.toNat, by omega⟩
      obtain ⟨U', rfl⟩ : ∃ H' : Nat, H2 = H' := ⟨H2.toNat, by omega⟩
      have HNQ := Lib.hid (right_len hWH)
      have hV' : 1 ≤ V' ∧ V' ≤ 256 := by omega
      have hU' : 1 ≤ U' ∧ U' ≤ 256 := by omega
      clear hWH a1 a2 a3 a4
      clear cp cq lq
      have cp := K6.p.cell
      have cq := K6.q.cell
      have lq := K6.q.lt
      go_wp2_with fail
      refine (of_good V' U' A6 qs.length c6 qs _ R6 hV' hU' HNQ.out).mono ?_
      rintro e w7 ⟨g2, us, rfl, G7, T7, hb7⟩
      have K7 := K6.step hb7
      have HT7 := Lib.hid T7
      have HGq := Lib.hid G7
      have HGp := Lib.hid (HG6.out.step hb7)
      clear T7 G7
      clear cp cq lq
      have cp := K7.p.cell
      have cq := K7.q.cell
      have lq := K7.q.lt
      go_wp2_with fail
      refine (nfill_zero E _ (HE.out.below K7.bel)).mono ?_
      rintro e w8 ⟨rfl, hb8⟩
      have K8 := K7.step hb8
      unfold errV
      clear cp cq lq
      have cp := K8.p.cell
      have cq := K8.q.cell
      have lq := K8.q.lt
      go_wp2_with fail
      refine (own_any W' H' A ps.length c ps _ ((HP.out.below K8.bel (Nat.le_refl _)).more K8.bel.size) (by omega)).mono ?_
      rintro e w9 ⟨A9, c9, rfl, hO9, hb9⟩
      have K9 := K8.step hb9
      clear hO9
      clear cp cq lq
      have cp := K9.p.cell
      have cq := K9.q.cell
      have lq := K9.q.lt
      go_wp2_with fail
      refine (nstamp_any E _ W' H' A9 ps.length c9 0 0 0 (HE.out.below K9.bel)).mono ?_
      rintro e w10 ⟨rfl, hb10⟩
      have K10 := K9.step hb10
      unfold errV
      clear cp cq lq
      have cp := K10.p.cell
      have cq := K10.q.cell
      have lq := K10.q.lt
      go_wp2_with fail
      refine (nat_any E _ 0 0 (HE.out.below K10.bel)).mono ?_
      rintro e w11 ⟨rfl, hb11⟩
      have K11 := K10.step hb11
      unfold errV
      clear cp cq lq
      have cp := K11.p.cell
      have cq := K11.q.cell
      have lq := K11.q.lt
      go_wp2_with fail
      obtain ⟨w12, hw12⟩ : ∃ x, x = w11.alloc (.cells #[.int .u8 0, .int .u8 0, .int .u8 0, .int .u8 0] 37) := ⟨_, rfl⟩
      have hb12 : Below w11.heap.size w11 w12 := by rw [hw12]; exact (Below.refl _ _).alloc (Nat.le_refl _) _
      have K12 := K11.step hb12
      rw [← hw12]
      clear hw12
      refine (nsize_any _).mono ?_
      rintro e wx ⟨rfl, rfl⟩
      clear cp cq lq
      have cp := K12.p.cell
      have cq := K12.q.cell
      have lq := K12.q.lt
      go_wp2_with fail
      refine (nchanged_any E _ g1 (HE.out.below K12.bel)).mono ?_
      rintro e w13 ⟨rfl, hb13⟩
      have K13 := K12.step hb13
      unfold errV
      clear cp cq lq
      have cp := K13.p.cell
      have cq := K13.q.cell
      have lq := K13.q.lt
      go_wp2_with fail
      refine (coded_sent E 2 (by omega) 3 _ (HE.out.below K13.bel)).mono ?_
      rintro e w14 ⟨rfl, hb14⟩
      have K14 := K13.step hb14
      clear cp cq lq
      have cp := K14.p.cell
      have cq := K14.q.cell
      have lq := K14.q.lt
      go_wp2_with fail
      refine (coded_sent E 2 (by omega) 3 _ (HE.out.below K14.bel)).mono ?_
      rintro e w15 ⟨rfl, hb15⟩
      have K15 := K14.step hb15
      clear cp cq lq
      have cp := K15.p.cell
      have cq := K15.q.cell
      have lq := K15.q.lt
      go_wp2_with fail
      refine (coded_sent E 2 (by omega) 3 _ (HE.out.below K15.bel)).mono ?_
      rintro e w16 ⟨rfl, hb16⟩
      have K16 := K15.step hb16
      clear cp cq lq
      have cp := K16.p.cell
      have cq := K16.q.cell
      have lq := K16.q.lt
      go_wp2_with fail
      refine (coded_sent E 2 (by omega) 3 _ (HE.out.below K16.bel)).mono ?_
      rintro e w17 ⟨rfl, hb17⟩
      have K17 := K16.step hb17
      clear cp cq lq
      have cp := K17.p.cell
      have cq := K17.q.cell
      have lq := K17.q.lt
      go_wp2_with fail
      refine (nplain_any _).mono ?_
      rintro e wx ⟨rfl, rfl⟩
      go_wp2_with fail
      refine (npack_any _).mono ?_
      rintro e w18 ⟨rfl, hb18⟩
      have K18 := K17.step hb18
      clear cp cq lq
      have cp := K18.p.cell
      have cq := K18.q.cell
      have lq := K18.q.lt
      go_wp2_with fail
      refine (npicture_any _).mono ?_
      rintro e w19 ⟨rfl, hb19⟩
      have K19 := K18.step hb19
      clear cp cq lq
      have cp := K19.p.cell
      have cq := K19.q.cell
      have lq := K19.q.lt
      go_wp2_with fail
      refine (sameNone _).mono ?_
      rintro e w20 ⟨rfl, hb20⟩
      have K20 := K19.step hb20
      have e8 := hb8
      have e9 := e8.trans (hb9.mono e8.size)
      have e10 := e9.trans (hb10.mono e9.size)
      have e11 := e10.trans (hb11.mono e10.size)
      have e12 := e11.trans (hb12.mono e11.size)
      have e13 := e12.trans (hb13.mono e12.size)
      have e14 := e13.trans (hb14.mono e13.size)
      have e15 := e14.trans (hb15.mono e14.size)
      have e16 := e15.trans (hb16.mono e15.size)
      have e17 := e16.trans (hb17.mono e16.size)
      have e18 := e17.trans (hb18.mono e17.size)
      have e19 := e18.trans (hb19.mono e18.size)
      have e20 := e19.trans (hb20.mono e19.size)
      have HGp2 := Lib.hid (HGp.out.step e20)
      have HGq2 := Lib.hid (HGq.out.step e20)
      clear e8 e9 e10 e11 e12 e13 e14 e15 e16 e17 e18 e19 e20
      rcases (show (W' = V' ∧ H' = U') ∨ ¬ W' = V' ∨ (W' = V' ∧ ¬ H' = U') by omega) with ⟨e1, e2⟩ | hne | ⟨e1, hne⟩
      · subst e1
        subst e2
        clear cp cq lq
        have cp := K20.p.cell
        have cq := K20.q.cell
        have lq := K20.q.lt
        go_wp2_with fail
        refine (tchanged_any g1 g2 W' H' ts us ps qs _ HGp2.out HT5.out HGq2.out HT7.out hW' hH').mono ?_
        rintro e w21 ⟨AD, cD, rfl, hRD, hb21⟩
        have K21 := K20.step hb21
        obtain ⟨D, hD⟩ : ∃ D, Til.diff ps qs W' (Til.rects W' H') = D := ⟨_, rfl⟩
        have HD := Lib.hid hD
        rw [hD] at hRD
        try rw [hD]
        have HDL := Lib.hid (show D.length ≤ 1048576 by
          rw [← hD]
          exact Nat.le_trans (Nat.le_trans (Til.diff_length _ _ _ _) (rects_small W' H' hW'.2 hH'.2)) (by omega))
        have HRD := Lib.hid hRD
        clear hD hRD
        clear cp cq lq
        have cp := K21.p.cell
        have cq := K21.q.cell
        have lq := K21.q.lt
        go_wp2_with fail
        refine (changedOf_both W' H' A ps.length c A2 qs.length c2 ps qs _ ((HP.out.below K21.bel (Nat.le_refl _)).more K21.bel.size) ((HQ.out.below K21.bel (Nat.le_refl _)).more K21.bel.size) hW'.2 hH'.2 HNL.out HNQ.out).mono ?_
        rintro e w22 ⟨AF, cF, rfl, hRF, hb22⟩
        have K22 := K21.step hb22
        rw [HD.out] at hRF
        try rw [HD.out]
        have HRF := Lib.hid hRF
        have HRD2 := Lib.hid ((HRD.out.below hb22 (Nat.le_refl _)).more hb22.size)
        clear hRF
        clear cp cq lq
        have cp := K22.p.cell
        have cq := K22.q.cell
        have lq := K22.q.lt
        go_wp2_with fail
        refine (sameRects_any AD D.length cD AF D.length cF D _ HRD2.out HRF.out HDL.out).mono ?_
        rintro e w23 ⟨rfl, hb23⟩
        have K23 := K22.step hb23
        clear cp cq lq
        have cp := K23.p.cell
        have cq := K23.q.cell
        have lq := K23.q.lt
        go_wp2_with fail
        go_ret
        exact ⟨rfl, K23.bel⟩
      · have hni : ¬ (W' : Int) = (V' : Int) := by omega
        clear cp cq lq
        have cp := K20.p.cell
        have cq := K20.q.cell
        have lq := K20.q.lt
        go_wp2_with fail
        refine (ochanged_any E _ g1 g2 W' H' V' U' ts us HGp2.out HGq2.out (HE.out.below K20.bel) (by omega)).mono ?_
        rintro e w21 ⟨rfl, hb21⟩
        have K21 := K20.step hb21
        unfold errV
        clear cp cq lq
        have cp := K21.p.cell
        have cq := K21.q.cell
        have lq := K21.q.lt
        go_wp2_with fail
        refine (coded_sent E 2 (by omega) 3 _ (HE.out.below K21.bel)).mono ?_
        rintro e w22 ⟨rfl, hb22⟩
        have K22 := K21.step hb22
        clear cp cq lq
        have cp := K22.p.cell
        have cq := K22.q.cell
        have lq := K22.q.lt
        go_wp2_with fail
        go_ret
        exact ⟨rfl, K22.bel⟩
      · have hni : ¬ (H' : Int) = (U' : Int) := by omega
        subst e1
        clear cp cq lq
        have cp := K20.p.cell
        have cq := K20.q.cell
        have lq := K20.q.lt
        go_wp2_with fail
        refine (ochanged_any E _ g1 g2 W' H' W' U' ts us HGp2.out HGq2.out (HE.out.below K20.bel) (by omega)).mono ?_
        rintro e w21 ⟨rfl, hb21⟩
        have K21 := K20.step hb21
        unfold errV
        clear cp cq lq
        have cp := K21.p.cell
        have cq := K21.q.cell
        have lq := K21.q.lt
        go_wp2_with fail
        refine (coded_sent E 2 (by omega) 3 _ (HE.out.below K21.bel)).mono ?_
        rintro e w22 ⟨rfl, hb22⟩
        have K22 := K21.step hb22
        clear cp cq lq
        have cp := K22.p.cell
        have cq := K22.q.cell
        have lq := K22.q.lt
        go_wp2_with fail
        go_ret
        exact ⟨rfl, K22.bel⟩
end Go.Proofs.YtmimdckcbmmplaaGreatDoor
