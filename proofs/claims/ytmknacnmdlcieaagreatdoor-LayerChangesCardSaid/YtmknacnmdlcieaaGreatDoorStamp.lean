/- The reference's In, at, StampOf: the walks. -/
import Derived.Test.YtmknacnmdlcieaaGreatDoorRefBase
import Derived.Test.YtmknacnmdlcieaaGreatDoorOverOf
import Derived.Test.YtmknacnmdlcieaaGreatDoorBase
namespace Go.Proofs.YtmknacnmdlcieaaGreatDoor
open Go Go.RowKit

theorem overOf_agg (m : Int) (t u q : Px) (w : World) (hq : Pix.over m t u = q) :
    Calls Tryz.prog 71 #[.int .i64 m, .agg #[.int .u8 t.r.toNat, .int .u8 t.g.toNat, .int .u8 t.b.toNat, .int .u8 t.a.toNat], .agg #[.int .u8 u.r.toNat, .int .u8 u.g.toNat, .int .u8 u.b.toNat, .int .u8 u.a.toNat]] w
      fun e w' => e = .returned (.agg #[.int .u8 q.r.toNat, .int .u8 q.g.toNat, .int .u8 q.b.toNat, .int .u8 q.a.toNat]) ∧ Below w.heap.size w w' := by
  subst hq
  exact overOf_any m t u w

/-- What stands through StampOf's loops. -/
structure StR (W' H' : Nat) (A : Option Addr) (n c : Nat) (Wq Hq : Int) (Aq : Option Addr) (nq cq : Nat) (w : World) (g5 ga oa c' : Nat) (l : List Px) (wr : World) : Prop where
  b1 : Blk wr w.heap.size 27 #[.int .i64 W', .int .i64 H', .slice A n c]
  b2 : Blk wr (w.heap.size + 1) 27 #[.int .i64 Wq, .int .i64 Hq, .slice Aq nq cq]
  b10 : Blk wr (w.heap.size + 1 + 1) 27 #[.int .i64 0, .int .i64 0, .slice none 0 0]
  b11 : Blk wr g5 27 #[.int .i64 W', .int .i64 H', .slice (some ⟨ga, oa, none⟩) n c']
  own : Own wr (w.heap.size + 3) 4 (.slice (some ⟨ga, oa, none⟩) n c') n (pxCells l)
  ne : ga ≠ g5
  g5h : w.heap.size + 3 ≤ g5
  bel : Below w.heap.size w wr
section
variable {W' H' : Nat} {A : Option Addr} {n c : Nat} {Wq Hq : Int} {Aq : Option Addr} {nq cq : Nat} {w wr w' : World} {g5 ga oa c' : Nat} {l : List Px}
theorem StR.step (h : StR W' H' A n c Wq Hq Aq nq cq w g5 ga oa c' l wr) (hb : Below wr.heap.size wr w') : StR W' H' A n c Wq Hq Aq nq cq w g5 ga oa c' l w' :=
  ⟨h.b1.below hb h.b1.lt, h.b2.below hb h.b2.lt, h.b10.below hb h.b10.lt, h.b11.below hb h.b11.lt, h.own.below hb (Nat.le_refl _), h.ne, h.g5h, h.bel.trans (hb.mono (by have := h.b1.lt; omega))⟩
theorem StR.put (h : StR W' H' A n c Wq Hq Aq nq cq w g5 ga oa c' l wr) (i : Nat) (hi : i < n) (q : Px) : StR W' H' A n c Wq Hq Aq nq cq w g5 ga oa c' (l.set i q) (wr.setCells ga (oa + i * 4) (pxCs q)) := by
  have hg := (h.own.lt ga rfl).1
  exact ⟨h.b1.setCells_ (by omega) _ _, h.b2.setCells_ (by omega) _ _, h.b10.setCells_ (by omega) _ _, h.b11.setCells_ (fun e => h.ne e.symm) _ _, h.own.setPx i hi q, h.ne, h.g5h, Below.setCells_ h.bel (by omega) _ _⟩
end

set_option maxRecDepth 100000 in
set_option maxHeartbeats 4000000 in
theorem stampOf_any (W' H' : Nat) (A : Option Addr) (n c : Nat) (ps : List Px) (Wq Hq : Int) (Aq : Option Addr) (nq cq : Nat) (qs : List Px) (x y m : Int) (w : World)
    (hp : Reads w w.heap.size 4 A n (pxCells ps)) (hq : Reads w w.heap.size 4 Aq nq (pxCells qs)) (hW : 1 ≤ W' ∧ W' ≤ 256) (hH : 1 ≤ H' ∧ H' ≤ 256) (hn : ps.length = H' * W') (hWq : 0 ≤ Wq ∧ Wq ≤ 256) (hHq : 0 ≤ Hq ∧ Hq ≤ 256) (hnq : (qs.length : Int) = Wq * Hq)
    (hx : -10000 ≤ x ∧ x ≤ 10000) (hy : -10000 ≤ y ∧ y ≤ 10000) :
    Calls Tryz.prog 58 #[.agg #[.int .i64 W', .int .i64 H', .slice A n c], .agg #[.int .i64 Wq, .int .i64 Hq, .slice Aq nq cq], .int .i64 x, .int .i64 y, .int .i64 m] w
      fun e w' => ∃ A' c', e = .returned (.agg #[.int .i64 W', .int .i64 H', .slice A' n c']) ∧ Own w' w.heap.size 4 (.slice A' n c') n (pxCells (Lay.grid (Lay.stampAt ps qs W' Wq Hq x y m) W' H')) ∧ Below w.heap.size w w' := by
  obtain rfl := hp.pxLen
  have hmul : 1 * 1 ≤ H' * W' ∧ H' * W' ≤ 256 * 256 := ⟨Nat.mul_le_mul hH.1 hW.1, Nat.mul_le_mul hH.2 hW.2⟩
  have hn1 : 0 < ps.length := by omega
  have hn2 : ps.length ≤ 65536 := by omega
  obtain ⟨f, hf⟩ : ∃ f, f = Lay.stampAt ps qs W' Wq Hq x y m := ⟨_, rfl⟩
  rw [← hf]
  have HF := Lib.hid hf
  have HN := Lib.hid hn
  have HNQ := Lib.hid hnq
  have HP := Lib.hid hp
  have HQ := Lib.hid hq
  clear hf hn hnq hmul hp hq
  go_enter Tryz.func58, Tryz.ntmps58
  go_wp2_with fail
  refine (own_any _ _ _ _ _ ps _ ((((HP.out.alloc (Nat.le_refl _) _).alloc (by simp) _).alloc (by simp; omega) _).more (by simp; omega)) (by omega)).mono ?_
  rintro e w1 ⟨A', c', rfl, hO, hb1⟩
  obtain ⟨ga, oa, rfl, hga1, hga2⟩ := hO.addr hn1
  go_wp2_with fail
  obtain ⟨g5, hg5⟩ : ∃ g5, g5 = w1.heap.size := ⟨_, rfl⟩
  obtain ⟨w2, hw2⟩ : ∃ w2, w2 = w1.alloc (.cells #[.int .i64 W', .int .i64 H', .slice (some ⟨ga, oa, none⟩) ps.length c'] 27) := ⟨_, rfl⟩
  have F0 : StR W' H' A ps.length c Wq Hq Aq nq cq w g5 ga oa c' (Lay.mixTo f ps W' 0 0) w2 := by
    rw [hw2, hg5, Lay.mixTo_start]
    have hb0 : Below w.heap.size w w1 := Below.trans (by go_grown) (hb1.mono (by simp; omega))
    have hz := hb1.size
    simp at hz
    refine ⟨?_, ?_, ?_, Blk.new _ _ _ rfl, ?_, ?_, ?_, hb0.alloc (by omega) _⟩
    · exact ((((Blk.new _ _ _ rfl).alloc _).alloc _).below hb1 (by simp; omega)).alloc _
    · exact (((Blk.new _ _ _ (by simp)).alloc _).below hb1 (by simp)).alloc _
    · exact ((Blk.new _ _ _ (by simp)).below hb1 (by simp)).alloc _
    · exact (hO.alloc _).mono (by simp)
    · omega
    · omega
  rw [← hw2, ← hg5]
  clear hw2 hg5 hO hb1 hga1 hga2
  go_loopw [12] (fun i wr => ∃ k, k ≤ H' ∧ i = .int .i64 k ∧ StR W' H' A ps.length c Wq Hq Aq nq cq w g5 ga oa c' (Lay.mixTo f ps W' k 0) wr) (fun i _ => H' - (intOf i).toNat)
  case atStart => exact ⟨0, Nat.zero_le _, rfl, F0⟩
  case round =>
    clear F0
    obtain ⟨k, hk, rfl, F0⟩ := hrel
    obtain ⟨wo, rfl⟩ : ∃ wo : World, wo = wr := ⟨_, rfl⟩
    have c1 := F0.b1.cell
    have c11 := F0.b11.cell
    have c10 := F0.b10.cell
    have f10 := F0.b10.free
    by_cases hlt : k < H'
    · go_wp2_with fail
      go_loopw [13] (fun i wr => ∃ j, j ≤ W' ∧ i = .int .i64 j ∧ StR W' H' A ps.length c Wq Hq Aq nq cq w g5 ga oa c' (Lay.mixTo f ps W' k j) wr) (fun i _ => W' - (intOf i).toNat)
      case atStart => exact ⟨0, Nat.zero_le _, rfl, F0⟩
      case round =>
        clear F0 c1 c11 c10 f10
        obtain ⟨j, hj, rfl, F⟩ := hrel
        obtain ⟨wi, rfl⟩ : ∃ wi : World, wi = wr := ⟨_, rfl⟩
        have c1 := F.b1.cell
        have c2 := F.b2.cell
        by_cases hjl : j < W'
        · obtain ⟨i, hi⟩ : ∃ i, k * W' + j = i := ⟨_, rfl⟩
          have hil : i < ps.length := by
            have := Nat.mul_le_mul_right W' (show k + 1 ≤ H' by omega)
            rw [Nat.succ_mul] at this
            have := HN.out
            omega
          obtain ⟨bI, hbi⟩ : ∃ b, Lay.inP Wq Hq ((j : Int) - x) ((k : Int) - y) = b := ⟨_, rfl⟩
          have HI := Lib.hid hi
          have HBI := Lib.hid hbi
          clear hi hbi
          go_wp2_with fail
          refine (inRef_any Wq Hq _ _ Aq nq cq _).mono ?_
          rw [HBI.out]
          rintro e wI ⟨rfl, hbI⟩
          have G := F.step hbI
          have d1 := G.b1.cell
          have d2 := G.b2.cell
          have d11 := G.b11.cell
          clear c1 c2 hbI F
          cases bI with
          | false =>
            go_wp2_with fail
            go_roundw
            case rel => exact ⟨j + 1, by omega, by go_num, by
              rw [← Lay.mixTo_keep f ps W' k j (by rw [HI.out]; exact hil) (by rw [HF.out, Lay.stampAt, HBI.out]; rfl)]
              exact G⟩
            case measure => simp [intOf]; omega
          | true =>
            have hbt := HBI.out
            simp only [Lay.inP, Bool.and_eq_true, decide_eq_true_eq] at hbt
            obtain ⟨ux, hux⟩ : ∃ u, (j : Int) - x = u := ⟨_, rfl⟩
            obtain ⟨vy, hvy⟩ : ∃ v, (k : Int) - y = v := ⟨_, rfl⟩
            rw [hux, hvy] at hbt
            obtain ⟨⟨⟨b1, b2⟩, b3⟩, b4⟩ := hbt
            have hw1 : IntKind.i64.wrap ((j : Int) - x) = ux := by rw [hux]; exact IntWalk.i64_in _ (by omega)
            have hw2 : IntKind.i64.wrap ((k : Int) - y) = vy := by rw [hvy]; exact IntWalk.i64_in _ (by omega)
            have v1 : (vy + 1) * Wq ≤ Hq * Wq := Int.mul_le_mul_of_nonneg_right (by omega) (by omega)
            have v2 : 0 ≤ vy * Wq := Int.mul_nonneg b2 (by omega)
            have v3 : Hq * Wq ≤ 256 * 256 := Int.mul_le_mul hHq.2 hWq.2 hWq.1 (by omega)
            rw [Int.add_mul, Int.one_mul] at v1
            obtain ⟨kq, hkq⟩ : ∃ kq : Nat, vy * Wq + ux = kq := ⟨(vy * Wq + ux).toNat, by omega⟩
            have hkl : kq < qs.length := by have := HNQ.out; rw [Int.mul_comm] at this; omega
            have hyq : 0 ≤ vy * Wq ∧ vy * Wq ≤ 1048576 := by omega
            obtain ⟨pq, hpq⟩ : ∃ p, qs[kq]? = some p := ⟨_, List.getElem?_eq_getElem hkl⟩
            obtain ⟨pp, hpp⟩ : ∃ p, ps[i]? = some p := ⟨_, List.getElem?_eq_getElem hil⟩
            obtain ⟨z, hz⟩ : ∃ z, k * W' = z := ⟨_, rfl⟩
            have hzi : z + j = i := by rw [← hz]; exact HI.out
            have hz' : (k : Int) * (W' : Int) = (z : Int) := by rw [← hz, Int.natCast_mul]
            have hw3 : IntKind.i64.wrap ((k : Int) * (W' : Int)) = (z : Int) := by rw [hz']; exact IntWalk.i64_in _ (by omega)
            have hw4 : IntKind.i64.wrap ((z : Int) + (j : Int)) = (i : Int) := by rw [← hzi, Int.natCast_add]; exact IntWalk.i64_in _ (by omega)
            have hp4 : (z : Int) + (j : Int) = (i : Int) := by rw [← hzi, Int.natCast_add]
            have hw5 : IntKind.i64.wrap ux = ux := IntWalk.i64_in _ (by omega)
            have hw6 : IntKind.i64.wrap vy = vy := IntWalk.i64_in _ (by omega)
            have hw7 : IntKind.i64.wrap (z : Int) = (z : Int) := IntWalk.i64_in _ (by omega)
            have hw8 : IntKind.i64.wrap (i : Int) = (i : Int) := IntWalk.i64_in _ (by omega)
            obtain ⟨r, hr⟩ : ∃ r, Pix.over m pq pp = r := ⟨_, rfl⟩
            have HFR := Lib.hid (show f j k = r by
              rw [HF.out, Lay.stampAt, HBI.out, if_pos rfl, hux, hvy, hkq, HI.out, Int.toNat_natCast, List.getD_eq_getElem?_getD, List.getD_eq_getElem?_getD, hpq, hpp]
              exact hr)
            have HR := Lib.hid hr
            have HPQ := Lib.hid hpq
            have HPP := Lib.hid hpp
            have HKQ := Lib.hid hkq
            have HZI := Lib.hid (show (k : Int) * (W' : Int) + (j : Int) = (i : Int) by rw [hz', ← hzi, Int.natCast_add])
            have HZB := Lib.hid (show 0 ≤ (k : Int) * (W' : Int) ∧ (k : Int) * (W' : Int) ≤ 1048576 by rw [hz']; omega)
            have HYQ := Lib.hid hyq
            have HUX := Lib.hid (show 0 ≤ ux ∧ ux ≤ 1048576 by omega)
            have HJX := Lib.hid (show 0 ≤ (j : Int) ∧ (j : Int) ≤ 1048576 by omega)
            have HQ1 := Lib.hid ((HQ.out.below G.bel (Nat.le_refl _)).more G.bel.size)
            have HP1 := Lib.hid ((HP.out.below G.bel (Nat.le_refl _)).more G.bel.size)
            have HLEN := Lib.hid (Lay.mixTo_length f ps W' k j (by rw [HI.out]; omega))
            have hge := (G.own.lt ga rfl).1
            have hz1 : w.heap.size < ga := by omega
            have hz2 : w.heap.size + 1 < ga := by omega
            have hz5 : ∀ (a o : Nat), (⟨ga, a, none⟩ : Addr) ≠ ⟨g5, o, none⟩ := fun a o e => G.ne (by injection e)
            have i0 : (0 : Int) ≤ (i : Int) := by omega
            have i1 : (i : Int) < (ps.length : Int) := by omega
            have s0 : wI.cell? ⟨w.heap.size, 0, none⟩ = some (.int .i64 W') := (G.b1.cell 0).trans rfl
            have s1 : wI.cell? ⟨w.heap.size, 1, none⟩ = some (.int .i64 H') := (G.b1.cell 1).trans rfl
            have s2 : wI.cell? ⟨w.heap.size, 2, none⟩ = some (.slice A ps.length c) := (G.b1.cell 2).trans rfl
            have t0 : wI.cell? ⟨w.heap.size + 1, 0, none⟩ = some (.int .i64 Wq) := (G.b2.cell 0).trans rfl
            have t1 : wI.cell? ⟨w.heap.size + 1, 1, none⟩ = some (.int .i64 Hq) := (G.b2.cell 1).trans rfl
            have t2 : wI.cell? ⟨w.heap.size + 1, 2, none⟩ = some (.slice Aq nq cq) := (G.b2.cell 2).trans rfl
            have o2 : wI.cell? ⟨g5, 2, none⟩ = some (.slice (some ⟨ga, oa, none⟩) ps.length c') := (G.b11.cell 2).trans rfl
            have HA1 := Lib.hid (atRef_any Wq Hq Aq nq cq qs ux vy kq pq wI.drew HQ1.out HPQ.out HYQ.out HUX.out HKQ.out)
            clear hr hpq hpp hkq hz hzi hyq v1 v2 v3 hkl b3 b4 d1 d2 d11
            go_wp2_with fail
            go_region_held3 (fun w' => w'.cell? ⟨w.heap.size, 0, none⟩ = some (.int .i64 W') ∧ w'.cell? ⟨w.heap.size, 1, none⟩ = some (.int .i64 H') ∧ w'.cell? ⟨w.heap.size, 2, none⟩ = some (.slice A ps.length c) ∧ w'.cell? ⟨w.heap.size + 1, 0, none⟩ = some (.int .i64 Wq) ∧ w'.cell? ⟨w.heap.size + 1, 1, none⟩ = some (.int .i64 Hq) ∧ w'.cell? ⟨w.heap.size + 1, 2, none⟩ = some (.slice Aq nq cq) ∧ w'.cell? ⟨g5, 2, none⟩ = some (.slice (some ⟨ga, oa, none⟩) ps.length c'))
              ((go_split_ands
                refine ⟨?_, ?_, ?_, ?_, ?_, ?_, ?_⟩
                · ((repeat' (first | (with_reducible exact s0) | (with_reducible refine cell_set_other _ (ne_blk hz1 _ _) ?_) | (with_reducible refine bkeep hbC ?_) | (with_reducible refine bkeep hbB ?_) | (with_reducible refine bkeep hbA ?_))) <;> exact s0)
                · ((repeat' (first | (with_reducible exact s1) | (with_reducible refine cell_set_other _ (ne_blk hz1 _ _) ?_) | (with_reducible refine bkeep hbC ?_) | (with_reducible refine bkeep hbB ?_) | (with_reducible refine bkeep hbA ?_))) <;> exact s1)
                · ((repeat' (first | (with_reducible exact s2) | (with_reducible refine cell_set_other _ (ne_blk hz1 _ _) ?_) | (with_reducible refine bkeep hbC ?_) | (with_reducible refine bkeep hbB ?_) | (with_reducible refine bkeep hbA ?_))) <;> exact s2)
                · ((repeat' (first | (with_reducible exact t0) | (with_reducible refine cell_set_other _ (ne_blk hz2 _ _) ?_) | (with_reducible refine bkeep hbC ?_) | (with_reducible refine bkeep hbB ?_) | (with_reducible refine bkeep hbA ?_))) <;> exact t0)
                · ((repeat' (first | (with_reducible exact t1) | (with_reducible refine cell_set_other _ (ne_blk hz2 _ _) ?_) | (with_reducible refine bkeep hbC ?_) | (with_reducible refine bkeep hbB ?_) | (with_reducible refine bkeep hbA ?_))) <;> exact t1)
                · ((repeat' (first | (with_reducible exact t2) | (with_reducible refine cell_set_other _ (ne_blk hz2 _ _) ?_) | (with_reducible refine bkeep hbC ?_) | (with_reducible refine bkeep hbB ?_) | (with_reducible refine bkeep hbA ?_))) <;> exact t2)
                · ((repeat' (first | (with_reducible exact o2) | (with_reducible refine cell_set_other _ (hz5 _ _) ?_) | (with_reducible refine bkeep hbC ?_) | (with_reducible refine bkeep hbB ?_) | (with_reducible refine bkeep hbA ?_))) <;> exact o2)))
              (first
                | (have hcc := atRef_any W' H' A ps.length c ps j k i pp wA ((HP1.out.below ((Below.here wI).trans hbA) (Nat.le_refl _)).more hbA.size) HPP.out HZB.out HJX.out HZI.out; go_at_call 72; with_reducible refine hcc.mono ?_; rintro e wB ⟨rfl, hbB⟩)
                | (go_at_call 72; with_reducible refine HA1.out.mono ?_; rintro e wA ⟨rfl, hbA⟩)
                | (go_at_call 71; refine (overOf_agg m pq pp r wB HR.out).mono ?_; rintro e wC ⟨rfl, hbC⟩; have hzA : wI.heap.size ≤ wA.heap.size := hbA.size; have hzB : wI.heap.size ≤ wB.heap.size := Nat.le_trans hzA hbB.size; have hbI : Below wI.heap.size wI wC := (((Below.here wI).trans hbA).trans (hbB.mono hzA)).trans (hbC.mono hzB); have GC := G.step hbI; have yy := GC.own.reads.2.px i (Nat.lt_of_lt_of_eq hil HLEN.out.symm); obtain ⟨y0, y1, y2, y3⟩ := yy; have hth := GC.own.there i hil; have f0 := (hth 0 (Nat.zero_lt_succ _)).2; have f1 := (hth 1 (Nat.lt_of_sub_eq_succ rfl)).2; have f2 := (hth 2 (Nat.lt_of_sub_eq_succ rfl)).2; have f3 := (hth 3 (Nat.lt_of_sub_eq_succ rfl)).2; simp only [Nat.add_zero] at f0))
            have H := GC.put i hil r
            have HH := Lib.hid H
            clear H hbA hbB hbC s0 s1 s2 t0 t1 t2 o2 hw1 hw2 hw3 hw4 hw5 hw6 hw7 hw8 hp4 hz' hux hvy y0 y1 y2 y3 f0 f1 f2 f3 hth
            go_wp2_with fail
            go_roundw
            case rel => exact ⟨j + 1, by omega, by go_num, by
              have h := HH.out
              rw [← HI.out, ← HFR.out, Lay.mixTo_set f ps W' k j (by rw [HI.out]; exact hil)] at h
              rw [HFR.out, HI.out] at h
              exact h⟩
            case measure => simp [intOf]; omega
        · go_wp2_with fail
          have e : j = W' := by omega
          subst e
          rw [Lay.mixTo_full] at F
          go_roundw
          case rel => exact ⟨k + 1, by omega, by go_num, F⟩
          case measure => simp [intOf]; omega
    · have e : k = H' := by omega
      subst e
      rw [Lay.mixTo_end f ps W' k HN.out] at F0
      have ho := F0.own
      have n1 : (Value.slice (some ⟨ga, oa, none⟩) ps.length c').ownBlock ≠ some (w.heap.size + 1 + 1) := by have := (ho.lt ga rfl).1; simp [Value.ownBlock]; omega
      have HO := Lib.hid ho
      have HN1 := Lib.hid n1
      clear ho n1
      go_wp2_with fail
      refine bodyPost_ret (v := .agg #[.int .i64 W', .int .i64 k, .slice (some ⟨ga, oa, none⟩) ps.length c']) (by simp [results, Tryz.results58, go_sem, c10]) rfl ⟨some ⟨ga, oa, none⟩, c', rfl, ?_, ?_⟩
      · exact (((HO.out.setCell HN1.out _).setCell HN1.out _).setCell HN1.out _).mono (by omega)
      · have hz : w.heap.size ≤ w.heap.size + 1 + 1 := by omega
        exact (((F0.bel.setCell hz _).setCell hz _).setCell hz _)
end Go.Proofs.YtmknacnmdlcieaaGreatDoor
