/- layercakeref3.FlatOf: the walk. -/
import Derived.Test.YtmknacnmdlcieaaGreatDoorStamp
import Derived.Test.YtmknacnmdlcieaaGreatDoorFlatten
import Derived.Test.YtmknacnmdlcieaaGreatDoorPix5
import Derived.Test.YtmknacnmdlcieaaGreatDoorBase
namespace Go.Proofs.YtmknacnmdlcieaaGreatDoor
open Go Go.RowKit

namespace Lay
/-- Pixels in place, one by one. -/
def fadeTo (qs : List Px) (o : Int) (j : Nat) : List Px := mixTo (fun x _ => Pix.fade (qs.getD x default) o) qs qs.length 0 j
theorem fadeTo_zero (qs : List Px) (o : Int) : fadeTo qs o 0 = qs := mixTo_start _ _ _
theorem fadeTo_length (qs : List Px) (o : Int) (j : Nat) (h : j ≤ qs.length) : (fadeTo qs o j).length = qs.length := mixTo_length _ _ _ _ _ (by omega)
theorem fadeTo_set (qs : List Px) (o : Int) (j : Nat) (p q : Px) (h : qs[j]? = some p) (hq : Pix.fade p o = q) : (fadeTo qs o j).set j q = fadeTo qs o (j + 1) := by
  obtain ⟨hj, e⟩ := List.getElem?_eq_some_iff.1 h
  have := mixTo_set (fun x _ => Pix.fade (qs.getD x default) o) qs qs.length 0 j (by omega)
  rw [Nat.zero_mul, Nat.zero_add, List.getD_eq_getElem?_getD, h] at this
  rw [← hq]
  exact this
theorem fadeTo_here (qs : List Px) (o : Int) (j : Nat) : (fadeTo qs o j)[j]? = qs[j]? := by
  have := mixTo_here (fun x _ => Pix.fade (qs.getD x default) o) qs qs.length 0 j
  rw [Nat.zero_mul, Nat.zero_add] at this
  exact this
theorem fadeTo_all (qs : List Px) (o : Int) : fadeTo qs o qs.length = qs.map fun p => Pix.fade p o := by
  unfold fadeTo
  rw [mixTo_full, mixTo_end _ _ _ _ (by omega)]
  apply List.ext_getElem?
  intro i
  by_cases h : i < qs.length
  · have := grid_at (fun x _ => Pix.fade (qs.getD x default) o) qs.length 1 i 0 h (by omega)
    rw [Nat.zero_mul, Nat.zero_add, List.getD_eq_getElem?_getD] at this
    rw [this, List.getElem?_map, List.getElem?_eq_getElem h]
    rfl
  · rw [List.getElem?_eq_none (by rw [grid_length]; omega), List.getElem?_eq_none (by rw [List.length_map]; omega)]
end Lay

theorem fadeOf_agg (p : Px) (o : Int) (q : Px) (w : World) (h0 : 0 ≤ o) (h1 : o ≤ 255) (hq : Pix.fade p o = q) :
    Calls Tryz.prog 57 #[.agg #[.int .u8 p.r.toNat, .int .u8 p.g.toNat, .int .u8 p.b.toNat, .int .u8 p.a.toNat], .int .i64 o] w
      fun e w' => e = .returned (.agg #[.int .u8 q.r.toNat, .int .u8 q.g.toNat, .int .u8 q.b.toNat, .int .u8 q.a.toNat]) ∧ Below w.heap.size w w' := by
  subst hq
  exact fadeOf_any p o w h0 h1

/-- What stands through FlatOf's loop. -/
structure FoR (W' H' : Nat) (A : Option Addr) (n c : Nat) (w : World) (g3 ga oa m c' : Nat) (l : List Px) (wr : World) : Prop where
  b1 : Blk wr w.heap.size 24 #[.int .i64 W', .int .i64 H', .slice A n c]
  b2 : Blk wr (w.heap.size + 1) 27 #[.int .i64 0, .int .i64 0, .slice none 0 0]
  b3 : Blk wr g3 27 #[.int .i64 W', .int .i64 H', .slice (some ⟨ga, oa, none⟩) m c']
  own : Own wr (w.heap.size + 2) 4 (.slice (some ⟨ga, oa, none⟩) m c') m (pxCells l)
  ne : ga ≠ g3
  g3h : w.heap.size + 2 ≤ g3
  bel : Below w.heap.size w wr
section
variable {W' H' : Nat} {A : Option Addr} {n c : Nat} {w wr w' : World} {g3 ga oa m c' : Nat} {l : List Px}
theorem FoR.step (h : FoR W' H' A n c w g3 ga oa m c' l wr) (hb : Below wr.heap.size wr w') : FoR W' H' A n c w g3 ga oa m c' l w' :=
  ⟨h.b1.below hb h.b1.lt, h.b2.below hb h.b2.lt, h.b3.below hb h.b3.lt, h.own.below hb (Nat.le_refl _), h.ne, h.g3h, h.bel.trans (hb.mono (by have := h.b1.lt; omega))⟩
theorem FoR.put (h : FoR W' H' A n c w g3 ga oa m c' l wr) {wS : World} {gb ob c2 : Nat} {l2 : List Px} (hb : Below wr.heap.size wr wS) (ho : Own wS wr.heap.size 4 (.slice (some ⟨gb, ob, none⟩) m c2) m (pxCells l2)) :
    FoR W' H' A n c w g3 gb ob m c2 l2 (((wS.setCell ⟨g3, 0, none⟩ (.int .i64 W')).setCell ⟨g3, 1, none⟩ (.int .i64 H')).setCell ⟨g3, 2, none⟩ (.slice (some ⟨gb, ob, none⟩) m c2)) := by
  have h1 := h.step hb
  have h3 := h.b3.lt
  have hw := h.b1.lt
  have hg := h.g3h
  have hgb := (ho.lt gb rfl).1
  have n1 : (Value.slice (some ⟨gb, ob, none⟩) m c2).ownBlock ≠ some g3 := by simp [Value.ownBlock]; omega
  refine ⟨((h1.b1.far (by simp; omega) _).far (by simp; omega) _).far (by simp; omega) _, ((h1.b2.far (by simp; omega) _).far (by simp; omega) _).far (by simp; omega) _, ?_, ((((ho.setCell n1 _).setCell n1 _).setCell n1 _).mono (by omega)), by omega, h.g3h, ?_⟩
  · have := ((h1.b3.set_ 0 (.int .i64 W')).set_ 1 (.int .i64 H')).set_ 2 (.slice (some ⟨gb, ob, none⟩) m c2)
    simpa using this
  · have hz : w.heap.size ≤ g3 := by omega
    exact ((h1.bel.setCell hz _).setCell hz _).setCell hz _
end

/-- What stands through its inner loop. -/
structure FiR (wo : World) (m : LM) (gL gq gp op cq : Nat) (l : List Px) (wr : World) : Prop where
  bL : Blk wr gL 29 #[.string m.l.name, .int .i64 m.l.x, .int .i64 m.l.y, .bool false, .int .i64 m.l.opacity, .int .i64 m.l.mode, .int .i64 m.l.wide, .int .i64 m.l.high, .slice m.A m.n m.c]
  bq : Blk wr gq 27 #[.int .i64 m.l.wide, .int .i64 m.l.high, .slice (some ⟨gp, op, none⟩) m.n cq]
  own : Own wr wo.heap.size 4 (.slice (some ⟨gp, op, none⟩) m.n cq) m.n (pxCells l)
  neL : gp ≠ gL
  neq : gp ≠ gq
  bel : Below wo.heap.size wo wr
section
variable {wo wr w' : World} {m : LM} {gL gq gp op cq : Nat} {l : List Px}
theorem FiR.step (h : FiR wo m gL gq gp op cq l wr) (hb : Below wr.heap.size wr w') : FiR wo m gL gq gp op cq l w' :=
  ⟨h.bL.below hb h.bL.lt, h.bq.below hb h.bq.lt, h.own.below hb (Nat.le_refl _), h.neL, h.neq, h.bel.trans (hb.mono h.bel.size)⟩
theorem FiR.put (h : FiR wo m gL gq gp op cq l wr) (i : Nat) (hi : i < m.n) (q : Px) : FiR wo m gL gq gp op cq (l.set i q) (wr.setCells gp (op + i * 4) (pxCs q)) :=
  ⟨h.bL.setCells_ (fun e => h.neL e.symm) _ _, h.bq.setCells_ (fun e => h.neq e.symm) _ _, h.own.setPx i hi q, h.neL, h.neq, Below.setCells_ h.bel (h.own.lt gp rfl).1 _ _⟩
end

set_option maxRecDepth 100000 in
set_option maxHeartbeats 4000000 in
theorem flatOf_any (W' H' : Nat) (A : Option Addr) (n c : Nat) (ms : List LM) (w : World) (hL : Lays w w.heap.size A n ms) (hok : ∀ m ∈ ms, LayOK m) (hn : n ≤ 4096) (hW : 1 ≤ W' ∧ W' ≤ 256) (hH : 1 ≤ H' ∧ H' ≤ 256) :
    Calls Tryz.prog 44 #[.agg #[.int .i64 W', .int .i64 H', .slice A n c]] w
      fun e w' => ∃ A' c', e = .returned (.agg #[.int .i64 W', .int .i64 H', .slice A' (H' * W') c']) ∧ Own w' w.heap.size 4 (.slice A' (H' * W') c') (H' * W') (pxCells (Lay.flat (lsOf ms) W' H')) ∧ Below w.heap.size w w' := by
  obtain rfl := hL.len
  have hmul : 1 * 1 ≤ H' * W' ∧ H' * W' ≤ 256 * 256 := ⟨Nat.mul_le_mul hH.1 hW.1, Nat.mul_le_mul hH.2 hW.2⟩
  obtain ⟨M, hM⟩ : ∃ M, H' * W' = M := ⟨_, rfl⟩
  rw [hM] at hmul ⊢
  have hWH : (W' : Int) * (H' : Int) = (M : Int) := by rw [← hM, Int.natCast_mul, Int.mul_comm]
  have HM := Lib.hid hM
  have HWH := Lib.hid hWH
  have HOK := Lib.hid hok
  obtain ⟨hm1, hm2⟩ := hmul
  clear hok hM hWH
  go_enter Tryz.func44, Tryz.ntmps44
  go_wp2_with fail
  refine (blank_any W' H' M ⟨0, 0, 0, 0⟩ _ (by omega) (by omega) HWH.out (by omega)).mono ?_
  rintro e w1 ⟨A', c', rfl, hO, hb1⟩
  obtain ⟨ga, oa, rfl, hga1, hga2⟩ := hO.addr (by omega)
  go_wp2_with fail
  obtain ⟨g3, hg3⟩ : ∃ g3, g3 = w1.heap.size := ⟨_, rfl⟩
  obtain ⟨w2, hw2⟩ : ∃ w2, w2 = w1.alloc (.cells #[.int .i64 W', .int .i64 H', .slice (some ⟨ga, oa, none⟩) M c'] 27) := ⟨_, rfl⟩
  have F0 : FoR W' H' A ms.length c w g3 ga oa M c' (Lay.flat ((lsOf ms).take 0) W' H') w2 := by
    rw [hw2, hg3, List.take_zero, Lay.flat_none, Nat.mul_comm, HM.out]
    have hb0 : Below w.heap.size w w1 := Below.trans (by go_grown) (hb1.mono (by simp; omega))
    have hz := hb1.size
    simp at hz
    refine ⟨?_, ?_, Blk.new _ _ _ rfl, ?_, ?_, ?_, hb0.alloc (by omega) _⟩
    · exact (((Blk.new _ _ _ rfl).alloc _).below hb1 (by simp; omega)).alloc _
    · exact ((Blk.new _ _ _ (by simp)).below hb1 (by simp)).alloc _
    · exact (hO.alloc _).mono (by simp)
    · omega
    · omega
  rw [← hw2, ← hg3]
  clear hw2 hg3 hO hb1 hga1 hga2
  go_loopw [4] (fun i wr => ∃ k ga oa c', k ≤ ms.length ∧ i = .int .i64 k ∧ FoR W' H' A ms.length c w g3 ga oa M c' (Lay.flat ((lsOf ms).take k) W' H') wr) (fun i _ => ms.length - (intOf i).toNat)
  case atStart => exact ⟨0, ga, oa, c', Nat.zero_le _, rfl, F0⟩
  case round =>
    clear F0
    obtain ⟨k, ga, oa, c', hk, rfl, F⟩ := hrel
    obtain ⟨wo, rfl⟩ : ∃ wo : World, wo = wr := ⟨_, rfl⟩
    have c1 := F.b1.cell
    have c3 := F.b3.cell
    have c2 := F.b2.cell
    have f2 := F.b2.free
    by_cases hlt : k < ms.length
    · obtain ⟨b, off, rfl, hbl⟩ := hL.1.addr (by omega)
      have hLo := hL.below F.bel (Nat.le_refl _)
      have q0 := hLo.at k hlt 0 (by omega)
      have q1 := hLo.at k hlt 1 (by omega)
      have q2 := hLo.at k hlt 2 (by omega)
      have q3 := hLo.at k hlt 3 (by omega)
      have q4 := hLo.at k hlt 4 (by omega)
      have q5 := hLo.at k hlt 5 (by omega)
      have q6 := hLo.at k hlt 6 (by omega)
      have q7 := hLo.at k hlt 7 (by omega)
      have q8 := hLo.at k hlt 8 (by omega)
      have hrp := (hLo.px k hlt).more F.bel.size
      obtain ⟨⟨ox1, ox2⟩, ⟨oy1, oy2⟩, ⟨oo1, oo2⟩, omd, ⟨ow1, ow2⟩, ⟨oh1, oh2⟩, on⟩ := HOK.out ms[k] (List.getElem_mem hlt)
      have HT := Lib.hid (show (lsOf ms).take (k + 1) = (lsOf ms).take k ++ [ms[k].l] by
        rw [List.take_succ_eq_append_getElem (by rw [lsOf_len]; exact hlt), lsOf_get ms k hlt])
      obtain ⟨m, hm⟩ : ∃ m, m = ms[k] := ⟨_, rfl⟩
      rw [← hm] at q0 q1 q2 q3 q4 q5 q6 q7 q8 hrp ox1 ox2 oy1 oy2 oo1 oo2 omd ow1 ow2 oh1 oh2 on HT
      simp only [layCs, List.getElem?_cons_zero, List.getElem?_cons_succ] at q0 q1 q2 q3 q4 q5 q6 q7 q8
      rw [Nat.add_zero] at q0
      obtain ⟨ls0, hls⟩ : ∃ ls0, (lsOf ms).take k = ls0 := ⟨_, rfl⟩
      rw [hls] at HT F
      have hpl := hrp.pxLen
      have HPL := Lib.hid hpl
      have HON := Lib.hid on
      obtain ⟨z4, z5⟩ := mul_bounds (show 0 ≤ m.l.wide by omega) ow2 (show 0 ≤ m.l.high by omega) oh2
      have z6 : 1 * 1 ≤ m.l.wide * m.l.high := Int.mul_le_mul ow1 oh1 (by omega) (by omega)
      have hnb : m.n ≤ 65536 := by omega
      have hnb0 : 0 < m.n := by omega
      clear hm hLo hls hpl on z4 z5 z6 omd
      cases hh : m.l.hidden with
      | true =>
        rw [hh] at q3
        go_wp2_with fail
        go_roundw
        case rel => exact ⟨k + 1, ga, oa, c', by omega, by go_num, by
          rw [HT.out, Lay.flat_skip _ _ _ _ hh]
          exact F.step (Below.alloc (Below.refl _ _) (Nat.le_refl _) _)⟩
        case measure => simp [intOf]; omega
      | false =>
        rw [hh] at q3
        have HH := Lib.hid hh
        clear hh
        go_wp2_with fail
        obtain ⟨gL, hgL⟩ : ∃ gL, gL = wo.heap.size := ⟨_, rfl⟩
        obtain ⟨wL, hwL⟩ : ∃ wL, wL = wo.alloc (.cells #[.string m.l.name, .int .i64 m.l.x, .int .i64 m.l.y, .bool false, .int .i64 m.l.opacity, .int .i64 m.l.mode, .int .i64 m.l.wide, .int .i64 m.l.high, .slice m.A m.n m.c] 29) := ⟨_, rfl⟩
        have bL : Blk wL gL 29 #[.string m.l.name, .int .i64 m.l.x, .int .i64 m.l.y, .bool false, .int .i64 m.l.opacity, .int .i64 m.l.mode, .int .i64 m.l.wide, .int .i64 m.l.high, .slice m.A m.n m.c] := by rw [hwL, hgL]; exact Blk.new _ _ _ rfl
        have hbL : Below wo.heap.size wo wL := by rw [hwL]; exact (Below.refl _ _).alloc (Nat.le_refl _) _
        have hrL := (hrp.below hbL (Nat.le_refl _)).more hbL.size
        rw [← hwL, ← hgL]
        have HGL := Lib.hid hgL
        clear hwL hgL q0 q1 q2 q3 q4 q5 q6 q7 q8 hrp c1 c3 c2 f2
        go_wp2_with fail
        refine (own_any _ _ _ _ _ m.l.ps _ hrL (by omega)).mono ?_
        rintro e w3 ⟨A3, c3, rfl, hO3, hb3⟩
        obtain ⟨gp, op, rfl, hgp1, hgp2⟩ := hO3.addr hnb0
        go_wp2_with fail
        obtain ⟨gq, hgq⟩ : ∃ gq, gq = w3.heap.size := ⟨_, rfl⟩
        obtain ⟨w4, hw4⟩ : ∃ w4, w4 = w3.alloc (.cells #[.int .i64 m.l.wide, .int .i64 m.l.high, .slice (some ⟨gp, op, none⟩) m.n c3] 27) := ⟨_, rfl⟩
        have G0 : FiR wo m gL gq gp op c3 (Lay.fadeTo m.l.ps m.l.opacity 0) w4 := by
          rw [hw4, hgq, Lay.fadeTo_zero]
          have hzL := hbL.size
          have hlt' := bL.lt
          exact ⟨(bL.below hb3 bL.lt).alloc _, Blk.new _ _ _ rfl, (hO3.alloc _).mono hzL, by omega, by omega, (hbL.trans (hb3.mono hzL)).alloc (Nat.le_trans hzL hb3.size) _⟩
        rw [← hw4, ← hgq]
        have HF := Lib.hid F
        clear hw4 hgq hO3 hb3 hgp1 hgp2 bL hbL hrL F
        go_loopw [7] (fun i wr => ∃ j, j ≤ m.n ∧ i = .int .i64 j ∧ FiR wo m gL gq gp op c3 (Lay.fadeTo m.l.ps m.l.opacity j) wr) (fun i _ => m.n - (intOf i).toNat)
        case atStart => exact ⟨0, Nat.zero_le _, rfl, G0⟩
        case round =>
          clear G0
          obtain ⟨j, hj, rfl, G⟩ := hrel
          obtain ⟨wi, rfl⟩ : ∃ wi : World, wi = wr := ⟨_, rfl⟩
          have dq := G.bq.cell
          by_cases hjl : j < m.n
          · obtain ⟨p, hp⟩ : ∃ p, m.l.ps[j]? = some p := ⟨_, List.getElem?_eq_getElem (by have := HPL.out; omega)⟩
            obtain ⟨q, hq⟩ : ∃ q, Pix.fade p m.l.opacity = q := ⟨_, rfl⟩
            have HP := Lib.hid hp
            have HQ := Lib.hid hq
            have hjn : j < (Lay.fadeTo m.l.ps m.l.opacity j).length := by rw [Lay.fadeTo_length _ _ _ (by have := HPL.out; omega)]; have := HPL.out; omega
            have yy := G.own.reads.2.px j hjn
            rw [show (Lay.fadeTo m.l.ps m.l.opacity j)[j] = p from Option.some.inj ((List.getElem?_eq_getElem hjn).symm.trans ((Lay.fadeTo_here m.l.ps m.l.opacity j).trans HP.out))] at yy
            obtain ⟨y0, y1, y2, y3⟩ := yy
            have so : wi.cell? ⟨gL, 4, none⟩ = some (.int .i64 m.l.opacity) := (G.bL.cell 4).trans rfl
            have sq : wi.cell? ⟨gq, 2, none⟩ = some (.slice (some ⟨gp, op, none⟩) m.n c3) := (G.bq.cell 2).trans rfl
            have HJN := Lib.hid hjn
            have j0 : (0 : Int) ≤ (j : Int) := by omega
            have j1 : (j : Int) < (m.n : Int) := by omega
            clear hp hq hjn
            go_wp2_with fail
            go_region_law
              ((go_simp; go_at_call 57; refine (fadeOf_agg p m.l.opacity q _ oo1 oo2 HQ.out).mono ?_; rintro e wA ⟨rfl, hbA⟩; have aq := bkeep hbA sq; have GA := G.step ((Below.here wi).trans hbA); have zz := GA.own.reads.2.px j HJN.out; obtain ⟨v0, v1, v2, v3⟩ := zz; have hth := GA.own.there j hjl; have f0 := (hth 0 (Nat.zero_lt_succ _)).2; have f1 := (hth 1 (Nat.lt_of_sub_eq_succ rfl)).2; have f2 := (hth 2 (Nat.lt_of_sub_eq_succ rfl)).2; have f3 := (hth 3 (Nat.lt_of_sub_eq_succ rfl)).2; simp only [Nat.add_zero] at f0))
            all_goals
              have K := GA.put j hjl q
              rw [Lay.fadeTo_set _ _ _ p q HP.out HQ.out] at K
              have HK := Lib.hid K
              clear K hbA aq v0 v1 v2 v3 hth f0 f1 f2 f3 so sq y0 y1 y2 y3 dq
              go_wp2_with fail
              go_roundw
              case rel => exact ⟨j + 1, by omega, by go_num, HK.out⟩
              case measure => simp [intOf]; omega
          · have e : j = m.n := by omega
            subst e
            have F := HF.out.step G.bel
            have d3 := F.b3.cell
            have dL := G.bL.cell
            have hEnd := Lib.hid (show Lay.fadeTo m.l.ps m.l.opacity m.n = m.l.ps.map fun p => Pix.fade p m.l.opacity by rw [HPL.out]; exact Lay.fadeTo_all _ _)
            have RQ := Lib.hid (G.own.reads.2)
            have RF := Lib.hid (F.own.reads.2)
            have hst := Lib.hid (Lay.flat_stamp ls0 m.l W' H' HH.out (by rw [← HPL.out]; exact HON.out))
            have g3l := F.b3.lt
            go_wp2_with fail
            refine (stampOf_any W' H' (some ⟨ga, oa, none⟩) M c' (Lay.flat ls0 W' H') m.l.wide m.l.high (some ⟨gp, op, none⟩) m.n c3 (m.l.ps.map fun p => Pix.fade p m.l.opacity) m.l.x m.l.y m.l.mode _ RF.out (by rw [← hEnd.out]; exact RQ.out) hW hH (Lay.flat_length _ _ _) (by omega) (by omega) (by rw [List.length_map, ← HPL.out]; exact HON.out) ⟨ox1, ox2⟩ ⟨oy1, oy2⟩).mono ?_
            rw [hst.out, ← HT.out]
            rintro e wS ⟨AS, cS, rfl, hOS, hbS⟩
            obtain ⟨gS, oS, rfl, hgS1, hgS2⟩ := hOS.addr (by omega)
            have FS := F.step hbS
            have e3 := FS.b3.cell
            have u3 := FS.b3.free
            have HPUT := Lib.hid (F.put hbS hOS)
            clear d3 dL dq FS hOS hbS
            go_wp2_with fail
            go_roundw
            case rel => exact ⟨k + 1, gS, oS, cS, by omega, by go_num, HPUT.out⟩
            case measure => simp [intOf]; omega
    · have e : k = ms.length := by omega
      subst e
      rw [List.take_of_length_le (by rw [lsOf_len]; exact Nat.le_refl _)] at F
      have ho := F.own
      have n1 : (Value.slice (some ⟨ga, oa, none⟩) M c').ownBlock ≠ some (w.heap.size + 1) := by have := (ho.lt ga rfl).1; simp [Value.ownBlock]; omega
      have HO := Lib.hid ho
      have HN1 := Lib.hid n1
      clear ho n1
      go_wp2_with fail
      refine bodyPost_ret (v := .agg #[.int .i64 W', .int .i64 H', .slice (some ⟨ga, oa, none⟩) M c']) (by simp [results, Tryz.results44, go_sem, c2]) rfl ⟨some ⟨ga, oa, none⟩, c', rfl, ?_, ?_⟩
      · exact (((HO.out.setCell HN1.out _).setCell HN1.out _).setCell HN1.out _).mono (by omega)
      · have hz : w.heap.size ≤ w.heap.size + 1 := by omega
        exact (((F.bel.setCell hz _).setCell hz _).setCell hz _)
end Go.Proofs.YtmknacnmdlcieaaGreatDoor
