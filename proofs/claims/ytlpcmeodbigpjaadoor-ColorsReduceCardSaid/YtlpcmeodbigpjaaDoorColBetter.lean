/- better: the walk. -/
import Derived.Test.YtlpcmeodbigpjaaDoorColMapped
import Derived.Test.YtlpcmeodbigpjaaDoorColBetter1
import Derived.Test.YtlpcmeodbigpjaaDoorBase
import Derived.Test.YtlpcmeodbigpjaaDoorMem
import Derived.BigRegion
namespace Go.Proofs.YtlpcmeodbigpjaaDoor
open Go Go.RowKit

theorem arr5Info : (Tryd.prog.info? 68).map (fun i => (i.zero, i.size, i.bytes)) = some (some (.agg #[.int .i64 0, .int .i64 0, .int .i64 0, .int .i64 0, .int .i64 0]), 5, 40) := by kernel_rfl

/-- The relation of better's first loop: the sums of the pixels so far. -/
structure BR (w1 : World) (ps pal : List Px) (i : Value) (wr : World) (k : Nat) : Prop where
  hk : k ≤ ps.length
  hi : i = .int .i64 k
  arr : IArr wr w1.heap.size (pal.length * 5) (Col.bS (ps.take k) pal)
  bel : Below w1.heap.size w1 wr
/-- The relation of its inner loop: so many bytes of the pixel. -/
structure BI (w1 : World) (ps pal : List Px) (k : Nat) (p : Px) (g5 : Nat) (i : Value) (wr : World) (c : Nat) : Prop where
  hc : c ≤ 4
  hi : i = .int .i64 c
  arr : IArr wr w1.heap.size (pal.length * 5) (Col.bM (ps.take k) pal p c)
  bel : Below w1.heap.size w1 wr
  lit : Blk wr g5 5 #[.int .u8 p.r.toNat, .int .u8 p.g.toNat, .int .u8 p.b.toNat, .int .u8 p.a.toNat]

/-- So many colors have been made better. -/
def bet (ps pal : List Px) (k : Nat) : List Px := (List.range pal.length).map fun j => if j < k then Col.bcolor (Col.cls ps pal j) (pal.getD j default) else pal.getD j default
theorem bet_length (ps pal : List Px) (k : Nat) : (bet ps pal k).length = pal.length := by simp [bet]
theorem bet_zero (ps pal : List Px) : bet ps pal 0 = pal := by
  apply List.ext_getElem (by simp [bet])
  intro j h1 h2
  simp [bet, h2]
theorem bet_all (ps pal : List Px) : bet ps pal pal.length = Col.better ps pal := by
  unfold bet Col.better
  refine List.map_congr_left (fun j hj => ?_)
  rw [if_pos (List.mem_range.1 hj)]
theorem bet_succ (ps pal : List Px) (k : Nat) (hk : k < pal.length) : bet ps pal (k + 1) = (bet ps pal k).set k (Col.bcolor (Col.cls ps pal k) pal[k]) := by
  apply List.ext_getElem (by simp [bet])
  intro j h1 h2
  have hj : j < pal.length := by simpa [bet] using h1
  rw [List.getElem_set]
  by_cases e : k = j
  · subst e
    simp [bet, hk]
  · rw [if_neg e]
    by_cases h3 : j < k
    · have h4 : j < k + 1 := by omega
      simp [bet, hj, h3, h4]
    · have h4 : ¬ j < k + 1 := by omega
      simp [bet, hj, h3, h4]
theorem bet_same (ps pal : List Px) (k : Nat) (hk : k < pal.length) : (bet ps pal k).set k pal[k] = bet ps pal k := by
  have e : (bet ps pal k)[k]'(by rw [bet_length]; exact hk) = pal[k] := by simp [bet, hk]
  rw [← e]
  exact List.set_getElem_self _
theorem bS_le (ps pal : List Px) (j c : Nat) (hc : c < 5) : Col.bS ps pal (j * 5 + c) ≤ 255 * Col.bS ps pal (j * 5 + 4) := by
  rw [Col.bS_count]
  have h1 : (j * 5 + c) / 5 = j := by omega
  unfold Col.bS
  rw [h1]
  have h := (Col.sum_bound ((Col.cls ps pal j).map (Col.comp ((j * 5 + c) % 5))) 255 (fun x hx => by
    obtain ⟨p, _, rfl⟩ := List.mem_map.1 hx
    exact Col.comp_bounds _ _)).2
  rwa [List.length_map] at h

theorem mean_as (m : UInt8) (k : Nat) (g : Nat) (s n : Int) (w : World) (hm : Col.meanS s n = m) (hk : k < 4) (c0 : w.cell? ⟨g, k, none⟩ = some (.int .i64 s)) (c1 : w.cell? ⟨g, 4, none⟩ = some (.int .i64 n))
    (h0 : 0 ≤ s) (hn : 0 < n) (hb : s ≤ 255 * n) (hbig : n ≤ 1048576) :
    Calls Tryd.prog 30 #[.int .i64 k, .pointer (some ⟨g, 0, none⟩)] w fun e w' => e = .returned (.int .u8 m.toNat) ∧ ∃ q, w' = w.drewN q := by
  subst hm
  exact mean_any k g s n w hk c0 c1 h0 hn hb hbig
/-- The relation of better's last loop. -/
structure BO (wo : World) (ps pal : List Px) (gA oA c : Nat) (i : Value) (wr : World) (k : Nat) : Prop where
  hk : k ≤ pal.length
  hi : i = .int .i64 k
  own : Own wr wo.heap.size 4 (.slice (some ⟨gA, oA, none⟩) pal.length c) pal.length (pxCells (bet ps pal k))
  bel : Below wo.heap.size wo wr

set_option maxRecDepth 100000 in
set_option maxHeartbeats 2000000 in
theorem better_any (W H : Int) (A : Option Addr) (n c : Nat) (ps : List Px) (bq oq : Nat) (n2 c2 : Nat) (pal : List Px) (w : World)
    (hp : Reads w w.heap.size 4 A n (pxCells ps)) (hq : Reads w w.heap.size 4 (some ⟨bq, oq, none⟩) n2 (pxCells pal)) (hn : n ≤ 1048576) (hn2 : n2 ≤ 1048576) (hpos : 0 < n2) :
    Calls Tryd.prog 20 #[.agg #[.int .i64 W, .int .i64 H, .slice A n c], .slice (some ⟨bq, oq, none⟩) n2 c2] w
      fun e w' => ∃ A' c', e = .returned (.slice A' n2 c') ∧ Own w' w.heap.size 4 (.slice A' n2 c') n2 (pxCells (Col.better ps pal)) ∧ Below w.heap.size w w' := by
  obtain rfl := hp.pxLen
  obtain rfl := hq.pxLen
  obtain ⟨i0, hi, hz0, hz1, hz2⟩ := info_parts arr5Info
  go_enter Tryd.func20, Tryd.ntmps20
  go_wp2_with fail
  refine (mapped_any W H A ps.length c ps (some ⟨bq, oq, none⟩) pal.length c2 pal _ ?_ ?_ hn hn2 hpos).mono ?_
  · exact (hp.alloc (Nat.le_refl _) _).more (by first | omega | (simp; done) | (simp; omega))
  · exact (hq.alloc (Nat.le_refl _) _).more (by first | omega | (simp; done) | (simp; omega))
  rintro e w1 ⟨v, rfl, hown1, hb1⟩
  obtain ⟨An, cn, rfl, hcn, hrn⟩ := hown1.form
  have d0 : w1.cell? ⟨w.heap.size, 2, none⟩ = some (.slice A ps.length c) := bcell_ hb1 (by simp) (cell_made _ _ _ rfl rfl)
  have hz : w.heap.size + 1 ≤ w1.heap.size := by have := hb1.size; simpa using this
  go_wp2_with (refine wpList_make_full _ rfl (.tmp 24) (.tmp 24) 66 rfl (w.heap.size + 1) 68 i0 _ 5 Tryd.underlying66 hi hz0 hz1 .i64 .i64 _ _ pal.length rfl rfl rfl rfl (by rw [hz2]; omega) (by unfold maxLen; omega) hz ?_; intro w2 hrow2 hg2; have d2 : w2.cell? ⟨w.heap.size, 2, none⟩ = some (.slice A ps.length c) := hg2.cell d0 (by simp))
  have hb2 : Below w1.heap.size w1 w2 := (Below.refl _ _).grown hg2 (Nat.le_refl _) (fun g hg => by cases hg)
  have ha2 : IArr w2 w1.heap.size (pal.length * 5) (Col.bS (ps.take 0) pal) := by
    refine IArr.of_own (Own.of_row hrow2) (fun t ht => ?_)
    rw [made_same _ (.int .i64 0) (by simp [Value.cells]) (fun j hj => by simp [Value.cells] at hj ⊢; match j, hj with | 0, _ => rfl | 1, _ => rfl | 2, _ => rfl | 3, _ => rfl | 4, _ => rfl)]
    simp [ht, Col.bS_nil]
  clear hrow2 hg2
  have hbw1 : Below w.heap.size w w1 := Below.trans (by go_grown) (hb1.mono (by first | omega | (simp; done) | (simp; omega)))
  go_loopw [29] (fun i wr => ∃ k, BR w1 ps pal i wr k) (fun i _ => ps.length - (intOf i).toNat)
  case atStart => exact ⟨0, Nat.zero_le _, rfl, ha2, hb2⟩
  case round =>
    obtain ⟨k, hk, rfl, harr, hb⟩ := hrel
    have hbw := hbw1.trans (hb.mono (by omega))
    obtain ⟨wo, rfl⟩ : ∃ wo : World, wo = wr := ⟨_, rfl⟩
    by_cases hlt : k < ps.length
    · obtain ⟨b, off, rfl, hbl⟩ := hp.addr (by omega)
      obtain ⟨p0, p1, p2, p3⟩ := (hp.below hbw (Nat.le_refl _)).px k hlt
      obtain ⟨bn, on, rfl, hbn⟩ := hrn.addr (by omega)
      have cn0 : wo.cell? ⟨bn, on + k, none⟩ = some (.int .i64 (Col.near ps[k] pal).1) := by
        rw [(hrn.below hb (Nat.le_refl _)).cell rfl k (by omega), ints_at _ k (by simpa [nums] using hlt)]
        simp [nums]
      obtain ⟨hq1, _⟩ := Col.near_all ps[k] pal hpos
      have hbn2 : bn < wo.heap.size := by have := harr.lt; omega
      have hsw := harr.lt
      go_wp2
      obtain ⟨w5, hw5⟩ : ∃ w5 : World, w5 = (wo.alloc (.cells #[.int .u8 ps[k].r.toNat, .int .u8 ps[k].g.toNat, .int .u8 ps[k].b.toNat, .int .u8 ps[k].a.toNat] 46)).alloc (.cells #[.int .u8 ps[k].r.toNat, .int .u8 ps[k].g.toNat, .int .u8 ps[k].b.toNat, .int .u8 ps[k].a.toNat] 5) := ⟨_, rfl⟩
      rw [← hw5]
      have hbi : BI w1 ps pal k ps[k] (wo.heap.size + 1) (.int .i64 0) w5 0 := by
        subst hw5
        refine ⟨by omega, rfl, ((harr.alloc _).alloc _).congr (fun t _ => Col.bM_zero _ _ _ _), Below.alloc (Below.alloc hb (by omega) _) (by simp; omega) _, Blk.new _ _ _ (by simp)⟩
      clear hw5
      go_loopw [50] (fun i wr => ∃ c, BI w1 ps pal k ps[k] (wo.heap.size + 1) i wr c) (fun i _ => 4 - (intOf i).toNat)
      case atStart => exact ⟨0, hbi⟩
      case round =>
        obtain ⟨c4, hc4, rfl, harr4, hb4, hlit⟩ := hrel
        obtain ⟨wi, rfl⟩ : ∃ wi : World, wi = wr := ⟨_, rfl⟩
        have hsw4 := harr4.lt
        by_cases hlt4 : c4 < 4
        · have cb := Col.comp_bounds c4 ps[k]
          have sb := Col.bM_bounds (ps.take k) pal ps[k] c4 ((Col.near ps[k] pal).1 * 5 + c4)
          have fl : (ps.take k).length ≤ k := List.length_take_le _ _
          have dl : wi.cell? ⟨wo.heap.size + 1, c4, none⟩ = some (.int .u8 (Col.comp c4 ps[k])) := by
            rw [hlit.cell]
            match c4, hlt4 with
            | 0, _ => rfl
            | 1, _ => rfl
            | 2, _ => rfl
            | 3, _ => rfl
          have ds : wi.cell? ⟨w1.heap.size, (Col.near ps[k] pal).1 * 5 + c4, none⟩ = some (.int .i64 (Col.bM (ps.take k) pal ps[k] c4 ((Col.near ps[k] pal).1 * 5 + c4))) := harr4.cell _ (by omega)
          have df := harr4.free ((Col.near ps[k] pal).1 * 5 + c4) (by omega)
          go_wp2_with fail
          go_region
          go_wp2
          go_roundw
          case rel =>
            refine ⟨c4 + 1, by omega, by go_num, ?_, ?_, ?_⟩
            · refine IArr.drew (IArr.set_ harr4 _ _ (fun t _ => ?_))
              rw [Col.bM_step _ _ _ _ _ (by omega)]
              split
              · rename_i e; rw [e]
              · rfl
            · exact below_drewN (Below.setCell hb4 (by simp) _) 1
            · exact (hlit.far (by simp; omega) _).drew
          case measure => simp [intOf]; omega
        · have e : c4 = 4 := by omega
          subst e
          have sb := Col.bM_bounds (ps.take k) pal ps[k] 4 ((Col.near ps[k] pal).1 * 5 + 4)
          have fl : (ps.take k).length ≤ k := List.length_take_le _ _
          have ds : wi.cell? ⟨w1.heap.size, (Col.near ps[k] pal).1 * 5 + 4, none⟩ = some (.int .i64 (Col.bM (ps.take k) pal ps[k] 4 ((Col.near ps[k] pal).1 * 5 + 4))) := harr4.cell _ (by omega)
          have df := harr4.free ((Col.near ps[k] pal).1 * 5 + 4) (by omega)
          go_wp2_with fail
          go_region
          go_wp2
          go_roundw
          case rel =>
            refine ⟨k + 1, by omega, by go_num, ?_, ?_⟩
            · refine IArr.drew (IArr.set_ harr4 _ _ (fun t _ => ?_))
              rw [Col.bS_take _ _ _ hlt, Col.bM_step _ _ _ _ _ (by omega)]
              split
              · rename_i e; rw [e]; rfl
              · rfl
            · exact below_drewN (Below.setCell hb4 (by simp) _) 1
          case measure => simp [intOf]; omega
    · have e : k = ps.length := by omega
      subst e
      rw [List.take_length] at harr
      have hsw := harr.lt
      have hqo := (hq.below hbw (Nat.le_refl _)).more hbw.size
      go_wp2_with fail
      refine (clonePx_any bq oq pal.length c2 pal _ hqo hn2).mono ?_
      rintro e wc ⟨A', c', rfl, hownc, hbc⟩
      obtain ⟨gA, oA, rfl, hgA1, hgA2⟩ := hownc.addr hpos
      have hownc0 : Own wc wo.heap.size 4 (.slice (some ⟨gA, oA, none⟩) pal.length c') pal.length (pxCells (bet ps pal 0)) := by rw [bet_zero]; exact hownc
      go_wp2_with fail
      go_loopw [78] (fun i wr => ∃ k, BO wo ps pal gA oA c' i wr k) (fun i _ => pal.length - (intOf i).toNat)
      case atStart => exact ⟨0, Nat.zero_le _, rfl, hownc0, hbc⟩
      case round =>
        obtain ⟨k, hk2, rfl, hownk, hbk⟩ := hrel
        obtain ⟨wi, rfl⟩ : ∃ wi : World, wi = wr := ⟨_, rfl⟩
        have harrk := harr.below hbk hsw
        have hszk := harrk.lt
        by_cases hlt2 : k < pal.length
        · have e0 : wi.cell? ⟨w1.heap.size, k * 5, none⟩ = some (.int .i64 (Col.bS ps pal (k * 5 + 0))) := harrk.cell (k * 5 + 0) (by omega)
          have e1 : wi.cell? ⟨w1.heap.size, k * 5 + 1, none⟩ = some (.int .i64 (Col.bS ps pal (k * 5 + 1))) := harrk.cell _ (by omega)
          have e2 : wi.cell? ⟨w1.heap.size, k * 5 + 2, none⟩ = some (.int .i64 (Col.bS ps pal (k * 5 + 2))) := harrk.cell _ (by omega)
          have e3 : wi.cell? ⟨w1.heap.size, k * 5 + 3, none⟩ = some (.int .i64 (Col.bS ps pal (k * 5 + 3))) := harrk.cell _ (by omega)
          have e4 : wi.cell? ⟨w1.heap.size, k * 5 + 4, none⟩ = some (.int .i64 (Col.bS ps pal (k * 5 + 4))) := harrk.cell _ (by omega)
          have s4 := Col.bS_bounds ps pal (k * 5 + 4)
          by_cases hpos4 : 0 < Col.bS ps pal (k * 5 + 4)
          · have l0 := bS_le ps pal k 0 (by omega)
            have l1 := bS_le ps pal k 1 (by omega)
            have l2 := bS_le ps pal k 2 (by omega)
            have l3 := bS_le ps pal k 3 (by omega)
            have b0 := (Col.bS_bounds ps pal (k * 5 + 0)).1
            have b1 := (Col.bS_bounds ps pal (k * 5 + 1)).1
            have b2 := (Col.bS_bounds ps pal (k * 5 + 2)).1
            have b3 := (Col.bS_bounds ps pal (k * 5 + 3)).1
            have n4 : Col.bS ps pal (k * 5 + 4) ≤ 1048576 := by
              rw [Col.bS_count]
              have : (Col.cls ps pal k).length ≤ ps.length := List.length_filter_le _ _
              omega
            have hC := Col.bcolor_eq ps pal k pal[k]
            rw [if_pos hpos4] at hC
            obtain ⟨m0, h0⟩ : ∃ m, Col.meanS (Col.bS ps pal (k * 5)) (Col.bS ps pal (k * 5 + 4)) = m := ⟨_, rfl⟩
            obtain ⟨m1, h1⟩ : ∃ m, Col.meanS (Col.bS ps pal (k * 5 + 1)) (Col.bS ps pal (k * 5 + 4)) = m := ⟨_, rfl⟩
            obtain ⟨m2, h2⟩ : ∃ m, Col.meanS (Col.bS ps pal (k * 5 + 2)) (Col.bS ps pal (k * 5 + 4)) = m := ⟨_, rfl⟩
            obtain ⟨m3, h3⟩ : ∃ m, Col.meanS (Col.bS ps pal (k * 5 + 3)) (Col.bS ps pal (k * 5 + 4)) = m := ⟨_, rfl⟩
            rw [Nat.add_zero, h0, h1, h2, h3] at hC
            have HC := Lib.hid hC
            have H0 := Lib.hid h0
            have H1 := Lib.hid h1
            have H2 := Lib.hid h2
            have H3 := Lib.hid h3
            clear hC h0 h1 h2 h3
            go_wp2_with fail
            obtain ⟨w6, hw6⟩ : ∃ w6 : World, w6 = wi.alloc (.cells #[.int .i64 (Col.bS ps pal (k * 5)), .int .i64 (Col.bS ps pal (k * 5 + 1)), .int .i64 (Col.bS ps pal (k * 5 + 2)), .int .i64 (Col.bS ps pal (k * 5 + 3)), .int .i64 (Col.bS ps pal (k * 5 + 4))] 68) := ⟨_, rfl⟩
            rw [← hw6]
            have hblk6 : Blk w6 wi.heap.size 68 #[.int .i64 (Col.bS ps pal (k * 5)), .int .i64 (Col.bS ps pal (k * 5 + 1)), .int .i64 (Col.bS ps pal (k * 5 + 2)), .int .i64 (Col.bS ps pal (k * 5 + 3)), .int .i64 (Col.bS ps pal (k * 5 + 4))] := by rw [hw6]; exact Blk.new _ _ _ rfl
            have hown6 : Own w6 wo.heap.size 4 (.slice (some ⟨gA, oA, none⟩) pal.length c') pal.length (pxCells (bet ps pal k)) := by rw [hw6]; exact hownk.alloc _
            have hb6 : Below wo.heap.size wo w6 := by rw [hw6]; exact Below.alloc hbk hbk.size _
            clear hw6
            have x0 := hblk6.cell 0
            have x1 := hblk6.cell 1
            have x2 := hblk6.cell 2
            have x3 := hblk6.cell 3
            have x4 := hblk6.cell 4
            refine (mean_as m0 0 wi.heap.size (Col.bS ps pal (k * 5)) (Col.bS ps pal (k * 5 + 4)) w6 H0.out (by omega) x0 x4 b0 hpos4 l0 n4).mono ?_
            rintro e w7 ⟨rfl, q1, rfl⟩
            go_wp2_with fail
            refine (mean_as m1 1 wi.heap.size (Col.bS ps pal (k * 5 + 1)) (Col.bS ps pal (k * 5 + 4)) (w6.drewN q1) H1.out (by omega) x1 x4 b1 hpos4 l1 n4).mono ?_
            rintro e w7 ⟨rfl, q2, rfl⟩
            go_wp2_with fail
            refine (mean_as m2 2 wi.heap.size (Col.bS ps pal (k * 5 + 2)) (Col.bS ps pal (k * 5 + 4)) (w6.drewN (q1 + q2)) H2.out (by omega) x2 x4 b2 hpos4 l2 n4).mono ?_
            rintro e w7 ⟨rfl, q3, rfl⟩
            go_wp2_with fail
            refine (mean_as m3 3 wi.heap.size (Col.bS ps pal (k * 5 + 3)) (Col.bS ps pal (k * 5 + 4)) (w6.drewN (q1 + q2 + q3)) H3.out (by omega) x3 x4 b3 hpos4 l3 n4).mono ?_
            rintro e w7 ⟨rfl, q4, rfl⟩
            have hth := hown6.there k hlt2
            have hown7 : ∀ q, Own ((w6.drewN q).setCells gA (oA + k * 4) (pxCs ⟨m0, m1, m2, m3⟩)) wo.heap.size 4 (.slice (some ⟨gA, oA, none⟩) pal.length c') pal.length (pxCells ((bet ps pal k).set k ⟨m0, m1, m2, m3⟩)) := fun q => (hown6.drewN q).setPx k hlt2 ⟨m0, m1, m2, m3⟩
            go_wp2_with (refine wpList_store_px rfl 46 (by kernel_rfl) (.tmp 98) (.tmp 97) rfl gA (oA + k * 4) ⟨m0, m1, m2, m3⟩ ?_ ?_ ?_ ?_)
            · kernel_rfl
            · kernel_rfl
            · exact hth
            go_wp2_with fail
            go_roundw
            case rel =>
              refine ⟨k + 1, by omega, by go_num, ?_, ?_⟩
              · rw [bet_succ ps pal k hlt2, HC.out]
                exact hown7 _
              · exact Below.setCells_ (below_drewN hb6 _) hgA1 _ _
            case measure => simp [intOf]; omega
          · have HC := Lib.hid (Col.bcolor_eq ps pal k pal[k])
            go_wp2_with fail
            go_roundw
            case rel =>
              refine ⟨k + 1, by omega, by go_num, ?_, Below.alloc hbk hbk.size _⟩
              rw [bet_succ ps pal k hlt2, HC.out, if_neg hpos4, bet_same ps pal k hlt2]
              exact hownk.alloc _
            case measure => simp [intOf]; omega
        · have e : k = pal.length := by omega
          subst e
          have HB := Lib.hid (bet_all ps pal)
          go_wp2_with fail
          go_ret
          exact ⟨_, _, rfl, by rw [← HB.out]; exact hownk.mono hbw.size, hbw.trans (hbk.mono hbw.size)⟩
end Go.Proofs.YtlpcmeodbigpjaaDoor
