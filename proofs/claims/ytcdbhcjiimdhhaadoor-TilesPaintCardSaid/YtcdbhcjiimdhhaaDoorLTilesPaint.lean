/- TilesPaint: the law's walk. Printed by mkltpaint.py. -/
import Derived.Test.YtcdbhcjiimdhhaaDoorPaintMem
import Derived.Test.YtcdbhcjiimdhhaaDoorGridFill
import Derived.Test.YtcdbhcjiimdhhaaDoorGridStamp
import Derived.Test.YtcdbhcjiimdhhaaDoorTChanged
import Derived.Test.YtcdbhcjiimdhhaaDoorChangedOf
import Derived.Test.YtcdbhcjiimdhhaaDoorStamp
import Derived.Test.YtcdbhcjiimdhhaaDoorBase
import Derived.Test.YtcdbhcjiimdhhaaDoorPlainOf
import Derived.Test.YtcdbhcjiimdhhaaDoorCode
import Derived.Deep.RegionHeld3
import Derived.Deep.Cut
import Derived.Deep.DeepCutAuto
namespace Go.Proofs.YtcdbhcjiimdhhaaDoor
open Go Go.RowKit

theorem gmInfo : (Tryd.prog.info? 27).map (fun i => (i.zero, i.size, i.bytes)) = some (some (.pointer none), 1, 8) := by kernel_rfl
theorem gpInfo : (Tryd.prog.info? 24).map (fun i => (i.zero, i.size, i.bytes)) = some (some (.agg #[.int .i64 0, .int .i64 0, .slice none 0 0]), 3, 40) := by kernel_rfl
theorem fillOf_agg (W' H' : Nat) (A : Option Addr) (n c : Nat) (ps : List Px) (X Y Wr Hr : Int) (p : Px) (w : World) (hp : Reads w w.heap.size 4 A n (pxCells ps)) (hW : 1 ≤ W' ∧ W' ≤ 256) (hH : 1 ≤ H' ∧ H' ≤ 256) (hn : ps.length = H' * W')
    (hX : -10000 ≤ X ∧ X ≤ 10000) (hY : -10000 ≤ Y ∧ Y ≤ 10000) (hWr : -10000 ≤ Wr ∧ Wr ≤ 10000) (hHr : -10000 ≤ Hr ∧ Hr ≤ 10000) :
    Calls Tryd.prog 23 #[.agg #[.int .i64 W', .int .i64 H', .slice A n c], .agg #[.int .i64 X, .int .i64 Y, .int .i64 Wr, .int .i64 Hr], .agg #[.int .u8 p.r.toNat, .int .u8 p.g.toNat, .int .u8 p.b.toNat, .int .u8 p.a.toNat]] w
      fun e w' => ∃ A' c', e = .returned (.agg #[.int .i64 W', .int .i64 H', .slice A' n c']) ∧ Own w' w.heap.size 4 (.slice A' n c') n (pxCells (Lay.grid (Til.fillAt ps W' X Y Wr Hr p) W' H')) ∧ Below w.heap.size w w' := fillOf_any W' H' A n c ps X Y Wr Hr p w hp hW hH hn hX hY hWr hHr
theorem Reads.step_ {w w' : World} {size n : Nat} {A : Option Addr} {xs : List Value} (h : Reads w w.heap.size size A n xs) (hb : Below w.heap.size w w') : Reads w' w'.heap.size size A n xs := (h.below hb (Nat.le_refl _)).more hb.size
theorem samePicture_two (W H : Nat) (A1 : Option Addr) (n c1 : Nat) (A2 : Option Addr) (n2 c2 : Nat) (l : List Px) (w : World) (h1 : Reads w w.heap.size 4 A1 n (pxCells l)) (h2 : Reads w w.heap.size 4 A2 n2 (pxCells l)) (hl : l.length = n2) (hn : n2 ≤ 1048576) :
    Calls Tryd.prog 11 #[.agg #[.int .i64 W, .int .i64 H, .slice A1 n c1], .agg #[.int .i64 W, .int .i64 H, .slice A2 n2 c2]] w fun e w' => e = .returned (.bool true) ∧ Below w.heap.size w w' := by
  obtain rfl := h1.pxLen
  subst hl
  exact samePicture_same W H A1 l.length c1 A2 c2 l w h1 h2 hn
theorem changedOf_two (W H : Nat) (A1 : Option Addr) (n c1 : Nat) (A2 : Option Addr) (n2 c2 : Nat) (ps qs : List Px) (w : World) (hp : Reads w w.heap.size 4 A1 n (pxCells ps)) (hq : Reads w w.heap.size 4 A2 n2 (pxCells qs)) (hW : W ≤ 256) (hH : H ≤ 256) (hn : ps.length = H * W) (hn2 : n2 = H * W) :
    Calls Tryd.prog 26 #[.agg #[.int .i64 W, .int .i64 H, .slice A1 n c1], .agg #[.int .i64 W, .int .i64 H, .slice A2 n2 c2]] w
      fun e w' => ∃ A c, e = .returned (.slice A (Til.diff ps qs W (Til.rects W H)).length c) ∧ Reads w' w'.heap.size 4 A (Til.diff ps qs W (Til.rects W H)).length (rcCells (Til.diff ps qs W (Til.rects W H))) ∧ Below w.heap.size w w' := by
  obtain rfl : n = n2 := by rw [hp.pxLen, hn, hn2]
  exact changedOf_any W H A1 n c1 A2 c2 ps qs w hp hq hW hH hn
theorem sameRects_two (A1 : Option Addr) (n c1 : Nat) (A2 : Option Addr) (n2 c2 : Nat) (D D2 : List Til.R) (w : World) (h1 : Reads w w.heap.size 4 A1 n (rcCells D)) (h2 : Reads w w.heap.size 4 A2 n2 (rcCells D2)) (hD : D2 = D) (hn : n ≤ 1048576) :
    Calls Tryd.prog 25 #[.slice A1 n c1, .slice A2 n2 c2] w fun e w' => e = .returned (.bool true) ∧ Below w.heap.size w w' := by
  subst hD
  exact sameRects_any A1 n c1 A2 n2 c2 D2 w h1 h2 hn
theorem near_mode (x y m : Int) : (nearB x = false ∨ (nearB x = true ∧ nearB y = false) ∨ (nearB x = true ∧ nearB y = true ∧ modeB m = false)) ∨ (nearB x = true ∧ nearB y = true ∧ modeB m = true) := by
  cases nearB x <;> cases nearB y <;> cases modeB m <;> simp
/-- What Grid.Stamp answers. -/
def StSays (W H : Nat) (ts : List TM) (ps : List Px) (Wq Hq : Int) (nq : Nat) (qs : List Px) (x y m : Int) (E : Nat → Addr) (B : Nat) (pv ev : Value) (w' : World) : Prop :=
  (rightB Wq Hq nq = false ∧ pv = .pointer none ∧ ev = errV (E 2)) ∨
  (rightB Wq Hq nq = true ∧ (nearB x = false ∨ (nearB x = true ∧ nearB y = false) ∨ (nearB x = true ∧ nearB y = true ∧ modeB m = false)) ∧ pv = .pointer none ∧ ev = errV (E 1)) ∨
  (rightB Wq Hq nq = true ∧ nearB x = true ∧ nearB y = true ∧ modeB m = true ∧ ∃ gG A9 c9 ts', pv = .pointer (some ⟨gG, 0, none⟩) ∧ ev = .nilIface ∧ GdNew B w' ts gG W H A9 c9 ts' ∧ TsOf (Lay.grid (Lay.stampAt ps qs W Wq Hq x y m) W H) W H ts')
theorem gstamp_all (gb W H : Nat) (ts : List TM) (ps : List Px) (Wq Hq : Int) (Aq : Option Addr) (nq cq : Nat) (qs : List Px) (x y m : Int) (E : Nat → Addr) (w : World) (hg : Gd w gb W H ts) (ht : TsOf ps W H ts) (hn : ps.length = H * W) (hW : 1 ≤ W ∧ W ≤ 256) (hH : 1 ≤ H ∧ H ≤ 256)
    (hq : Reads w w.heap.size 4 Aq nq (pxCells qs)) (hE : ErrsAt w E) :
    Calls Tryd.prog 18 #[.pointer (some ⟨gb, 0, none⟩), .agg #[.int .i64 Wq, .int .i64 Hq, .slice Aq nq cq], .int .i64 x, .int .i64 y, .int .i64 m] w
      fun e w' => ∃ pv ev, e = .returned (.tuple #[pv, ev]) ∧ StSays W H ts ps Wq Hq nq qs x y m E w.heap.size pv ev w' ∧ Below w.heap.size w w' := by
  cases hrb : rightB Wq Hq nq with
  | false => exact (gstamp_shape gb W H ts ps Wq Hq Aq nq cq x y m E w hg ht hn hW hH hE hrb).mono fun e w' ⟨he, hb⟩ => ⟨_, _, he, .inl ⟨hrb, rfl, rfl⟩, hb⟩
  | true =>
    rcases near_mode x y m with hbb | ⟨hnx, hny, hmd⟩
    · refine (gstamp_bound gb W H ts ps Wq Hq Aq nq cq x y m E w hg ht hn hW hH hE hrb ?_).mono fun e w' ⟨he, hb⟩ => ⟨_, _, he, .inr (.inl ⟨hrb, hbb, rfl, rfl⟩), hb⟩
      rcases hbb with h | ⟨h, h2⟩ | ⟨h, h2, h3⟩
      · exact .inl (by simp [h])
      · exact .inl (by simp [h2])
      · exact .inr h3
    · obtain ⟨⟨q1, q2⟩, ⟨q3, q4⟩, hqnl, _⟩ := rightB_true hrb
      obtain ⟨Wq, rfl⟩ : ∃ n : Nat, Wq = n := ⟨Wq.toNat, by omega⟩
      obtain ⟨Hq, rfl⟩ : ∃ n : Nat, Hq = n := ⟨Hq.toNat, by omega⟩
      refine (gstamp_good gb W H ts ps Wq Hq Aq nq cq qs x y m w hg ht hn hW hH hq (by omega) (by omega) ?_ hnx hny hmd).mono fun e w' ⟨gG, A9, c9, ts', he, h1, h2, hb⟩ => ⟨_, _, he, .inr (.inr ⟨hrb, hnx, hny, hmd, gG, A9, c9, ts', rfl, rfl, h1, h2⟩), hb⟩
      have h1 : (qs.length : Int) = ((Wq * Hq : Nat) : Int) := by rw [Int.natCast_mul, ← hq.pxLen]; exact hqnl
      rw [Nat.mul_comm]
      omega

set_option maxRecDepth 1000000 in
set_option maxHeartbeats 40000000 in
theorem tilesPaint_any (W H : Int) (A : Option Addr) (n c : Nat) (ps : List Px) (LA : Option Addr) (ln lc : Nat) (l : List PaintM) (E : Nat → Addr) (w : World)
    (hp : Reads w w.heap.size 4 A n (pxCells ps)) (hl : Reads w w.heap.size 13 LA ln (paintCells l)) (hq : ∀ m ∈ l, Reads w w.heap.size 4 m.A m.n (pxCells m.qs)) (hE : ErrsAt w E) :
    Calls Tryd.prog 4 #[.agg #[.int .i64 W, .int .i64 H, .slice A n c], .slice LA ln lc] w fun e w' => e = .returned (.bool true) ∧ Below w.heap.size w w' := by
  obtain rfl := hp.pxLen
  obtain ⟨iG, hiG, hz0G, hz1G, hz2G⟩ := info_parts gmInfo
  obtain ⟨iP, hiP, hz0P, hz1P, hz2P⟩ := info_parts gpInfo
  have HLL := Lib.hid (show ln = l.length by have := hl.1; rw [paintCells_length] at this; omega)
  have HP := Lib.hid hp
  have HLI := Lib.hid hl
  have HQI := Lib.hid hq
  have HE := Lib.hid hE
  clear hp hl hq hE
  obtain ⟨rb, hrb⟩ : ∃ rb, rightB W H ps.length = rb := ⟨_, rfl⟩
  have HRB := Lib.hid hrb
  clear hrb
  go_enter Tryd.func4, Tryd.ntmps4
  go_wp2_with fail
  refine (one_any _).mono ?_
  rintro e w1 ⟨rfl, hb1⟩
  have B1 := (Blk.new w 24 #[.int .i64 W, .int .i64 H, .slice A ps.length c] rfl).below hb1 (by simp)
  have hbw1 := Below.trans (show Below w.heap.size w (w.alloc (.cells #[.int .i64 W, .int .i64 H, .slice A ps.length c] 24)) by go_grown) (hb1.mono (by simp))
  have c1 := B1.cell
  clear hb1
  go_wp2_with fail
  refine (small_any W H A ps.length c _).mono ?_
  rintro e w2 ⟨rfl, hb2⟩
  have B2 := B1.below hb2 B1.lt
  have hbw2 := hbw1.trans (hb2.mono hbw1.size)
  have c2 := B2.cell
  clear hb2 c1 B1 hbw1
  by_cases hn3 : ps.length ≤ 3000
  case neg =>
    have hd : decide (ps.length ≤ 3000) = false := by simp [hn3]
    rw [hd]
    go_wp2_with fail
    go_ret
    exact ⟨rfl, hbw2⟩
  have hd : decide (ps.length ≤ 3000) = true := by simp [hn3]
  rw [hd]
  by_cases hl12 : ln ≤ 12
  case neg =>
    have hl13 : (12 : Int) < (ln : Int) := by omega
    go_wp2_with fail
    go_ret
    exact ⟨rfl, hbw2⟩
  have hl13 : ¬ (12 : Int) < (ln : Int) := by omega
  go_wp2_with fail
  refine (own_any W H A ps.length c ps _ ((HP.out.below hbw2 (Nat.le_refl _)).more hbw2.size) (by omega)).mono ?_
  rintro e w3 ⟨A3, c3, rfl, hO3, hb3⟩
  have B3 := B2.below hb3 B2.lt
  have hbw3 := hbw2.trans (hb3.mono hbw2.size)
  have R3 := hO3.reads.2
  have c3' := B3.cell
  clear hb3 c2 B2 hbw2 hO3 hd
  cases rb with
  | false =>
    go_wp2_with fail
    refine (of_bad W H A3 ps.length c3 E _ (HE.out.below hbw3) HRB.out).mono ?_
    rintro e w4 ⟨rfl, hb4⟩
    unfold errV
    have hbw4 := hbw3.trans (hb4.mono hbw3.size)
    clear hb4 c3' B3 hbw3 R3
    go_wp2_with fail
    go_ret
    exact ⟨rfl, hbw4⟩
  | true =>
    obtain ⟨⟨W1, W2⟩, ⟨H1, H2⟩, hWH, _⟩ := rightB_true HRB.out
    obtain ⟨W', rfl⟩ : ∃ W' : Nat, W = W' := ⟨W.toNat, by omega⟩
    obtain ⟨H', rfl⟩ : ∃ H' : Nat, H = H' := ⟨H.toNat, by omega⟩
    have HNL := Lib.hid (show ps.length = H' * W' by
      have h1 : (ps.length : Int) = ((W' * H' : Nat) : Int) := by rw [Int.natCast_mul]; exact hWH
      rw [Nat.mul_comm]
      omega)
    have hW' : 1 ≤ W' ∧ W' ≤ 256 := by omega
    have hH' : 1 ≤ H' ∧ H' ≤ 256 := by omega
    have hHW : H' * W' ≤ 1048576 := by have := Nat.mul_le_mul hH'.2 hW'.2; omega
    clear hWH
    go_wp2_with fail
    refine (of_good W' H' A3 ps.length c3 ps _ R3 hW' hH' HNL.out).mono ?_
    rintro e w4 ⟨gG0, ts0, rfl, hG, hT, hb4⟩
    have B4 := B3.below hb4 B3.lt
    have hbw4 := hbw3.trans (hb4.mono hbw3.size)
    have c4 := B4.cell
    have l4 := B4.lt
    obtain ⟨Ag, cg, hGb, hGr⟩ := hG.ex
    have HGB := Lib.hid hGb
    have HGR := Lib.hid hGr
    have HGT := Lib.hid hG.ti
    have HT := Lib.hid hT
    clear hb4 c3' B3 hbw3 R3 hT hG hGb hGr
    go_wp2_with fail
    refine (own_any W' H' A ps.length c ps (w4.alloc (.cells #[.pointer (some ⟨gG0, 0, none⟩)] 27)) (((HP.out.below (hbw4.alloc hbw4.size _) (Nat.le_refl _)).more (hbw4.alloc hbw4.size _).size)) (by omega)).mono ?_
    rintro e w6 ⟨A6, c6, rfl, hO6, hb6⟩
    have K8 := (Blk.new w4 27 #[.pointer (some ⟨gG0, 0, none⟩)] rfl).below hb6 (by simp)
    have b46 : Below w4.heap.size w4 w6 := (Below.alloc (Below.refl w4.heap.size w4) (Nat.le_refl _) _).trans (hb6.mono (by simp))
    have HK8 := Lib.hid K8
    have H46 := Lib.hid b46
    have HO6 := Lib.hid hO6
    clear hb6 c4 K8 b46 hO6
    go_wp2_with fail
    obtain ⟨g9, hg9⟩ : ∃ g9, g9 = w6.heap.size := ⟨_, rfl⟩
    obtain ⟨w7, hw7⟩ : ∃ w7, w7 = w6.alloc (.cells #[.int .i64 W', .int .i64 H', .slice A6 ps.length c6] 24) := ⟨_, rfl⟩
    have F0 : PaR W' H' A ps.length c w (.slice (some ⟨w4.heap.size, 0, none⟩) 1 1) (.slice (some ⟨g9, 0, none⟩) 1 1) [⟨gG0, Ag, cg, ts0, ps, A6, c6⟩] w7 := by
      have b67 : Below w6.heap.size w6 w7 := by rw [hw7]; exact Below.alloc (Below.refl _ _) (Nat.le_refl _) _
      have b47 := H46.out.trans (b67.mono H46.out.size)
      have h9 : Blk w7 g9 24 #[.int .i64 W', .int .i64 H', .slice A6 ps.length c6] := by rw [hw7, hg9]; exact Blk.new _ _ _ rfl
      have h8 := HK8.out.below b67 HK8.out.lt
      have hg98 : w4.heap.size < g9 := by rw [hg9]; exact HK8.out.lt
      have hIN : GIn w6 W' H' ⟨gG0, Ag, cg, ts0, ps, A6, c6⟩ :=
        ⟨HGB.out.below H46.out HGB.out.lt, (HGR.out.below H46.out (Nat.le_refl _)).more H46.out.size, fun t ht => (HGT.out t ht).step H46.out, by rw [← HNL.out]; exact HO6.out.reads.2⟩
      have hA6 : ∀ b off, A6 = some ⟨b, off, none⟩ → w4.heap.size < b := fun b off e => by have := (HO6.out.lt b (by rw [e]; rfl)).1; simp at this; omega
      refine ⟨(B4.below b47 B4.lt), Own.of_blk (size := 1) h8 rfl (by have := hbw4.size; omega) (by unfold maxLen; omega), Own.of_blk (size := 3) (n := 1) (cs := gpCells W' H' [⟨gG0, Ag, cg, ts0, ps, A6, c6⟩]) (by simp only [gpCells, gpCs, List.flatMap_cons, List.flatMap_nil, List.append_nil]; rw [← HNL.out]; exact h9) rfl (by omega) (by unfold maxLen; omega), fun g e e2 => ?_, fun m hm => ?_, fun m hm => ?_, fun m hm => ?_, fun m hm => ?_, hbw4.trans (b47.mono hbw4.size)⟩
      · simp [Value.ownBlock] at e e2
        omega
      · rw [List.mem_singleton.1 hm]
        exact hIN.step b67
      · rw [List.mem_singleton.1 hm]
        exact ⟨HT.out, HNL.out⟩
      · rw [List.mem_singleton.1 hm]
        have hw : GdNew 0 w4 [] gG0 W' H' Ag cg ts0 := ⟨Nat.zero_le _, HGB.out, HGR.out, fun _ _ _ => Nat.zero_le _, HGT.out, fun t ht => .inr ⟨Nat.zero_le _, fun _ _ _ => Nat.zero_le _⟩⟩
        have h1 := hw.off_new (g := w4.heap.size) (Nat.le_refl _)
        exact ⟨h1.g, h1.a, h1.t, fun b off e _ e2 => by have := hA6 b off e; simp [Value.ownBlock] at e2; omega⟩
      · rw [List.mem_singleton.1 hm]
        exact hIN.off (by rw [hg9]; exact Nat.le_refl _)
    try rw [← hg9]
    rw [← hw7]
    clear hw7 hg9 B4 hbw4 l4 HK8 H46 HO6 HGB HGR HGT
    go_loopw [8, 9, 10] (fun v8 v9 i wr => ∃ (k : Nat) (ms : List GM), k ≤ ln ∧ i = .int .i64 k ∧ PaR W' H' A ps.length c w v8 v9 ms wr ∧ ms.length ≤ k + 1 ∧ ms[0]? = some ⟨gG0, Ag, cg, ts0, ps, A6, c6⟩) (fun _ _ i _ => ln - (intOf i).toNat)
    case atStart => exact ⟨0, _, Nat.zero_le _, rfl, F0, by simp, rfl⟩
    case round =>
      clear F0
      obtain ⟨k, ms, hk, rfl, F, hmk, hm0⟩ := hrel
      obtain ⟨wi, rfl⟩ : ∃ wi : World, wi = wr := ⟨_, rfl⟩
      have HM0 := Lib.hid hm0
      by_cases hlt : k < ln
      · obtain ⟨q, hq1⟩ : ∃ q, ms.length = q + 1 := ⟨ms.length - 1, by have := (List.getElem?_eq_some_iff.1 hm0).1; omega⟩
        have hq12 : q + 1 ≤ 12 := by omega
        clear hm0
        obtain ⟨A8, c8, hv8, _, hr8⟩ := F.own8.form
        obtain ⟨A9w, c9w, hv9, _, hr9⟩ := F.own9.form
        rw [hq1] at hv8 hv9 hr8 hr9
        subst hv8
        subst hv9
        have hqm : q < ms.length := by omega
        have hmm := List.getElem_mem hqm
        have g8 := fun b o (e : A8 = some ⟨b, o, none⟩) => (hr8.cell e q (by omega)).trans (gmCells_at ms q hqm)
        have g9 := fun b o j (hj : j < 3) (e : A9w = some ⟨b, o, none⟩) => (hr9.cell e (q * 3 + j) (by omega)).trans (gpCells_at W' H' ms q hqm j hj)
        obtain ⟨b8, o8, rfl, hb8⟩ := hr8.addr (by omega)
        obtain ⟨b9, o9, rfl, hb9⟩ := hr9.addr (by omega)
        obtain ⟨mm, hme⟩ : ∃ mm, ms[q] = mm := ⟨_, rfl⟩
        rw [hme] at hmm g8 g9
        have g8 := g8 _ _ rfl
        have p0 : wi.cell? ⟨b9, o9 + q * 3, none⟩ = some (.int .i64 W') := (g9 _ _ 0 (by omega) rfl).trans rfl
        have p1 : wi.cell? ⟨b9, o9 + q * 3 + 1, none⟩ = some (.int .i64 H') := (by rw [Nat.add_assoc]; exact (g9 _ _ 1 (by omega) rfl).trans rfl)
        have p2 : wi.cell? ⟨b9, o9 + q * 3 + 2, none⟩ = some (.slice mm.pA (H' * W') mm.pc) := (by rw [Nat.add_assoc]; exact (g9 _ _ 2 (by omega) rfl).trans rfl)
        unfold gmPtr at g8
        have HMM := Lib.hid hmm
        have HMS := Lib.hid (F.gs mm hmm)
        have HQ1 := Lib.hid hq1
        have HT8 := Lib.hid (F.off8 mm hmm).t
        have HT9 := Lib.hid (F.off9 mm hmm).t
        have hkl : k < l.length := by have := HLL.out; omega
        obtain ⟨bl, ol, rfl, _⟩ := HLI.out.addr (by omega)
        have hll := HLI.out.below F.bel (Nat.le_refl _)
        have hcs := hll.paint k hkl
        have hqs := HQI.out l[k] (List.getElem_mem hkl)
        obtain ⟨pm, hpm⟩ : ∃ pm, l[k] = pm := ⟨_, rfl⟩
        rw [hpm] at hcs hqs
        obtain ⟨st, x, y, ww, hh, cc, wide, high, qA, qn, qcap, qs, mode⟩ := pm
        have x0 : wi.cell? ⟨bl, ol + k * 13, none⟩ = some (.bool st) := (hcs 0 (by omega)).trans rfl
        have x1 : wi.cell? ⟨bl, ol + k * 13 + 1, none⟩ = some (.int .i64 x) := (hcs 1 (by omega)).trans rfl
        have x2 : wi.cell? ⟨bl, ol + k * 13 + 2, none⟩ = some (.int .i64 y) := (hcs 2 (by omega)).trans rfl
        have x3 : wi.cell? ⟨bl, ol + k * 13 + 3, none⟩ = some (.int .i64 ww) := (hcs 3 (by omega)).trans rfl
        have x4 : wi.cell? ⟨bl, ol + k * 13 + 4, none⟩ = some (.int .i64 hh) := (hcs 4 (by omega)).trans rfl
        have x5 : wi.cell? ⟨bl, ol + k * 13 + 5, none⟩ = some (.int .u8 cc.r.toNat) := (hcs 5 (by omega)).trans rfl
        have x6 : wi.cell? ⟨bl, ol + k * 13 + 6, none⟩ = some (.int .u8 cc.g.toNat) := (hcs 6 (by omega)).trans rfl
        have x7 : wi.cell? ⟨bl, ol + k * 13 + 7, none⟩ = some (.int .u8 cc.b.toNat) := (hcs 7 (by omega)).trans rfl
        have x8 : wi.cell? ⟨bl, ol + k * 13 + 8, none⟩ = some (.int .u8 cc.a.toNat) := (hcs 8 (by omega)).trans rfl
        have x9 : wi.cell? ⟨bl, ol + k * 13 + 9, none⟩ = some (.int .i64 wide) := (hcs 9 (by omega)).trans rfl
        have x10 : wi.cell? ⟨bl, ol + k * 13 + 10, none⟩ = some (.int .i64 high) := (hcs 10 (by omega)).trans rfl
        have x11 : wi.cell? ⟨bl, ol + k * 13 + 11, none⟩ = some (.slice qA qn qcap) := (hcs 11 (by omega)).trans rfl
        have x12 : wi.cell? ⟨bl, ol + k * 13 + 12, none⟩ = some (.int .i64 mode) := (hcs 12 (by omega)).trans rfl
        have HRQ0 := Lib.hid (show Reads w w.heap.size 4 qA qn (pxCells qs) from hqs)
        have k0 : (0 : Int) ≤ (k : Int) := by omega
        have k1 : (k : Int) < (ln : Int) := by omega
        have hqq : ((q + 1 : Nat) : Int) - 1 = (q : Int) := by omega
        have q0 : (0 : Int) ≤ (q : Int) := by omega
        have q1 : (q : Int) < ((q + 1 : Nat) : Int) := by omega
        have HF := Lib.hid F
        clear hcs hqs hll hpm hkl hme hmm g9 hr8 hr9 hq1 F hqm
        go_wp2_with fail
        obtain ⟨gT, hgT⟩ : ∃ gT, gT = wi.heap.size := ⟨_, rfl⟩
        obtain ⟨W1, hW1⟩ : ∃ W1, W1 = wi.alloc (.cells #[.bool st, .int .i64 x, .int .i64 y, .int .i64 ww, .int .i64 hh, .int .u8 cc.r.toNat, .int .u8 cc.g.toNat, .int .u8 cc.b.toNat, .int .u8 cc.a.toNat, .int .i64 wide, .int .i64 high, .slice qA qn qcap, .int .i64 mode] 51) := ⟨_, rfl⟩
        have BT1 : Blk W1 gT 51 #[.bool st, .int .i64 x, .int .i64 y, .int .i64 ww, .int .i64 hh, .int .u8 cc.r.toNat, .int .u8 cc.g.toNat, .int .u8 cc.b.toNat, .int .u8 cc.a.toNat, .int .i64 wide, .int .i64 high, .slice qA qn qcap, .int .i64 mode] := by rw [hW1, hgT]; exact Blk.new _ _ _ rfl
        have b01 : Below wi.heap.size wi W1 := by rw [hW1]; exact Below.alloc (Below.refl _ _) (Nat.le_refl _) _
        have HGT2 := Lib.hid hgT
        rw [← hW1, ← hgT]
        clear hW1 hgT x0 x1 x2 x3 x4 x5 x6 x7 x8 x9 x10 x11 x12
        refine (small_any wide high qA qn qcap _).mono ?_
        rintro e W2 ⟨rfl, hb12⟩
        have b02 := b01.trans (hb12.mono b01.size)
        have BT2 := BT1.below hb12 BT1.lt
        have F2 := HF.out.step b02
        have e0 := bkeep b02 p0
        have e1 := bkeep b02 p1
        have e2 := bkeep b02 p2
        have f8 := bkeep b02 g8
        have f8' := fun o => cell_past (w := W2) o f8
        have bT2 := BT2.cell
        have bT3 := fun o => (BT2.alloc o).cell
        clear p0 p1 p2 g8 b01 hb12 BT1
        by_cases hqn : qn ≤ 3000
        case neg =>
          have hd : decide (qn ≤ 3000) = false := by simp [hqn]
          rw [hd]
          have hbw := F2.bel
          go_wp2_with fail
          go_ret
          exact ⟨rfl, hbw⟩
        have hd : decide (qn ≤ 3000) = true := by simp [hqn]
        rw [hd]
        cases st with
        | true =>
          as_aux_lemma =>
          go_wp2_with fail
          obtain ⟨gN, hgN⟩ : ∃ gN, gN = W2.heap.size := ⟨_, rfl⟩
          obtain ⟨W3, hW3⟩ : ∃ W3, W3 = W2.alloc (.cells #[.int .i64 W', .int .i64 H', .slice mm.pA (H' * W') mm.pc] 24) := ⟨_, rfl⟩
          have b23 : Below W2.heap.size W2 W3 := by rw [hW3]; exact Below.alloc (Below.refl _ _) (Nat.le_refl _) _
          have BN3 : Blk W3 gN 24 #[.int .i64 W', .int .i64 H', .slice mm.pA (H' * W') mm.pc] := by rw [hW3, hgN]; exact Blk.new _ _ _ rfl
          have BT3 := BT2.below b23 BT2.lt
          have HF3 := Lib.hid (F2.step b23)
          have HTN8 := Lib.hid (show some gT ≠ (Value.slice (some ⟨b8, o8, none⟩) (q + 1) c8).ownBlock from fun e => by
            have := (HF.out.own8.lt gT e.symm).2
            have := HGT2.out
            omega)
          have HNN8 := Lib.hid (show some gN ≠ (Value.slice (some ⟨b8, o8, none⟩) (q + 1) c8).ownBlock from fun e => by
            have := (F2.own8.lt gN e.symm).2
            omega)
          rw [← hW3, ← hgN]
          clear hW3 hgN b23 b02 F2 BT2 bT2 bT3 e0 e1 e2 f8 f8' hd
          have RQ3 := Lib.hid (((HRQ0.out.below HF3.out.bel (Nat.le_refl _)).more HF3.out.bel.size).step_ (Below.here W3))
          have HNM := Lib.hid (near_mode x y mode)
          have s0 : W3.cell? ⟨gT, 9, none⟩ = some (.int .i64 wide) := (BT3.cell 9).trans rfl
          have s1 : W3.cell? ⟨gT, 10, none⟩ = some (.int .i64 high) := (BT3.cell 10).trans rfl
          have s2 : W3.cell? ⟨gT, 11, none⟩ = some (.slice qA qn qcap) := (BT3.cell 11).trans rfl
          have s3 : W3.cell? ⟨gT, 1, none⟩ = some (.int .i64 x) := (BT3.cell 1).trans rfl
          have s4 : W3.cell? ⟨gT, 2, none⟩ = some (.int .i64 y) := (BT3.cell 2).trans rfl
          have s5 : W3.cell? ⟨gT, 12, none⟩ = some (.int .i64 mode) := (BT3.cell 12).trans rfl
          go_region_held3 (fun w' => w'.cell? ⟨gT, 9, none⟩ = some (.int .i64 wide) ∧ w'.cell? ⟨gT, 10, none⟩ = some (.int .i64 high) ∧ w'.cell? ⟨gT, 11, none⟩ = some (.slice qA qn qcap) ∧ w'.cell? ⟨gT, 1, none⟩ = some (.int .i64 x) ∧ w'.cell? ⟨gT, 2, none⟩ = some (.int .i64 y) ∧ w'.cell? ⟨gT, 12, none⟩ = some (.int .i64 mode))
            ((go_split_ands
              refine ⟨?_, ?_, ?_, ?_, ?_, ?_⟩
              · ((repeat' (first | (with_reducible exact s0) | (with_reducible refine bkeep hbB ?_) | (with_reducible refine bkeep hbA ?_))) <;> exact s0)
              · ((repeat' (first | (with_reducible exact s1) | (with_reducible refine bkeep hbB ?_) | (with_reducible refine bkeep hbA ?_))) <;> exact s1)
              · ((repeat' (first | (with_reducible exact s2) | (with_reducible refine bkeep hbB ?_) | (with_reducible refine bkeep hbA ?_))) <;> exact s2)
              · ((repeat' (first | (with_reducible exact s3) | (with_reducible refine bkeep hbB ?_) | (with_reducible refine bkeep hbA ?_))) <;> exact s3)
              · ((repeat' (first | (with_reducible exact s4) | (with_reducible refine bkeep hbB ?_) | (with_reducible refine bkeep hbA ?_))) <;> exact s4)
              · ((repeat' (first | (with_reducible exact s5) | (with_reducible refine bkeep hbB ?_) | (with_reducible refine bkeep hbA ?_))) <;> exact s5)))
            (first
              | (go_at_call 8; refine (own_any wide high qA qn qcap qs W3.drew RQ3.out (Nat.le_trans hqn (Nat.le_of_ble_eq_true rfl))).mono ?_; rintro e wA ⟨A4, c4, rfl, hO4, hbA⟩; have hbI := Below.fromDrew hbA)
              | (go_at_call 18; refine (gstamp_all mm.gb W' H' mm.ts mm.ps wide high A4 qn c4 qs x y mode E wA (HF3.out.gi mm HMM.out |>.gd.step hbI) HMS.out.of HMS.out.pl hW' hH' hO4.reads.2 (HE.out.below (HF3.out.bel.trans (hbI.mono HF3.out.bel.size)))).mono ?_; rintro e wB ⟨pv, ev, rfl, hsay, hbB⟩))
          have hb34 := hbI.trans (hbB.mono hbI.size)
          have F4 := HF3.out.step hb34
          have BT4 := BT3.below hb34 BT3.lt
          have BN4 := BN3.below hb34 BN3.lt

          have HB8 := Lib.hid (show ∀ g, (Value.slice (some ⟨b8, o8, none⟩) (q + 1) c8).ownBlock = some g → g < wA.heap.size from fun g e => Nat.lt_of_lt_of_le (HF3.out.own8.lt g e).2 hbI.size)
          have HB9 := Lib.hid (show ∀ g, (Value.slice (some ⟨b9, o9, none⟩) (q + 1) c9w).ownBlock = some g → g < wA.heap.size from fun g e => Nat.lt_of_lt_of_le (HF3.out.own9.lt g e).2 hbI.size)
          have bT := BT4.cell
          clear hbA hbB hbI hO4 hb34 s0 s1 s2 s3 s4 s5 BT3 BN3
          rcases hsay with ⟨hrb, rfl, rfl⟩ | ⟨hrb, hbb, rfl, rfl⟩ | ⟨hrb, hnx, hny, hmd, gG, A9, c9, ts', rfl, rfl, hNW, hTN⟩
          · as_aux_lemma =>
            have HRB := Lib.hid hrb
            unfold errV
            clear hrb BN4
            rcases HNM.out with hbb | ⟨hnx, hny, hmd⟩
            · have HBB := Lib.hid hbb
              clear hbb
              go_upto_region 20 with fail
              go_cut [111] (fun s wx => s = .bool true ∧ wB = wx)
              case first =>
                rcases HBB.out with h | ⟨h, h2⟩ | ⟨h, h2, h3⟩
                · go_wp2_with fail
                  refine (near_any x _).mono ?_
                  rw [h]
                  rintro e wz ⟨rfl, rfl⟩
                  go_wp2_with fail
                  go_meet
                  exact ⟨rfl, rfl⟩
                · go_wp2_with fail
                  refine (near_any x _).mono ?_
                  rw [h]
                  rintro e wz ⟨rfl, rfl⟩
                  go_wp2_with fail
                  refine (near_any y _).mono ?_
                  rw [h2]
                  rintro e wz ⟨rfl, rfl⟩
                  go_wp2_with fail
                  go_meet
                  exact ⟨rfl, rfl⟩
                · go_wp2_with fail
                  refine (near_any x _).mono ?_
                  rw [h]
                  rintro e wz ⟨rfl, rfl⟩
                  go_wp2_with fail
                  refine (near_any y _).mono ?_
                  rw [h2]
                  rintro e wz ⟨rfl, rfl⟩
                  go_wp2_with fail
                  refine (isMode_any mode _).mono ?_
                  rw [h3]
                  rintro e wz ⟨rfl, rfl⟩
                  go_wp2_with fail
                  go_meet
                  exact ⟨rfl, rfl⟩
              case rest =>
                obtain ⟨rfl, rfl⟩ := hcut
                go_wp2_with fail
                refine (pright_any wide high qA qn qcap _).mono ?_
                rw [HRB.out]
                rintro e wR ⟨rfl, hbR⟩
                have F4 := F4.step hbR
                clear hbR bT BT4
                have HX := Lib.hid (HE.out.below F4.bel)
                go_wp2_with fail
                refine (coded_sent E 2 (by omega) 3 _ HX.out).mono ?_
                rintro e wE ⟨rfl, hbE⟩
                have HF5 := Lib.hid (F4.step hbE)
                clear hbE F4
                go_wp2_with fail
                go_roundw
                case rel => exact ⟨k + 1, ms, by omega, by go_num, HF5.out, by omega, HM0.out⟩
                case measure => simp [intOf]; omega
            · have HNX := Lib.hid hnx
              have HNY := Lib.hid hny
              have HMD := Lib.hid hmd
              clear hnx hny hmd
              go_upto_region 20 with fail
              go_cut [111] (fun s wx => s = .bool false ∧ wB = wx)
              case first =>
                go_wp2_with fail
                refine (near_any x _).mono ?_
                rw [HNX.out]
                rintro e wz ⟨rfl, rfl⟩
                go_wp2_with fail
                refine (near_any y _).mono ?_
                rw [HNY.out]
                rintro e wz ⟨rfl, rfl⟩
                go_wp2_with fail
                refine (isMode_any mode _).mono ?_
                rw [HMD.out]
                rintro e wz ⟨rfl, rfl⟩
                go_wp2_with fail
                go_meet
                exact ⟨rfl, rfl⟩
              case rest =>
                obtain ⟨rfl, rfl⟩ := hcut
                go_wp2_with fail
                refine (pright_any wide high qA qn qcap _).mono ?_
                rw [HRB.out]
                rintro e wR ⟨rfl, hbR⟩
                have F4 := F4.step hbR
                clear hbR bT BT4
                have HX := Lib.hid (HE.out.below F4.bel)
                go_wp2_with fail
                refine (coded_sent E 2 (by omega) 3 _ HX.out).mono ?_
                rintro e wE ⟨rfl, hbE⟩
                have HF5 := Lib.hid (F4.step hbE)
                clear hbE F4
                go_wp2_with fail
                go_roundw
                case rel => exact ⟨k + 1, ms, by omega, by go_num, HF5.out, by omega, HM0.out⟩
                case measure => simp [intOf]; omega
          · as_aux_lemma =>
            have HRB := Lib.hid hrb
            have HBB := Lib.hid hbb
            unfold errV
            clear hrb hbb BN4
            go_upto_region 20 with fail
            go_cut [111] (fun s wx => s = .bool true ∧ wB = wx)
            case first =>
              rcases HBB.out with h | ⟨h, h2⟩ | ⟨h, h2, h3⟩
              · go_wp2_with fail
                refine (near_any x _).mono ?_
                rw [h]
                rintro e wz ⟨rfl, rfl⟩
                go_wp2_with fail
                go_meet
                exact ⟨rfl, rfl⟩
              · go_wp2_with fail
                refine (near_any x _).mono ?_
                rw [h]
                rintro e wz ⟨rfl, rfl⟩
                go_wp2_with fail
                refine (near_any y _).mono ?_
                rw [h2]
                rintro e wz ⟨rfl, rfl⟩
                go_wp2_with fail
                go_meet
                exact ⟨rfl, rfl⟩
              · go_wp2_with fail
                refine (near_any x _).mono ?_
                rw [h]
                rintro e wz ⟨rfl, rfl⟩
                go_wp2_with fail
                refine (near_any y _).mono ?_
                rw [h2]
                rintro e wz ⟨rfl, rfl⟩
                go_wp2_with fail
                refine (isMode_any mode _).mono ?_
                rw [h3]
                rintro e wz ⟨rfl, rfl⟩
                go_wp2_with fail
                go_meet
                exact ⟨rfl, rfl⟩
            case rest =>
              obtain ⟨rfl, rfl⟩ := hcut
              go_wp2_with fail
              refine (pright_any wide high qA qn qcap _).mono ?_
              rw [HRB.out]
              rintro e wR ⟨rfl, hbR⟩
              have F4 := F4.step hbR
              clear hbR bT BT4
              have HX := Lib.hid (HE.out.below F4.bel)
              go_wp2_with fail
              refine (coded_sent E 1 (by omega) 2 _ HX.out).mono ?_
              rintro e wE ⟨rfl, hbE⟩
              have HF5 := Lib.hid (F4.step hbE)
              clear hbE F4
              go_wp2_with fail
              go_roundw
              case rel => exact ⟨k + 1, ms, by omega, by go_num, HF5.out, by omega, HM0.out⟩
              case measure => simp [intOf]; omega
          · as_aux_lemma =>
            have HRB := Lib.hid hrb
            have HNX := Lib.hid hnx
            have HNY := Lib.hid hny
            have HMD := Lib.hid hmd
            obtain ⟨hX1, hX2⟩ : -10000 ≤ x ∧ x ≤ 10000 := by simpa [nearB] using hnx
            obtain ⟨hY1, hY2⟩ : -10000 ≤ y ∧ y ≤ 10000 := by simpa [nearB] using hny
            have hX : -10000 ≤ x ∧ x ≤ 10000 := ⟨hX1, hX2⟩
            have hY : -10000 ≤ y ∧ y ≤ 10000 := ⟨hY1, hY2⟩
            obtain ⟨hWq, hHq, hqnl, _⟩ := rightB_true hrb
            have HNQI := Lib.hid (show (qs.length : Int) = wide * high by rw [← HRQ0.out.pxLen]; exact hqnl)
            have HO8 := Lib.hid (show Own wB (w.heap.size + 1) 1 (.slice (some ⟨b8, o8, none⟩) (q + 1) c8) (q + 1) (gmCells ms) by have h := F4.own8; rw [HQ1.out] at h; exact h)
            clear hnx hny hmd hrb hqnl
            go_wp2_with fail
            refine (near_any x _).mono ?_
            rw [HNX.out]
            rintro e wz ⟨rfl, rfl⟩
            go_wp2_with fail
            refine (near_any y _).mono ?_
            rw [HNY.out]
            rintro e wz ⟨rfl, rfl⟩
            go_wp2_with fail
            refine (isMode_any mode _).mono ?_
            rw [HMD.out]
            rintro e wz ⟨rfl, rfl⟩
            go_wp2_with fail
            refine (pright_any wide high qA qn qcap _).mono ?_
            rw [HRB.out]
            rintro e wB2 ⟨rfl, hbR⟩

            have F4 := F4.step hbR
            have hNW := hNW.step hbR
            have BT4 := BT4.below hbR BT4.lt
            have BN4 := BN4.below hbR BN4.lt
            have HO8 := Lib.hid (HO8.out.below hbR (Nat.le_refl _))
            clear bT hbR

            have HF4 := Lib.hid F4
            have HNW := Lib.hid hNW
            have HTN := Lib.hid hTN
            have bT := BT4.cell
            have bN := BN4.cell
            have lT := BT4.lt
            have lN := BN4.lt
            have hwzB : w.heap.size ≤ wB2.heap.size := HF4.out.bel.size
            clear F4 hNW hTN
            go_upto_region 30 with (at_builtin; refine wpList_append_S rfl (.tmp 132) (.tmp 134) 46 46 rfl (w.heap.size + 1) 27 iG _ 1 8 Tryd.underlying46 hiG hz0G hz1G hz2G rfl (by decide) (.slice (some ⟨b8, o8, none⟩) (q + 1) c8) (q + 1) (gmCells ms) rfl (HO8.out.alloc _) (gmCells_one _) (1) ([.pointer (some ⟨gG, 0, none⟩)]) (Src.made Tryd.underlying46 (by first | rfl | simp) rfl (by intro u hu; simp at hu; first | (subst hu; rfl) | (rcases hu with rfl | rfl | rfl <;> rfl))) (q + 1 + 1) (by omega) (gmCells ms ++ [.pointer (some ⟨gG, 0, none⟩)]) (rfl) (by unfold maxLen; omega) (by omega) (by first | omega | (simp; done) | (simp; omega)) ?_; intro A' c' wn hownn hgn hatn)
            have G5 := HF4.out.addGrid HNW.out HB8.out HB9.out HT8.out HT9.out (by rw [HQ1.out]; exact hownn) hgn hatn
            have BT5 := (BT4.alloc (.cells #[.pointer (some ⟨gG, 0, none⟩)] 27)).grown hgn HTN8.out
            have BN5 := (BN4.alloc (.cells #[.pointer (some ⟨gG, 0, none⟩)] 27)).grown hgn HNN8.out
            have RM := Lib.hid (G5.pa.gi mm HMM.out).px
            have RQ := Lib.hid ((HRQ0.out.below G5.pa.bel (Nat.le_refl _)).more G5.pa.bel.size)
            have HS8 := Lib.hid (G5.pa.own8.lt)
            have HS9 := Lib.hid (G5.pa.own9.lt)
            have HG5 := Lib.hid G5
            have cT := BT5.cell
            have cN := BN5.cell
            clear G5 hownn hgn hatn bT bN BT4 BN4 lT lN BT5 BN5
            go_wp2_with fail
            refine (stampOf_any W' H' mm.pA (H' * W') mm.pc mm.ps wide high qA qn qcap qs x y mode _ RM.out RQ.out hW' hH' HMS.out.pl (by omega) (by omega) HNQI.out hX hY).mono ?_
            rintro e wC ⟨A5, c5, rfl, hO5, hbC⟩
            have HG6 := Lib.hid (HG5.out.step hbC)
            have HPX := Lib.hid hO5.reads.2
            have HPA := Lib.hid (fun b off (e : A5 = some ⟨b, off, none⟩) => (hO5.lt b (by rw [e]; rfl)).1)
            have HO9 := Lib.hid (show Own wC (w.heap.size + 1) 3 (.slice (some ⟨b9, o9, none⟩) (q + 1) c9w) (q + 1) (gpCells W' H' ms) by have h := HG6.out.pa.own9; rw [HQ1.out] at h; exact h)
            have hwzC : w.heap.size ≤ wC.heap.size := HG6.out.pa.bel.size
            clear hO5 hbC cT cN
            go_wp2_with (at_builtin; refine wpList_append_S rfl (.tmp 136) (.tmp 149) 47 47 rfl (w.heap.size + 1) 24 iP _ 3 40 Tryd.underlying47 hiP hz0P hz1P hz2P rfl (by decide) (.slice (some ⟨b9, o9, none⟩) (q + 1) c9w) (q + 1) (gpCells W' H' ms) rfl (HO9.out.alloc _) (gpCells_one _ _ _) (1) ([.int .i64 W', .int .i64 H', .slice A5 (H' * W') c5]) (Src.made Tryd.underlying47 (by first | rfl | simp) rfl (by intro u hu; simp at hu; first | (subst hu; rfl) | (rcases hu with rfl | rfl | rfl <;> rfl))) (q + 1 + 1) (by omega) (gpCells W' H' ms ++ [.int .i64 W', .int .i64 H', .slice A5 (H' * W') c5]) (rfl) (by unfold maxLen; omega) (by omega) (by first | omega | (simp; done) | (simp; omega)) ?_; intro A' c' wn hownn hgn hatn)
            have G7 := HG6.out.addPic (ps := Lay.grid (Lay.stampAt mm.ps qs W' wide high x y mode) W' H') HTN.out (Lay.grid_length _ _ _) HPX.out HPA.out (fun g e => (HS8.out g e).2) (fun g e => (HS9.out g e).2) rfl (by rw [HQ1.out]; exact hownn) hgn hatn
            have HG7 := Lib.hid G7
            clear G7 hownn hgn hatn
            go_roundw
            case rel => exact ⟨k + 1, ms ++ [⟨gG, A9, c9, ts', Lay.grid (Lay.stampAt mm.ps qs W' wide high x y mode) W' H', A5, c5⟩], by omega, by go_num, HG7.out, by have h1 := HQ1.out; rw [List.length_append, List.length_singleton]; omega, by rw [List.getElem?_append_left (by rw [HQ1.out]; omega)]; exact HM0.out⟩
            case measure => simp [intOf]; omega
        | false =>
          as_aux_lemma =>
          go_wp2_with fail
          obtain ⟨gN, hgN⟩ : ∃ gN, gN = W2.heap.size := ⟨_, rfl⟩
          obtain ⟨W3, hW3⟩ : ∃ W3, W3 = W2.alloc (.cells #[.int .i64 W', .int .i64 H', .slice mm.pA (H' * W') mm.pc] 24) := ⟨_, rfl⟩
          have b23 : Below W2.heap.size W2 W3 := by rw [hW3]; exact Below.alloc (Below.refl _ _) (Nat.le_refl _) _
          have BN3 : Blk W3 gN 24 #[.int .i64 W', .int .i64 H', .slice mm.pA (H' * W') mm.pc] := by rw [hW3, hgN]; exact Blk.new _ _ _ rfl
          have BT3 := BT2.below b23 BT2.lt
          have HF3 := Lib.hid (F2.step b23)
          have HTN8 := Lib.hid (show some gT ≠ (Value.slice (some ⟨b8, o8, none⟩) (q + 1) c8).ownBlock from fun e => by
            have := (HF.out.own8.lt gT e.symm).2
            have := HGT2.out
            omega)
          have HNN8 := Lib.hid (show some gN ≠ (Value.slice (some ⟨b8, o8, none⟩) (q + 1) c8).ownBlock from fun e => by
            have := (F2.own8.lt gN e.symm).2
            omega)
          rw [← hW3, ← hgN]
          clear hW3 hgN b23 b02 F2 BT2 bT2 bT3 e0 e1 e2 f8 f8' hd
          by_cases hgd : [x, y, ww, hh].all nearB = true ∧ 0 ≤ ww ∧ 0 ≤ hh
          · as_aux_lemma =>
            obtain ⟨hnb, h0, h1⟩ := hgd
            obtain ⟨hX, hY, hWr, hHr⟩ := nears4 hnb
            have HNB := Lib.hid hnb
            have HN4 := Lib.hid (show nearB x = true ∧ nearB y = true ∧ nearB ww = true ∧ nearB hh = true by simpa using hnb)
            clear hnb
            refine (gfill_good mm.gb W' H' mm.ts mm.ps x y ww hh cc W3 (HF3.out.gi mm HMM.out |>.gd) HMS.out.of HMS.out.pl hW' hH' HNB.out h0 h1).mono ?_
            rintro e wB ⟨gG, A9, c9, ts', rfl, hNW, hTN, hbB⟩
            have F4 := HF3.out.step hbB
            have BT4 := BT3.below hbB BT3.lt
            have BN4 := BN3.below hbB BN3.lt
            have HB8 := Lib.hid (show ∀ g, (Value.slice (some ⟨b8, o8, none⟩) (q + 1) c8).ownBlock = some g → g < W3.heap.size from fun g e => (HF3.out.own8.lt g e).2)
            have HB9 := Lib.hid (show ∀ g, (Value.slice (some ⟨b9, o9, none⟩) (q + 1) c9w).ownBlock = some g → g < W3.heap.size from fun g e => (HF3.out.own9.lt g e).2)
            have HO8 := Lib.hid (show Own wB (w.heap.size + 1) 1 (.slice (some ⟨b8, o8, none⟩) (q + 1) c8) (q + 1) (gmCells ms) by have h := F4.own8; rw [HQ1.out] at h; exact h)
            have bT := BT4.cell
            clear hbB BT3 BN3
            go_wp2_with fail
            refine (near_any x _).mono ?_
            rw [HN4.out.1]
            rintro e wz ⟨rfl, rfl⟩
            go_wp2_with fail
            refine (near_any y _).mono ?_
            rw [HN4.out.2.1]
            rintro e wz ⟨rfl, rfl⟩
            go_wp2_with fail
            refine (near_any ww _).mono ?_
            rw [HN4.out.2.2.1]
            rintro e wz ⟨rfl, rfl⟩
            go_wp2_with fail
            refine (near_any hh _).mono ?_
            rw [HN4.out.2.2.2]
            rintro e wz ⟨rfl, rfl⟩
            clear bT
            have HF4 := Lib.hid F4
            have HNW := Lib.hid hNW
            have HTN := Lib.hid hTN
            have bT := BT4.cell
            have bN := BN4.cell
            have lT := BT4.lt
            have lN := BN4.lt
            have hwzB : w.heap.size ≤ wB.heap.size := HF4.out.bel.size
            clear F4 hNW hTN
            go_upto_region 39 with (at_builtin; refine wpList_append_S rfl (.tmp 209) (.tmp 211) 46 46 rfl (w.heap.size + 1) 27 iG _ 1 8 Tryd.underlying46 hiG hz0G hz1G hz2G rfl (by decide) (.slice (some ⟨b8, o8, none⟩) (q + 1) c8) (q + 1) (gmCells ms) rfl (HO8.out.alloc _) (gmCells_one _) (1) ([.pointer (some ⟨gG, 0, none⟩)]) (Src.made Tryd.underlying46 (by first | rfl | simp) rfl (by intro u hu; simp at hu; first | (subst hu; rfl) | (rcases hu with rfl | rfl | rfl <;> rfl))) (q + 1 + 1) (by omega) (gmCells ms ++ [.pointer (some ⟨gG, 0, none⟩)]) (rfl) (by unfold maxLen; omega) (by omega) (by first | omega | (simp; done) | (simp; omega)) ?_; intro A' c' wn hownn hgn hatn)
            have G5 := HF4.out.addGrid HNW.out HB8.out HB9.out HT8.out HT9.out (by rw [HQ1.out]; exact hownn) hgn hatn
            have BT5 := (BT4.alloc (.cells #[.pointer (some ⟨gG, 0, none⟩)] 27)).grown hgn HTN8.out
            have BN5 := (BN4.alloc (.cells #[.pointer (some ⟨gG, 0, none⟩)] 27)).grown hgn HNN8.out
            have RM := Lib.hid (G5.pa.gi mm HMM.out).px
            have RQ := Lib.hid ((HRQ0.out.below G5.pa.bel (Nat.le_refl _)).more G5.pa.bel.size)
            have HS8 := Lib.hid (G5.pa.own8.lt)
            have HS9 := Lib.hid (G5.pa.own9.lt)
            have HG5 := Lib.hid G5
            have cT := BT5.cell
            have cN := BN5.cell
            clear G5 hownn hgn hatn bT bN BT4 BN4 lT lN BT5 BN5
            go_wp2_with fail
            refine (fillOf_agg W' H' mm.pA (H' * W') mm.pc mm.ps x y ww hh cc _ RM.out hW' hH' HMS.out.pl hX hY hWr hHr).mono ?_
            rintro e wC ⟨A5, c5, rfl, hO5, hbC⟩
            have HG6 := Lib.hid (HG5.out.step hbC)
            have HPX := Lib.hid hO5.reads.2
            have HPA := Lib.hid (fun b off (e : A5 = some ⟨b, off, none⟩) => (hO5.lt b (by rw [e]; rfl)).1)
            have HO9 := Lib.hid (show Own wC (w.heap.size + 1) 3 (.slice (some ⟨b9, o9, none⟩) (q + 1) c9w) (q + 1) (gpCells W' H' ms) by have h := HG6.out.pa.own9; rw [HQ1.out] at h; exact h)
            have hwzC : w.heap.size ≤ wC.heap.size := HG6.out.pa.bel.size
            clear hO5 hbC cT cN
            go_wp2_with (at_builtin; refine wpList_append_S rfl (.tmp 213) (.tmp 220) 47 47 rfl (w.heap.size + 1) 24 iP _ 3 40 Tryd.underlying47 hiP hz0P hz1P hz2P rfl (by decide) (.slice (some ⟨b9, o9, none⟩) (q + 1) c9w) (q + 1) (gpCells W' H' ms) rfl (HO9.out.alloc _) (gpCells_one _ _ _) (1) ([.int .i64 W', .int .i64 H', .slice A5 (H' * W') c5]) (Src.made Tryd.underlying47 (by first | rfl | simp) rfl (by intro u hu; simp at hu; first | (subst hu; rfl) | (rcases hu with rfl | rfl | rfl <;> rfl))) (q + 1 + 1) (by omega) (gpCells W' H' ms ++ [.int .i64 W', .int .i64 H', .slice A5 (H' * W') c5]) (rfl) (by unfold maxLen; omega) (by omega) (by first | omega | (simp; done) | (simp; omega)) ?_; intro A' c' wn hownn hgn hatn)
            have G7 := HG6.out.addPic (ps := Lay.grid (Til.fillAt mm.ps W' x y ww hh cc) W' H') HTN.out (Lay.grid_length _ _ _) HPX.out HPA.out (fun g e => (HS8.out g e).2) (fun g e => (HS9.out g e).2) rfl (by rw [HQ1.out]; exact hownn) hgn hatn
            have HG7 := Lib.hid G7
            clear G7 hownn hgn hatn
            go_roundw
            case rel => exact ⟨k + 1, ms ++ [⟨gG, A9, c9, ts', Lay.grid (Til.fillAt mm.ps W' x y ww hh cc) W' H', A5, c5⟩], by omega, by go_num, HG7.out, by have h1 := HQ1.out; rw [List.length_append, List.length_singleton]; omega, by rw [List.getElem?_append_left (by rw [HQ1.out]; omega)]; exact HM0.out⟩
            case measure => simp [intOf]; omega
          · as_aux_lemma =>
            obtain ⟨nb, hnb⟩ : ∃ nb, [x, y, ww, hh].all nearB = nb := ⟨_, rfl⟩
            rw [hnb] at hgd
            have HBAD := Lib.hid (show [x, y, ww, hh].all nearB = false ∨ ww < 0 ∨ hh < 0 by
              rw [hnb]
              cases nb with
              | false => exact .inl rfl
              | true => exact .inr (by simp at hgd; omega))
            have HFB := Lib.hid (show nb = false ∨ (nb = true ∧ ww < 0) ∨ (nb = true ∧ 0 ≤ ww ∧ hh < 0) by
              cases nb with
              | false => exact .inl rfl
              | true => exact .inr (by simp at hgd ⊢; omega))
            have HN4 := Lib.hid (show (nearB x = false ∧ nb = false) ∨ (nearB x = true ∧ nearB y = false ∧ nb = false) ∨ (nearB x = true ∧ nearB y = true ∧ nearB ww = false ∧ nb = false) ∨ (nearB x = true ∧ nearB y = true ∧ nearB ww = true ∧ nearB hh = false ∧ nb = false) ∨ (nearB x = true ∧ nearB y = true ∧ nearB ww = true ∧ nearB hh = true ∧ nb = true) by
              have e : [x, y, ww, hh].all nearB = (nearB x && (nearB y && (nearB ww && nearB hh))) := by simp
              rw [← hnb, e]
              cases nearB x <;> cases nearB y <;> cases nearB ww <;> cases nearB hh <;> simp)
            clear hgd hnb
            refine (gfill_bad mm.gb W' H' mm.ts mm.ps x y ww hh cc E W3 (HF3.out.gi mm HMM.out |>.gd) HMS.out.of HMS.out.pl hW' hH' (HE.out.below HF3.out.bel) HBAD.out).mono ?_
            rintro e wB ⟨rfl, hbB⟩
            have F4 := HF3.out.step hbB
            have BT4 := BT3.below hbB BT3.lt
            have bT := BT4.cell
            unfold errV
            clear hbB BT3 BN3
            go_upto_region 32 with fail
            go_cut [19] (fun s wx => s = .bool nb ∧ wB = wx)
            case first =>
              rcases HN4.out with ⟨h, g⟩ | ⟨h, h2, g⟩ | ⟨h, h2, h3, g⟩ | ⟨h, h2, h3, h4, g⟩ | ⟨h, h2, h3, h4, g⟩
              · subst g
                go_wp2_with fail
                refine (near_any x _).mono ?_
                rw [h]
                rintro e wz ⟨rfl, rfl⟩
                go_wp2_with fail
                go_meet
                exact ⟨rfl, rfl⟩
              · subst g
                go_wp2_with fail
                refine (near_any x _).mono ?_
                rw [h]
                rintro e wz ⟨rfl, rfl⟩
                go_wp2_with fail
                refine (near_any y _).mono ?_
                rw [h2]
                rintro e wz ⟨rfl, rfl⟩
                go_wp2_with fail
                go_meet
                exact ⟨rfl, rfl⟩
              · subst g
                go_wp2_with fail
                refine (near_any x _).mono ?_
                rw [h]
                rintro e wz ⟨rfl, rfl⟩
                go_wp2_with fail
                refine (near_any y _).mono ?_
                rw [h2]
                rintro e wz ⟨rfl, rfl⟩
                go_wp2_with fail
                refine (near_any ww _).mono ?_
                rw [h3]
                rintro e wz ⟨rfl, rfl⟩
                go_wp2_with fail
                go_meet
                exact ⟨rfl, rfl⟩
              · subst g
                go_wp2_with fail
                refine (near_any x _).mono ?_
                rw [h]
                rintro e wz ⟨rfl, rfl⟩
                go_wp2_with fail
                refine (near_any y _).mono ?_
                rw [h2]
                rintro e wz ⟨rfl, rfl⟩
                go_wp2_with fail
                refine (near_any ww _).mono ?_
                rw [h3]
                rintro e wz ⟨rfl, rfl⟩
                go_wp2_with fail
                refine (near_any hh _).mono ?_
                rw [h4]
                rintro e wz ⟨rfl, rfl⟩
                go_wp2_with fail
                go_meet
                exact ⟨rfl, rfl⟩
              · subst g
                go_wp2_with fail
                refine (near_any x _).mono ?_
                rw [h]
                rintro e wz ⟨rfl, rfl⟩
                go_wp2_with fail
                refine (near_any y _).mono ?_
                rw [h2]
                rintro e wz ⟨rfl, rfl⟩
                go_wp2_with fail
                refine (near_any ww _).mono ?_
                rw [h3]
                rintro e wz ⟨rfl, rfl⟩
                go_wp2_with fail
                refine (near_any hh _).mono ?_
                rw [h4]
                rintro e wz ⟨rfl, rfl⟩
                go_wp2_with fail
                go_meet
                exact ⟨rfl, rfl⟩
            case rest =>
              obtain ⟨rfl, rfl⟩ := hcut
              go_upto_region 33 with fail
              go_cut [195] (fun s wx => s = .bool true ∧ wB = wx)
              case first =>
                rcases HFB.out with h | ⟨h, h2⟩ | ⟨h, h2, h3⟩
                all_goals
                  subst h
                  go_wp2_with fail
                  go_meet
                  exact ⟨rfl, rfl⟩
              case rest =>
                obtain ⟨rfl, rfl⟩ := hcut
                clear bT BT4
                have HX := Lib.hid (HE.out.below F4.bel)
                go_wp2_with fail
                refine (coded_sent E 1 (by omega) 2 _ HX.out).mono ?_
                rintro e wE ⟨rfl, hbE⟩
                have HF5 := Lib.hid (F4.step hbE)
                clear hbE F4
                go_wp2_with fail
                go_roundw
                case rel => exact ⟨k + 1, ms, by omega, by go_num, HF5.out, by omega, HM0.out⟩
                case measure => simp [intOf]; omega
      · as_aux_lemma =>
        have e : k = ln := by omega
        subst e
        have HF := Lib.hid F
        obtain ⟨N, hN⟩ : ∃ N, ms.length = N := ⟨_, rfl⟩
        have HNN := Lib.hid hN
        obtain ⟨A8, c8, hv8, _, hr8⟩ := F.own8.form
        obtain ⟨A9w, c9w, hv9, _, hr9⟩ := F.own9.form
        rw [hN] at hv8 hv9 hr8 hr9 hmk
        subst hv8
        subst hv9
        have hN0 : 0 < N := by have := (List.getElem?_eq_some_iff.1 hm0).1; omega
        have HR8 := Lib.hid hr8
        have HR9 := Lib.hid hr9
        have hbi := F.bel
        clear hm0 hN F hr8 hr9
        go_wp2_with fail
        go_loopw [20] (fun i wr => ∃ k, k ≤ N ∧ i = .int .i64 k ∧ Below wi.heap.size wi wr) (fun i _ => N - (intOf i).toNat)
        case atStart => exact ⟨0, Nat.zero_le _, rfl, Below.refl _ _⟩
        case round =>
          obtain ⟨j, hj, rfl, hbj⟩ := hrel
          obtain ⟨wj, rfl⟩ : ∃ wj : World, wj = wr := ⟨_, rfl⟩
          by_cases hjl : j < N
          · have hjm : j < ms.length := by rw [HNN.out]; exact hjl
            have hmem := List.getElem_mem hjm
            obtain ⟨b8, o8, rfl, hb8⟩ := HR8.out.addr (by omega)
            obtain ⟨b9, o9, rfl, hb9⟩ := HR9.out.addr (by omega)
            have y8 := (HR8.out.cell rfl j (by omega)).trans (gmCells_at ms j hjm)
            have y9 := fun i (hi : i < 3) => (HR9.out.cell rfl (j * 3 + i) (by omega)).trans (gpCells_at W' H' ms j hjm i hi)
            obtain ⟨m, hme⟩ : ∃ m, ms[j] = m := ⟨_, rfl⟩
            rw [hme] at hmem y8 y9
            unfold gmPtr at y8
            have s0 : wj.cell? ⟨b8, o8 + j, none⟩ = some (.pointer (some ⟨m.gb, 0, none⟩)) := bkeep hbj y8
            have t0 : wj.cell? ⟨b9, o9 + j * 3, none⟩ = some (.int .i64 W') := bkeep hbj ((y9 0 (by omega)).trans rfl)
            have t1 : wj.cell? ⟨b9, o9 + j * 3 + 1, none⟩ = some (.int .i64 H') := bkeep hbj (by rw [Nat.add_assoc]; exact (y9 1 (by omega)).trans rfl)
            have t2 : wj.cell? ⟨b9, o9 + j * 3 + 2, none⟩ = some (.slice m.pA (H' * W') m.pc) := bkeep hbj (by rw [Nat.add_assoc]; exact (y9 2 (by omega)).trans rfl)
            have HIN := Lib.hid ((HF.out.gi m hmem).step hbj)
            have HMS := Lib.hid (HF.out.gs m hmem)
            have HI0 := Lib.hid ((HF.out.gi _ (List.mem_of_getElem? HM0.out)).step hbj)
            have HS0 := Lib.hid (HF.out.gs _ (List.mem_of_getElem? HM0.out))
            have hbw := hbi.trans (hbj.mono hbi.size)
            have HB2 := Lib.hid (HF.out.b2.below hbj HF.out.b2.lt)
            have j0 : (0 : Int) ≤ (j : Int) := by omega
            have j1 : (j : Int) < (N : Int) := by omega
            have HPI := Lib.hid (gpicture_any m.gb W' H' m.ts m.ps wj.drew ((HIN.out.step (Below.here wj)).gd) HMS.out.of HMS.out.pl hW' hH')
            clear hme hmem hjm y8 y9
            go_wp2_with fail
            go_region_held3 (fun w' => w'.cell? ⟨b8, o8 + j, none⟩ = some (.pointer (some ⟨m.gb, 0, none⟩)) ∧ w'.cell? ⟨b9, o9 + j * 3, none⟩ = some (.int .i64 W') ∧ w'.cell? ⟨b9, o9 + j * 3 + 1, none⟩ = some (.int .i64 H') ∧ w'.cell? ⟨b9, o9 + j * 3 + 2, none⟩ = some (.slice m.pA (H' * W') m.pc))
              ((go_split_ands
                refine ⟨?_, ?_, ?_, ?_⟩
                · ((repeat' (first | (with_reducible exact s0) | (with_reducible refine bkeep hbB ?_) | (with_reducible refine bkeep hbA ?_))) <;> exact s0)
                · ((repeat' (first | (with_reducible exact t0) | (with_reducible refine bkeep hbB ?_) | (with_reducible refine bkeep hbA ?_))) <;> exact t0)
                · ((repeat' (first | (with_reducible exact t1) | (with_reducible refine bkeep hbB ?_) | (with_reducible refine bkeep hbA ?_))) <;> exact t1)
                · ((repeat' (first | (with_reducible exact t2) | (with_reducible refine bkeep hbB ?_) | (with_reducible refine bkeep hbA ?_))) <;> exact t2)))
              (first
                | (go_at_call 12; with_reducible refine HPI.out.mono ?_; rintro e wA ⟨A4, c4, rfl, hO4, hbA⟩; have hbI := Below.fromDrew hbA; have RA := (HIN.out.step hbI).px; have RO := hO4.reads.2)
                | (go_at_call 11; refine (samePicture_two W' H' A4 m.ps.length c4 m.pA (H' * W') m.pc m.ps wA RO RA HMS.out.pl hHW).mono ?_; rintro e wB ⟨rfl, hbB⟩))
            have hbJ := hbI.trans (hbB.mono hbI.size)
            have s0' := bkeep hbJ s0
            have t0' := bkeep hbJ t0
            have t1' := bkeep hbJ t1
            have t2' := bkeep hbJ t2
            have HJN := Lib.hid (HIN.out.step hbJ)
            have HJ0 := Lib.hid (HI0.out.step hbJ)
            have HB2J := Lib.hid (HB2.out.below hbJ HB2.out.lt)
            have hbwB := hbw.trans (hbJ.mono hbw.size)
            have HBJ := Lib.hid (hbj.trans (hbJ.mono hbj.size))
            clear s0 t0 t1 t2 hbA hbB hbI hbJ hO4 RA RO HPI hbw HIN HI0 HB2 hbj
            go_wp2_with fail
            refine (tchanged_any gG0 m.gb W' H' ts0 m.ts ps m.ps wB HJ0.out.gd HT.out HJN.out.gd HMS.out.of hW' hH').mono ?_
            rintro e wC ⟨AD, cD, rfl, hRD, hbC⟩
            obtain ⟨D, hD⟩ : ∃ D, Til.diff ps m.ps W' (Til.rects W' H') = D := ⟨_, rfl⟩
            have HD := Lib.hid hD
            rw [hD] at hRD
            try rw [hD]
            have hDl : D.length ≤ 1000 := by
              rw [← hD]
              exact Nat.le_trans (Til.diff_length _ _ _ _) (rects_small W' H' hW'.2 hH'.2)
            have s1 := bkeep hbC t0'
            have s2 := bkeep hbC t1'
            have s3 := bkeep hbC t2'
            have B2C := HB2J.out.below hbC HB2J.out.lt
            have u0 : wC.cell? ⟨w.heap.size, 0, none⟩ = some (.int .i64 W') := (B2C.cell 0).trans rfl
            have u1 : wC.cell? ⟨w.heap.size, 1, none⟩ = some (.int .i64 H') := (B2C.cell 1).trans rfl
            have u2 : wC.cell? ⟨w.heap.size, 2, none⟩ = some (.slice A ps.length c) := (B2C.cell 2).trans rfl
            have hbwC := hbwB.trans (hbC.mono hbwB.size)
            have HPC := Lib.hid ((HP.out.below hbwC (Nat.le_refl _)).more hbwC.size)
            have HQC := Lib.hid (HJN.out.step hbC).px
            have HCH := Lib.hid (changedOf_two W' H' A ps.length c m.pA (H' * W') m.pc ps m.ps wC.drew (HPC.out.step_ (Below.here wC)) (HQC.out.step_ (Below.here wC)) hW'.2 hH'.2 HNL.out rfl)
            have HBC := Lib.hid (HBJ.out.trans (hbC.mono HBJ.out.size))
            have HRD := Lib.hid hRD
            clear s0' t0' t1' t2' hbC hD hRD B2C hbwB
            go_wp2_with fail
            go_region_held3 (fun w' => w'.cell? ⟨b9, o9 + j * 3, none⟩ = some (.int .i64 W') ∧ w'.cell? ⟨b9, o9 + j * 3 + 1, none⟩ = some (.int .i64 H') ∧ w'.cell? ⟨b9, o9 + j * 3 + 2, none⟩ = some (.slice m.pA (H' * W') m.pc) ∧ w'.cell? ⟨w.heap.size, 0, none⟩ = some (.int .i64 W') ∧ w'.cell? ⟨w.heap.size, 1, none⟩ = some (.int .i64 H') ∧ w'.cell? ⟨w.heap.size, 2, none⟩ = some (.slice A ps.length c))
              ((go_split_ands
                refine ⟨?_, ?_, ?_, ?_, ?_, ?_⟩
                · ((repeat' (first | (with_reducible exact s1) | (with_reducible refine bkeep hbE ?_) | (with_reducible refine bkeep hbD ?_))) <;> exact s1)
                · ((repeat' (first | (with_reducible exact s2) | (with_reducible refine bkeep hbE ?_) | (with_reducible refine bkeep hbD ?_))) <;> exact s2)
                · ((repeat' (first | (with_reducible exact s3) | (with_reducible refine bkeep hbE ?_) | (with_reducible refine bkeep hbD ?_))) <;> exact s3)
                · ((repeat' (first | (with_reducible exact u0) | (with_reducible refine bkeep hbE ?_) | (with_reducible refine bkeep hbD ?_))) <;> exact u0)
                · ((repeat' (first | (with_reducible exact u1) | (with_reducible refine bkeep hbE ?_) | (with_reducible refine bkeep hbD ?_))) <;> exact u1)
                · ((repeat' (first | (with_reducible exact u2) | (with_reducible refine bkeep hbE ?_) | (with_reducible refine bkeep hbD ?_))) <;> exact u2)))
              (first
                | (go_at_call 26; with_reducible refine HCH.out.mono ?_; rintro e wD ⟨AF, cF, rfl, hRF, hbD⟩; have hbI := Below.fromDrew hbD; have RD := (HRD.out.below hbI (Nat.le_refl _)).more hbI.size)
                | (go_at_call 25; refine (sameRects_two AD D.length cD AF _ cF D _ wD RD hRF HD.out (Nat.le_trans hDl (Nat.le_of_ble_eq_true rfl))).mono ?_; rintro e wE ⟨rfl, hbE⟩))
            have HBE := Lib.hid ((HBC.out.trans (hbI.mono HBC.out.size)).trans (hbE.mono (Nat.le_trans HBC.out.size hbI.size)))
            clear s1 s2 s3 u0 u1 u2 hbD hbE hbI hRF RD hbwC
            go_wp2_with fail
            go_roundw
            case rel => exact ⟨j + 1, by omega, by go_num, HBE.out⟩
            case measure => simp [intOf]; omega
          · have hbw := hbi.trans (hbj.mono hbi.size)
            go_wp2_with fail
            go_ret
            exact ⟨rfl, hbw⟩
end Go.Proofs.YtcdbhcjiimdhhaaDoor
