/- The reference's mean, BetterOf: the walks. -/
import Derived.Test.YtlpcmeodbigpjaaDoorMapOf
import Derived.Test.YtlpcmeodbigpjaaDoorColBetter
import Derived.Test.YtlpcmeodbigpjaaDoorPixLaw
namespace Go.Proofs.YtlpcmeodbigpjaaDoor
open Go Go.RowKit

set_option maxHeartbeats 1000000 in
theorem rmean_any (s n : Int) (m : UInt8) (w : World) (hm : Col.meanS s n = m) (h0 : 0 ≤ s) (hn : 0 < n) (hb : s ≤ 255 * n) (hbig : n ≤ 1048576) :
    Calls Tryd.prog 25 #[.int .i64 s, .int .i64 n] w fun e w' => e = .returned (.int .u8 m.toNat) ∧ w' = w := by
  obtain ⟨he, hm0, hm1⟩ := meanS_toNat s n h0 hn hb
  rw [hm] at he
  clear hm
  have hr := Pix.rnd_ref s n hn
  unfold Pix.rnd at hr
  have q0 : 0 ≤ s / n := Int.ediv_nonneg h0 (by omega)
  have q1 : s / n ≤ 255 := by
    have := Int.ediv_le_ediv (c := n) hn hb
    rwa [Int.mul_comm, Int.mul_ediv_cancel_left _ (by omega)] at this
  have q2 : s / n * n ≤ s := Int.ediv_mul_le s (by omega)
  have q3 : 0 ≤ s / n * n := Int.mul_nonneg q0 (by omega)
  have hn0 : n ≠ 0 := by omega
  by_cases h : n ≤ 2 * (s - s / n * n)
  · rw [if_pos h] at hr
    rw [← hr] at he hm0 hm1
    have HE := Lib.hid he
    clear hr he
    go_enter Tryd.func25, Tryd.ntmps25
    go_wp2
    go_ret
    exact ⟨by rw [HE.out]; rfl, rfl⟩
  · rw [if_neg h] at hr
    rw [← hr] at he hm0 hm1
    have HE := Lib.hid he
    clear hr he
    go_enter Tryd.func25, Tryd.ntmps25
    go_wp2
    go_ret
    exact ⟨by rw [HE.out]; rfl, rfl⟩

theorem bS_next (ps pal : List Px) (k q c : Nat) (hq : q < ps.length) (hc : c < 5) : Col.bS (ps.take (q + 1)) pal (k * 5 + c) = Col.bS (ps.take q) pal (k * 5 + c) + if (Col.near ps[q] pal).1 = k then Col.comp c ps[q] else 0 := by
  rw [Col.bS_take ps pal q hq]
  unfold Col.bM
  have h1 : (k * 5 + c) / 5 = k := by omega
  have h2 : (k * 5 + c) % 5 = c := by omega
  rw [h1, h2]
  by_cases h : (Col.near ps[q] pal).1 = k
  · rw [if_pos ⟨h.symm, hc⟩, if_pos h]
  · rw [if_neg (fun x => h x.1.symm), if_neg h]
theorem better_take (ps pal : List Px) (k : Nat) (hk : k < pal.length) : (Col.better ps pal).take (k + 1) = (Col.better ps pal).take k ++ [Col.bcolor (Col.cls ps pal k) pal[k]] := by
  have hl : k < (Col.better ps pal).length := by rw [Col.better_length]; exact hk
  rw [List.take_succ_eq_append_getElem hl]
  congr 2
  simp [Col.better, hk]

/-- The relation of BetterOf's outer loop. -/
structure BOo (w : World) (W H : Int) (A : Option Addr) (n c : Nat) (ps pal : List Px) (w1 : World) (v i : Value) (wr : World) (k : Nat) : Prop where
  hk : k ≤ pal.length
  hi : i = .int .i64 k
  own : Own wr w1.heap.size 4 v k (pxCells ((Col.better ps pal).take k))
  bel : Below w1.heap.size w1 wr
/-- The relation of its inner loop. -/
structure BOi (ps pal : List Px) (k : Nat) (r g b a m i : Value) (q : Nat) : Prop where
  hq : q ≤ ps.length
  hi : i = .int .i64 q
  hr : r = .int .i64 (Col.bS (ps.take q) pal (k * 5 + 0))
  hg : g = .int .i64 (Col.bS (ps.take q) pal (k * 5 + 1))
  hb : b = .int .i64 (Col.bS (ps.take q) pal (k * 5 + 2))
  ha : a = .int .i64 (Col.bS (ps.take q) pal (k * 5 + 3))
  hm : m = .int .i64 (Col.bS (ps.take q) pal (k * 5 + 4))

set_option maxRecDepth 100000 in
set_option maxHeartbeats 2000000 in
theorem betterOf_any (W H : Int) (A : Option Addr) (n c : Nat) (ps : List Px) (A2 : Option Addr) (n2 c2 : Nat) (pal : List Px) (w : World)
    (hp : Reads w w.heap.size 4 A n (pxCells ps)) (hq : Reads w w.heap.size 4 A2 n2 (pxCells pal)) (hn : n ≤ 4000) (hn2 : n2 ≤ 1048576) (hpos : 0 < n2) :
    Calls Tryd.prog 12 #[.agg #[.int .i64 W, .int .i64 H, .slice A n c], .slice A2 n2 c2] w
      fun e w' => ∃ A' c', e = .returned (.slice A' n2 c') ∧ Own w' w.heap.size 4 (.slice A' n2 c') n2 (pxCells (Col.better ps pal)) ∧ Below w.heap.size w w' := by
  obtain rfl := hp.pxLen
  obtain rfl := hq.pxLen
  obtain ⟨i0, hi, hz0, hz1, hz2⟩ := info_parts pxInfo
  obtain ⟨bq, oq, rfl, hbq⟩ := hq.addr (by omega)
  go_enter Tryd.func12, Tryd.ntmps12
  go_wp2_with fail
  refine (mapOf_any W H A ps.length c ps _ pal.length c2 pal _ ((hp.alloc (Nat.le_refl _) _).more (by first | omega | (simp; done) | (simp; omega))) ((hq.alloc (Nat.le_refl _) _).more (by first | omega | (simp; done) | (simp; omega))) (by omega) hn2 hpos).mono ?_
  rintro e w1 ⟨A1, c1, rfl, hown1, hb1⟩
  have B1 := (Blk.new w 24 #[.int .i64 W, .int .i64 H, .slice A ps.length c] rfl).below hb1 (by first | omega | (simp; done) | (simp; omega))
  have hbw : Below w.heap.size w w1 := Below.trans (by go_grown) (hb1.mono (by first | omega | (simp; done) | (simp; omega)))
  have hrn := hown1.reads.2
  have hwl := B1.lt
  clear hown1 hb1
  go_wp2_with fail
  go_loopw [7, 8] (fun v i wr => ∃ k, BOo w W H A ps.length c ps pal w1 v i wr k) (fun _ i _ => pal.length - (intOf i).toNat)
  case atStart => exact ⟨0, Nat.zero_le _, rfl, Own.nil _ _ _, Below.refl _ _⟩
  case round =>
    obtain ⟨k, hk, rfl, hown, hb⟩ := hrel
    obtain ⟨wo, rfl⟩ : ∃ wo : World, wo = wr := ⟨_, rfl⟩
    have hbwo := hbw.trans (hb.mono hbw.size)
    have hsz := hb.size
    have d2 : wo.cell? ⟨w.heap.size, 2, none⟩ = some (.slice A ps.length c) := bcell_ hb hwl (by rw [B1.cell]; rfl)
    by_cases hlt : k < pal.length
    · obtain ⟨y0, y1, y2, y3⟩ := (hq.below hbwo (Nat.le_refl _)).px k hlt
      have HT := Lib.hid (better_take ps pal k hlt)
      have HC := Lib.hid (Col.bcolor_eq ps pal k pal[k])
      have hrn2 := hrn.below hb (Nat.le_refl _)
      have hrp2 := hp.below hbwo (Nat.le_refl _)
      obtain ⟨Ao, co, rfl, hco, hro⟩ := hown.form
      have hblk : ∀ g, (Value.slice Ao k co).ownBlock = some g → w1.heap.size ≤ g ∧ g < wo.heap.size := fun g hg => hown.lt g hg
      generalize pal[k] = y at *
      go_wp2_with fail
      go_loopw [9, 10, 11, 12, 13, 14] (fun r g b a m i wr => wr = wo ∧ ∃ q, BOi ps pal k r g b a m i q) (fun _ _ _ _ _ i _ => ps.length - (intOf i).toNat)
      case atStart => exact ⟨rfl, 0, Nat.zero_le _, rfl, by rw [List.take_zero, Col.bS_nil], by rw [List.take_zero, Col.bS_nil], by rw [List.take_zero, Col.bS_nil], by rw [List.take_zero, Col.bS_nil], by rw [List.take_zero, Col.bS_nil]⟩
      case round =>
        obtain ⟨rfl, q, hq', rfl, rfl, rfl, rfl, rfl, rfl⟩ := hrel
        obtain ⟨l0, g0⟩ := Col.bS_bounds (ps.take q) pal (k * 5 + 0)
        obtain ⟨l1, g1⟩ := Col.bS_bounds (ps.take q) pal (k * 5 + 1)
        obtain ⟨l2, g2⟩ := Col.bS_bounds (ps.take q) pal (k * 5 + 2)
        obtain ⟨l3, g3⟩ := Col.bS_bounds (ps.take q) pal (k * 5 + 3)
        obtain ⟨l4, g4⟩ := Col.bS_bounds (ps.take q) pal (k * 5 + 4)
        have ftl : (ps.take q).length ≤ q := List.length_take_le _ _
        by_cases hqlt : q < ps.length
        · obtain ⟨bp, op, rfl, hbp⟩ := hp.addr (by omega)
          obtain ⟨bn, on, rfl, hbn⟩ := hrn.addr (by omega)
          obtain ⟨p0, p1, p2, p3⟩ := hrp2.px q hqlt
          have n0 : wr.cell? ⟨bn, on + q, none⟩ = some (.int .i64 (Col.near ps[q] pal).1) := by
            rw [hrn2.cell rfl q (by omega), ints_at _ q (by simpa [nums] using hqlt)]
            simp [nums]
          have H0 := Lib.hid (bS_next ps pal k q 0 hqlt (by omega))
          have H1 := Lib.hid (bS_next ps pal k q 1 hqlt (by omega))
          have H2 := Lib.hid (bS_next ps pal k q 2 hqlt (by omega))
          have H3 := Lib.hid (bS_next ps pal k q 3 hqlt (by omega))
          have H4 := Lib.hid (bS_next ps pal k q 4 hqlt (by omega))
          generalize ps[q] = x at *
          have x0 := x.r.toNat_lt
          have x1 := x.g.toNat_lt
          have x2 := x.b.toNat_lt
          have x3 := x.a.toNat_lt
          generalize Col.bS (ps.take q) pal (k * 5 + 0) = s0 at *
          generalize Col.bS (ps.take q) pal (k * 5 + 1) = s1 at *
          generalize Col.bS (ps.take q) pal (k * 5 + 2) = s2 at *
          generalize Col.bS (ps.take q) pal (k * 5 + 3) = s3 at *
          generalize Col.bS (ps.take q) pal (k * 5 + 4) = s4 at *
          by_cases hnk : (Col.near x pal).1 = k
          · rw [if_pos hnk] at H0 H1 H2 H3 H4
            rw [hnk] at n0
            clear hnk
            go_wp2_with fail
            go_roundw
            case rel => exact ⟨by trivial, q + 1, by omega, by go_num, by rw [H0.out]; rfl, by rw [H1.out]; rfl, by rw [H2.out]; rfl, by rw [H3.out]; rfl, by rw [H4.out]; rfl⟩
            case measure => simp [intOf]; omega
          · rw [if_neg hnk, Int.add_zero] at H0 H1 H2 H3 H4
            generalize (Col.near x pal).1 = m at *
            have hnk' : ¬ ((m : Int) = k) := by omega
            clear hnk
            go_wp2_with fail
            go_roundw
            case rel => exact ⟨by trivial, q + 1, by omega, by go_num, by rw [H0.out], by rw [H1.out], by rw [H2.out], by rw [H3.out], by rw [H4.out]⟩
            case measure => simp [intOf]; omega
        · have e : q = ps.length := by omega
          subst e
          rw [List.take_length] at *
          have b0 := bS_le ps pal k 0 (by omega)
          have b1 := bS_le ps pal k 1 (by omega)
          have b2 := bS_le ps pal k 2 (by omega)
          have b3 := bS_le ps pal k 3 (by omega)
          have mc : Col.bS ps pal (k * 5 + 4) ≤ 1048576 := by omega
          clear hrn2 hrp2
          by_cases hmany : 0 < Col.bS ps pal (k * 5 + 4)
          · rw [if_pos hmany] at HC
            obtain ⟨m0, hm0⟩ : ∃ m0, Col.meanS (Col.bS ps pal (k * 5 + 0)) (Col.bS ps pal (k * 5 + 4)) = m0 := ⟨_, rfl⟩
            obtain ⟨m1, hm1⟩ : ∃ m1, Col.meanS (Col.bS ps pal (k * 5 + 1)) (Col.bS ps pal (k * 5 + 4)) = m1 := ⟨_, rfl⟩
            obtain ⟨m2, hm2⟩ : ∃ m2, Col.meanS (Col.bS ps pal (k * 5 + 2)) (Col.bS ps pal (k * 5 + 4)) = m2 := ⟨_, rfl⟩
            obtain ⟨m3, hm3⟩ : ∃ m3, Col.meanS (Col.bS ps pal (k * 5 + 3)) (Col.bS ps pal (k * 5 + 4)) = m3 := ⟨_, rfl⟩
            rw [hm0, hm1, hm2, hm3] at HC
            have G0 := Lib.hid hm0
            have G1 := Lib.hid hm1
            have G2 := Lib.hid hm2
            have G3 := Lib.hid hm3
            clear hm0 hm1 hm2 hm3
            generalize Col.bS ps pal (k * 5 + 0) = s0 at *
            generalize Col.bS ps pal (k * 5 + 1) = s1 at *
            generalize Col.bS ps pal (k * 5 + 2) = s2 at *
            generalize Col.bS ps pal (k * 5 + 3) = s3 at *
            generalize Col.bS ps pal (k * 5 + 4) = s4 at *
            go_wp2_with fail
            refine (rmean_any s0 s4 m0 _ G0.out l0 hmany b0 mc).mono ?_
            rintro e w2 ⟨rfl, rfl⟩
            go_wp2_with fail
            refine (rmean_any s1 s4 m1 _ G1.out l1 hmany b1 mc).mono ?_
            rintro e w2 ⟨rfl, rfl⟩
            go_wp2_with fail
            refine (rmean_any s2 s4 m2 _ G2.out l2 hmany b2 mc).mono ?_
            rintro e w2 ⟨rfl, rfl⟩
            go_wp2_with fail
            refine (rmean_any s3 s4 m3 _ G3.out l3 hmany b3 mc).mono ?_
            rintro e w2 ⟨rfl, rfl⟩
            go_wp2_with (at_builtin; refine wpList_append_S rfl (.tmp 98) (.tmp 100) 22 22 rfl (w1.heap.size) 46 i0 _ 4 4 Tryd.underlying22 hi hz0 hz1 hz2 rfl (by decide) (.slice Ao k co) (k) (pxCells ((Col.better ps pal).take k)) rfl ((hown.alloc _).alloc _) (pxCells_one _) (1) ([.int .u8 m0.toNat, .int .u8 m1.toNat, .int .u8 m2.toNat, .int .u8 m3.toNat]) (Src.made Tryd.underlying22 (by first | rfl | simp) rfl (by intro u hu; exact pxCells_one [⟨m0, m1, m2, m3⟩] u hu)) (k + 1) (by omega) (pxCells ((Col.better ps pal).take (k + 1))) (by rw [HT.out, HC.out, pxCells_append]; rfl) (by unfold maxLen; omega) (by omega) (by first | omega | (simp; done) | (simp; omega)) ?_; intro A' c' w4 hown4 hg4 hat4)
            have hs4 := hg4.size
            simp at hs4
            go_roundw
            case rel =>
              refine ⟨k + 1, by omega, by go_num, hown4, ?_⟩
              exact Below.grown (Below.alloc (Below.alloc hb (by omega) _) (by simp; omega) _) hg4 (by simp; omega) (fun g hg => by have := (hblk g hg).1; omega)
            case measure => simp [intOf]; omega
          · rw [if_neg hmany] at HC
            generalize Col.bS ps pal (k * 5 + 0) = s0 at *
            generalize Col.bS ps pal (k * 5 + 1) = s1 at *
            generalize Col.bS ps pal (k * 5 + 2) = s2 at *
            generalize Col.bS ps pal (k * 5 + 3) = s3 at *
            generalize Col.bS ps pal (k * 5 + 4) = s4 at *
            go_wp2_with (at_builtin; refine wpList_append_S rfl (.tmp 98) (.tmp 100) 22 22 rfl (w1.heap.size) 46 i0 _ 4 4 Tryd.underlying22 hi hz0 hz1 hz2 rfl (by decide) (.slice Ao k co) (k) (pxCells ((Col.better ps pal).take k)) rfl ((hown.alloc _).alloc _) (pxCells_one _) (1) ([.int .u8 y.r.toNat, .int .u8 y.g.toNat, .int .u8 y.b.toNat, .int .u8 y.a.toNat]) (Src.made Tryd.underlying22 (by first | rfl | simp) rfl (by intro u hu; exact pxCells_one [y] u hu)) (k + 1) (by omega) (pxCells ((Col.better ps pal).take (k + 1))) (by rw [HT.out, HC.out, pxCells_append]; rfl) (by unfold maxLen; omega) (by omega) (by first | omega | (simp; done) | (simp; omega)) ?_; intro A' c' w4 hown4 hg4 hat4)
            have hs4 := hg4.size
            simp at hs4
            go_roundw
            case rel =>
              refine ⟨k + 1, by omega, by go_num, hown4, ?_⟩
              exact Below.grown (Below.alloc (Below.alloc hb (by omega) _) (by simp; omega) _) hg4 (by simp; omega) (fun g hg => by have := (hblk g hg).1; omega)
            case measure => simp [intOf]; omega
    · have e : k = pal.length := by omega
      subst e
      rw [show (Col.better ps pal).take pal.length = Col.better ps pal from List.take_of_length_le (by rw [Col.better_length]; exact Nat.le_refl _)] at hown
      obtain ⟨Ao, co, rfl, hco, hro⟩ := hown.form
      go_wp2_with fail
      go_ret
      exact ⟨_, _, rfl, hown.mono (by omega), hbwo⟩
end Go.Proofs.YtlpcmeodbigpjaaDoor
