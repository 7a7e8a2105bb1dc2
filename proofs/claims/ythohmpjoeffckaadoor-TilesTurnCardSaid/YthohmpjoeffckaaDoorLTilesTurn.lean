/- TilesTurn: the law's walk. -/
import Derived.Test.YthohmpjoeffckaaDoorTurn
import Derived.Test.YthohmpjoeffckaaDoorPackG
import Derived.Test.YthohmpjoeffckaaDoorTChanged
import Derived.Test.YthohmpjoeffckaaDoorOne
import Derived.Test.YthohmpjoeffckaaDoorGridPix
namespace Go.Proofs.YthohmpjoeffckaaDoor
open Go Go.RowKit

namespace Til
/-- A picture turned k times. -/
def tk (ps : List Px) (W H : Nat) : Nat → List Px
  | 0 => ps
  | k + 1 => turn (tk ps W H k) (if k % 2 = 0 then W else H) (if k % 2 = 0 then H else W)
theorem tk_length (ps : List Px) (W H : Nat) (h : ps.length = H * W) : ∀ k, (tk ps W H k).length = H * W
  | 0 => h
  | k + 1 => by
    rw [tk, turn_length]
    by_cases e : k % 2 = 0
    · rw [if_pos e, if_pos e, Nat.mul_comm]
    · rw [if_neg e, if_neg e]
theorem tk_four (ps : List Px) (W H : Nat) (h : ps.length = H * W) : tk ps W H 4 = ps := turn_four ps W H h
theorem diff_self (ps : List Px) (W : Nat) (rs : List R) : diff ps ps W rs = [] := by unfold diff; simp
end Til
theorem rightLen {W H : Nat} {n : Nat} (h : (n : Int) = (W : Int) * (H : Int)) : n = H * W := by
  have h1 : (n : Int) = ((W * H : Nat) : Int) := by rw [Int.natCast_mul]; exact h
  rw [Nat.mul_comm]
  omega
set_option maxRecDepth 100000 in
set_option maxHeartbeats 1000000 in
theorem ofS_bad (W H : Int) (A : Option Addr) (n c : Nat) (E : Nat → Addr) (w : World) (hE : ErS w E) (hr : rightB W H n = false) :
    Calls Tryd.prog 6 #[.agg #[.int .i64 W, .int .i64 H, .slice A n c]] w fun e w' => e = .returned (.tuple #[.pointer none, errV (E 2)]) ∧ Below w.heap.size w w' := by
  have HR := Lib.hid hr
  have HE := Lib.hid hE
  clear hr hE
  go_enter Tryd.func6, Tryd.ntmps6
  go_wp2_with fail
  refine (rright_any W H A n c _).mono ?_
  rw [HR.out]
  rintro e w1 ⟨rfl, hb1⟩
  have hbw : Below w.heap.size w w1 := Below.trans (by go_grown) (hb1.mono (by simp))
  have dS := (HE.out.below hbw).shape
  clear hb1
  go_wp2_with fail
  go_quiet (fail)
  go_wp2_with fail
  go_ret2
  exact ⟨rfl, below_drewN hbw _⟩
theorem tile_le {ps : List Px} {W H : Nat} {ts : List TM} (h : TsOf ps W H ts) {t : TM} (ht : t ∈ ts) : t.l.length ≤ 256 := by
  have h1 : t.l ∈ Til.tilesOf ps W H := by rw [← h.px]; exact List.mem_map.2 ⟨t, ht, rfl⟩
  unfold Til.tilesOf at h1
  obtain ⟨r, hr, e⟩ := List.mem_map.1 h1
  have hi := Til.rects_in hr
  have hl := Til.crop_length ps W r
  have h2 : r.h * r.w ≤ 16 * 16 := Nat.mul_le_mul hi.h16 hi.w16
  have h3 : (Til.small (Til.crop ps W r)).length ≤ (Til.crop ps W r).length := by
    unfold Til.small
    split
    · rw [List.length_take]; omega
    · exact Nat.le_refl _
  rw [← e]
  omega
/-- What stands in the law's loop; w5: the world where it began. -/
structure TnR (w5 : World) (gq W H : Nat) (ps : List Px) (k : Nat) (wr : World) : Prop where
  ex : ∃ A c, Blk wr gq 24 #[.int .i64 ((if k % 2 = 0 then W else H : Nat) : Int), .int .i64 ((if k % 2 = 0 then H else W : Nat) : Int), .slice A ps.length c] ∧ Own wr w5.heap.size 4 (.slice A ps.length c) ps.length (pxCells (Til.tk ps W H k)) ∧ (Value.slice A ps.length c).ownBlock ≠ some gq
  bel : Below w5.heap.size w5 wr
set_option maxRecDepth 100000 in
set_option maxHeartbeats 8000000 in
theorem tilesTurn_any (W H : Int) (A : Option Addr) (n c : Nat) (ps : List Px) (E : Nat → Addr) (w : World) (hp : Reads w w.heap.size 4 A n (pxCells ps)) (hE : ErS w E) (hTb : Tabs w) :
    Calls Tryd.prog 3 #[.agg #[.int .i64 W, .int .i64 H, .slice A n c]] w fun e w' => e = .returned (.bool true) ∧ Below w.heap.size w w' := by
  obtain rfl := hp.pxLen
  have HP := Lib.hid hp
  have HE := Lib.hid hE
  have HTB := Lib.hid hTb
  clear hp hE hTb
  obtain ⟨rb, hrb⟩ : ∃ rb, rightB W H ps.length = rb := ⟨_, rfl⟩
  have HRB := Lib.hid hrb
  clear hrb
  go_enter Tryd.func3, Tryd.ntmps3
  go_wp2_with fail
  refine (lawOne_any _).mono ?_
  rintro e w1 ⟨rfl, hb1⟩
  have B1 := (Blk.new w 24 #[.int .i64 W, .int .i64 H, .slice A ps.length c] rfl).below hb1 (by simp)
  have K1 : Below w.heap.size w w1 := Below.trans (by go_grown) (hb1.mono (by simp))
  have cp := B1.cell
  clear hb1
  go_wp2_with fail
  refine (small_any W H A ps.length c _).mono ?_
  rintro e w2 ⟨rfl, hb2⟩
  have B2 := B1.below hb2 B1.lt
  have K2 := K1.trans (hb2.mono K1.size)
  by_cases hn3 : ps.length ≤ 3000
  case neg =>
    have hd : decide (ps.length ≤ 3000) = false := by simp [hn3]
    rw [hd]
    go_wp2_with fail
    go_ret
    exact ⟨rfl, K2⟩
  have hd : decide (ps.length ≤ 3000) = true := by simp [hn3]
  rw [hd]
  clear hd cp B1 K1 hb2
  have cp := B2.cell
  go_wp2_with fail
  refine (own_any W H A ps.length c ps _ ((HP.out.below K2 (Nat.le_refl _)).more K2.size) (by omega)).mono ?_
  rintro e w4 ⟨A4, c4, rfl, hO4, hb4⟩
  have K4 := K2.trans (hb4.mono K2.size)
  have R4 := hO4.reads.2
  clear hO4 hb4 K2 cp B2
  cases rb with
  | false =>
    go_wp2_with fail
    refine (ofS_bad W H A4 ps.length c4 E _ (HE.out.below K4) HRB.out).mono ?_
    rintro e w5 ⟨rfl, hb5⟩
    have K5 := K4.trans (hb5.mono K4.size)
    unfold errV
    go_wp2_with fail
    go_ret
    exact ⟨rfl, K5⟩
  | true =>
    obtain ⟨⟨a1, a2⟩, ⟨a3, a4⟩, hWH, _⟩ := rightB_true HRB.out
    obtain ⟨W', rfl⟩ : ∃ W' : Nat, W = W' := ⟨W.toNat, by omega⟩
    obtain ⟨H', rfl⟩ : ∃ H' : Nat, H = H' := ⟨H.toNat, by omega⟩
    have HNL := Lib.hid (rightLen hWH)
    have hW' : 1 ≤ W' ∧ W' ≤ 256 := by omega
    have hH' : 1 ≤ H' ∧ H' ≤ 256 := by omega
    clear hWH a1 a2 a3 a4
    go_wp2_with fail
    refine (of_good W' H' A4 ps.length c4 ps _ R4 hW' hH' HNL.out).mono ?_
    rintro e w5 ⟨g1, ts, rfl, G5, T5, hb5⟩
    have HK5 := Lib.hid (K4.trans (hb5.mono K4.size))
    have HT5 := Lib.hid T5
    have HG5 := Lib.hid G5
    clear T5 G5 hb5 K4 R4
    go_wp2_with fail
    refine (gpicture_any g1 W' H' ts ps _ HG5.out HT5.out HNL.out hW' hH').mono ?_
    rintro e w6 ⟨A6, c6, rfl, hO6, hb6⟩
    obtain ⟨gq, hgq⟩ : ∃ gq, gq = w6.heap.size := ⟨_, rfl⟩
    have F0 : TnR w5 gq W' H' ps 0 (w6.alloc (.cells #[.int .i64 W', .int .i64 H', .slice A6 ps.length c6] 24)) :=
      ⟨⟨A6, c6, Blk.new _ _ _ hgq, hO6.alloc _, fun e => by have := (hO6.lt _ e).2; omega⟩, hb6.alloc hb6.size _⟩
    have HF0 := Lib.hid F0
    have hge : w5.heap.size ≤ gq := by have := hb6.size; omega
    clear F0 hO6 hb6
    go_upto_block 0 with (fail)
    rw [← hgq]
    clear hgq
    generalize w6.alloc (.cells #[.int .i64 W', .int .i64 H', .slice A6 ps.length c6] 24) = w7 at *
    go_wp2_with fail
    go_loopw [5, 7] (fun ev i wr => ∃ k : Nat, k ≤ 4 ∧ ev = .nilIface ∧ i = .int .i64 k ∧ TnR w5 gq W' H' ps k wr) (fun _ i _ => 4 - (intOf i).toNat)
    case atStart => exact ⟨0, by omega, rfl, rfl, HF0.out⟩
    case round =>
      clear HF0
      obtain ⟨k, hk, rfl, rfl, ⟨A7, c7, hB, hO, hq⟩, hb⟩ := hrel
      by_cases hk4 : k < 4
      · obtain ⟨U, hU⟩ : ∃ U : Nat, U = if k % 2 = 0 then W' else H' := ⟨_, rfl⟩
        obtain ⟨V, hV⟩ : ∃ V : Nat, V = if k % 2 = 0 then H' else W' := ⟨_, rfl⟩
        rw [← hU, ← hV] at hB
        have hU2 : 1 ≤ U ∧ U ≤ 256 := by rw [hU]; split <;> assumption
        have hV2 : 1 ≤ V ∧ V ≤ 256 := by rw [hV]; split <;> assumption
        have hUn : (if (k + 1) % 2 = 0 then W' else H') = V := by rw [hV]; split <;> split <;> first | rfl | omega
        have hVn : (if (k + 1) % 2 = 0 then H' else W') = U := by rw [hU]; split <;> split <;> first | rfl | omega
        have hlt := Til.tk_length ps W' H' HNL.out
        have hpl : ps.length = U * V := by
          rw [HNL.out, hU, hV]
          split
          · exact Nat.mul_comm _ _
          · rfl
        have htk : Til.tk ps W' H' (k + 1) = Til.turn (Til.tk ps W' H' k) U V := by rw [Til.tk, ← hU, ← hV]
        have hlk : (Til.tk ps W' H' k).length = V * U := by rw [hlt, ← HNL.out, hpl, Nat.mul_comm]
        have HST := Lib.hid (And.intro hUn (And.intro hVn (And.intro hpl htk)))
        have k0 : wr.cell? ⟨gq, 0, none⟩ = some (.int .i64 U) := by rw [hB.cell]; rfl
        have k1 : wr.cell? ⟨gq, 1, none⟩ = some (.int .i64 V) := by rw [hB.cell]; rfl
        have k2 : wr.cell? ⟨gq, 2, none⟩ = some (.slice A7 ps.length c7) := by rw [hB.cell]; rfl
        have hki : (k : Int) < 4 := by omega
        have HLK := Lib.hid hlk
        have HBW := Lib.hid hb
        clear hU hV hUn hVn hlt hpl htk hlk hb hk4
        go_wp2_with fail
        refine (turn_any U V A7 ps.length c7 _ wr hO.reads.2 hU2 hV2 HLK.out).mono ?_
        rintro e w8 ⟨A8, c8, rfl, hO8, hb8⟩
        rw [← HST.out.2.2.1] at hO8 ⊢
        have b8 := hB.below hb8 hB.lt
        have hlq := hB.lt
        have s0 : w8.cell? ⟨gq, 0, none⟩ = some (.int .i64 U) := by rw [b8.cell]; rfl
        have s1 : w8.cell? ⟨gq, 1, none⟩ = some (.int .i64 V) := by rw [b8.cell]; rfl
        have s2 : w8.cell? ⟨gq, 2, none⟩ = some (.slice A7 ps.length c7) := by rw [b8.cell]; rfl
        have f0 := b8.free 0
        have f1 := b8.free 1
        have f2 := b8.free 2
        have m7 : (Value.slice A8 ps.length c8).ownBlock ≠ some gq := fun e => by have := (hO8.lt _ e).1; omega
        have HF9 := Lib.hid (show TnR w5 gq W' H' ps (k + 1) (((w8.setCell ⟨gq, 0, none⟩ (.int .i64 V)).setCell ⟨gq, 1, none⟩ (.int .i64 U)).setCell ⟨gq, 2, none⟩ (.slice A8 ps.length c8)) from by
          refine ⟨⟨A8, c8, ?_, ?_, m7⟩, (((HBW.out.trans (hb8.mono HBW.out.size)).setCell (p := ⟨gq, 0, none⟩) hge _).setCell (p := ⟨gq, 1, none⟩) hge _).setCell (p := ⟨gq, 2, none⟩) hge _⟩
          · rw [HST.out.1, HST.out.2.1]
            have := ((b8.set_ 0 (.int .i64 V)).set_ 1 (.int .i64 U)).set_ 2 (.slice A8 ps.length c8)
            simpa using this
          · rw [HST.out.2.2.2]
            exact (((hO8.setCell (p := ⟨gq, 0, none⟩) m7 _).setCell (p := ⟨gq, 1, none⟩) m7 _).setCell (p := ⟨gq, 2, none⟩) m7 _).mono HBW.out.size)
        clear hO8 hb8 m7 k0 k1 k2 hB hO hq b8
        go_wp2_with fail
        go_roundw
        case rel => exact ⟨k + 1, by omega, rfl, by go_num, HF9.out⟩
        case measure => simp [intOf]; omega
      · have hk5 : k = 4 := by omega
        subst hk5
        rw [Til.tk_four ps W' H' HNL.out] at hO
        have k0 : wr.cell? ⟨gq, 0, none⟩ = some (.int .i64 W') := by rw [hB.cell]; rfl
        have k1 : wr.cell? ⟨gq, 1, none⟩ = some (.int .i64 H') := by rw [hB.cell]; rfl
        have k2 : wr.cell? ⟨gq, 2, none⟩ = some (.slice A7 ps.length c7) := by rw [hB.cell]; rfl
        have HBW := Lib.hid hb
        have R7 := hO.reads.2
        clear hB hO hq hb hk4
        go_wp2_with fail
        refine (of_good W' H' A7 ps.length c7 ps _ R7 hW' hH' HNL.out).mono ?_
        rintro e w8 ⟨g2, us, rfl, G8, T8, hb8⟩
        have HK8 := Lib.hid (HBW.out.trans (hb8.mono HBW.out.size))
        have HT8 := Lib.hid T8
        have HG8 := Lib.hid G8
        clear T8 G8 hb8 R7 k0 k1 k2
        go_wp2_with fail
        refine (tchanged_any g1 g2 W' H' ts us ps ps _ (HG5.out.step HK8.out) HT5.out HG8.out HT8.out hW' hH').mono ?_
        rw [Til.diff_self]
        rintro e w9 ⟨A9, c9, rfl, -, hb9⟩
        have HK9 := Lib.hid (HK8.out.trans (hb9.mono HK8.out.size))
        have HG9 := Lib.hid (HG8.out.step hb9)
        have hl1 : ts.length ≤ 256 := by
          have h1 := HT5.out.len
          have h2 : Til.cols H' * Til.cols W' ≤ 16 * 16 := Nat.mul_le_mul (by unfold Til.cols; omega) (by unfold Til.cols; omega)
          omega
        have hl2 : us.length ≤ 256 := by rw [HT8.out.len, ← HT5.out.len]; exact hl1
        have hz9 := HK9.out.size
        clear hb9
        go_wp2_with fail
        refine (gplain_any g2 W' H' us ps _ HG9.out HT8.out (by omega)).mono ?_
        rintro e wx ⟨rfl, rfl⟩
        go_wp2_with fail
        refine (gplain_any g1 W' H' ts ps _ (HG5.out.step HK9.out) HT5.out (by omega)).mono ?_
        rintro e wx ⟨rfl, rfl⟩
        have hsm : ∀ (xs : List TM), TsOf ps W' H' xs → ∀ t ∈ xs, t.l.length ≤ 256 := fun xs hx t ht => tile_le hx ht
        have HSM := Lib.hid hsm
        clear hsm
        go_wp2_with fail
        refine (pack_any g2 W' H' us E _ HG9.out (HE.out.below (HK5.out.trans (HK9.out.mono HK5.out.size))) (HTB.out.below (HK5.out.trans (HK9.out.mono HK5.out.size)) HTB.out.size) hW'.2 hH'.2 hl2 (HSM.out us HT8.out) (Nat.le_trans HTB.out.size (Nat.le_trans HK5.out.size hz9))).mono ?_
        rw [HT8.out.px]
        rintro e w10 ⟨rfl, hb10⟩
        have HK10 := Lib.hid (HK9.out.trans (hb10.mono hz9))
        have hz10 := HK10.out.size
        clear hb10
        go_wp2_with fail
        refine (pack_any g1 W' H' ts E _ (HG5.out.step HK10.out) (HE.out.below (HK5.out.trans (HK10.out.mono HK5.out.size))) (HTB.out.below (HK5.out.trans (HK10.out.mono HK5.out.size)) HTB.out.size) hW'.2 hH'.2 hl1 (HSM.out ts HT5.out) (Nat.le_trans HTB.out.size (Nat.le_trans HK5.out.size hz10))).mono ?_
        rw [HT5.out.px]
        rintro e w11 ⟨rfl, hb11⟩
        have HK11 := Lib.hid ((HK5.out.trans (HK10.out.mono HK5.out.size)).trans (hb11.mono (Nat.le_trans HK5.out.size hz10)))
        clear hb11
        go_wp2_with fail
        go_ret
        exact ⟨rfl, HK11.out⟩
end Go.Proofs.YthohmpjoeffckaaDoor
