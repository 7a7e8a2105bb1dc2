/- FilWalk, FilRows, FilBack: put together. -/
import Derived.Test.YtkegkelaffohjaaGreatDoorKCFilmTwice5
import Derived.Test.YtkegkelaffohjaaGreatDoorQCFilmTwiceBitT
import Derived.Deep.RegionHeld3
import Derived.IntWalk
import Derived.BigQuiet
import Derived.Deep.QuietTactic
import Derived.Test.YtkegkelaffohjaaGreatDoorKCFilmTwice4
/- package filter: abs, at, foretell, check, do, Undo, Best: the walks. Printed by mk.py. -/
namespace Go.Proofs.YtkegkelaffohjaaGreatDoor
open Go Go.RowKit
theorem fabs_any (z : Int) (w : World) (h1 : -100000 ≤ z) (h2 : z ≤ 100000) :
  Calls Tryz.prog 158 #[.int .i64 z] w fun e w' => e = .returned (.int .i64 (max z (-z))) ∧ w' = w := by
 have hw : IntKind.i64.wrap (-z) = -z := IntWalk.i64_in _ (by omega)
 go_enter Tryz.func158, Tryz.ntmps158
 rcases Int.lt_trichotomy z (-z) with h | h | h
 ·go_wp2_with fail
  go_ret
  refine ⟨?_, rfl⟩
  rw [Int.max_eq_right (by omega)]
  rfl
 ·obtain rfl : z = 0 := by omega
  clear h hw h1 h2
  go_wp2_with fail
  go_ret
  exact ⟨rfl, rfl⟩
 ·go_wp2_with fail
  go_ret
  refine ⟨?_, rfl⟩
  rw [Int.max_eq_left (by omega)]
  rfl
def byteI (s : List UInt8) (i : Int) : UInt8 := if i < 0 then 0 else s.getD i.toNat 0
theorem fat_any (s : ByteArray) (i : Int) (w : World) :
  Calls Tryz.prog 123 #[.string s, .int .i64 i] w fun e w' => e = .returned (.int .u8 (byteI (lst s) i).toNat) ∧ w' = w := by
 go_enter Tryz.func123, Tryz.ntmps123
 by_cases h0 : i < 0
 ·have hb : byteI (lst s) i = 0 := by unfold byteI; rw [if_pos h0]
  rw [hb]
  go_wp2_with fail
  go_ret
  exact ⟨rfl, rfl⟩
 replace h0 : 0 ≤ i := by omega
 by_cases h1 : (s.size : Int) ≤ i
 ·have hb : byteI (lst s) i = 0 := by
   unfold byteI
   rw [if_neg (by omega), List.getD_eq_getElem?_getD, List.getElem?_eq_none (by rw [lst_length]; omega)]
   rfl
  rw [hb]
  go_wp2_with fail
  go_ret
  exact ⟨rfl, rfl⟩
 replace h1 : i < (s.size : Int) := by omega
 obtain ⟨k, rfl⟩ : ∃ k : Nat, i = k := ⟨i.toNat, by omega⟩
 have hk : k < s.size := by omega
 obtain ⟨x, hx⟩ : ∃ x : UInt8, s[k] = x := ⟨_, rfl⟩
 have hb : byteI (lst s) (k : Int) = x := by
  unfold byteI
  rw [if_neg (by omega), List.getD_eq_getElem?_getD, Int.toNat_natCast, List.getElem?_eq_getElem (by rw [lst_length]; exact hk)]
  exact hx
 rw [hb]
 go_wp2_with fail
 go_ret
 exact ⟨rfl, rfl⟩
set_option maxHeartbeats 1000000 in
theorem foretell_any (k : Nat) (hk : k ≤ 4) (a b c : UInt8) (w : World) :
  Calls Tryz.prog 122 #[.int .i64 k, .int .u8 a.toNat, .int .u8 b.toNat, .int .u8 c.toNat] w fun e w' => e = .returned (.int .u8 (Fil.fore k a b c).toNat) ∧ w' = w := by
 have ha := a.toNat_lt
 have hb := b.toNat_lt
 have hc := c.toNat_lt
 match k, hk with
 | 0, _ =>
  have hf : Fil.fore 0 a b c = 0 := rfl
  rw [hf]
  go_enter Tryz.func122, Tryz.ntmps122
  go_wp2_with fail
  go_ret
  exact ⟨rfl, rfl⟩
 | 1, _ =>
  have hf : Fil.fore 1 a b c = a := rfl
  rw [hf]
  go_enter Tryz.func122, Tryz.ntmps122
  go_wp2_with fail
  go_ret
  exact ⟨rfl, rfl⟩
 | 2, _ =>
  have hf : Fil.fore 2 a b c = b := rfl
  rw [hf]
  go_enter Tryz.func122, Tryz.ntmps122
  go_wp2_with fail
  go_ret
  exact ⟨rfl, rfl⟩
 | 3, _ =>
  have hf : ((Fil.fore 3 a b c).toNat : Int) = ((a.toNat : Int) + b.toNat) / 2 := by
   show ((UInt8.ofNat ((a.toNat + b.toNat) / 2)).toNat : Int) = _
   rw [UInt8.toNat_ofNat']
   omega
  obtain ⟨X, hX⟩ : ∃ X, X = (Fil.fore 3 a b c).toNat := ⟨_, rfl⟩
  rw [← hX] at hf ⊢
  have hXl : X < 256 := by omega
  clear hX
  go_enter Tryz.func122, Tryz.ntmps122
  go_wp2_with fail
  go_ret
  refine ⟨?_, rfl⟩
  first | rfl | (congr 2; omega) | (simp; omega)
 | 4, _ =>
  obtain ⟨p, hp⟩ : ∃ p : Int, p = (a.toNat : Int) + b.toNat - c.toNat := ⟨_, rfl⟩
  have hf : Fil.fore 4 a b c = (if max (p - c.toNat) (-(p - c.toNat)) < (if max (p - b.toNat) (-(p - b.toNat)) < max (p - a.toNat) (-(p - a.toNat)) then (b, max (p - b.toNat) (-(p - b.toNat))) else (a, max (p - a.toNat) (-(p - a.toNat)))).2 then c else (if max (p - b.toNat) (-(p - b.toNat)) < max (p - a.toNat) (-(p - a.toNat)) then (b, max (p - b.toNat) (-(p - b.toNat))) else (a, max (p - a.toNat) (-(p - a.toNat)))).1) := by
   rw [hp]
   rfl
  obtain ⟨nA, hA⟩ : ∃ nA : Int, nA = max (p - a.toNat) (-(p - a.toNat)) := ⟨_, rfl⟩
  obtain ⟨nB, hB⟩ : ∃ nB : Int, nB = max (p - b.toNat) (-(p - b.toNat)) := ⟨_, rfl⟩
  obtain ⟨nC, hC⟩ : ∃ nC : Int, nC = max (p - c.toNat) (-(p - c.toNat)) := ⟨_, rfl⟩
  rw [← hA, ← hB, ← hC] at hf
  go_enter Tryz.func122, Tryz.ntmps122
  go_wp2_with fail
  rw [← hp]
  have HP := Lib.hid hp
  have hpl : -255 ≤ p ∧ p ≤ 510 := by omega
  clear hp
  refine (fabs_any (p - a.toNat) w (by omega) (by omega)).mono ?_
  rintro e w ⟨rfl, rfl⟩
  rw [← hA]
  have HA := Lib.hid hA
  have hAl : 0 ≤ nA ∧ nA ≤ 1000 := by omega
  clear hA
  go_wp2_with fail
  refine (fabs_any (p - b.toNat) w (by omega) (by omega)).mono ?_
  rintro e w ⟨rfl, rfl⟩
  rw [← hB]
  have hBl : 0 ≤ nB ∧ nB ≤ 1000 := by omega
  clear hB
  have HF := Lib.hid hf
  clear hf
  by_cases h1 : nB < nA
  ·have hf := HF.out
   rw [if_pos h1] at hf
   have HF := Lib.hid hf
   clear hf
   go_wp2_with fail
   refine (fabs_any (p - c.toNat) w (by omega) (by omega)).mono ?_
   rintro e w ⟨rfl, rfl⟩
   rw [← hC]
   clear hC
   by_cases h2 : nC < nB
   ·have hf : Fil.fore 4 a b c = c := by rw [HF.out, if_pos h2]
    have HF2 := Lib.hid hf
    clear hf
    go_wp2_with fail
    go_ret
    exact ⟨by rw [HF2.out]; rfl, rfl⟩
   ·have hf : Fil.fore 4 a b c = b := by rw [HF.out, if_neg h2]
    have HF2 := Lib.hid hf
    clear hf
    replace h2 : nB ≤ nC := by omega
    go_wp2_with fail
    go_ret
    exact ⟨by rw [HF2.out]; rfl, rfl⟩
  ·have hf := HF.out
   rw [if_neg h1] at hf
   have HF := Lib.hid hf
   clear hf
   replace h1 : nA ≤ nB := by omega
   go_wp2_with fail
   refine (fabs_any (p - c.toNat) w (by omega) (by omega)).mono ?_
   rintro e w ⟨rfl, rfl⟩
   rw [← hC]
   clear hC
   by_cases h2 : nC < nA
   ·have hf : Fil.fore 4 a b c = c := by rw [HF.out, if_pos h2]
    have HF2 := Lib.hid hf
    clear hf
    go_wp2_with fail
    go_ret
    exact ⟨by rw [HF2.out]; rfl, rfl⟩
   ·have hf : Fil.fore 4 a b c = a := by rw [HF.out, if_neg h2]
    have HF2 := Lib.hid hf
    clear hf
    replace h2 : nA ≤ nC := by omega
    go_wp2_with fail
    go_ret
    exact ⟨by rw [HF2.out]; rfl, rfl⟩
def doTo (k st : Nat) (row ahead : List UInt8) (j : Nat) : List UInt8 := (List.range row.length).map fun i => if i < j then Fil.one k st row ahead i else 0
theorem doTo_length (k st : Nat) (row ahead : List UInt8) (j : Nat) : (doTo k st row ahead j).length = row.length := by simp [doTo]
theorem doTo_get (k st : Nat) (row ahead : List UInt8) (j i : Nat) (h : i < row.length) : (doTo k st row ahead j)[i]? = some (if i < j then Fil.one k st row ahead i else 0) := by
 unfold doTo
 rw [List.getElem?_map, List.getElem?_range h]
 rfl
theorem doTo_set (k st : Nat) (row ahead : List UInt8) (j : Nat) (h : j < row.length) : (doTo k st row ahead j).set j (Fil.one k st row ahead j) = doTo k st row ahead (j + 1) := by
 refine List.ext_getElem? fun i => ?_
 rw [List.getElem?_set, doTo_length]
 rcases Nat.lt_or_ge i row.length with hk | hk
 ·rw [doTo_get _ _ _ _ _ _ hk, doTo_get _ _ _ _ _ _ hk]
  by_cases e : j = i
  ·subst e
   rw [if_pos rfl, if_pos h, if_pos (by omega)]
  ·rw [if_neg e]
   by_cases c : i < j
   ·rw [if_pos c, if_pos (by omega)]
   ·rw [if_neg c, if_neg (by omega)]
 ·rw [if_neg (by omega), List.getElem?_eq_none (by rw [doTo_length]; exact hk), List.getElem?_eq_none (by rw [doTo_length]; exact hk)]
theorem doTo_zero (k st : Nat) (row ahead : List UInt8) : doTo k st row ahead 0 = List.replicate row.length 0 := by
 unfold doTo
 refine List.ext_getElem (by simp) fun i h1 h2 => ?_
 simp
theorem doTo_all (k st : Nat) (row ahead : List UInt8) : doTo k st row ahead row.length = Fil.doRow k st row ahead := by
 unfold doTo Fil.doRow
 refine List.map_congr_left fun i hi => ?_
 rw [if_pos (List.mem_range.1 hi)]
theorem byteI_nat (s : List UInt8) (i : Nat) : byteI s i = s.getD i 0 := by unfold byteI; rw [if_neg (by omega), Int.toNat_natCast]
theorem byteI_bk (s : List UInt8) (i st : Nat) : byteI s ((i : Int) - st) = Fil.bk s i st := by
 unfold byteI Fil.bk
 by_cases h : i < st
 ·rw [if_pos (by omega), if_pos h]
 ·rw [if_neg (by omega), if_neg h, show ((i : Int) - st).toNat = i - st by omega]
set_option maxRecDepth 100000 in
set_option maxHeartbeats 2000000 in
theorem fdo_any (k st : Nat) (row ahead : ByteArray) (w : World) (hk : k ≤ 4) (hs : 1 ≤ st ∧ st ≤ 8) (hr : row.size ≤ 300000) :
  Calls Tryz.prog 111 #[.int .i64 k, .string row, .string ahead, .int .i64 st] w fun e w' => ∃ A c, e = .returned (.slice A row.size c) ∧ Own w' w.heap.size 1 (.slice A row.size c) row.size (bytes (Fil.doRow k st (lst row) (lst ahead))) ∧ Below w.heap.size w w' := by
 obtain ⟨i0, hi, hz0, hz1, hz2⟩ := info_parts byteInfo
 go_enter Tryz.func111, Tryz.ntmps111
 go_wp2_with (refine wpList_make_full _ rfl (.tmp 12) (.tmp 12) 102 rfl w.heap.size 5 i0 _ 1 Tryz.underlying102 hi hz0 hz1 .i64 .i64 _ _ row.size rfl rfl rfl rfl (by rw [hz2]; omega) (by unfold maxLen; omega) (Nat.le_refl _) ?_; intro w5 hrow5 hg5)
 have hown := Own.of_row hrow5
 rw [made_same _ (.int .u8 0) (by decide) (by intro j hj; have : j = 0 := (by simp [Value.cells] at hj; omega); subst this; rfl), Nat.mul_one] at hown
 have hzz : List.replicate row.size (Value.int .u8 0) = bytes (doTo k st (lst row) (lst ahead) 0) := by rw [doTo_zero, lst_length]; simp [bytes]
 rw [hzz] at hown
 have hbw5 : Below w.heap.size w w5 := Below.grown (Below.refl _ _) hg5 (Nat.le_refl _) (fun g hg => by cases hg)
 obtain ⟨ga, hga⟩ : ∃ ga, ga = w.heap.size := ⟨_, rfl⟩
 have hown2 : Own w5 w.heap.size 1 (.slice (some ⟨ga, 0, none⟩) row.size row.size) row.size (bytes (doTo k st (lst row) (lst ahead) 0)) := by rw [hga]; exact hown
 have hwa : w.heap.size ≤ ga := by omega
 rw [← hga]
 clear hown hga hrow5 hg5 hzz
 go_loopw [16] (fun iv wr => ∃ j : Nat, j ≤ row.size ∧ iv = .int .i64 j ∧ Own wr w.heap.size 1 (.slice (some ⟨ga, 0, none⟩) row.size row.size) row.size (bytes (doTo k st (lst row) (lst ahead) j)) ∧ Below w.heap.size w wr) (fun iv _ => row.size - (intOf iv).toNat)
 case atStart => exact ⟨0, Nat.zero_le _, rfl, hown2, hbw5⟩
 case round =>
  clear hown2 hbw5
  obtain ⟨j, hj, rfl, hown, hbw⟩ := hrel
  by_cases hlt : j < row.size
  ·obtain ⟨x, hx⟩ : ∃ x : UInt8, row[j] = x := ⟨_, rfl⟩
   obtain ⟨xa, hxa⟩ : ∃ xa, byteI (lst row) ((j : Int) - st) = xa := ⟨_, rfl⟩
   obtain ⟨xb, hxb⟩ : ∃ xb, byteI (lst ahead) (j : Int) = xb := ⟨_, rfl⟩
   obtain ⟨xc, hxc⟩ : ∃ xc, byteI (lst ahead) ((j : Int) - st) = xc := ⟨_, rfl⟩
   obtain ⟨xf, hxf⟩ : ∃ xf, xf = Fil.fore k xa xb xc := ⟨_, rfl⟩
   have hjw : IntKind.i64.wrap ((j : Int) - st) = (j : Int) - st := IntWalk.i64_in _ (by omega)
   have hone : Fil.one k st (lst row) (lst ahead) j = x - xf := by
    unfold Fil.one
    rw [hxf, ← hxa, ← hxb, ← hxc, byteI_bk, byteI_bk, byteI_nat, ← hx]
    congr 1
    rw [List.getD_eq_getElem?_getD, List.getElem?_eq_getElem (by rw [lst_length]; exact hlt)]
    rfl
   have hset := hown.setByte j hlt (x - xf)
   rw [← hone, doTo_set _ _ _ _ _ (by rw [lst_length]; exact hlt), hone, Nat.zero_add] at hset
   have HS := Lib.hid hset
   have hb2 := hbw.setCell (p := ⟨ga, j, none⟩) hwa (.int .u8 ((x - xf).toNat : Nat))
   have HB2 := Lib.hid hb2
   obtain ⟨ta, pa⟩ := hown.drew.cellAt j hlt
   rw [Nat.zero_add, bytes_at, doTo_get _ _ _ _ _ _ (by rw [lst_length]; exact hlt), if_neg (by omega)] at ta
   rw [Nat.zero_add] at pa
   replace ta : wr.drew.cell? ⟨ga, j, none⟩ = some (.int .u8 0) := ta
   have hsub : IntKind.u8.wrap ((x.toNat : Int) - xf.toNat) = ((x - xf).toNat : Int) := by
    have h1 := x.toNat_lt
    have h2 := xf.toNat_lt
    rw [UInt8.toNat_sub]
    show ((x.toNat : Int) - xf.toNat) % 256 = _
    omega
   have HXF := Lib.hid hxf
   clear hset hone hb2 hown hbw hxf
   go_wp2_with fail
   refine wp_region_held_drew (S := (fun _ => True)) (by kernel_rfl) ?_ (fun hHeld => ?_)
   ·trivial
   refine opT 0 rfl ?_; refine opT 1 rfl ?_; refine opT 2 rfl ?_; refine opT 3 rfl ?_; refine opT 4 rfl ?_; refine opT 5 rfl ?_; refine opT 6 rfl ?_; refine opT 7 rfl ?_; refine opT 8 rfl ?_; refine opT 9 rfl ?_; refine opT 11 rfl ?_; refine opT 12 rfl ?_; refine opT 14 rfl ?_; refine opT 15 rfl ?_; refine opT 16 rfl ?_; refine opT 17 rfl ?_
   refine opD 10 rfl (fun K hK => ?_)
   go_simp
   (go_at_call 123; refine (fat_any row ((j : Int) - st) _).mono ?_; rintro e wq ⟨rfl, rfl⟩; rw [hxa])
   refine hK.out _ _ ?_ (fun hHeld => ?_)
   ·trivial
   clear hK K
   (try simp only [Act.put, nz1, nz2, nz3, nz4, nz5, nz6])
   refine opD 13 rfl (fun K hK => ?_)
   go_simp
   (go_at_call 123; refine (fat_any ahead (j : Int) _).mono ?_; rintro e wq ⟨rfl, rfl⟩; rw [hxb])
   refine hK.out _ _ ?_ (fun hHeld => ?_)
   ·trivial
   clear hK K
   (try simp only [Act.put, nz1, nz2, nz3, nz4, nz5, nz6])
   refine opD 18 rfl (fun K hK => ?_)
   go_simp
   (go_at_call 123; refine (fat_any ahead ((j : Int) - st) _).mono ?_; rintro e wq ⟨rfl, rfl⟩; rw [hxc])
   refine hK.out _ _ ?_ (fun hHeld => ?_)
   ·trivial
   clear hK K
   (try simp only [Act.put, nz1, nz2, nz3, nz4, nz5, nz6])
   refine opD 19 rfl (fun K hK => ?_)
   go_simp
   (go_at_call 122; refine (foretell_any k hk xa xb xc _).mono ?_; rintro e wq ⟨rfl, rfl⟩; rw [← HXF.out])
   refine hK.out _ _ ?_ (fun hHeld => ?_)
   ·trivial
   clear hK K
   (try simp only [Act.put, nz1, nz2, nz3, nz4, nz5, nz6])
   refine opT 20 rfl ?_; refine opT 21 rfl ?_
   refine opD 22 rfl (fun K hK => ?_)
   go_simp
   refine hK.out _ _ ?_ (fun hHeld => ?_)
   ·trivial
   clear hK K
   (try simp only [Act.put, nz1, nz2, nz3, nz4, nz5, nz6])
   refine wpAnyH_done (by kernel_rfl) ?_ _
   go_wp2_with fail
   go_roundw
   case rel => exact ⟨j + 1, hlt, by go_num, HS.out.drew, HB2.out.drew⟩
   case measure => simp [intOf]; omega
  ·have hje : j = row.size := by omega
   subst hje
   have ha := doTo_all k st (lst row) (lst ahead)
   rw [lst_length] at ha
   rw [ha] at hown
   go_wp2_with fail
   go_ret
   exact ⟨_, _, rfl, hown, hbw⟩
end Go.Proofs.YtkegkelaffohjaaGreatDoor
/- package filter: check, whole, Best, Rows: the walks. Printed by mk.py. -/
namespace Go.Proofs.YtkegkelaffohjaaGreatDoor
open Go Go.RowKit
theorem fcheck_yes (k st : Nat) (row ahead : ByteArray) (w : World) (hk : k ≤ 4) (hs : 1 ≤ st ∧ st ≤ 8) (ha : ahead.size = 0 ∨ ahead.size = row.size) :
  Calls Tryz.prog 121 #[.int .i64 k, .string row, .string ahead, .int .i64 st] w fun e w' => e = .returned .nilIface ∧ w' = w := by
 have h1 : (k : Int) ≤ 4 := by omega
 have h2 : (1 : Int) ≤ st := by omega
 have h3 : (st : Int) ≤ 8 := by omega
 have h4 : (0 : Int) ≤ k := by omega
 go_enter Tryz.func121, Tryz.ntmps121
 by_cases h0 : ahead.size = 0
 ·have he : ahead = ⟨#[]⟩ := lst_inj (List.eq_nil_of_length_eq_zero h0)
  subst he
  go_wp2_with fail
  go_ret
  exact ⟨rfl, rfl⟩
 ·have hs : ahead.size = row.size := ha.resolve_left h0
  have hne : (ahead.toList == []) = false := by
   rw [Lib.toList_data, beq_eq_false_iff_ne]
   intro e
   exact h0 (congrArg List.length e)
  have hss : ((ahead.size : Int) == (row.size : Int)) = true := by rw [beq_iff_eq]; omega
  have hss2 : ((ahead.size : Int) != (row.size : Int)) = false := by rw [bne_eq_false_iff_eq]; omega
  clear ha h0 hs
  go_wp2_with fail
  go_ret
  exact ⟨rfl, rfl⟩
theorem fcheck_no (k st : Nat) (row ahead : ByteArray) (E : Nat → Addr) (w : World) (hE : Er4 w E) (hk : 4 < k) :
  Calls Tryz.prog 121 #[.int .i64 k, .string row, .string ahead, .int .i64 st] w fun e w' => e = .returned (errV (E 1)) ∧ ∃ q, w' = w.drewN q := by
 have dB := hE.bound
 have h1 : (4 : Int) < k := by omega
 have h4 : (0 : Int) ≤ k := by omega
 go_enter Tryz.func121, Tryz.ntmps121
 go_wp2_with fail
 go_ret
 exact ⟨rfl, 0, rfl⟩
def costTo (l : List UInt8) (j : Nat) : Nat := Fil.cost (l.take j)
theorem costTo_succ (l : List UInt8) (j : Nat) (h : j < l.length) : costTo l (j + 1) = costTo l j + min l[j].toNat (256 - l[j].toNat) := by
 unfold costTo Fil.cost
 rw [List.take_succ_eq_append_getElem h, List.map_append, List.sum_append]
 simp
theorem costTo_le (l : List UInt8) : ∀ j, j ≤ l.length → costTo l j ≤ 255 * j
 | 0, _ => by simp [costTo, Fil.cost]
 | j + 1, h => by
  have ih := costTo_le l j (by omega)
  rw [costTo_succ l j h]
  have := l[j].toNat_lt
  omega
set_option maxRecDepth 100000 in
set_option maxHeartbeats 2000000 in
theorem fbest_any (st : Nat) (row ahead : ByteArray) (w : World) (hs : 1 ≤ st ∧ st ≤ 8) (ha : ahead.size = 0 ∨ ahead.size = row.size) (hr : row.size ≤ 300000) :
  Calls Tryz.prog 110 #[.string row, .string ahead, .int .i64 st] w fun e w' => e = .returned (.tuple #[.int .i64 (Fil.best st (lst row) (lst ahead)), .nilIface]) ∧ Below w.heap.size w w' := by
 go_enter Tryz.func110, Tryz.ntmps110
 go_wp2_with fail
 refine (fcheck_yes 0 st row ahead w (by omega) hs ha).mono ?_
 rintro e w ⟨rfl, rfl⟩
 go_wp2_with fail
 go_loopw [9, 10, 22] (fun bv lv iv wr => ∃ i : Nat, i ≤ 5 ∧ bv = .int .i64 (Fil.bestTo st (lst row) (lst ahead) i).1 ∧ lv = .int .i64 (Fil.bestTo st (lst row) (lst ahead) i).2 ∧ iv = .int .i64 i ∧ Below w.heap.size w wr) (fun _ _ iv _ => 5 - (intOf iv).toNat)
 case atStart => exact ⟨0, by omega, rfl, rfl, rfl, Below.refl _ _⟩
 case round =>
  obtain ⟨i, hi, rfl, rfl, rfl, hb⟩ := hrel
  by_cases hlt : i < 5
  ·obtain ⟨Q, hQ⟩ : ∃ Q, Q = Fil.bestTo st (lst row) (lst ahead) i := ⟨_, rfl⟩
   have hQn : Fil.bestTo st (lst row) (lst ahead) (i + 1) = Fil.pick st (lst row) (lst ahead) Q i := by rw [hQ]; rfl
   have HQN := Lib.hid hQn
   rw [← hQ]
   obtain ⟨Q1, Q2⟩ := Q
   have hii : (i : Int) < 5 := by omega
   clear hQ hQn
   go_wp2_with fail
   refine (fdo_any i st row ahead wr (by omega) hs hr).mono ?_
   rintro e w2 ⟨A2, c2, rfl, hO, hb2⟩
   obtain ⟨L, hL⟩ : ∃ L, L = Fil.doRow i st (lst row) (lst ahead) := ⟨_, rfl⟩
   rw [← hL] at hO
   have hLl : L.length = row.size := by rw [hL, Fil.doRow_length, lst_length]
   have hR := hO.reads.2
   have hb3 := hb.trans (hb2.mono hb.size)
   have HLL := Lib.hid hLl
   have HL := Lib.hid hL
   clear hO hb2 hb hL hLl
   go_wp2_with fail
   go_loopw [12, 31] (fun sv jv wx => ∃ j : Nat, j ≤ row.size ∧ sv = .int .i64 (costTo L j : Nat) ∧ jv = .int .i64 j ∧ wx = w2) (fun _ jv _ => row.size - (intOf jv).toNat)
   case atStart => exact ⟨0, Nat.zero_le _, rfl, rfl, rfl⟩
   case round =>
    obtain ⟨j, hj, rfl, rfl, rfl⟩ := hrel
    have hcl := costTo_le L j (by rw [HLL.out]; exact hj)
    by_cases hjl : j < row.size
    ·have hjL : j < L.length := by rw [HLL.out]; exact hjl
     obtain ⟨g, off, rfl, hgl⟩ := hR.addr (by omega)
     have hc := hR.cell rfl j (by omega)
     rw [bytes_at, List.getElem?_eq_getElem hjL] at hc
     have hcs := costTo_succ L j hjL
     obtain ⟨x, hx⟩ : ∃ x, x = L[j] := ⟨_, rfl⟩
     rw [← hx] at hc hcs
     obtain ⟨C, hC⟩ : ∃ C, C = costTo L j := ⟨_, rfl⟩
     rw [← hC] at hcs hcl ⊢
     replace hc : wr.cell? ⟨g, off + j, none⟩ = some (.int .u8 x.toNat) := hc
     have hxl := x.toNat_lt
     have HCS := Lib.hid hcs
     clear hx hC hcs
     rcases Int.lt_trichotomy (x.toNat : Int) (256 - (x.toNat : Int)) with h | h | h
     ·have hm : ((C + min x.toNat (256 - x.toNat) : Nat) : Int) = (C : Int) + x.toNat := by omega
      have HM := Lib.hid hm
      clear hm
      go_wp2_with fail
      go_roundw
      case rel => exact ⟨j + 1, hjl, by rw [HCS.out, HM.out], by go_num, trivial⟩
      case measure => simp [intOf]; omega
     ·have hx8 : x.toNat = 128 := by omega
      have hm : ((C + min x.toNat (256 - x.toNat) : Nat) : Int) = (C : Int) + 128 := by omega
      have HM := Lib.hid hm
      rw [hx8] at hc
      clear hm h hx8 hxl
      go_wp2_with fail
      go_roundw
      case rel => exact ⟨j + 1, hjl, by rw [HCS.out, HM.out], by go_num, trivial⟩
      case measure => simp [intOf]; omega
     ·have hm : ((C + min x.toNat (256 - x.toNat) : Nat) : Int) = (C : Int) + (256 - (x.toNat : Int)) := by omega
      have HM := Lib.hid hm
      clear hm
      go_wp2_with fail
      go_roundw
      case rel => exact ⟨j + 1, hjl, by rw [HCS.out, HM.out], by go_num, trivial⟩
      case measure => simp [intOf]; omega
    ·have hje : j = row.size := by omega
     subst hje
     have hC : costTo L row.size = Fil.cost (Fil.doRow i st (lst row) (lst ahead)) := by
      unfold costTo
      rw [← HLL.out, List.take_length, HL.out]
     obtain ⟨C, hCe⟩ : ∃ C, C = costTo L row.size := ⟨_, rfl⟩
     rw [← hCe] at hC ⊢
     have hpk : Fil.pick st (lst row) (lst ahead) (Q1, Q2) i = if Q2 < 0 ∨ (C : Int) < Q2 then (i, (C : Int)) else (Q1, Q2) := by unfold Fil.pick; rw [hC]
     rw [hpk] at HQN
     clear hCe hC hpk hcl hR hjl
     by_cases h1 : Q2 < 0
     ·rw [if_pos (.inl h1)] at HQN
      go_wp2_with fail
      go_roundw
      case rel => exact ⟨i + 1, by omega, by rw [HQN.out], by rw [HQN.out], by go_num, hb3⟩
      case measure => simp [intOf]; omega
     ·by_cases h2 : (C : Int) < Q2
      ·rw [if_pos (.inr h2)] at HQN
       replace h1 : 0 ≤ Q2 := by omega
       go_wp2_with fail
       go_roundw
       case rel => exact ⟨i + 1, by omega, by rw [HQN.out], by rw [HQN.out], by go_num, hb3⟩
       case measure => simp [intOf]; omega
      ·rw [if_neg (by omega)] at HQN
       replace h1 : 0 ≤ Q2 := by omega
       replace h2 : Q2 ≤ C := by omega
       go_wp2_with fail
       go_roundw
       case rel => exact ⟨i + 1, by omega, by rw [HQN.out], by rw [HQN.out], by go_num, hb3⟩
       case measure => simp [intOf]; omega
  ·have hi5 : i = 5 := by omega
   subst hi5
   have hbe : (Fil.bestTo st (lst row) (lst ahead) 5).1 = Fil.best st (lst row) (lst ahead) := rfl
   rw [hbe]
   go_wp2_with fail
   go_ret2
   exact ⟨rfl, hb⟩
theorem fwhole_yes (wide more st : Nat) (s : ByteArray) (w : World) (h1 : 1 ≤ wide ∧ wide ≤ 300000) (hs : 1 ≤ st ∧ st ≤ 8) (hm : more ≤ 1) (hz : s.size ≤ 300000) (h0 : s.size % (wide + more) = 0) :
  Calls Tryz.prog 83 #[.string s, .int .i64 wide, .int .i64 more, .int .i64 st] w fun e w' => e = .returned .nilIface ∧ w' = w := by
 have a1 : (1 : Int) ≤ wide := by omega
 have a2 : (wide : Int) ≤ 300000 := by omega
 have a3 : (1 : Int) ≤ st := by omega
 have a4 : (st : Int) ≤ 8 := by omega
 have a5 : (s.size : Int) ≤ 300000 := by omega
 obtain ⟨M, hM⟩ : ∃ M, M = wide + more := ⟨_, rfl⟩
 have a6 : (wide : Int) + more = (M : Nat) := by omega
 have a7 : (s.size : Int).tmod (M : Int) = 0 := by
  rw [← hM] at h0
  rw [Int.tmod_eq_emod_of_nonneg (by omega)]
  omega
 have a8 : (s.size : Int) % (M : Int) = 0 := by
  rw [← hM] at h0
  omega
 have a9 : ¬ (M : Int) = 0 := by omega
 have a10 : ((M : Int) == 0) = false := by rw [beq_eq_false_iff_ne]; omega
 clear h0 hM
 go_enter Tryz.func83, Tryz.ntmps83
 go_wp2_with fail
 go_ret
 exact ⟨rfl, rfl⟩
structure FrR (w : World) (wide st : Nat) (R : List UInt8) (sk ah : ByteArray) (m : Nat) (acc : List UInt8) (v : Value) (wr : World) : Prop where
 len : sk.size = m * wide
 sz : ah.size = 0 ∨ ah.size = wide
 eq : acc ++ Fil.frows wide st m (lst sk) (lst ah) = R
 al : acc.length + m * (wide + 1) ≤ 600000
 own : Own wr w.heap.size 1 v acc.length (bytes acc)
 bel : Below w.heap.size w wr
set_option maxRecDepth 100000 in
set_option maxHeartbeats 2000000 in
theorem frows_any (wide st n : Nat) (s : ByteArray) (w : World) (h1 : 1 ≤ wide ∧ wide ≤ 2000) (hs : 1 ≤ st ∧ st ≤ 8) (hz : s.size ≤ 300000) (hn : s.size = n * wide) :
  Calls Tryz.prog 73 #[.string s, .int .i64 wide, .int .i64 st] w fun e w' => ∃ z : ByteArray, e = .returned (.tuple #[.string z, .nilIface]) ∧ lst z = Fil.frows wide st n (lst s) [] ∧ Below w.heap.size w w' := by
 obtain ⟨i0, hi, hz0, hz1, hz2⟩ := info_parts byteInfo
 obtain ⟨R, hR⟩ : ∃ R, R = Fil.frows wide st n (lst s) [] := ⟨_, rfl⟩
 rw [← hR]
 have hnw : n * (wide + 1) ≤ 600000 := by
  have : n * 1 ≤ n * wide := Nat.mul_le_mul_left n h1.1
  rw [Nat.mul_add]
  omega
 have HF0 := Lib.hid (show FrR w wide st R s ⟨#[]⟩ n [] (.slice none 0 0) w from ⟨hn, .inl rfl, by rw [hR]; rfl, by simpa using hnw, Own.nil _ _ _, Below.refl _ _⟩)
 have HW := Lib.hid (show s.size % (wide + 0) = 0 by rw [Nat.add_zero, hn, Nat.mul_mod_left])
 clear hR hnw hn
 go_enter Tryz.func73, Tryz.ntmps73
 go_wp2_with fail
 refine (fwhole_yes wide 0 st s w (by omega) hs (by omega) hz HW.out).mono ?_
 rintro e w ⟨rfl, rfl⟩
 go_wp2_with fail
 go_loopw [0, 9, 10] (fun sv v av wr => ∃ (sk ah : ByteArray) (m : Nat) (acc : List UInt8), sv = .string sk ∧ av = .string ah ∧ FrR w wide st R sk ah m acc v wr) (fun sv _ _ _ => match sv with | .string b => b.size | _ => 0)
 case atStart => exact ⟨s, ⟨#[]⟩, n, [], rfl, rfl, HF0.out⟩
 case round =>
  clear HF0
  obtain ⟨sk, ah, m, acc, rfl, rfl, F⟩ := hrel
  obtain ⟨Av, cv, rfl, hcv, _⟩ := F.own.form
  obtain ⟨n0, hn0⟩ : ∃ n0, n0 = acc.length := ⟨_, rfl⟩
  cases m with
  | zero =>
   have he : sk = ⟨#[]⟩ := lst_inj (List.eq_nil_of_length_eq_zero (by rw [lst_length, F.len, Nat.zero_mul]))
   subst he
   have heq := F.eq
   rw [Fil.frows, List.append_nil] at heq
   have hcv2 := conv_reads wr Av acc.length cv _ _ F.own.reads.2
   have hb := F.bel
   have HQ := Lib.hid heq
   clear heq hn0 hcv F
   go_wp2_with fail
   go_ret2
   exact ⟨_, rfl, HQ.out, hb⟩
  | succ m =>
   have hlen := F.len
   rw [Nat.add_mul, Nat.one_mul] at hlen
   have hne : (sk.toList == []) = false := by
    rw [Lib.toList_data, beq_eq_false_iff_ne]
    intro e
    have := congrArg List.length e
    have h2 : (lst sk).length = 0 := this
    rw [lst_length] at h2
    omega
   have hwi : (wide : Int) ≤ sk.size := by omega
   obtain ⟨rw_, hrw⟩ : ∃ rw_, rw_ = sk.extract 0 wide := ⟨_, rfl⟩
   obtain ⟨s2, hs2⟩ : ∃ s2, s2 = sk.extract wide sk.size := ⟨_, rfl⟩
   have hrl : lst rw_ = (lst sk).take wide := by rw [hrw, lst_extract, List.drop_zero, Nat.sub_zero]
   have hs2l : lst s2 = (lst sk).drop wide := by rw [hs2, lst_extract, List.take_of_length_le (by rw [List.length_drop, lst_length]; exact Nat.le_refl _)]
   have hrsz : rw_.size = wide := by rw [← lst_length, hrl, List.length_take, lst_length]; omega
   have hs2z : s2.size = m * wide := by rw [← lst_length, hs2l, List.length_drop, lst_length]; omega
   have hrs : rw_.size ≤ 300000 := by omega
   have hah : ah.size = 0 ∨ ah.size = rw_.size := by rw [hrsz]; exact F.sz
   obtain ⟨kb, hkb⟩ : ∃ kb, kb = UInt8.ofNat (Fil.best st (lst rw_) (lst ah)) := ⟨_, rfl⟩
   have hb4 := Fil.best_le st (lst rw_) (lst ah)
   have hkn : Fil.best st (lst rw_) (lst ah) = kb.toNat := by rw [hkb, UInt8.toNat_ofNat']; omega
   have hkb4 : kb.toNat ≤ 4 := by omega
   obtain ⟨D, hD⟩ : ∃ D, D = Fil.doRow kb.toNat st (lst rw_) (lst ah) := ⟨_, rfl⟩
   have hDl : D.length = wide := by rw [hD, Fil.doRow_length, lst_length, hrsz]
   have heq := F.eq
   rw [Fil.frows, ← hrl, ← hkb, hkn, ← hD, ← hs2l] at heq
   have hal := F.al
   rw [Nat.add_mul, Nat.one_mul, ← hn0] at hal
   have hacc : acc ++ [kb] ++ D ++ Fil.frows wide st m (lst s2) (lst rw_) = R := by rw [← heq]; simp
   have HO := Lib.hid F.own
   have HB := Lib.hid F.bel
   have HZ := Lib.hid (show w.heap.size ≤ wr.heap.size from F.bel.size)
   have HRW := Lib.hid hrw
   have HS2 := Lib.hid hs2
   have HD := Lib.hid hD
   have HDL := Lib.hid hDl
   have HACC := Lib.hid hacc
   have HKN := Lib.hid hkn
   have HN0 := Lib.hid hn0
   have HS2Z := Lib.hid hs2z
   have HRSZ := Lib.hid hrsz
   have HLEN := Lib.hid hlen
   have hkw : IntKind.u8.wrap (kb.toNat : Int) = kb.toNat := by show (kb.toNat : Int) % 256 = _; have := kb.toNat_lt; omega
   have hm0 : 0 ≤ m * (wide + 1) := Nat.zero_le _
   have hn0l : n0 ≤ 600000 := by omega
   rw [← hn0]
   clear hrw hs2 hrl hs2l hs2z hkb hkn hD hDl heq hacc F hn0 hcv hlen hb4
   go_wp2_with fail
   rw [← HRW.out]
   refine (fbest_any st rw_ ah wr hs hah hrs).mono ?_
   rw [HKN.out]
   rintro e wy ⟨rfl, hby⟩
   have HO := Lib.hid (HO.out.below hby (Nat.le_refl _))
   have HB := Lib.hid (HB.out.trans (hby.mono HZ.out))
   have HZ := Lib.hid (Nat.le_trans HZ.out hby.size)
   have hOn : Own wy w.heap.size 1 (.slice Av n0 cv) n0 (bytes acc) := by have h := HO.out; rw [← HN0.out] at h; exact h
   have HO := Lib.hid hOn
   have hBS : Blk (wy.drew.alloc (.cells #[.int .u8 (kb.toNat : Int)] 5)) wy.heap.size 5 #[.int .u8 (kb.toNat : Int)] := Blk.new wy.drew _ _ rfl
   clear hby hOn
   go_wp2_with fail
   refine wp_region_held_drew (S := (fun _ => True)) (by kernel_rfl) ?_ (fun hHeld => ?_)
   ·trivial
   refine opT 0 rfl ?_; refine opT 1 rfl ?_; refine opT 2 rfl ?_; refine opT 5 rfl ?_; refine opT 6 rfl ?_; refine opT 7 rfl ?_; refine opT 8 rfl ?_; refine opT 9 rfl ?_; refine opT 10 rfl ?_
   refine opD 3 rfl (fun K hK => ?_)
   go_simp
   refine hK.out _ _ ?_ (fun hHeld => ?_)
   ·trivial
   clear hK K
   (try simp only [Act.put, nz1, nz2, nz3, nz4, nz5, nz6])
   refine opD 4 rfl (fun K hK => ?_)
   (refine step_append_Own _ rfl (.tmp 34) (.tmp 37) 102 102 rfl w.heap.size 5 i0 (.int .u8 0) 1 1 Tryz.underlying102 hi hz0 hz1 hz2 rfl (by decide) (.slice Av n0 cv) n0 (bytes acc) rfl (HO.out.drew.alloc _) (bytes_one _) 1 [.int .u8 (kb.toNat : Int)] (Src.blk Tryz.underlying102 hBS rfl (by intro u hu; cases List.mem_singleton.1 hu; rfl)) (by unfold maxLen; omega) (by omega) (by have := HZ.out; first | omega | (simp; omega)) ?_; intro vA1 wA1 hownA1 hgA1 hatA1; obtain ⟨A1, c1, rfl, hc1, _⟩ := hownA1.form; have hzA : w.heap.size ≤ wA1.heap.size := (by have := HZ.out; have := hgA1.size; simp at this; omega); rw [show bytes acc ++ [.int .u8 (kb.toNat : Int)] = bytes (acc ++ [kb]) by simp [bytes]] at hownA1)
   refine hK.out _ _ ?_ (fun hHeld => ?_)
   ·trivial
   clear hK K
   (try simp only [Act.put, nz1, nz2, nz3, nz4, nz5, nz6])
   refine opD 11 rfl (fun K hK => ?_)
   go_simp
   (go_at_call 111; rw [← HRW.out]; refine (fdo_any kb.toNat st rw_ ah wA1 hkb4 hs hrs).mono ?_; rintro e w2 ⟨A2, c2, rfl, hO2, hb2⟩; rw [hrsz] at hO2 ⊢; have hzB : w.heap.size ≤ w2.heap.size := Nat.le_trans hzA hb2.size)
   refine hK.out _ _ ?_ (fun hHeld => ?_)
   ·trivial
   clear hK K
   (try simp only [Act.put, nz1, nz2, nz3, nz4, nz5, nz6])
   refine opD 12 rfl (fun K hK => ?_)
   (refine step_append_Own _ rfl (.tmp 38) (.tmp 45) 102 102 rfl w.heap.size 5 i0 (.int .u8 0) 1 1 Tryz.underlying102 hi hz0 hz1 hz2 rfl (by decide) (.slice A1 (n0 + 1) c1) (n0 + 1) (bytes (acc ++ [kb])) rfl (hownA1.below hb2 (Nat.le_refl _)) (bytes_one _) wide (bytes D) (Reads.src Tryz.underlying102 (HD.out ▸ hO2.reads.2) (by decide) (bytes_one _) _) (by unfold maxLen; omega) (by omega) (by have := HZ.out; first | omega | (simp; omega)) ?_; intro vA3 wA3 hownA3 hgA3 hatA3; obtain ⟨A3, c3, rfl, hc3, _⟩ := hownA3.form)
   refine hK.out _ _ ?_ (fun hHeld => ?_)
   ·trivial
   clear hK K
   (try simp only [Act.put, nz1, nz2, nz3, nz4, nz5, nz6])
   refine opT 13 rfl ?_
   refine wpAnyH_done (by kernel_rfl) ?_ _
   have h5 : bytes (acc ++ [kb]) ++ bytes D = bytes (acc ++ [kb] ++ D) := by simp [bytes]
   have h6 : (acc ++ [kb] ++ D).length = n0 + 1 + wide := by rw [List.length_append, List.length_append, HDL.out, ← HN0.out]; rfl
   rw [h5] at hownA3
   have hBA1 := Below.grown ((HB.out.alloc HZ.out (.cells #[.int .u8 (kb.toNat : Int)] 5)).drew) hgA1 (by have := HZ.out; simp; omega) (fun g hg => (HO.out.lt g hg).1)
   have hBA3 := Below.grown (hBA1.trans (hb2.mono hzA)) hgA3 hzB (fun g hg => (hownA1.lt g hg).1)
   have HF2 := Lib.hid (show FrR w wide st R s2 rw_ m (acc ++ [kb] ++ D) (.slice A3 (n0 + 1 + wide) c3) wA3 from
    ⟨HS2Z.out, .inr HRSZ.out, HACC.out, by rw [h6]; omega, by rw [h6]; exact hownA3, hBA3⟩)
   clear h5 h6 hownA3 hgA3 hatA3 hownA1 hgA1 hatA1 hO2 hb2 hBA1 hBA3 hBS
   go_wp2_with fail
   go_roundw
   case rel => exact ⟨s2, rw_, m, acc ++ [kb] ++ D, by rw [HS2.out], by first | rfl | rw [HRW.out], HF2.out⟩
   case measure =>
    have e1 := HLEN.out
    have e2 := HS2Z.out
    rw [HS2.out] at e2
    show (sk.extract wide sk.size).size < sk.size
    omega
end Go.Proofs.YtkegkelaffohjaaGreatDoor
/- package filter: Undo, Back: the walks. Printed by mk.py. -/
namespace Go.Proofs.YtkegkelaffohjaaGreatDoor
open Go Go.RowKit
theorem undoTo_succ (k st : Nat) (row ahead : List UInt8) (j : Nat) : Fil.undoTo k st row ahead (j + 1) = Fil.undoTo k st row ahead j ++ [row.getD j 0 + Fil.fore k (Fil.bk (Fil.undoTo k st row ahead j) j st) (ahead.getD j 0) (Fil.bk ahead j st)] := rfl
theorem fundo_no (k st : Nat) (row ahead : ByteArray) (E : Nat → Addr) (w : World) (hE : Er4 w E) (hk : 4 < k) :
  Calls Tryz.prog 84 #[.int .i64 k, .string row, .string ahead, .int .i64 st] w fun e w' => e = .returned (.tuple #[.string ⟨#[]⟩, errV (E 1)]) ∧ ∃ q, w' = w.drewN q := by
 go_enter Tryz.func84, Tryz.ntmps84
 go_wp2_with fail
 refine (fcheck_no k st row ahead E w hE hk).mono ?_
 rintro e w2 ⟨rfl, q, rfl⟩
 unfold errV
 go_wp2_with fail
 go_ret2
 exact ⟨rfl, q, rfl⟩
set_option maxRecDepth 100000 in
set_option maxHeartbeats 2000000 in
theorem fundo_any (k st : Nat) (row ahead : ByteArray) (w : World) (hk : k ≤ 4) (hs : 1 ≤ st ∧ st ≤ 8) (hr : row.size ≤ 300000) (ha : ahead.size = 0 ∨ ahead.size = row.size) :
  Calls Tryz.prog 84 #[.int .i64 k, .string row, .string ahead, .int .i64 st] w fun e w' => ∃ z : ByteArray, e = .returned (.tuple #[.string z, .nilIface]) ∧ lst z = Fil.undo k st (lst row) (lst ahead) ∧ Below w.heap.size w w' := by
 obtain ⟨i0, hi, hz0, hz1, hz2⟩ := info_parts byteInfo
 obtain ⟨R, hR⟩ : ∃ R, R = Fil.undo k st (lst row) (lst ahead) := ⟨_, rfl⟩
 rw [← hR]
 have HR := Lib.hid hR
 clear hR
 go_enter Tryz.func84, Tryz.ntmps84
 go_wp2_with fail
 refine (fcheck_yes k st row ahead w hk hs ha).mono ?_
 rintro e w ⟨rfl, rfl⟩
 go_wp2_with (at_make; refine wpList_make_own _ rfl _ _ 102 rfl w.heap.size 5 i0 (.int .u8 0) 1 Tryz.underlying102 hi hz0 hz1 .i64 .i64 _ row.size rfl rfl rfl (by rw [hz2]; omega) (by unfold maxLen; omega) (Nat.le_refl _) ?_; intro w5 hrow5 hg5)
 have hown : Own w5 w.heap.size 1 (.slice (some ⟨w.heap.size, 0, none⟩) 0 row.size) 0 (bytes (Fil.undoTo k st (lst row) (lst ahead) 0)) := Own.of_row hrow5
 have hbw5 : Below w.heap.size w w5 := Below.grown (Below.refl _ _) hg5 (Nat.le_refl _) (fun g hg => by cases hg)
 clear hrow5 hg5
 go_loopw [11, 27] (fun v iv wr => ∃ j : Nat, j ≤ row.size ∧ iv = .int .i64 j ∧ Own wr w.heap.size 1 v j (bytes (Fil.undoTo k st (lst row) (lst ahead) j)) ∧ Below w.heap.size w wr) (fun _ iv _ => row.size - (intOf iv).toNat)
 case atStart => exact ⟨0, Nat.zero_le _, rfl, hown, hbw5⟩
 case round =>
  clear hown hbw5
  obtain ⟨j, hj, rfl, hown, hbw⟩ := hrel
  obtain ⟨Av, cv, rfl, hcv, _⟩ := hown.form
  by_cases hlt : j < row.size
  ·obtain ⟨x, hx⟩ : ∃ x : UInt8, row[j] = x := ⟨_, rfl⟩
   obtain ⟨xa, hxa⟩ : ∃ xa, xa = Fil.bk (Fil.undoTo k st (lst row) (lst ahead) j) j st := ⟨_, rfl⟩
   obtain ⟨xb, hxb⟩ : ∃ xb, byteI (lst ahead) (j : Int) = xb := ⟨_, rfl⟩
   obtain ⟨xc, hxc⟩ : ∃ xc, byteI (lst ahead) ((j : Int) - st) = xc := ⟨_, rfl⟩
   obtain ⟨xf, hxf⟩ : ∃ xf, xf = Fil.fore k xa xb xc := ⟨_, rfl⟩
   obtain ⟨y, hy⟩ : ∃ y, y = x + xf := ⟨_, rfl⟩
   have hnx : Fil.undoTo k st (lst row) (lst ahead) (j + 1) = Fil.undoTo k st (lst row) (lst ahead) j ++ [y] := by
    rw [undoTo_succ, hy, hxf, ← hxa, ← hxb, ← hxc, byteI_bk, byteI_nat, ← hx]
    congr 2
    rw [List.getD_eq_getElem?_getD, List.getElem?_eq_getElem (by rw [lst_length]; exact hlt)]
    rfl
   have HNX := Lib.hid (show bytes (Fil.undoTo k st (lst row) (lst ahead) j) ++ [.int .u8 (y.toNat : Int)] = bytes (Fil.undoTo k st (lst row) (lst ahead) (j + 1)) by rw [hnx]; simp [bytes])
   have hjw : IntKind.i64.wrap ((j : Int) - st) = (j : Int) - st := IntWalk.i64_in _ (by omega)
   have hadd : IntKind.u8.wrap ((x.toNat : Int) + xf.toNat) = (y.toNat : Int) := by
    rw [hy, UInt8.toNat_add]
    show ((x.toNat : Int) + xf.toNat) % 256 = _
    omega
   have HXF := Lib.hid hxf
   have HO := Lib.hid hown
   have HB := Lib.hid hbw
   have hBS : Blk (wr.drew.alloc (.cells #[.int .u8 (y.toNat : Int)] 5)) wr.heap.size 5 #[.int .u8 (y.toNat : Int)] := Blk.new wr.drew _ _ rfl
   have hxaj : st ≤ j → ∃ g off, Av = some ⟨g, off, none⟩ ∧ wr.cell? ⟨g, off + (j - st), none⟩ = some (.int .u8 xa.toNat) := by
    intro h
    obtain ⟨g, off, rfl, _⟩ := hown.addr (by omega)
    refine ⟨g, off, rfl, ?_⟩
    obtain ⟨c1, _⟩ := hown.cellAt (j - st) (by omega)
    rw [c1, bytes_at, hxa]
    unfold Fil.bk
    rw [if_neg (by omega), List.getElem?_eq_getElem (by rw [Fil.undoTo_length]; omega), List.getD_eq_getElem?_getD, List.getElem?_eq_getElem (by rw [Fil.undoTo_length]; omega)]
    rfl
   have hxa0 : j < st → xa = 0 := by intro h; rw [hxa]; unfold Fil.bk; rw [if_pos h]
   clear hnx hxa hxf hy hown hbw hcv
   go_upto_if 32 with (fail)
   go_cut [13] from 33 to 38 (fun s wx => s = .int .u8 xa.toNat ∧ wr = wx)
   case first =>
    by_cases h1 : j < st
    ·have h0 := hxa0 h1
     subst h0
     have h1i : (j : Int) < st := by omega
     clear h1 hxa0 hxaj
     go_wp2_with fail
     go_meet
     case rel => exact ⟨rfl, rfl⟩
    ·obtain ⟨g, off, rfl, hc⟩ := hxaj (by omega)
     obtain ⟨jj, hjj⟩ : ∃ jj : Nat, jj = j - st := ⟨_, rfl⟩
     rw [← hjj] at hc
     have h1i : (st : Int) ≤ j := by omega
     have hji : (j : Int) - st = (jj : Nat) := by omega
     have hjl : (jj : Int) < j := by omega
     have hjw2 : IntKind.i64.wrap (jj : Int) = jj := IntWalk.i64_in _ (by omega)
     clear h1 hxa0 hxaj hjj hjw
     go_wp2_with fail
     go_meet
     case rel => exact ⟨rfl, rfl⟩
   case rest =>
    obtain ⟨rfl, rfl⟩ := hcut
    clear hxa0 hxaj
    go_wp2_with fail
    refine wp_region_held_drew (S := (fun _ => True)) (by kernel_rfl) ?_ (fun hHeld => ?_)
    ·trivial
    refine opT 0 rfl ?_; refine opT 1 rfl ?_; refine opT 2 rfl ?_; refine opT 3 rfl ?_; refine opT 4 rfl ?_; refine opT 5 rfl ?_; refine opT 6 rfl ?_; refine opT 7 rfl ?_; refine opT 9 rfl ?_; refine opT 10 rfl ?_; refine opT 11 rfl ?_; refine opT 12 rfl ?_
    refine opD 8 rfl (fun K hK => ?_)
    go_simp
    (go_at_call 123; refine (fat_any ahead (j : Int) _).mono ?_; rintro e wq ⟨rfl, rfl⟩; rw [hxb])
    refine hK.out _ _ ?_ (fun hHeld => ?_)
    ·trivial
    clear hK K
    (try simp only [Act.put, nz1, nz2, nz3, nz4, nz5, nz6])
    refine opD 13 rfl (fun K hK => ?_)
    go_simp
    (go_at_call 123; refine (fat_any ahead ((j : Int) - st) _).mono ?_; rintro e wq ⟨rfl, rfl⟩; rw [hxc])
    refine hK.out _ _ ?_ (fun hHeld => ?_)
    ·trivial
    clear hK K
    (try simp only [Act.put, nz1, nz2, nz3, nz4, nz5, nz6])
    refine opD 14 rfl (fun K hK => ?_)
    go_simp
    (go_at_call 122; refine (foretell_any k hk xa xb xc _).mono ?_; rintro e wq ⟨rfl, rfl⟩; rw [← HXF.out])
    refine hK.out _ _ ?_ (fun hHeld => ?_)
    ·trivial
    clear hK K
    (try simp only [Act.put, nz1, nz2, nz3, nz4, nz5, nz6])
    refine opT 15 rfl ?_
    refine opD 16 rfl (fun K hK => ?_)
    go_simp
    refine hK.out _ _ ?_ (fun hHeld => ?_)
    ·trivial
    clear hK K
    (try simp only [Act.put, nz1, nz2, nz3, nz4, nz5, nz6])
    refine opD 17 rfl (fun K hK => ?_)
    (refine step_append_Own _ rfl (.tmp 39) (.tmp 55) 102 102 rfl w.heap.size 5 i0 (.int .u8 0) 1 1 Tryz.underlying102 hi hz0 hz1 hz2 rfl (by decide) (.slice Av j cv) j (bytes (Fil.undoTo k st (lst row) (lst ahead) j)) rfl (HO.out.drew.alloc _) (bytes_one _) 1 [.int .u8 (y.toNat : Int)] (Src.blk Tryz.underlying102 hBS rfl (by intro u hu; cases List.mem_singleton.1 hu; rfl)) (by unfold maxLen; omega) (by omega) (by have := HB.out.size; first | omega | (simp; omega)) ?_; intro vT wT hownT hgT hatT; obtain ⟨A1, c1, rfl, hc1, _⟩ := hownT.form)
    refine hK.out _ _ ?_ (fun hHeld => ?_)
    ·trivial
    clear hK K
    (try simp only [Act.put, nz1, nz2, nz3, nz4, nz5, nz6])
    refine opT 18 rfl ?_
    refine wpAnyH_done (by kernel_rfl) ?_ _
    rw [HNX.out] at hownT
    have hBT := Below.grown ((HB.out.alloc HB.out.size (.cells #[.int .u8 (y.toNat : Int)] 5)).drew) hgT (by have := HB.out.size; simp; omega) (fun g hg => (HO.out.lt g hg).1)
    clear hgT hatT hBS
    go_wp2_with fail
    go_roundw
    case rel => exact ⟨j + 1, hlt, by go_num, hownT, hBT⟩
    case measure => simp [intOf]; omega
  ·have hje : j = row.size := by omega
   subst hje
   have hcv2 := conv_reads wr Av row.size cv _ _ hown.reads.2
   have hq : Fil.undoTo k st (lst row) (lst ahead) row.size = R := by rw [HR.out]; rfl
   rw [hq] at hcv2
   clear hown hcv hlt hj
   go_wp2_with fail
   go_ret2
   exact ⟨_, rfl, rfl, hbw⟩
structure FbR (w : World) (wide st n : Nat) (s : ByteArray) (R : Option (List UInt8)) (i : Nat) (out ah : ByteArray) (wr : World) : Prop where
 le : i ≤ n
 sz : ah.size = 0 ∨ ah.size = wide
 eq : (Fil.fback wide st (n - i) ((lst s).drop (i * (wide + 1))) (lst ah)).map (lst out ++ ·) = R
 ol : out.size = i * wide
 bel : Below w.heap.size w wr
theorem row_in (n i W : Nat) (h : i < n) : i * W + W ≤ n * W := by
 have := Nat.mul_le_mul_right W (show i + 1 ≤ n from h)
 rw [Nat.add_mul, Nat.one_mul] at this
 exact this
set_option maxRecDepth 100000 in
set_option maxHeartbeats 4000000 in
theorem fback_any (wide st n : Nat) (s : ByteArray) (E : Nat → Addr) (w : World) (hE : Er4 w E) (h1 : 1 ≤ wide ∧ wide ≤ 2000) (hs : 1 ≤ st ∧ st ≤ 8) (hz : s.size ≤ 300000) (hn : s.size = n * (wide + 1)) :
  Calls Tryz.prog 57 #[.string s, .int .i64 wide, .int .i64 st] w fun e w' => Below w.heap.size w w' ∧ match Fil.fback wide st n (lst s) [] with
   | none => ∃ ty u, e = .returned (.tuple #[.string ⟨#[]⟩, .iface ty u])
   | some t => ∃ z : ByteArray, e = .returned (.tuple #[.string z, .nilIface]) ∧ lst z = t := by
 obtain ⟨R, hR⟩ : ∃ R, R = Fil.fback wide st n (lst s) [] := ⟨_, rfl⟩
 rw [← hR]
 have HF0 := Lib.hid (show FbR w wide st n s R 0 ⟨#[]⟩ ⟨#[]⟩ w from ⟨Nat.zero_le _, .inl rfl, by rw [hR, Nat.zero_mul, List.drop_zero, Nat.sub_zero]; show (Fil.fback wide st n (lst s) []).map (fun x => [] ++ x) = _; simp, by rw [Nat.zero_mul]; rfl, Below.refl _ _⟩)
 have HW := Lib.hid (show s.size % (wide + 1) = 0 by rw [hn, Nat.mul_mod_left])
 have HE := Lib.hid hE
 obtain ⟨W1, hW1⟩ : ∃ W1, W1 = wide + 1 := ⟨_, rfl⟩
 have hW1i : (wide : Int) + 1 = (W1 : Nat) := by omega
 rw [← hW1] at hn
 have HN := Lib.hid hn
 have HW1 := Lib.hid hW1
 have hnl : n ≤ 300000 := by
  have : n * 1 ≤ n * W1 := Nat.mul_le_mul_left n (by omega)
  omega
 clear hR hn hE hW1
 go_enter Tryz.func57, Tryz.ntmps57
 go_wp2_with fail
 refine (fwhole_yes wide 1 st s w (by omega) hs (by omega) hz HW.out).mono ?_
 rintro e w ⟨rfl, rfl⟩
 go_wp2_with fail
 go_loopw [9, 10, 11] (fun ov av iv wr => ∃ (i : Nat) (out ah : ByteArray), ov = .string out ∧ av = .string ah ∧ iv = .int .i64 i ∧ FbR w wide st n s R i out ah wr) (fun _ _ iv _ => n - (intOf iv).toNat)
 case atStart => exact ⟨0, ⟨#[]⟩, ⟨#[]⟩, rfl, rfl, rfl, HF0.out⟩
 case round =>
  clear HF0
  obtain ⟨i, out, ah, rfl, rfl, rfl, F⟩ := hrel
  have hile := F.le
  obtain ⟨P, hP⟩ : ∃ P : Nat, P = i * W1 := ⟨_, rfl⟩
  have hPi : (i : Int) * (W1 : Int) = (P : Nat) := by rw [hP, Int.natCast_mul]
  have hPl : P ≤ n * W1 := by rw [hP]; exact Nat.mul_le_mul_right _ hile
  have hPw : IntKind.i64.wrap (P : Int) = P := IntWalk.i64_in _ (by have := HN.out; omega)
  have HP := Lib.hid hP
  have HF := Lib.hid F
  clear hP F
  by_cases hlt : i < n
  ·have hrow := row_in n i W1 hlt
   obtain ⟨Q, hQ⟩ : ∃ Q : Nat, Q = P + W1 := ⟨_, rfl⟩
   have hQl : Q ≤ s.size := by rw [hQ, HP.out]; have := HN.out; omega
   have hQ2 : ((i : Int) + 1) * (W1 : Int) = (Q : Nat) := by rw [hQ, Int.add_mul, Int.one_mul, hPi]; omega
   have hQw : IntKind.i64.wrap (Q : Int) = Q := IntWalk.i64_in _ (by omega)
   have hPs : (P : Int) < s.size := by have := HW1.out; omega
   have hPQ : (P : Int) ≤ Q := by omega
   have hQs : (Q : Int) ≤ s.size := by omega
   have hP0 : (0 : Int) ≤ P := by omega
   obtain ⟨rr, hrr⟩ : ∃ rr, rr = s.extract P Q := ⟨_, rfl⟩
   have hrl : lst rr = ((lst s).drop (i * (wide + 1))).take (wide + 1) := by rw [hrr, lst_extract, hQ, Nat.add_sub_cancel_left, HP.out, HW1.out]
   have hrz : rr.size = wide + 1 := by rw [← lst_length, hrl, List.length_take, List.length_drop, lst_length, ← HW1.out, ← HP.out]; omega
   obtain ⟨rx, hrx⟩ : ∃ rx, rx = rr.extract 1 rr.size := ⟨_, rfl⟩
   have hrxl : lst rx = (((lst s).drop (i * (wide + 1))).drop 1).take wide := by
    rw [hrx, lst_extract, hrl, hrz, List.drop_take, Nat.add_sub_cancel, List.take_take, Nat.min_self]
   have hrs0 : rx.size = wide := by rw [← lst_length, hrxl, List.length_take, List.length_drop, List.length_drop, lst_length, ← HW1.out, ← HP.out]; have := HW1.out; omega
   have h0 : 0 < rr.size := by omega
   obtain ⟨kb, hkb⟩ : ∃ kb : UInt8, rr[0] = kb := ⟨_, rfl⟩
   have hkg : ((lst s).drop (i * (wide + 1))).getD 0 0 = kb := by
    have e : (lst rr)[0]? = some kb := by rw [List.getElem?_eq_getElem (by rw [lst_length]; exact h0)]; exact congrArg some hkb
    rw [hrl, List.getElem?_take_of_lt (by omega)] at e
    rw [List.getD_eq_getElem?_getD, e]
    rfl
   have hah : ah.size = 0 ∨ ah.size = rx.size := by rw [hrs0]; exact HF.out.sz
   have hrs : rx.size ≤ 300000 := by omega
   have heq := HF.out.eq
   rw [show n - i = (n - (i + 1)) + 1 by omega, Fil.fback, hkg, ← hrxl, List.drop_drop] at heq
   have hi1 : i * (wide + 1) + (wide + 1) = (i + 1) * (wide + 1) := by rw [Nat.add_mul, Nat.one_mul]
   rw [hi1] at heq
   have HEQ := Lib.hid heq
   have HRX := Lib.hid hrx
   have HRR := Lib.hid hrr
   have hE2 : Er4 wr.drew E := (HE.out.below HF.out.bel).below (Below.here wr)
   have hr1 : (1 : Int) ≤ rr.size := by omega
   have h0i : (0 : Int) < rr.size := by omega
   have HRS0 := Lib.hid hrs0
   have hkw : IntKind.i64.wrap (kb.toNat : Int) = kb.toNat := IntWalk.i64_in _ (by have := kb.toNat_lt; omega)
   clear heq hrx hrr hrl hrxl hkg hi1 hrow hQ hPl hrs0 hrz
   go_wp2_with fail
   rw [← HRR.out]
   by_cases hk4 : 4 < kb.toNat
   ·have hRn : R = none := by rw [← HEQ.out, if_pos hk4]; rfl
    subst hRn
    have hb1 := HF.out.bel
    have dT := (HE.out.below hb1).text
    refine wp_region_held_drew (S := (fun _ => True)) (by kernel_rfl) ?_ (fun hHeld => ?_)
    ·trivial
    refine opT 0 rfl ?_; refine opT 1 rfl ?_; refine opT 2 rfl ?_; refine opT 3 rfl ?_; refine opT 4 rfl ?_; refine opT 5 rfl ?_; refine opT 6 rfl ?_
    refine opD 7 rfl (fun K hK => ?_)
    go_simp
    (go_at_call 84; rw [← HRX.out]; refine (fundo_no kb.toNat st rx ah E _ hE2 hk4).mono ?_; rintro e w2 ⟨rfl, q2, rfl⟩)
    refine hK.out _ _ ?_ (fun hHeld => ?_)
    ·trivial
    clear hK K
    (try simp only [Act.put, nz1, nz2, nz3, nz4, nz5, nz6])
    refine opT 8 rfl ?_; refine opT 9 rfl ?_; refine opT 10 rfl ?_; refine opT 11 rfl ?_; refine opT 12 rfl ?_
    refine wpAnyH_done (by kernel_rfl) ?_ _
    have hb2 : Below w.heap.size w (wr.drewN (1 + q2)) := below_drewN hb1 _
    clear hE2 HEQ hb1
    unfold errV
    go_wp2_with fail
    go_region
    all_goals
     go_wp2
     go_ret2
     refine ⟨?_, _, _, rfl⟩
     first | exact (hb2.alloc hb2.size _).drew | exact (hb2.drew).alloc hb2.size _
   ·replace hk4 : kb.toNat ≤ 4 := by omega
    have heq := HEQ.out
    rw [if_neg (by omega)] at heq
    have HEQ2 := Lib.hid heq
    have hb1 := HF.out.bel
    clear heq hE2 HEQ
    refine wp_region_held_drew (S := (fun _ => True)) (by kernel_rfl) ?_ (fun hHeld => ?_)
    ·trivial
    refine opT 0 rfl ?_; refine opT 1 rfl ?_; refine opT 2 rfl ?_; refine opT 3 rfl ?_; refine opT 4 rfl ?_; refine opT 5 rfl ?_; refine opT 6 rfl ?_
    refine opD 7 rfl (fun K hK => ?_)
    go_simp
    (go_at_call 84; rw [← HRX.out]; refine (fundo_any kb.toNat st rx ah _ hk4 hs hrs hah).mono ?_; rintro e w2 ⟨z2, rfl, hz2, hb2⟩)
    refine hK.out _ _ ?_ (fun hHeld => ?_)
    ·trivial
    clear hK K
    (try simp only [Act.put, nz1, nz2, nz3, nz4, nz5, nz6])
    refine opT 8 rfl ?_; refine opT 9 rfl ?_; refine opT 10 rfl ?_; refine opT 11 rfl ?_; refine opT 12 rfl ?_
    refine wpAnyH_done (by kernel_rfl) ?_ _
    have hz2l : z2.size = wide := by rw [← lst_length, hz2, Fil.undo_length, lst_length, HRS0.out]
    have hol := HF.out.ol
    have hiw : i * wide ≤ i * W1 := Nat.mul_le_mul_left i (by have := HW1.out; omega)
    have hos : out.size + z2.size ≤ 700000 := by have := HP.out; omega
    have hcc : (9223372036854775807 < out.size + z2.size) = False := eq_false (by omega)
    have HN2 := Lib.hid (show FbR w wide st n s R (i + 1) (out ++ z2) z2 w2 from
     ⟨hlt, .inr hz2l, by
      rw [← HEQ2.out, lst_append, hz2, Option.map_map]
      congr 1
      funext x
      simp, by rw [← lst_length, lst_append, List.length_append, lst_length, lst_length, hol, hz2l, Nat.add_mul, Nat.one_mul], hb1.trans (Below.trans (Below.here wr) hb2 |>.mono hb1.size)⟩)
    clear HEQ2 hz2 hb2 hb1 hol hiw
    go_wp2_with fail
    go_roundw
    case rel => exact ⟨i + 1, out ++ z2, z2, rfl, rfl, by go_num, HN2.out⟩
    case measure => simp [intOf]; omega
  ·have hin : i = n := by omega
   subst hin
   have heq := HF.out.eq
   rw [Nat.sub_self, Fil.fback] at heq
   have hRn : R = some (lst out) := by rw [← heq]; simp
   subst hRn
   have hPs : (s.size : Int) ≤ P := by have := HN.out; have := HP.out; omega
   have hb1 := HF.out.bel
   clear heq
   go_wp2_with fail
   go_ret2
   exact ⟨hb1, out, rfl, rfl⟩
end Go.Proofs.YtkegkelaffohjaaGreatDoor
