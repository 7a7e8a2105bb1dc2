/- Unp, UnTile, Unpack, LTilesRead: put together. -/
import Derived.Test.YthohmpjoeffckaaGreatDoorBld
import Derived.Deep.RegionLaw
import Derived.Test.YthohmpjoeffckaaGreatDoorInflate
import Derived.Test.YthohmpjoeffckaaGreatDoorGridOf
import Derived.Test.YthohmpjoeffckaaGreatDoorPackG
import Derived.Test.YthohmpjoeffckaaGreatDoorKCTilesRead1
import Derived.Test.YthohmpjoeffckaaGreatDoorCoded
/- tiles.take, tiles.pixels: the walks. Printed by mk.py. -/
namespace Go.Proofs.YthohmpjoeffckaaGreatDoor
open Go Go.RowKit

set_option maxRecDepth 100000 in
theorem ttake_yes (sb n : Nat) (t : ByteArray) (w : World) (hb : Blk w sb 9 #[.string t]) (hn : n ≤ t.size) :
    Calls Tryz.prog 39 #[.pointer (some ⟨sb, 0, none⟩), .int .i64 n] w fun e w' => e = .returned (.tuple #[.string (t.extract 0 n), .bool true]) ∧ Blk w' sb 9 #[.string (t.extract n t.size)] ∧ Keeps (fun x => x = sb) w w' := by
  have d0 : w.cell? ⟨sb, 0, none⟩ = some (.string t) := by rw [hb.cell]; rfl
  have f0 := hb.free 0
  have hni : (n : Int) ≤ t.size := by omega
  go_enter Tryz.func39, Tryz.ntmps39
  go_wp2_with fail
  go_ret2
  exact ⟨rfl, hb.set_ 0 _, (Keeps.refl (fun x => x = sb) w).setCell (p := ⟨sb, 0, none⟩) (fun _ => rfl) _⟩
set_option maxRecDepth 100000 in
theorem ttake_no (sb n : Nat) (t : ByteArray) (w : World) (hb : Blk w sb 9 #[.string t]) (hn : t.size < n) :
    Calls Tryz.prog 39 #[.pointer (some ⟨sb, 0, none⟩), .int .i64 n] w fun e w' => e = .returned (.tuple #[.string ⟨#[]⟩, .bool false]) ∧ w' = w := by
  have d0 : w.cell? ⟨sb, 0, none⟩ = some (.string t) := by rw [hb.cell]; rfl
  have hni : (t.size : Int) < n := by omega
  go_enter Tryz.func39, Tryz.ntmps39
  go_wp2_with fail
  go_ret2
  exact ⟨rfl, rfl⟩
namespace Pak
theorem pixels_short : ∀ s : List UInt8, s.length < 4 → pixels s = []
  | [], _ => rfl
  | [_], _ => rfl
  | [_, _], _ => rfl
  | [_, _, _], _ => rfl
  | _ :: _ :: _ :: _ :: _, h => by simp at h; omega
theorem drop_four (s : List UInt8) (i : Nat) (h : i + 4 ≤ s.length) : s.drop i = s[i] :: s[i + 1] :: s[i + 2] :: s[i + 3] :: s.drop (i + 4) := by
  rw [List.drop_eq_getElem_cons (by omega), List.drop_eq_getElem_cons (show i + 1 < s.length by omega), List.drop_eq_getElem_cons (show i + 1 + 1 < s.length by omega), List.drop_eq_getElem_cons (show i + 1 + 1 + 1 < s.length by omega)]
end Pak
/-- What pixels' loop keeps. -/
structure PxsR (w : World) (v : Value) (acc : List Px) (wr : World) : Prop where
  own : Own wr w.heap.size 4 v acc.length (pxCells acc)
  bel : Below w.heap.size w wr
set_option maxHeartbeats 4000000 in
set_option maxRecDepth 100000 in
theorem pixels_any (s : ByteArray) (w : World) (hs : s.size ≤ 300000) :
    Calls Tryz.prog 40 #[.string s] w fun e w' => ∃ A c, e = .returned (.slice A (Pak.pixels (lst s)).length c) ∧ Own w' w.heap.size 4 (.slice A (Pak.pixels (lst s)).length c) (Pak.pixels (lst s)).length (pxCells (Pak.pixels (lst s))) ∧ Below w.heap.size w w' := by
  obtain ⟨i0, hi, hz0, hz1, hz2⟩ := info_parts pxInfo
  obtain ⟨P, hP⟩ : ∃ P, P = Pak.pixels (lst s) := ⟨_, rfl⟩
  rw [← hP]
  have HP := Lib.hid hP
  clear hP
  go_enter Tryz.func40, Tryz.ntmps40
  go_wp2_with fail
  go_loopw [3, 4] (fun v i wr => ∃ (k : Nat) (acc : List Px), 4 * k ≤ s.size ∧ acc.length = k ∧ i = .int .i64 (4 * k : Nat) ∧ acc ++ Pak.pixels ((lst s).drop (4 * k)) = P ∧ PxsR w v acc wr) (fun _ i _ => s.size - (intOf i).toNat)
  case atStart => exact ⟨0, [], by omega, rfl, rfl, HP.out.symm, ⟨Own.nil _ _ _, Below.refl _ _⟩⟩
  case round =>
    obtain ⟨k, acc, hk, hkl, rfl, hacc, ho, hb⟩ := hrel
    obtain ⟨j, hj⟩ : ∃ j, j = 4 * k := ⟨_, rfl⟩
    rw [← hj] at hk hacc ⊢
    obtain ⟨Av, cv, rfl, hc, _⟩ := ho.form
    have HKL := Lib.hid (And.intro hkl hj)
    have hlen : acc.length ≤ 75000 := by omega
    obtain ⟨M, hM⟩ : ∃ M, M = acc.length := ⟨_, rfl⟩
    rw [← hM] at ho hlen ⊢
    have HM := Lib.hid hM
    clear hkl hj hM
    by_cases hlt : j + 4 ≤ s.size
    · have h4 := Pak.drop_four (lst s) j (by rw [lst_length]; exact hlt)
      rw [h4, Pak.pixels] at hacc
      have h0 : j < s.size := by omega
      obtain ⟨j1, hj1⟩ : ∃ j1, j1 = j + 1 := ⟨_, rfl⟩
      obtain ⟨j2, hj2⟩ : ∃ j2, j2 = j + 2 := ⟨_, rfl⟩
      obtain ⟨j3, hj3⟩ : ∃ j3, j3 = j + 3 := ⟨_, rfl⟩
      have h1 : j1 < s.size := by omega
      have h2 : j2 < s.size := by omega
      have h3 : j3 < s.size := by omega
      have i1 : (j : Int) + 1 = j1 := by omega
      have i2 : (j : Int) + 2 = j2 := by omega
      have i3 : (j : Int) + 3 = j3 := by omega
      have w1 : IntKind.i64.wrap (j1 : Int) = j1 := IntWalk.i64_in _ (by omega)
      have w2 : IntKind.i64.wrap (j2 : Int) = j2 := IntWalk.i64_in _ (by omega)
      have w3 : IntKind.i64.wrap (j3 : Int) = j3 := IntWalk.i64_in _ (by omega)
      obtain ⟨a, ha⟩ : ∃ a : UInt8, s[j] = a := ⟨_, rfl⟩
      obtain ⟨b, hb'⟩ : ∃ b : UInt8, s[j1] = b := ⟨_, rfl⟩
      obtain ⟨c, hc'⟩ : ∃ c : UInt8, s[j2] = c := ⟨_, rfl⟩
      obtain ⟨d, hd'⟩ : ∃ d : UInt8, s[j3] = d := ⟨_, rfl⟩
      have hq : acc ++ (⟨a, b, c, d⟩ :: Pak.pixels ((lst s).drop (j + 4))) = P := by
        subst hj1; subst hj2; subst hj3
        rw [← ha, ← hb', ← hc', ← hd']
        exact hacc
      have hnx : (acc ++ [⟨a, b, c, d⟩]) ++ Pak.pixels ((lst s).drop (j + 4)) = P := by rw [List.append_assoc]; exact hq
      have HNX := Lib.hid hnx
      have hBS := Blk.new wr 47 #[.int .u8 a.toNat, .int .u8 b.toNat, .int .u8 c.toNat, .int .u8 d.toNat] rfl
      have hz := hb.size
      have HB := Lib.hid hb
      have hji : (j : Int) + 4 ≤ s.size := by omega
      have hcs : pxCells acc ++ [.int .u8 a.toNat, .int .u8 b.toNat, .int .u8 c.toNat, .int .u8 d.toNat] = pxCells (acc ++ [⟨a, b, c, d⟩]) := by rw [pxCells_append]; rfl
      have HCS := Lib.hid hcs
      clear h4 hacc hq hnx hb hcs hj1 hj2 hj3
      go_wp2_with fail
      go_region_law
        ((refine step_append_Own _ rfl (.tmp 12) (.tmp 29) 22 22 rfl w.heap.size 47 i0 _ 4 4 Tryz.underlying22 hi hz0 hz1 hz2 rfl (by decide) (.slice Av M cv) M (pxCells acc) rfl ((ho.alloc _).drew) (pxCells_one _) 1 (pxCs ⟨a, b, c, d⟩) (Src.blk Tryz.underlying22 (Blk.drew hBS) rfl (pxCells_one [⟨a, b, c, d⟩])) (by unfold maxLen; omega) (by omega) (by simp; omega) ?_; intro vT wT hownT hgT hatT; obtain ⟨AT, cT, rfl, hcT, _⟩ := hownT.form))
      all_goals
        have hP := HB.out
        have hb9 := ((HB.out.alloc hz (.cells #[.int .u8 a.toNat, .int .u8 b.toNat, .int .u8 c.toNat, .int .u8 d.toNat] 47)).drew).grown hgT (by show w.heap.size ≤ (wr.alloc _).heap.size; simp; omega) fun x hx => (ho.lt x hx).1
        have HB9 := Lib.hid hb9
        have HO9 := Lib.hid hownT
        clear hgT hatT hownT hBS hP hb9
        go_wp2_with fail
        go_roundw
        case rel =>
          refine ⟨k + 1, acc ++ [⟨a, b, c, d⟩], by have := HKL.out; omega, by rw [List.length_append, HKL.out.1]; rfl, by first | (rw [← Nat.mul_succ] ; go_num) | (have := HKL.out.2; go_num) | (congr 1; have := HKL.out.2; omega), ?_, ?_, HB9.out⟩
          · rw [Nat.mul_succ, ← HKL.out.2]
            exact HNX.out
          · rw [← HCS.out, List.length_append, ← HM.out]
            exact HO9.out
        case measure => simp [intOf]; omega
    · have hlt2 : (s.size : Int) < j + 4 := by omega
      have hsh : Pak.pixels ((lst s).drop j) = [] := Pak.pixels_short _ (by rw [List.length_drop, lst_length]; omega)
      rw [hsh, List.append_nil] at hacc
      subst hacc
      have HO := Lib.hid ho
      have HB := Lib.hid hb
      have HML := Lib.hid HM.out
      clear ho hb hlt
      go_wp2_with fail
      go_ret
      rw [HML.out] at HO
      exact ⟨Av, cv, by rw [HML.out]; rfl, HO.out, HB.out⟩
end Go.Proofs.YthohmpjoeffckaaGreatDoor
/- tiles.unpackTile: the walk. Printed by mk.py. -/
namespace Go.Proofs.YthohmpjoeffckaaGreatDoor
open Go Go.RowKit

theorem ttake_is (sb n : Nat) (t : ByteArray) (w : World) (hb : Blk w sb 9 #[.string t]) (hn : n ≤ t.size) :
    Calls Tryz.prog 39 #[.pointer (some ⟨sb, 0, none⟩), .int .i64 n] w fun e w' => ∃ a b : ByteArray, lst a = (lst t).take n ∧ lst b = (lst t).drop n ∧ e = .returned (.tuple #[.string a, .bool true]) ∧ Blk w' sb 9 #[.string b] ∧ Keeps (fun x => x = sb) w w' :=
  (ttake_yes sb n t w hb hn).mono fun e w' h => ⟨t.extract 0 n, t.extract n t.size, by rw [lst_extract, List.drop_zero, Nat.sub_zero], by rw [lst_extract, List.take_of_length_le (by rw [List.length_drop, lst_length]; exact Nat.le_refl _)], h.1, h.2.1, h.2.2⟩
/-- What unpackTile gives. -/
def UtR (w : World) (sb : Nat) (r : Til.R) (R : Option (List Px × List UInt8)) (e : Ending) (w' : World) : Prop :=
  Keeps (fun x => x = sb) w w' ∧ match R with
  | none => e = .returned (.tuple #[.pointer none, .bool false])
  | some q => ∃ (t : TM) (z : ByteArray), e = .returned (.tuple #[.pointer (some ⟨t.b, 0, none⟩), .bool true]) ∧ lst z = q.2 ∧ Blk w' sb 9 #[.string z] ∧ TileIn w' t ∧ Above w.heap.size t ∧ t.l = q.1 ∧ t.w = r.w
namespace Pak
theorem un_short {r : Til.R} {s : List UInt8} (h : s.length < 5) : unTile r s = none := by unfold unTile; rw [if_pos h]
theorem un_zero {r : Til.R} {s : List UInt8} (h : ¬ s.length < 5) (h0 : s.getD 0 0 = 0) : unTile r s = some (Til.small (pixels ((s.drop 1).take 4)), s.drop 5) := by unfold unTile; rw [if_neg h, if_pos h0]
theorem un_less {r : Til.R} {s : List UInt8} {V : Nat} (h : ¬ s.length < 5) (h0 : s.getD 0 0 ≠ 0) (hv : V = Crc.val ((s.drop 1).take 4)) (hl : (s.drop 5).length < V) : unTile r s = none := by unfold unTile; rw [if_neg h, if_neg h0, ← hv, if_pos hl]
theorem un_more {r : Til.R} {s : List UInt8} {V : Nat} (h : ¬ s.length < 5) (h0 : s.getD 0 0 ≠ 0) (hv : V = Crc.val ((s.drop 1).take 4)) (hl : ¬ (s.drop 5).length < V) : unTile r s = (match Inf.inflate ((s.drop 5).take V) (4 * r.w * r.h) with
    | .error _ => none
    | .ok (t, used) => if s.getD 0 0 ≠ 1 ∨ used ≠ V ∨ t.length ≠ 4 * r.w * r.h then none else some (Til.small (pixels t), s.drop (5 + V))) := by unfold unTile; rw [if_neg h, if_neg h0, ← hv, if_neg hl]; rfl
end Pak
theorem one_eq (a : ByteArray) (s : List UInt8) (k : UInt8) (h : lst a = s.take 1) (hs : 0 < s.length) : (a.toList == [k]) = decide (s.getD 0 0 = k) := by
  rw [Lib.toList_data]
  change (lst a == [k]) = _
  match s, hs with
  | x :: r, _ =>
    rw [h, Bool.eq_iff_iff]
    simp
set_option maxHeartbeats 4000000 in
set_option maxRecDepth 100000 in
theorem untile_any (sb : Nat) (s : ByteArray) (r : Til.R) (E : Nat → Addr) (w : World) (hb : Blk w sb 9 #[.string s]) (hs : s.size ≤ 300000) (hE : Er4 w E) (hTb : Tabs w) (hG : 15 ≤ w.heap.size) (hN : 15 ≤ sb) (hw : r.w ≤ 16) (hh : r.h ≤ 16) (hw1 : 1 ≤ r.w) (hh1 : 1 ≤ r.h) :
    Calls Tryz.prog 27 #[.pointer (some ⟨sb, 0, none⟩), .agg #[.int .i64 r.x, .int .i64 r.y, .int .i64 r.w, .int .i64 r.h]] w fun e w' => UtR w sb r (Pak.unTile r (lst s)) e w' := by
  obtain ⟨R, hR⟩ : ∃ R, R = Pak.unTile r (lst s) := ⟨_, rfl⟩
  rw [← hR]
  have HR := Lib.hid hR
  clear hR
  obtain ⟨gB, hgB⟩ : ∃ gB, gB = w.heap.size := ⟨_, rfl⟩
  obtain ⟨w1, hww⟩ : ∃ w1, w1 = w.alloc (.cells #[.int .i64 r.x, .int .i64 r.y, .int .i64 r.w, .int .i64 r.h] 52) := ⟨_, rfl⟩
  have BB : Blk w1 gB 52 #[.int .i64 r.x, .int .i64 r.y, .int .i64 r.w, .int .i64 r.h] := by rw [hww]; exact Blk.new _ _ _ hgB
  have hb1 : Blk w1 sb 9 #[.string s] := by rw [hww]; exact hb.alloc _
  have hsl := hb.lt
  have hsB : gB ≠ sb := by omega
  have hz1 : w1.heap.size = w.heap.size + 1 := by rw [hww]; simp
  have K1 : Keeps (fun x => x = sb) w w1 := by rw [hww]; exact (Keeps.refl _ _).alloc _
  have HGB := Lib.hid hgB
  have hM1 : (4 : Int) * (r.w : Int) = ((4 * r.w : Nat) : Int) := by omega
  obtain ⟨M1, hM1e⟩ : ∃ M1, M1 = 4 * r.w := ⟨_, rfl⟩
  rw [← hM1e] at hM1
  obtain ⟨M, hMe⟩ : ∃ M, M = M1 * r.h := ⟨_, rfl⟩
  have hM2 : (M1 : Int) * (r.h : Int) = (M : Nat) := by rw [hMe, Int.natCast_mul]
  have hM1l : M1 ≤ 64 := by omega
  have hMl : M ≤ 1024 := by rw [hMe]; exact Nat.mul_le_mul hM1l hh
  have HME := Lib.hid (show 4 * r.w * r.h = M by rw [hMe, hM1e])
  have hMp : 4 ≤ M := by rw [hMe]; exact Nat.mul_le_mul (show 4 ≤ M1 by omega) hh1
  have HM4 := Lib.hid (show M = 4 * (r.w * r.h) by rw [hMe, hM1e, Nat.mul_assoc])
  have HE := Lib.hid hE
  have HT := Lib.hid hTb
  go_enter Tryz.func27, Tryz.ntmps27
  go_wp2_with fail
  rw [← hww, ← hgB]
  clear hww hgB hM1e hMe hb hE hTb
  by_cases c0 : s.size < 5
  · have hRn : R = none := by rw [HR.out]; exact Pak.un_short (by rw [lst_length]; exact c0)
    subst hRn
    by_cases c1 : s.size < 1
    · refine (ttake_no sb 1 s w1 hb1 c1).mono ?_
      rintro e w1 ⟨rfl, rfl⟩
      go_wp2_with fail
      refine (ttake_no sb 4 s w1 hb1 (by omega)).mono ?_
      rintro e w1 ⟨rfl, rfl⟩
      go_wp2_with fail
      go_ret2
      exact ⟨K1, rfl⟩
    · refine (ttake_is sb 1 s w1 hb1 (by omega)).mono ?_
      rintro e w2 ⟨a, b, -, hbb, rfl, hb2, k2⟩
      have hbz : b.size = s.size - 1 := by rw [← lst_length, hbb, List.length_drop, lst_length]
      have K2 := Lib.hid (K1.trans k2 (fun _ _ h => h))
      clear hbb k2
      go_wp2_with fail
      refine (ttake_no sb 4 b w2 hb2 (by omega)).mono ?_
      rintro e w2 ⟨rfl, rfl⟩
      go_wp2_with fail
      go_ret2
      exact ⟨K2.out, rfl⟩
  · have hs0 : 0 < (lst s).length := by rw [lst_length]; omega
    have hs5 : ¬ (lst s).length < 5 := by rw [lst_length]; exact c0
    have hsl2 : 5 ≤ s.size := by omega
    clear c0
    refine (ttake_is sb 1 s w1 hb1 (by omega)).mono ?_
    rintro e w2 ⟨a, s1, ha, hs1, rfl, hb2, k2⟩
    have hs1z : s1.size = s.size - 1 := by rw [← lst_length, hs1, List.length_drop, lst_length]
    obtain ⟨b0, hb0⟩ : ∃ b0 : Bool, b0 = decide ((lst s).getD 0 0 = 0) := ⟨_, rfl⟩
    have hk0 : (a.toList == [0]) = b0 := by rw [hb0]; exact one_eq a _ 0 ha hs0
    obtain ⟨b1, hbe1⟩ : ∃ b1 : Bool, b1 = decide ((lst s).getD 0 0 = 1) := ⟨_, rfl⟩
    have hk1 : (a.toList == [1]) = b1 := by rw [hbe1]; exact one_eq a _ 1 ha hs0
    have HB0 := Lib.hid hb0
    have HB1 := Lib.hid hbe1
    have HS1 := Lib.hid hs1
    have K2 := Lib.hid (K1.trans k2 (fun _ _ h => h))
    have BB2 := BB.keeps k2 hsB
    clear hb0 hbe1 ha hs1 k2 K1 BB hb1
    go_wp2_with fail
    refine (ttake_is sb 4 s1 w2 hb2 (by omega)).mono ?_
    rintro e w3 ⟨n, s2, hn, hs2, rfl, hb3, k3⟩
    have hnt : lst n = ((lst s).drop 1).take 4 := by rw [hn, HS1.out]
    have hs2d : lst s2 = (lst s).drop 5 := by rw [hs2, HS1.out, List.drop_drop]
    have hnz : n.size = 4 := by rw [← lst_length, hnt, List.length_take, List.length_drop, lst_length]; omega
    have hs2z : s2.size = s.size - 5 := by rw [← lst_length, hs2d, List.length_drop, lst_length]
    have HNT := Lib.hid hnt
    have HS2 := Lib.hid hs2d
    have K3 := Lib.hid (K2.out.trans k3 (fun _ _ h => h))
    have BB3 := BB2.keeps k3 hsB
    have d2 : w3.cell? ⟨gB, 2, none⟩ = some (.int .i64 r.w) := by rw [BB3.cell]; rfl
    have d3 : w3.cell? ⟨gB, 3, none⟩ = some (.int .i64 r.h) := by rw [BB3.cell]; rfl
    have hlB := BB3.lt
    have hs3l := hb3.lt
    clear hn hs2 hnt hs2d k3 BB2 hb2
    cases b0 with
    | true =>
      have hRn : R = some (Til.small (Pak.pixels (lst n)), (lst s).drop 5) := by rw [HR.out, HNT.out]; exact Pak.un_zero hs5 (of_decide_eq_true HB0.out.symm)
      subst hRn
      have HPL : Hid (0 < (Pak.pixels (lst n)).length ∧ (Pak.pixels (lst n)).length ≤ 1048576) := Lib.hid (by rw [Pak.pixels_length 1 _ (by rw [lst_length]; exact hnz)]; decide)
      go_wp2_with fail
      refine wp_region_held_drew (S := (fun w' => w'.cell? ⟨gB, 2, none⟩ = some (.int .i64 r.w) ∧ w'.cell? ⟨gB, 3, none⟩ = some (.int .i64 r.h))) (by kernel_rfl) ?_ (fun hHeld => ?_)
      · exact ⟨d2, d3⟩
      refine opT 0 rfl ?_; refine opT 1 rfl ?_; refine opT 2 rfl ?_; refine opT 3 rfl ?_; refine opT 4 rfl ?_
      refine opD 5 rfl (fun K hK => ?_)
      go_simp
      (go_at_call 40; refine (pixels_any n _ (by omega)).mono ?_; rintro e w8 ⟨A8, c8, rfl, hO8, hb8⟩)
      refine hK.out _ _ ?_ (fun hHeld => ?_)
      · exact ⟨bcell_ (Below.fromDrew hb8) (by show gB < w3.heap.size; omega) d2, bcell_ (Below.fromDrew hb8) (by show gB < w3.heap.size; omega) d3⟩
      clear hK K
      (try simp only [Act.put, nz1, nz2, nz3, nz4, nz5, nz6])
      refine opD 6 rfl (fun K hK => ?_)
      go_simp
      (go_at_call 32; refine (newTile_any r.w r.h A8 _ c8 (Pak.pixels (lst n)) w8 hO8.reads.2 HPL.out.1 HPL.out.2 hO8.capLe).mono ?_; rintro e w9 ⟨t9, rfl, ht1, htA, htb, htl, hti, hb9⟩)
      refine hK.out _ _ ?_ (fun hHeld => ?_)
      · exact ⟨bcell_ hb9 (by have := hb8.size; show gB < w8.heap.size; have e0 : w3.drew.heap.size = w3.heap.size := rfl; omega) hHeld.1, bcell_ hb9 (by have := hb8.size; show gB < w8.heap.size; have e0 : w3.drew.heap.size = w3.heap.size := rfl; omega) hHeld.2⟩
      clear hK K
      (try simp only [Act.put, nz1, nz2, nz3, nz4, nz5, nz6])
      refine opT 7 rfl ?_; refine opT 8 rfl ?_
      refine wpAnyH_done (by kernel_rfl) ?_ _
      go_wp2_with fail
      go_ret2
      have hb39 : Below w3.heap.size w3 w9 := (Below.fromDrew hb8).trans (hb9.mono (show w3.drew.heap.size ≤ w8.heap.size from hb8.size))
      exact ⟨K3.out.trans (Keeps.of_below (S := fun _ => False) hb39 fun _ h _ => h) (fun _ _ h => h.elim), t9, s2, rfl, HS2.out, hb3.below hb39 hb3.lt, hti, ⟨Nat.le_trans K3.out.size (Nat.le_trans (show w3.drew.heap.size ≤ w8.heap.size from hb8.size) htb), fun b off e => Nat.le_trans K3.out.size (hO8.lt b (by rw [← htA, e]; rfl)).1⟩, htl, ht1⟩
    | false =>
      have h0 : (lst s).getD 0 0 ≠ 0 := of_decide_eq_false HB0.out.symm
      obtain ⟨V, hV⟩ : ∃ V, V = Crc.val (lst n) := ⟨_, rfl⟩
      have hVl : V < 4294967296 := by
        have h1 := val_lt (lst n)
        rw [lst_length, hnz, ← hV] at h1
        exact h1
      have hVw : IntKind.i64.wrap (V : Int) = V := IntWalk.i64_in _ (by omega)
      have HV := Lib.hid (show V = Crc.val (((lst s).drop 1).take 4) by rw [hV, HNT.out])
      go_wp2_with fail
      refine (value_any n w3 (by omega)).mono ?_
      rintro e w3 ⟨rfl, rfl⟩
      rw [← hV]
      clear hV
      go_wp2_with fail
      by_cases cV : s2.size < V
      · have hRn : R = none := by rw [HR.out]; exact Pak.un_less hs5 h0 HV.out (by rw [← HS2.out, lst_length]; exact cV)
        subst hRn
        refine (ttake_no sb V s2 w3 hb3 cV).mono ?_
        rintro e w3 ⟨rfl, rfl⟩
        go_wp2_with fail
        refine (inflate_any ⟨#[]⟩ M E w3 (HE.out.keeps K3.out hN hsl) (HT.out.keeps K3.out hG (fun x h1 h2 => by omega)) (Nat.le_trans hG K3.out.size) (by decide) (by omega)).mono ?_
        rintro e w4 ⟨hb4, he⟩
        have K4 := Lib.hid (K3.out.trans (Keeps.of_below (S := fun _ => False) hb4 fun _ h _ => h) (fun _ _ h => h.elim))
        clear hb4
        cases hx : Inf.inflate (lst ⟨#[]⟩) M with
        | error k =>
          rw [hx] at he
          subst he
          clear hx
          go_wp2_with fail
          go_ret2
          exact ⟨K4.out, rfl⟩
        | ok q =>
          rw [hx] at he
          subst he
          clear hx
          go_wp2_with fail
          go_ret2
          exact ⟨K4.out, rfl⟩
      · have hV2 : V ≤ s2.size := Nat.le_of_not_lt cV
        have hRm := Pak.un_more (r := r) hs5 h0 HV.out (by rw [← HS2.out, lst_length]; exact cV)
        rw [← HR.out, HME.out] at hRm
        have HRM := Lib.hid hRm
        clear hRm cV
        refine (ttake_is sb V s2 w3 hb3 hV2).mono ?_
        rintro e w4 ⟨z, s3, hz, hs3, rfl, hb4, k4⟩
        have hzd : lst z = ((lst s).drop 5).take V := by rw [hz, HS2.out]
        have hzz : z.size = V := by rw [← lst_length, hz, List.length_take, lst_length]; omega
        have hs3d : lst s3 = (lst s).drop (5 + V) := by rw [hs3, HS2.out, List.drop_drop]
        have HZD := Lib.hid hzd
        have HS3 := Lib.hid hs3d
        have K4 := Lib.hid (K3.out.trans k4 (fun _ _ h => h))
        have BB4 := BB3.keeps k4 hsB
        have d2 : w4.cell? ⟨gB, 2, none⟩ = some (.int .i64 r.w) := by rw [BB4.cell]; rfl
        have d3 : w4.cell? ⟨gB, 3, none⟩ = some (.int .i64 r.h) := by rw [BB4.cell]; rfl
        have hl4 := BB4.lt
        clear hz hs3 hzd hs3d k4 BB3 hb3
        go_wp2_with fail
        refine (inflate_any z M E w4 (HE.out.keeps K4.out hN hsl) (HT.out.keeps K4.out hG (fun x h1 h2 => by omega)) (Nat.le_trans hG K4.out.size) (by omega) (by omega)).mono ?_
        rintro e w5 ⟨hb5, he⟩
        have K5 := Lib.hid (K4.out.trans (Keeps.of_below (S := fun _ => False) hb5 fun _ h _ => h) (fun _ _ h => h.elim))
        have d2 : w5.cell? ⟨gB, 2, none⟩ = some (.int .i64 r.w) := bcell_ hb5 hl4 d2
        have d3 : w5.cell? ⟨gB, 3, none⟩ = some (.int .i64 r.h) := bcell_ hb5 hl4 d3
        have hb5s := hb4.below hb5 hb4.lt
        have hl5 : gB < w5.heap.size := Nat.lt_of_lt_of_le hl4 hb5.size
        clear hb5 BB4 hb4
        cases hx : Inf.inflate (lst z) M with
        | error k =>
          rw [hx] at he
          subst he
          have hRn : R = none := by rw [HRM.out, ← HZD.out, hx]
          subst hRn
          clear hx
          unfold errV
          cases b1 with
          | true =>
            go_wp2_with fail
            go_ret2
            exact ⟨K5.out, rfl⟩
          | false =>
            go_wp2_with fail
            go_ret2
            exact ⟨K5.out, rfl⟩
        | ok q =>
          obtain ⟨t, u⟩ := q
          rw [hx] at he
          subst he
          have hRu : R = if (lst s).getD 0 0 ≠ 1 ∨ u ≠ V ∨ t.length ≠ M then none else some (Til.small (Pak.pixels t), (lst s).drop (5 + V)) := by rw [HRM.out, ← HZD.out, hx]
          have HRU := Lib.hid hRu
          clear hx hRu
          cases b1 with
          | false =>
            have hRn : R = none := by rw [HRU.out, if_pos (.inl (of_decide_eq_false HB1.out.symm))]
            subst hRn
            go_wp2_with fail
            go_ret2
            exact ⟨K5.out, rfl⟩
          | true =>
            by_cases cu : u = V
            · by_cases ct : t.length = M
              · obtain ⟨tt, htt⟩ : ∃ tt : ByteArray, tt = ⟨t.toArray⟩ := ⟨_, rfl⟩
                have hRn : R = some (Til.small (Pak.pixels (lst tt)), (lst s).drop (5 + V)) := by rw [htt]; rw [HRU.out, if_neg (by rintro (h | h | h); exact h (of_decide_eq_true HB1.out.symm); exact h cu; exact h ct)]
                subst hRn
                have hts : tt.size = M := by rw [htt]; exact ct
                rw [← htt]
                have HPL : Hid (0 < (Pak.pixels (lst tt)).length ∧ (Pak.pixels (lst tt)).length ≤ 1048576) := Lib.hid (by
                  rw [Pak.pixels_length (r.w * r.h) _ (by rw [lst_length, hts]; exact HM4.out)]
                  have := HM4.out
                  omega)
                subst cu
                clear htt ct
                go_wp2_with fail
                refine wp_region_held_drew (S := (fun w' => w'.cell? ⟨gB, 2, none⟩ = some (.int .i64 r.w) ∧ w'.cell? ⟨gB, 3, none⟩ = some (.int .i64 r.h))) (by kernel_rfl) ?_ (fun hHeld => ?_)
                · exact ⟨d2, d3⟩
                refine opT 0 rfl ?_; refine opT 1 rfl ?_; refine opT 2 rfl ?_; refine opT 3 rfl ?_; refine opT 4 rfl ?_
                refine opD 5 rfl (fun K hK => ?_)
                go_simp
                (go_at_call 40; refine (pixels_any tt _ (by omega)).mono ?_; rintro e w8 ⟨A8, c8, rfl, hO8, hb8⟩)
                refine hK.out _ _ ?_ (fun hHeld => ?_)
                · exact ⟨bcell_ (Below.fromDrew hb8) (by show gB < w5.heap.size; omega) d2, bcell_ (Below.fromDrew hb8) (by show gB < w5.heap.size; omega) d3⟩
                clear hK K
                (try simp only [Act.put, nz1, nz2, nz3, nz4, nz5, nz6])
                refine opD 6 rfl (fun K hK => ?_)
                go_simp
                (go_at_call 32; refine (newTile_any r.w r.h A8 _ c8 (Pak.pixels (lst tt)) w8 hO8.reads.2 HPL.out.1 HPL.out.2 hO8.capLe).mono ?_; rintro e w9 ⟨t9, rfl, ht1, htA, htb, htl, hti, hb9⟩)
                refine hK.out _ _ ?_ (fun hHeld => ?_)
                · exact ⟨bcell_ hb9 (by have := hb8.size; show gB < w8.heap.size; have e0 : w5.drew.heap.size = w5.heap.size := rfl; omega) hHeld.1, bcell_ hb9 (by have := hb8.size; show gB < w8.heap.size; have e0 : w5.drew.heap.size = w5.heap.size := rfl; omega) hHeld.2⟩
                clear hK K
                (try simp only [Act.put, nz1, nz2, nz3, nz4, nz5, nz6])
                refine opT 7 rfl ?_; refine opT 8 rfl ?_
                refine wpAnyH_done (by kernel_rfl) ?_ _
                go_wp2_with fail
                go_ret2
                have hb59 : Below w5.heap.size w5 w9 := (Below.fromDrew hb8).trans (hb9.mono (show w5.drew.heap.size ≤ w8.heap.size from hb8.size))
                exact ⟨K5.out.trans (Keeps.of_below (S := fun _ => False) hb59 fun _ h _ => h) (fun _ _ h => h.elim), t9, s3, rfl, HS3.out, hb5s.below hb59 hb5s.lt, hti, ⟨Nat.le_trans K5.out.size (Nat.le_trans (show w5.drew.heap.size ≤ w8.heap.size from hb8.size) htb), fun b off e => Nat.le_trans K5.out.size (hO8.lt b (by rw [← htA, e]; rfl)).1⟩, htl, ht1⟩
              · have hRn : R = none := by rw [HRU.out, if_pos (.inr (.inr ct))]
                subst hRn
                go_wp2_with fail
                go_ret2
                exact ⟨K5.out, rfl⟩
            · have hRn : R = none := by rw [HRU.out, if_pos (.inr (.inl cu))]
              subst hRn
              go_wp2_with fail
              go_ret2
              exact ⟨K5.out, rfl⟩
end Go.Proofs.YthohmpjoeffckaaGreatDoor
/- tiles.Unpack: the walk. Printed by mk.py. -/
namespace Go.Proofs.YthohmpjoeffckaaGreatDoor
open Go Go.RowKit

namespace Pak
/-- What a tile read is. -/
theorem unTile_is {r : Til.R} {s : List UInt8} {l : List Px} {rest : List UInt8} (h : unTile r s = some (l, rest)) (hw : 1 ≤ r.w ∧ r.w ≤ 16) (hh : 1 ≤ r.h ∧ r.h ≤ 16) : l.length ≤ 256 ∧ rest.length ≤ s.length := by
  have key : ∀ p : List Px, p.length ≤ 256 → (Til.small p).length ≤ 256 := fun p h2 => by
    unfold Til.small
    split
    · rw [List.length_take]; omega
    · exact h2
  by_cases h5 : s.length < 5
  · rw [un_short h5] at h; cases h
  by_cases h0 : s.getD 0 0 = 0
  · rw [un_zero h5 h0] at h
    injection h with h
    injection h with h h2
    rw [← h, ← h2]
    have : (pixels ((s.drop 1).take 4)).length = 1 := pixels_length 1 _ (by rw [List.length_take, List.length_drop]; omega)
    exact ⟨key _ (by omega), by rw [List.length_drop]; omega⟩
  by_cases hl : (s.drop 5).length < Crc.val ((s.drop 1).take 4)
  · rw [un_less h5 h0 rfl hl] at h; cases h
  rw [un_more h5 h0 rfl hl] at h
  cases hx : Inf.inflate ((s.drop 5).take (Crc.val ((s.drop 1).take 4))) (4 * r.w * r.h) with
  | error k => rw [hx] at h; cases h
  | ok q =>
    obtain ⟨t, u⟩ := q
    rw [hx] at h
    simp only at h
    split at h
    · cases h
    · rename_i hq
      injection h with h
      injection h with h h2
      rw [← h, ← h2]
      have ht : t.length = 4 * (r.w * r.h) := by rw [← Nat.mul_assoc]; exact Decidable.byContradiction fun e => hq (.inr (.inr e))
      have hp := pixels_length (r.w * r.h) t ht
      have h2 : r.w * r.h ≤ 16 * 16 := Nat.mul_le_mul hw.2 hh.2
      exact ⟨key _ (by omega), by rw [List.length_drop]; omega⟩
theorem unTiles_no {r : Til.R} {rs : List Til.R} {s : List UInt8} (h : unTile r s = none) : unTiles (r :: rs) s = none := by rw [unTiles, h]
theorem unTiles_yes {r : Til.R} {rs : List Til.R} {s s1 : List UInt8} {t : List Px} (h : unTile r s = some (t, s1)) : unTiles (r :: rs) s = (unTiles rs s1).map fun q => (t :: q.1, q.2) := by
  rw [unTiles, h]
  simp only
  cases unTiles rs s1 <;> rfl
end Pak
theorem TileIn.keeps {w w' : World} {t : TM} {g : Nat} (h : TileIn w t) (k : Keeps (fun x => x = g) w w') (ha : Above (g + 1) t) : TileIn w' t :=
  ⟨h.blk.keeps k (fun e => by have := ha.b; omega), h.px.keepAt k.size fun b off e hb _ => k.block b hb (fun e2 => by have := ha.A b off e; omega)⟩
theorem RcK.keeps {gG g : Nat} {Ar : Option Addr} {N : Nat} {l : List Til.R} {v : Value} {wr w' : World} (h : RcK gG Ar N l v wr) (k : Keeps (fun x => x = g) wr w') (hA : ∀ b off, Ar = some ⟨b, off, none⟩ → g < b) : RcK gG Ar N l v w' :=
  ⟨h.rd.keepAt k.size fun b off e hb _ => k.block b hb (fun e2 => by have := hA b off e; omega), h.nv, h.ng⟩
/-- What stands through Unpack's loop. -/
structure UnL (w : World) (W H gG gs : Nat) (v : Value) (ts : List TM) (z : ByteArray) (wr : World) : Prop where
  bG : Blk wr gG 50 #[.int .i64 W, .int .i64 H, v]
  bS : Blk wr gs 9 #[.string z]
  own : Own wr (gs + 1) 1 v ts.length (tmCells ts)
  ti : ∀ t ∈ ts, TileIn wr t
  ab : ∀ t ∈ ts, Above (gs + 1) t
  off : ∀ t ∈ ts, Off v.ownBlock t
  gg : w.heap.size ≤ gG
  gs : gG < gs
  bel : Below w.heap.size w wr
section
variable {W H gG gs : Nat} {w wr w' : World} {v v' : Value} {ts : List TM} {z z' : ByteArray}
theorem UnL.step (h : UnL w W H gG gs v ts z wr) (hb : Below wr.heap.size wr w') : UnL w W H gG gs v ts z w' :=
  ⟨h.bG.below hb h.bG.lt, h.bS.below hb h.bS.lt, h.own.below hb (Nat.le_refl _), fun t ht => (h.ti t ht).step hb, h.ab, h.off, h.gg, h.gs, h.bel.trans (hb.mono h.bel.size)⟩
theorem UnL.next (h : UnL w W H gG gs v ts z wr) (k : Keeps (fun x => x = gs) wr w') (hb : Blk w' gs 9 #[.string z']) : UnL w W H gG gs v ts z' w' :=
  ⟨h.bG.keeps k (fun e => by have := h.gs; omega), hb, h.own.keeps k (fun b hb e => by have := (h.own.lt b hb).1; omega), fun t ht => (h.ti t ht).keeps k (h.ab t ht), h.ab, h.off, h.gg, h.gs,
    h.bel.trans (k.below (fun x hx => by rw [hx]; have := h.gs; have := h.gg; omega) h.bel.size)⟩
theorem UnL.nG (h : UnL w W H gG gs v ts z wr) : v.ownBlock ≠ some gG := fun e => by have := (h.own.lt _ e).1; have := h.gs; omega
theorem UnL.push {wT : World} {t : TM} {o : Obj} (F : UnL w W H gG gs v ts z wr) (ht : TileIn wr t) (hta : Above (gs + 1) t) (hto : Off v.ownBlock t)
    (ho : Own wT (gs + 1) 1 v' (ts.length + 1) (tmCells ts ++ [tmPtr t])) (hg : (wr.alloc o).grownBy wT v.ownBlock) (hat : v'.ownBlock = v.ownBlock ∨ v'.ownBlock = some (wr.alloc o).heap.size) :
    UnL w W H gG gs v' (ts ++ [t]) z (wT.setCell ⟨gG, 2, none⟩ v') := by
  have F1 := F.step (Below.alloc (Below.refl _ _) (Nat.le_refl _) o)
  have ht1 := ht.step (Below.alloc (Below.refl _ _) (Nat.le_refl _) o)
  have hG := F1.bG.lt
  have hgs := F.gs
  have nv : ∀ g, g < gs + 1 → some g ≠ v.ownBlock := fun g hg' e => by have := (F1.own.lt g e.symm).1; omega
  have n5 : v'.ownBlock ≠ some gG := fun e => by have := (ho.lt _ e).1; omega
  have hall : ∀ s ∈ ts ++ [t], TileIn (wr.alloc o) s ∧ Above (gs + 1) s ∧ Off v.ownBlock s := by
    intro s hs
    rcases List.mem_append.1 hs with hs | hs
    · exact ⟨F1.ti s hs, F.ab s hs, F.off s hs⟩
    · rw [List.mem_singleton.1 hs]
      exact ⟨ht1, hta, hto⟩
  refine ⟨?_, ?_, ?_, fun s hs => ?_, fun s hs => (hall s hs).2.1, fun s hs => ?_, F.gg, F.gs, ?_⟩
  · have := (F1.bG.grown hg (nv _ (by omega))).set_ 2 v'
    simpa using this
  · exact (F1.bS.grown hg (nv _ (by omega))).far (p := ⟨gG, 2, none⟩) (by simp; omega) _
  · rw [List.length_append, tmCells_append]
    exact ho.setCell n5 _
  · exact ((hall s hs).1.grown hg (hall s hs).2.2).set_ ((hall s hs).2.1.off (by simp; omega)) _
  · rcases hat with e | e
    · rw [e]; exact (hall s hs).2.2
    · rw [e]; exact (hall s hs).1.off (Nat.le_refl _)
  · exact (F1.bel.grown hg F1.bel.size (fun g e => by have := (F1.own.lt g e).1; have := F.gg; omega)).setCell (by show w.heap.size ≤ gG; exact F.gg) _
theorem UnL.gd (h : UnL w W H gG gs v ts z wr) : Gd wr gG W H ts := by
  obtain ⟨Av, cv, hv, _, hr⟩ := h.own.form
  subst hv
  exact ⟨⟨Av, cv, h.bG, hr⟩, h.ti⟩
end
/-- What is known of the tiles that are read. -/
structure UnM (W H : Nat) (RT : Option (List (List Px) × List UInt8)) (ts : List TM) (z : ByteArray) (k : Nat) : Prop where
  rt : (Pak.unTiles ((Til.rects W H).drop k) (lst z)).map (fun q => (ts.map (·.l) ++ q.1, q.2)) = RT
  wd : ts.map (·.w) = ((Til.rects W H).take k).map (·.w)
  z : z.size ≤ 300000
  le : ∀ t ∈ ts, t.l.length ≤ 256
/-- What Unpack gives. -/
def UnpR (w : World) (E : Nat → Addr) (R : Except Nat (Nat × Nat × List (List Px))) (e : Ending) (w' : World) : Prop :=
  Below w.heap.size w w' ∧ match R with
  | .error k => e = .returned (.tuple #[.pointer none, errV (E k)])
  | .ok q => ∃ gG ts, e = .returned (.tuple #[.pointer (some ⟨gG, 0, none⟩), .nilIface]) ∧ Gd w' gG q.1 q.2.1 ts ∧ ts.map (·.l) = q.2.2 ∧ ts.map (·.w) = (Til.rects q.1 q.2.1).map (·.w) ∧ (∀ t ∈ ts, t.l.length ≤ 256)
set_option maxHeartbeats 4000000 in
set_option maxRecDepth 100000 in
theorem unpack_any (s : ByteArray) (E : Nat → Addr) (w : World) (hE : ErrsAt w E) (hTb : Tabs w) (hs : s.size ≤ 300000) :
    Calls Tryz.prog 10 #[.string s] w fun e w' => UnpR w E (Pak.unpack (lst s)) e w' := by
  have hG := hTb.size
  obtain ⟨i0, hi, hy0, hy1, hy2⟩ := info_parts tmInfo
  obtain ⟨R, hR⟩ : ∃ R, R = Pak.unpack (lst s) := ⟨_, rfl⟩
  rw [← hR]
  unfold Pak.unpack at hR
  rw [if_neg (show ¬ 300000 < (lst s).length by rw [lst_length]; omega)] at hR
  have HE := Lib.hid hE
  have HT := Lib.hid hTb
  by_cases c12 : s.size < 12
  · rw [if_pos (show (lst s).length < 12 from c12)] at hR
    have dT := hE.text
    subst hR
    have c12i : (s.size : Int) < 12 := by omega
    go_enter Tryz.func10, Tryz.ntmps10
    go_wp2_with fail
    go_quiet (fail)
    go_wp2_with fail
    go_ret2
    exact ⟨below_drewN (Below.refl _ _) _, rfl⟩
  rw [if_neg (show ¬ (lst s).length < 12 from c12)] at hR
  have c12i : (12 : Int) ≤ s.size := by omega
  obtain ⟨n4, hn4⟩ : ∃ n4, n4 = s.size - 4 := ⟨_, rfl⟩
  have hn4i : (s.size : Int) - 4 = (n4 : Nat) := by omega
  have hn8 : 8 ≤ n4 := by omega
  obtain ⟨tB, hB⟩ : ∃ tB, tB = s.extract 0 n4 := ⟨_, rfl⟩
  obtain ⟨tC, hC⟩ : ∃ tC, tC = s.extract n4 s.size := ⟨_, rfl⟩
  have hBl : lst tB = (lst s).take n4 := by rw [hB, lst_extract, List.drop_zero, Nat.sub_zero]
  have hCl : lst tC = (lst s).drop n4 := by rw [hC, lst_extract, List.take_of_length_le (by rw [List.length_drop, lst_length]; exact Nat.le_refl _)]
  have hBz : tB.size = n4 := by rw [← lst_length, hBl, List.length_take, lst_length]; omega
  have hCz : tC.size = 4 := by rw [← lst_length, hCl, List.length_drop, lst_length]; omega
  rw [lst_length, ← hn4, ← hBl, ← hCl] at hR
  obtain ⟨X, hX⟩ : ∃ X, X = Crc.val (lst tC) := ⟨_, rfl⟩
  obtain ⟨Y, hY⟩ : ∃ Y, Y = Crc.crc (lst tB) := ⟨_, rfl⟩
  rw [← hX, ← hY] at hR
  have HR := Lib.hid hR
  have HB := Lib.hid hB
  have HC := Lib.hid hC
  have HBL := Lib.hid hBl
  have HX := Lib.hid hX
  have HY := Lib.hid hY
  have HN4 := Lib.hid hn4
  clear hR hB hC hBl hCl hX hY hE hTb hn4
  go_enter Tryz.func10, Tryz.ntmps10
  go_wp2_with fail
  rw [← HB.out, ← HC.out]
  refine (value_any tC w (by omega)).mono ?_
  rintro e w ⟨rfl, rfl⟩
  rw [← HX.out]
  go_wp2_with fail
  refine (crc_any tB w (by omega)).mono ?_
  rintro e w2 ⟨rfl, hb2⟩
  rw [← HY.out]
  have hE2 := HE.out.below hb2
  have dT := hE2.text
  have dS := hE2.sum
  by_cases cx : X = Y
  case neg =>
    have hRn : R = .error 3 := by rw [HR.out, if_pos cx]
    subst hRn
    have hXY : ((X : Int) == (Y : Int)) = false := by rw [beq_eq_false_iff_ne]; omega
    clear cx dT
    go_wp2_with fail
    go_quiet (fail)
    go_wp2_with fail
    go_ret2
    exact ⟨below_drewN hb2 _, rfl⟩
  case pos =>
  subst cx
  have hR2 := HR.out
  rw [if_neg (by simp)] at hR2
  have HR2 := Lib.hid hR2
  clear hR2 HR dS
  obtain ⟨tE, hEe⟩ : ∃ tE, tE = tB.extract 0 4 := ⟨_, rfl⟩
  obtain ⟨tF, hFe⟩ : ∃ tF, tF = tB.extract 4 8 := ⟨_, rfl⟩
  have hEl : lst tE = (lst s).take 4 := by rw [hEe, lst_extract, List.drop_zero, HBL.out, List.take_take]; congr 1; omega
  have hFl : lst tF = ((lst s).drop 4).take 4 := by rw [hFe, lst_extract, HBL.out, List.drop_take, List.take_take]; congr 1; omega
  have hEz : tE.size = 4 := by rw [← lst_length, hEl, List.length_take, lst_length]; omega
  have hFz : tF.size = 4 := by rw [← lst_length, hFl, List.length_take, List.length_drop, lst_length]; omega
  have HEE := Lib.hid hEe
  have HFE := Lib.hid hFe
  obtain ⟨W, hW⟩ : ∃ W, W = Crc.val (lst tE) := ⟨_, rfl⟩
  obtain ⟨H, hH⟩ : ∃ H, H = Crc.val (lst tF) := ⟨_, rfl⟩
  have hR3 := HR2.out
  rw [← hEl, ← hFl, ← hW, ← hH] at hR3
  have HR3 := Lib.hid hR3
  have HW := Lib.hid hW
  have HH := Lib.hid hH
  have hBz4 : (4 : Int) ≤ n4 := by omega
  have hBz8 : (8 : Int) ≤ n4 := by omega
  clear hR3 HR2 hW hH hEl hFl hEe hFe
  go_wp2_with fail
  refine wp_region_held_drew (S := (fun w9 => w9 = w2.drew)) (by kernel_rfl) ?_ (fun hHeld => ?_)
  · rfl
  refine opT 0 rfl ?_; refine opT 1 rfl ?_; refine opT 3 rfl ?_; refine opT 4 rfl ?_
  refine opD 2 rfl (fun K hK => ?_)
  go_simp
  (go_at_call 26; rw [← HEE.out]; refine (value_any tE _ (by omega)).mono ?_; rintro e wq ⟨rfl, rfl⟩; rw [← HW.out])
  refine hK.out _ _ ?_ (fun hHeld => ?_)
  · rfl
  clear hK K
  (try simp only [Act.put, nz1, nz2, nz3, nz4, nz5, nz6])
  refine opD 5 rfl (fun K hK => ?_)
  go_simp
  (go_at_call 26; rw [← HFE.out]; refine (value_any tF _ (by omega)).mono ?_; rintro e wq ⟨rfl, rfl⟩; rw [← HH.out])
  refine hK.out _ _ ?_ (fun hHeld => ?_)
  · rfl
  clear hK K
  (try simp only [Act.put, nz1, nz2, nz3, nz4, nz5, nz6])
  refine opT 6 rfl ?_; refine opT 7 rfl ?_
  refine wpAnyH_done (by kernel_rfl) ?_ _
  obtain ⟨w3, hw3⟩ : ∃ w3, w3 = w2.drew := ⟨_, rfl⟩
  have dT3 : w3.cell? ⟨2, 0, none⟩ = some (.iface 230 (.pointer (some (E 0)))) := by rw [hw3]; exact dT
  have hb3 : Below w.heap.size w w3 := by rw [hw3]; exact hb2.drew
  have hE3 : ErrsAt w3 E := HE.out.below hb3
  rw [← hw3]
  clear dT hb2 hE2 hw3
  by_cases d1 : W < 1
  · have d1i : (W : Int) < 1 := by omega
    have hRn : R = .error 0 := by rw [HR3.out, if_pos (.inl d1)]
    subst hRn
    go_wp2_with fail
    go_quiet (fail)
    go_wp2_with fail
    go_ret2
    exact ⟨below_drewN hb3 _, rfl⟩
  have d1i : (1 : Int) ≤ W := by omega
  by_cases d2 : 256 < W
  · have d2i : (256 : Int) < W := by omega
    have hRn : R = .error 0 := by rw [HR3.out, if_pos (.inr (.inl d2))]
    subst hRn
    go_wp2_with fail
    go_quiet (fail)
    go_wp2_with fail
    go_ret2
    exact ⟨below_drewN hb3 _, rfl⟩
  have d2i : (W : Int) ≤ 256 := by omega
  by_cases d3 : H < 1
  · have d3i : (H : Int) < 1 := by omega
    have hRn : R = .error 0 := by rw [HR3.out, if_pos (.inr (.inr (.inl d3)))]
    subst hRn
    go_wp2_with fail
    go_quiet (fail)
    go_wp2_with fail
    go_ret2
    exact ⟨below_drewN hb3 _, rfl⟩
  have d3i : (1 : Int) ≤ H := by omega
  by_cases d4 : 256 < H
  · have d4i : (256 : Int) < H := by omega
    have hRn : R = .error 0 := by rw [HR3.out, if_pos (.inr (.inr (.inr d4)))]
    subst hRn
    go_wp2_with fail
    go_quiet (fail)
    go_wp2_with fail
    go_ret2
    exact ⟨below_drewN hb3 _, rfl⟩
  have d4i : (H : Int) ≤ 256 := by omega
  have hW1 : 1 ≤ W ∧ W ≤ 256 := by omega
  have hH1 : 1 ≤ H ∧ H ≤ 256 := by omega
  have hR4 := HR3.out
  rw [if_neg (by omega)] at hR4
  have HR4 := Lib.hid hR4
  clear hR4 HR3 d1 d2 d3 d4 HW HH HEE HFE hEz hFz HX HY hCz HC
  have hWw : IntKind.i64.wrap (W : Int) = W := IntWalk.i64_in _ (by omega)
  have hHw : IntKind.i64.wrap (H : Int) = H := IntWalk.i64_in _ (by omega)
  obtain ⟨z0, hz0⟩ : ∃ z0, z0 = tB.extract 8 n4 := ⟨_, rfl⟩
  have hz0l : lst z0 = (lst tB).drop 8 := by rw [hz0, ← hBz, lst_extract, List.take_of_length_le (by rw [List.length_drop, lst_length]; exact Nat.le_refl _)]
  have hz0z : z0.size ≤ 300000 := by rw [← lst_length, hz0l, List.length_drop, lst_length]; omega
  rw [← hz0l] at HR4
  obtain ⟨gG, hgG⟩ : ∃ gG, gG = w3.heap.size := ⟨_, rfl⟩
  obtain ⟨gs, hgs⟩ : ∃ gs, gs = gG + 1 := ⟨_, rfl⟩
  obtain ⟨w4, hw4⟩ : ∃ w4, w4 = (w3.alloc (.cells #[.int .i64 W, .int .i64 H, .slice none 0 0] 50)).alloc (.cells #[.string z0] 9) := ⟨_, rfl⟩
  have F0 : UnL w W H gG gs (.slice none 0 0) [] z0 w4 := by
    rw [hw4, hgs, hgG]
    exact ⟨(Blk.new _ _ _ rfl).alloc _, Blk.new _ _ _ (by simp), Own.nil _ _ _, (fun t h => by cases h), (fun t h => by cases h), (fun t h => by cases h), hb3.size, by omega, (hb3.alloc hb3.size _).alloc (by have := hb3.size; simp; omega) _⟩
  have HZ0 := Lib.hid hz0
  have HGG := Lib.hid hgG
  have HGS := Lib.hid hgs
  have HW4 := Lib.hid hw4
  have HF0 := Lib.hid F0
  clear hz0 hz0l hgG hgs hw4 F0
  have gg0 : w4.cell? ⟨gG, 0, none⟩ = some (.int .i64 W) := by rw [HF0.out.bG.cell]; rfl
  have gg1 : w4.cell? ⟨gG, 1, none⟩ = some (.int .i64 H) := by rw [HF0.out.bG.cell]; rfl
  have hGl := HF0.out.bG.lt
  go_upto_region 13 with (fail)
  rw [← HZ0.out, ← HW4.out, ← HGG.out, ← HGS.out]
  refine wp_region_held_drew (S := (fun w9 => w9.cell? ⟨gG, 0, none⟩ = some (.int .i64 W) ∧ w9.cell? ⟨gG, 1, none⟩ = some (.int .i64 H))) (by kernel_rfl) ?_ (fun hHeld => ?_)
  · exact ⟨gg0, gg1⟩
  refine opT 0 rfl ?_; refine opT 1 rfl ?_; refine opT 2 rfl ?_; refine opT 3 rfl ?_; refine opT 4 rfl ?_; refine opT 5 rfl ?_; refine opT 6 rfl ?_; refine opT 7 rfl ?_; refine opT 10 rfl ?_
  refine opD 8 rfl (fun K hK => ?_)
  go_simp
  (go_at_call 18; refine (rects_any W H w4.drew hW1.2 hH1.2).mono ?_; rintro e w5 ⟨Ar, cr, rfl, hO, hb5⟩)
  refine hK.out _ _ ?_ (fun hHeld => ?_)
  · exact ⟨bcell_ hb5 hGl hHeld.1, bcell_ hb5 hGl hHeld.2⟩
  clear hK K
  (try simp only [Act.put, nz1, nz2, nz3, nz4, nz5, nz6])
  refine opT 9 rfl ?_
  refine wpAnyH_done (by kernel_rfl) ?_ _
  obtain ⟨N, hN⟩ : ∃ N, (Til.rects W H).length = N := ⟨_, rfl⟩
  have hN1 : N ≤ 256 := by
    have h1 : Til.cols W ≤ 16 := by unfold Til.cols; omega
    have h2 : Til.cols H ≤ 16 := by unfold Til.cols; omega
    have := Nat.mul_le_mul h2 h1
    have h3 := Til.rects_length W H
    omega
  have HNN := Lib.hid hN
  have F5 := HF0.out.step (Below.fromDrew hb5)
  have HAR := Lib.hid (show ∀ b off, Ar = some ⟨b, off, none⟩ → gs < b from fun b off e => by have := (hO.lt b (by rw [e]; rfl)).1; have h2 := HF0.out.bS.lt; have h3 : w4.drew.heap.size = w4.heap.size := rfl; omega)
  have R5 : RcK gG Ar N (Til.rects W H) (.slice none 0 0) w5 := ⟨by have h := hO.reads.2; rw [hN] at h; exact h, (fun b off e _ e2 => by simp [Value.ownBlock] at e2), fun b off e => Nat.lt_trans HF0.out.gs (HAR.out b off e)⟩
  rw [hN]
  have hcr := hO.capLe
  clear HF0 hO hb5 hN gg0 gg1 hGl
  obtain ⟨RT, hRT⟩ : ∃ RT, RT = Pak.unTiles (Til.rects W H) (lst z0) := ⟨_, rfl⟩
  rw [← hRT] at HR4
  have HRT := Lib.hid hRT
  clear hRT
  go_wp2_with fail
  go_loopw [75] (fun i wr => ∃ (k : Nat) (v : Value) (ts : List TM) (z : ByteArray), k ≤ N ∧ i = .int .i64 k ∧ UnL w W H gG gs v ts z wr ∧ RcK gG Ar N (Til.rects W H) v wr ∧ UnM W H RT ts z k) (fun i _ => N - (intOf i).toNat)
  case atStart => exact ⟨0, _, [], z0, Nat.zero_le _, rfl, F5, R5, ⟨by rw [List.drop_zero, ← HRT.out]; cases RT <;> rfl, rfl, hz0z, (fun t h => by cases h)⟩⟩
  case round =>
    clear F5 R5 hz0z
    obtain ⟨k, v, ts, z, hk, rfl, F, RK, hM⟩ := hrel
    have HM := Lib.hid hM
    have hzz := hM.z
    have htl : ts.length = k := by
      have := congrArg List.length hM.wd
      rw [List.length_map, List.length_map, List.length_take, HNN.out] at this
      omega
    have hE6 : ErrsAt wr E := HE.out.below F.bel
    have hT6 := HT.out.below F.bel hG
    have HTL := Lib.hid htl
    clear hM
    by_cases hlt : k < N
    · obtain ⟨br, orr, rfl, hbrr⟩ := RK.rd.addr (by omega)
      have hkl : k < (Til.rects W H).length := by rw [HNN.out]; exact hlt
      obtain ⟨x0, x1, x2, x3⟩ := RK.rd.rc k hkl
      have hrin := Til.rects_in (List.getElem_mem hkl)
      have HDK := Lib.hid (List.drop_eq_getElem_cons hkl)
      have HTK := Lib.hid (List.take_succ_eq_append_getElem hkl)
      obtain ⟨r, hr⟩ : ∃ r, (Til.rects W H)[k] = r := ⟨_, rfl⟩
      rw [hr] at x0 x1 x2 x3 hrin HTK HDK
      obtain ⟨gB, hgB⟩ : ∃ gB, gB = wr.heap.size := ⟨_, rfl⟩
      obtain ⟨wB, hwB⟩ : ∃ wB, wB = wr.alloc (.cells #[.int .i64 r.x, .int .i64 r.y, .int .i64 r.w, .int .i64 r.h] 52) := ⟨_, rfl⟩
      have hbB : Below wr.heap.size wr wB := by rw [hwB]; exact Below.alloc (Below.refl _ _) (Nat.le_refl _) _
      have FB := F.step hbB
      have RB := RK.step hbB
      have hEB := hE6.below hbB
      have hTB := hT6.below hbB (by have := F.bel.size; omega)
      have hGB := Nat.le_trans hG FB.bel.size
      have HGB := Lib.hid hgB
      have HWB := Lib.hid hwB
      have hgsG : 15 ≤ gs := by have := F.gs; have := F.gg; omega
      clear hr hkl hgB hwB hbB F RK hE6 hT6
      go_wp2_with fail
      rw [← HWB.out]
      refine (untile_any gs z r E wB FB.bS hzz hEB.er4 hTB hGB hgsG hrin.w16 hrin.h16 hrin.w1 hrin.h1).mono ?_
      rintro e w6 ⟨K6, he⟩
      cases hx : Pak.unTile r (lst z) with
      | none =>
        rw [hx] at he
        replace he : e = .returned (.tuple #[.pointer none, .bool false]) := he
        subst he
        have hRT : RT = none := by rw [← HM.out.rt, HDK.out, Pak.unTiles_no hx]; rfl
        have hRn : R = .error 0 := by rw [HR4.out, hRT]
        subst hRn
        have dT := (hEB.er4.keeps K6 hgsG FB.bS.lt).text
        have hb6 : Below w.heap.size w w6 := FB.bel.trans (K6.below (fun x hx => by rw [hx]; have := FB.gs; have := FB.gg; omega) FB.bel.size)
        clear hRT x0 x1 x2 x3 hEB hTB FB RB
        go_wp2_with fail
        go_quiet (fail)
        go_wp2_with fail
        go_ret2
        exact ⟨below_drewN hb6 _, rfl⟩
      | some q =>
        obtain ⟨l, rest⟩ := q
        rw [hx] at he
        obtain ⟨t, z', rfl, hz', hb', hti, hab, hl, hwd⟩ := he
        have hli := Pak.unTile_is hx ⟨hrin.w1, hrin.w16⟩ ⟨hrin.h1, hrin.h16⟩
        have F6 := FB.next K6 hb'
        have R6 := RB.keeps K6 HAR.out
        have hta : Above (gs + 1) t := hab.mono FB.bS.lt
        have hto : Off v.ownBlock t := by
          cases hv : v.ownBlock with
          | none => exact Off.none_ t
          | some g => exact hab.off (FB.own.lt g hv).2
        have hM6 : UnM W H RT (ts ++ [t]) z' (k + 1) := by
          refine ⟨?_, ?_, ?_, ?_⟩
          · rw [← HM.out.rt, HDK.out, Pak.unTiles_yes hx, Option.map_map, hz']
            cases Pak.unTiles ((Til.rects W H).drop (k + 1)) rest <;> simp [hl]
          · rw [HTK.out, List.map_append, List.map_append, HM.out.wd]
            simp [hwd]
          · have h1 := hli.2
            have h2 : z'.size = rest.length := by rw [← lst_length, hz']
            rw [lst_length] at h1
            omega
          · intro u hu
            rcases List.mem_append.1 hu with hu | hu
            · exact HM.out.le u hu
            · rw [List.mem_singleton.1 hu, hl]; exact hli.1
        obtain ⟨Av, cv, hv, hcv, _⟩ := F6.own.form
        subst hv
        obtain ⟨m, hm⟩ : ∃ m, ts.length = m := ⟨_, rfl⟩
        have hm1 : m ≤ 1000 := by rw [← hm, htl]; omega
        have hFo := F6.own
        have F6' := F6
        rw [hm] at hFo F6'
        have s7 : w6.cell? ⟨gG, 2, none⟩ = some (.slice Av m cv) := by rw [F6'.bG.cell]; rfl
        have HM6 := Lib.hid hM6
        have HF := Lib.hid F6
        have HRK := Lib.hid R6
        have HFO := Lib.hid hFo
        have HFG := Lib.hid (F6.bG.free 2)
        have HFN := Lib.hid F6'.nG
        have HTI := Lib.hid hti
        have HTA := Lib.hid hta
        have HTO := Lib.hid hto
        have HMM := Lib.hid hm
        have hGl := F6.bG.lt
        have hgl2 : gs + 1 ≤ w6.heap.size := F6.bS.lt
        clear hx hz' hb' hti hab hl hwd hli F6 F6' R6 hta hto hM6 hFo hcv FB RB hEB hTB x0 x1 x2 x3 htl hm K6
        go_wp2_with (at_builtin; refine wpList_append_S rfl (.tmp 91) (.tmp 93) 48 48 rfl (gs + 1) 53 i0 _ 1 8 Tryz.underlying48 hi hy0 hy1 hy2 rfl (by decide) (.slice Av m cv) m (tmCells ts) rfl (HFO.out.alloc _) (tmCells_one _) 1 [tmPtr t] (Src.blk Tryz.underlying48 (Blk.new _ _ _ rfl) rfl (tmCells_one [t])) (m + 1) rfl (tmCells ts ++ [tmPtr t]) rfl (by unfold maxLen; omega) (by omega) (by simp; omega) ?_; intro A3 c3 wT hownT hgT hatT; have t5 : wT.cell? ⟨gG, 2, none⟩ = some (.slice Av m cv) := (hgT.cell_far ⟨gG, 2, none⟩ (by simp; omega) (fun e => HFN.out e.symm)).trans (cell_past _ s7); have f5 : wT.frozen? ⟨gG, 2, none⟩ = false := (hgT.frozen_far ⟨gG, 2, none⟩ (by simp; omega) (fun e => HFN.out e.symm)).trans (free_past _ (by simp; omega) HFG.out))
        have F9 := UnL.push (o := .cells #[.pointer (some ⟨t.b, 0, none⟩)] 53) HF.out HTI.out HTA.out HTO.out (by rw [HMM.out]; exact hownT) (by rw [HMM.out]; exact hgT) (by rw [HMM.out]; exact hatT)
        have R9 := RcK.push (o := .cells #[.pointer (some ⟨t.b, 0, none⟩)] 53) HRK.out (Below.refl _ _) (by rw [HMM.out]; exact hgT) (by rw [HMM.out]; exact hatT)
        have HF9 := Lib.hid F9
        have HR9 := Lib.hid R9
        clear F9 R9 hownT hgT hatT t5 f5 s7
        go_wp2_with fail
        go_roundw
        case rel => exact ⟨k + 1, _, ts ++ [t], z', by omega, by go_num, HF9.out, HR9.out, HM6.out⟩
        case measure => simp [intOf]; omega
    · have e : k = N := by omega
      subst e
      have hRT : RT = some (ts.map (·.l), lst z) := by
        rw [← HM.out.rt, ← HNN.out, List.drop_length]
        simp [Pak.unTiles]
      have hR5 := HR4.out
      rw [hRT] at hR5
      simp only at hR5
      have HR5 := Lib.hid hR5
      have HGD := Lib.hid F.gd
      have hbw := F.bel
      have htl2 : ts.length ≤ 256 := by omega
      have HLE := Lib.hid HM.out.le
      have HWD := Lib.hid (show ts.map (·.w) = (Til.rects W H).map (·.w) by rw [HM.out.wd, ← HNN.out, List.take_length])
      clear hR5 hRT HR4 HRT F RK
      go_wp2_with fail
      refine (pack_any gG W H ts E wr HGD.out hE6.er4.ers hT6 hW1.2 hH1.2 htl2 HLE.out (Nat.le_trans hG hbw.size)).mono ?_
      rintro e w7 ⟨rfl, hb7⟩
      obtain ⟨pk, hpk⟩ : ∃ pk, pk = Pak.pack W H (ts.map (·.l)) := ⟨_, rfl⟩
      rw [← hpk] at HR5 ⊢
      have HPK := Lib.hid hpk
      have hb7w := hbw.trans (hb7.mono hbw.size)
      have dT := (hE6.below hb7).text
      clear hpk
      by_cases hq : pk = lst s
      · have hRn : R = .ok (W, H, ts.map (·.l)) := by rw [HR5.out, if_neg (by simp [hq])]
        subst hRn
        have hqq : (pk == s.toList) = true := by rw [Lib.toList_data, beq_iff_eq]; exact hq
        clear hq dT
        go_wp2_with fail
        go_ret2
        exact ⟨hb7w, gG, ts, rfl, HGD.out.step hb7, rfl, HWD.out, HLE.out⟩
      · have hRn : R = .error 0 := by rw [HR5.out, if_pos hq]
        subst hRn
        have hqq : (pk == s.toList) = false := by rw [Lib.toList_data, beq_eq_false_iff_ne]; exact hq
        clear hq
        go_wp2_with fail
        go_quiet (fail)
        go_wp2_with fail
        go_ret2
        exact ⟨below_drewN hb7w _, rfl⟩
end Go.Proofs.YthohmpjoeffckaaGreatDoor
/- TilesRead: the law's walk. Printed by mk.py. -/
namespace Go.Proofs.YthohmpjoeffckaaGreatDoor
open Go Go.RowKit

namespace Pak
theorem unpack_error {s : List UInt8} {k : Nat} (hs : s.length ≤ 300000) (h : unpack s = .error k) : k = 0 ∨ k = 3 := by
  unfold unpack at h
  rw [if_neg (by omega)] at h
  split at h
  · injection h with h; exact .inl h.symm
  · split at h
    · injection h with h; exact .inr h.symm
    · split at h
      · injection h with h; exact .inl h.symm
      · split at h
        · injection h with h; exact .inl h.symm
        · split at h
          · injection h with h; exact .inl h.symm
          · cases h
theorem unpack_ok {s : List UInt8} {W H : Nat} {ts : List (List Px)} (h : unpack s = .ok (W, H, ts)) : pack W H ts = s ∧ W ≤ 256 ∧ H ≤ 256 := by
  unfold unpack at h
  split at h
  · cases h
  · split at h
    · cases h
    · split at h
      · cases h
      · split at h
        · cases h
        · rename_i hq
          split at h
          · cases h
          · split at h
            · cases h
            · rename_i hp
              injection h with h
              injection h with h1 h
              injection h with h2 h3
              subst h1; subst h2; subst h3
              exact ⟨Decidable.byContradiction fun e => hp e, by omega, by omega⟩
end Pak
theorem rects_few {W H : Nat} (hW : W ≤ 256) (hH : H ≤ 256) : (Til.rects W H).length ≤ 256 := by
  have h1 : Til.cols W ≤ 16 := by unfold Til.cols; omega
  have h2 : Til.cols H ≤ 16 := by unfold Til.cols; omega
  have := Nat.mul_le_mul h2 h1
  rw [Til.rects_length]
  omega
set_option maxRecDepth 100000 in
set_option maxHeartbeats 4000000 in
theorem tilesRead_any (s : ByteArray) (E : Nat → Addr) (w : World) (hE : ErrsAt w E) (hTb : Tabs w) :
    Calls Tryz.prog 4 #[.string s] w fun e w' => e = .returned (.bool true) ∧ Below w.heap.size w w' := by
  have HE := Lib.hid hE
  have HT := Lib.hid hTb
  clear hE hTb
  go_enter Tryz.func4, Tryz.ntmps4
  go_wp2_with fail
  refine (lawOne_any _).mono ?_
  rintro e w1 ⟨rfl, hb1⟩
  by_cases hs : 3000 < s.size
  · have hsi : (3000 : Int) < s.size := by omega
    go_wp2_with fail
    go_ret
    exact ⟨rfl, hb1⟩
  have hsi : (s.size : Int) ≤ 3000 := by omega
  have hsl : (lst s).length ≤ 300000 := by rw [lst_length]; omega
  clear hs
  go_wp2_with fail
  refine (unpack_any s E w1 (HE.out.below hb1) (HT.out.below hb1 HT.out.size) (by omega)).mono ?_
  rintro e w2 ⟨hb2, he⟩
  have hbw := hb1.trans (hb2.mono hb1.size)
  cases hx : Pak.unpack (lst s) with
  | error k =>
    rw [hx] at he
    subst he
    have hE2 := HE.out.below hbw
    rcases Pak.unpack_error hsl hx with rfl | rfl
    · clear hx
      unfold errV
      go_wp2_with fail
      refine (coded_sent E 0 (by decide) 1 w2 hE2).mono ?_
      rintro e w3 ⟨rfl, hb3⟩
      go_wp2_with fail
      go_ret
      exact ⟨rfl, hbw.trans (hb3.mono hbw.size)⟩
    · clear hx
      unfold errV
      go_wp2_with fail
      refine (coded_sent E 3 (by decide) 1 w2 hE2).mono ?_
      rintro e w3 ⟨rfl, hb3⟩
      go_wp2_with fail
      refine (coded_sent E 3 (by decide) 4 w3 (hE2.below hb3)).mono ?_
      rintro e w4 ⟨rfl, hb4⟩
      have hb24 := hb3.trans (hb4.mono hb3.size)
      go_wp2_with fail
      go_ret
      exact ⟨rfl, hbw.trans (hb24.mono hbw.size)⟩
  | ok q =>
    obtain ⟨W, H, tl⟩ := q
    rw [hx] at he
    obtain ⟨gG, ts, rfl, hG, hl, hwd, hle⟩ := he
    obtain ⟨hp, hW, hH⟩ := Pak.unpack_ok hx
    replace hwd : ts.map (·.w) = (Til.rects W H).map (·.w) := hwd
    replace hl : ts.map (·.l) = tl := hl
    have htl : ts.length ≤ 256 := by
      have h1 := congrArg List.length hwd
      rw [List.length_map, List.length_map] at h1
      have h2 := rects_few hW hH
      omega
    have HP := Lib.hid (show Pak.pack W H (ts.map (·.l)) = lst s by rw [hl]; exact hp)
    have HG := Lib.hid hG
    have HLE := Lib.hid hle
    clear hx hl hwd hG hp hle
    go_wp2_with fail
    refine (pack_any gG W H ts E w2 HG.out (HE.out.below hbw).er4.ers (HT.out.below hbw HT.out.size) hW hH htl HLE.out (Nat.le_trans HT.out.size hbw.size)).mono ?_
    rw [HP.out]
    rintro e w3 ⟨rfl, hb3⟩
    have hq : (lst s == s.toList) = true := by rw [Lib.toList_data, beq_iff_eq]
    have hbw3 := hbw.trans (hb3.mono hbw.size)
    go_wp2_with fail
    go_ret
    exact ⟨rfl, hbw3⟩
end Go.Proofs.YthohmpjoeffckaaGreatDoor
