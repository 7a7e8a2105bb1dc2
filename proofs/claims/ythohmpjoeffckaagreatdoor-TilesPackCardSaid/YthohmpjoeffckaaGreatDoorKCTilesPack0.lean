/- Unp, UnTile, Unpack, LTilesRead, OfBad, ConvS, LTilesPack: put together. -/
import Derived.Test.YthohmpjoeffckaaGreatDoorBld
import Derived.Deep.RegionLaw
import Derived.Test.YthohmpjoeffckaaGreatDoorInflate
import Derived.Test.YthohmpjoeffckaaGreatDoorGridOf
import Derived.Test.YthohmpjoeffckaaGreatDoorPackG
import Derived.Test.YthohmpjoeffckaaGreatDoorKCTilesPack1
import Derived.Test.YthohmpjoeffckaaGreatDoorCoded
import Derived.Test.YthohmpjoeffckaaGreatDoorEr4
import Derived.Test.YthohmpjoeffckaaGreatDoorBitT
import Derived.Lib.ConvBytes
import Derived.Laws.AppendOwn
/- tiles.take, tiles.pixels: the walks. Printed by mk.py. -/
namespace Go.Proofs.YthohmpjoeffckaaGreatDoor
open Go Go.RowKit

set_option maxRecDepth 100000 in
theorem ttake_yes (sb n : Nat) (t : ByteArray) (w : World) (hb : Blk w sb 9 #[.string t]) (hn : n ≤ t.size) :
    Calls Tryz.prog 39 #[.pointer (some ⟨sb, 0, none⟩), .int .i64 n] w fun e w' => e = .returned (.tuple #[.string (t.extract 0 n), .bool true]) ∧ Blk w' sb 9 #[.string (t.extract n t.size)] ∧ Keeps (fun x => x = sb) w w' := by
  have d0 : w.cell? ⟨sb, 0, none⟩ = some (.string t) := by rw [hb.cell]; rfl
  have f0 := hb.free 0
  have hni : (n : Int) ≤ t.size := by omega
  go_enter Tryz.func39, Tryz.ntmps39
  go_wp2_with fail
  go_ret2
  exact ⟨rfl, hb.set_ 0 _, (Keeps.refl (fun x => x = sb) w).setCell (p := ⟨sb, 0, none⟩) (fun _ => rfl) _⟩
set_option maxRecDepth 100000 in
theorem ttake_no (sb n : Nat) (t : ByteArray) (w : World) (hb : Blk w sb 9 #[.string t]) (hn : t.size < n) :
    Calls Tryz.prog 39 #[.pointer (some ⟨sb, 0, none⟩), .int .i64 n] w fun e w' => e = .returned (.tuple #[.string ⟨#[]⟩, .bool false]) ∧ w' = w := by
  have d0 : w.cell? ⟨sb, 0, none⟩ = some (.string t) := by rw [hb.cell]; rfl
  have hni : (t.size : Int) < n := by omega
  go_enter Tryz.func39, Tryz.ntmps39
  go_wp2_with fail
  go_ret2
  exact ⟨rfl, rfl⟩
namespace Pak
theorem pixels_short : ∀ s : List UInt8, s.length < 4 → pixels s = []
  | [], _ => rfl
  | [_], _ => rfl
  | [_, _], _ => rfl
  | [_, _, _], _ => rfl
  | _ :: _ :: _ :: _ :: _, h => by simp at h; omega
theorem drop_four (s : List UInt8) (i : Nat) (h : i + 4 ≤ s.length) : s.drop i = s[i] :: s[i + 1] :: s[i + 2] :: s[i + 3] :: s.drop (i + 4) := by
  rw [List.drop_eq_getElem_cons (by omega), List.drop_eq_getElem_cons (show i + 1 < s.length by omega), List.drop_eq_getElem_cons (show i + 1 + 1 < s.length by omega), List.drop_eq_getElem_cons (show i + 1 + 1 + 1 < s.length by omega)]
end Pak
/-- What pixels' loop keeps. -/
structure PxsR (w : World) (v : Value) (acc : List Px) (wr : World) : Prop where
  own : Own wr w.heap.size 4 v acc.length (pxCells acc)
  bel : Below w.heap.size w wr
set_option maxHeartbeats 4000000 in
set_option maxRecDepth 100000 in
theorem pixels_any (s : ByteArray) (w : World) (hs : s.size ≤ 300000) :
    Calls Tryz.prog 40 #[.string s] w fun e w' => ∃ A c, e = .returned (.slice A (Pak.pixels (lst s)).length c) ∧ Own w' w.heap.size 4 (.slice A (Pak.pixels (lst s)).length c) (Pak.pixels (lst s)).length (pxCells (Pak.pixels (lst s))) ∧ Below w.heap.size w w' := by
  obtain ⟨i0, hi, hz0, hz1, hz2⟩ := info_parts pxInfo
  obtain ⟨P, hP⟩ : ∃ P, P = Pak.pixels (lst s) := ⟨_, rfl⟩
  rw [← hP]
  have HP := Lib.hid hP
  clear hP
  go_enter Tryz.func40, Tryz.ntmps40
  go_wp2_with fail
  go_loopw [3, 4] (fun v i wr => ∃ (k : Nat) (acc : List Px), 4 * k ≤ s.size ∧ acc.length = k ∧ i = .int .i64 (4 * k : Nat) ∧ acc ++ Pak.pixels ((lst s).drop (4 * k)) = P ∧ PxsR w v acc wr) (fun _ i _ => s.size - (intOf i).toNat)
  case atStart => exact ⟨0, [], by omega, rfl, rfl, HP.out.symm, ⟨Own.nil _ _ _, Below.refl _ _⟩⟩
  case round =>
    obtain ⟨k, acc, hk, hkl, rfl, hacc, ho, hb⟩ := hrel
    obtain ⟨j, hj⟩ : ∃ j, j = 4 * k := ⟨_, rfl⟩
    rw [← hj] at hk hacc ⊢
    obtain ⟨Av, cv, rfl, hc, _⟩ := ho.form
    have HKL := Lib.hid (And.intro hkl hj)
    have hlen : acc.length ≤ 75000 := by omega
    obtain ⟨M, hM⟩ : ∃ M, M = acc.length := ⟨_, rfl⟩
    rw [← hM] at ho hlen ⊢
    have HM := Lib.hid hM
    clear hkl hj hM
    by_cases hlt : j + 4 ≤ s.size
    · have h4 := Pak.drop_four (lst s) j (by rw [lst_length]; exact hlt)
      rw [h4, Pak.pixels] at hacc
      have h0 : j < s.size := by omega
      obtain ⟨j1, hj1⟩ : ∃ j1, j1 = j + 1 := ⟨_, rfl⟩
      obtain ⟨j2, hj2⟩ : ∃ j2, j2 = j + 2 := ⟨_, rfl⟩
      obtain ⟨j3, hj3⟩ : ∃ j3, j3 = j + 3 := ⟨_, rfl⟩
      have h1 : j1 < s.size := by omega
      have h2 : j2 < s.size := by omega
      have h3 : j3 < s.size := by omega
      have i1 : (j : Int) + 1 = j1 := by omega
      have i2 : (j : Int) + 2 = j2 := by omega
      have i3 : (j : Int) + 3 = j3 := by omega
      have w1 : IntKind.i64.wrap (j1 : Int) = j1 := IntWalk.i64_in _ (by omega)
      have w2 : IntKind.i64.wrap (j2 : Int) = j2 := IntWalk.i64_in _ (by omega)
      have w3 : IntKind.i64.wrap (j3 : Int) = j3 := IntWalk.i64_in _ (by omega)
      obtain ⟨a, ha⟩ : ∃ a : UInt8, s[j] = a := ⟨_, rfl⟩
      obtain ⟨b, hb'⟩ : ∃ b : UInt8, s[j1] = b := ⟨_, rfl⟩
      obtain ⟨c, hc'⟩ : ∃ c : UInt8, s[j2] = c := ⟨_, rfl⟩
      obtain ⟨d, hd'⟩ : ∃ d : UInt8, s[j3] = d := ⟨_, rfl⟩
      have hq : acc ++ (⟨a, b, c, d⟩ :: Pak.pixels ((lst s).drop (j + 4))) = P := by
        subst hj1; subst hj2; subst hj3
        rw [← ha, ← hb', ← hc', ← hd']
        exact hacc
      have hnx : (acc ++ [⟨a, b, c, d⟩]) ++ Pak.pixels ((lst s).drop (j + 4)) = P := by rw [List.append_assoc]; exact hq
      have HNX := Lib.hid hnx
      have hBS := Blk.new wr 47 #[.int .u8 a.toNat, .int .u8 b.toNat, .int .u8 c.toNat, .int .u8 d.toNat] rfl
      have hz := hb.size
      have HB := Lib.hid hb
      have hji : (j : Int) + 4 ≤ s.size := by omega
      have hcs : pxCells acc ++ [.int .u8 a.toNat, .int .u8 b.toNat, .int .u8 c.toNat, .int .u8 d.toNat] = pxCells (acc ++ [⟨a, b, c, d⟩]) := by rw [pxCells_append]; rfl
      have HCS := Lib.hid hcs
      clear h4 hacc hq hnx hb hcs hj1 hj2 hj3
      go_wp2_with fail
      go_region_law
        ((refine step_append_Own _ rfl (.tmp 12) (.tmp 29) 22 22 rfl w.heap.size 47 i0 _ 4 4 Tryz.underlying22 hi hz0 hz1 hz2 rfl (by decide) (.slice Av M cv) M (pxCells acc) rfl ((ho.alloc _).drew) (pxCells_one _) 1 (pxCs ⟨a, b, c, d⟩) (Src.blk Tryz.underlying22 (Blk.drew hBS) rfl (pxCells_one [⟨a, b, c, d⟩])) (by unfold maxLen; omega) (by omega) (by simp; omega) ?_; intro vT wT hownT hgT hatT; obtain ⟨AT, cT, rfl, hcT, _⟩ := hownT.form))
      all_goals
        have hP := HB.out
        have hb9 := ((HB.out.alloc hz (.cells #[.int .u8 a.toNat, .int .u8 b.toNat, .int .u8 c.toNat, .int .u8 d.toNat] 47)).drew).grown hgT (by show w.heap.size ≤ (wr.alloc _).heap.size; simp; omega) fun x hx => (ho.lt x hx).1
        have HB9 := Lib.hid hb9
        have HO9 := Lib.hid hownT
        clear hgT hatT hownT hBS hP hb9
        go_wp2_with fail
        go_roundw
        case rel =>
          refine ⟨k + 1, acc ++ [⟨a, b, c, d⟩], by have := HKL.out; omega, by rw [List.length_append, HKL.out.1]; rfl, by first | (rw [← Nat.mul_succ] ; go_num) | (have := HKL.out.2; go_num) | (congr 1; have := HKL.out.2; omega), ?_, ?_, HB9.out⟩
          · rw [Nat.mul_succ, ← HKL.out.2]
            exact HNX.out
          · rw [← HCS.out, List.length_append, ← HM.out]
            exact HO9.out
        case measure => simp [intOf]; omega
    · have hlt2 : (s.size : Int) < j + 4 := by omega
      have hsh : Pak.pixels ((lst s).drop j) = [] := Pak.pixels_short _ (by rw [List.length_drop, lst_length]; omega)
      rw [hsh, List.append_nil] at hacc
      subst hacc
      have HO := Lib.hid ho
      have HB := Lib.hid hb
      have HML := Lib.hid HM.out
      clear ho hb hlt
      go_wp2_with fail
      go_ret
      rw [HML.out] at HO
      exact ⟨Av, cv, by rw [HML.out]; rfl, HO.out, HB.out⟩
end Go.Proofs.YthohmpjoeffckaaGreatDoor
/- tiles.unpackTile: the walk. Printed by mk.py. -/
namespace Go.Proofs.YthohmpjoeffckaaGreatDoor
open Go Go.RowKit

theorem ttake_is (sb n : Nat) (t : ByteArray) (w : World) (hb : Blk w sb 9 #[.string t]) (hn : n ≤ t.size) :
    Calls Tryz.prog 39 #[.pointer (some ⟨sb, 0, none⟩), .int .i64 n] w fun e w' => ∃ a b : ByteArray, lst a = (lst t).take n ∧ lst b = (lst t).drop n ∧ e = .returned (.tuple #[.string a, .bool true]) ∧ Blk w' sb 9 #[.string b] ∧ Keeps (fun x => x = sb) w w' :=
  (ttake_yes sb n t w hb hn).mono fun e w' h => ⟨t.extract 0 n, t.extract n t.size, by rw [lst_extract, List.drop_zero, Nat.sub_zero], by rw [lst_extract, List.take_of_length_le (by rw [List.length_drop, lst_length]; exact Nat.le_refl _)], h.1, h.2.1, h.2.2⟩
/-- What unpackTile gives. -/
def UtR (w : World) (sb : Nat) (r : Til.R) (R : Option (List Px × List UInt8)) (e : Ending) (w' : World) : Prop :=
  Keeps (fun x => x = sb) w w' ∧ match R with
  | none => e = .returned (.tuple #[.pointer none, .bool false])
  | some q => ∃ (t : TM) (z : ByteArray), e = .returned (.tuple #[.pointer (some ⟨t.b, 0, none⟩), .bool true]) ∧ lst z = q.2 ∧ Blk w' sb 9 #[.string z] ∧ TileIn w' t ∧ Above w.heap.size t ∧ t.l = q.1 ∧ t.w = r.w
namespace Pak
theorem un_short {r : Til.R} {s : List UInt8} (h : s.length < 5) : unTile r s = none := by unfold unTile; rw [if_pos h]
theorem un_zero {r : Til.R} {s : List UInt8} (h : ¬ s.length < 5) (h0 : s.getD 0 0 = 0) : unTile r s = some (Til.small (pixels ((s.drop 1).take 4)), s.drop 5) := by unfold unTile; rw [if_neg h, if_pos h0]
theorem un_less {r : Til.R} {s : List UInt8} {V : Nat} (h : ¬ s.length < 5) (h0 : s.getD 0 0 ≠ 0) (hv : V = Crc.val ((s.drop 1).take 4)) (hl : (s.drop 5).length < V) : unTile r s = none := by unfold unTile; rw [if_neg h, if_neg h0, ← hv, if_pos hl]
theorem un_more {r : Til.R} {s : List UInt8} {V : Nat} (h : ¬ s.length < 5) (h0 : s.getD 0 0 ≠ 0) (hv : V = Crc.val ((s.drop 1).take 4)) (hl : ¬ (s.drop 5).length < V) : unTile r s = (match Inf.inflate ((s.drop 5).take V) (4 * r.w * r.h) with
    | .error _ => none
    | .ok (t, used) => if s.getD 0 0 ≠ 1 ∨ used ≠ V ∨ t.length ≠ 4 * r.w * r.h then none else some (Til.small (pixels t), s.drop (5 + V))) := by unfold unTile; rw [if_neg h, if_neg h0, ← hv, if_neg hl]; rfl
end Pak
theorem one_eq (a : ByteArray) (s : List UInt8) (k : UInt8) (h : lst a = s.take 1) (hs : 0 < s.length) : (a.toList == [k]) = decide (s.getD 0 0 = k) := by
  rw [Lib.toList_data]
  change (lst a == [k]) = _
  match s, hs with
  | x :: r, _ =>
    rw [h, Bool.eq_iff_iff]
    simp
set_option maxHeartbeats 4000000 in
set_option maxRecDepth 100000 in
theorem untile_any (sb : Nat) (s : ByteArray) (r : Til.R) (E : Nat → Addr) (w : World) (hb : Blk w sb 9 #[.string s]) (hs : s.size ≤ 300000) (hE : Er4 w E) (hTb : Tabs w) (hG : 15 ≤ w.heap.size) (hN : 15 ≤ sb) (hw : r.w ≤ 16) (hh : r.h ≤ 16) (hw1 : 1 ≤ r.w) (hh1 : 1 ≤ r.h) :
    Calls Tryz.prog 27 #[.pointer (some ⟨sb, 0, none⟩), .agg #[.int .i64 r.x, .int .i64 r.y, .int .i64 r.w, .int .i64 r.h]] w fun e w' => UtR w sb r (Pak.unTile r (lst s)) e w' := by
  obtain ⟨R, hR⟩ : ∃ R, R = Pak.unTile r (lst s) := ⟨_, rfl⟩
  rw [← hR]
  have HR := Lib.hid hR
  clear hR
  obtain ⟨gB, hgB⟩ : ∃ gB, gB = w.heap.size := ⟨_, rfl⟩
  obtain ⟨w1, hww⟩ : ∃ w1, w1 = w.alloc (.cells #[.int .i64 r.x, .int .i64 r.y, .int .i64 r.w, .int .i64 r.h] 52) := ⟨_, rfl⟩
  have BB : Blk w1 gB 52 #[.int .i64 r.x, .int .i64 r.y, .int .i64 r.w, .int .i64 r.h] := by rw [hww]; exact Blk.new _ _ _ hgB
  have hb1 : Blk w1 sb 9 #[.string s] := by rw [hww]; exact hb.alloc _
  have hsl := hb.lt
  have hsB : gB ≠ sb := by omega
  have hz1 : w1.heap.size = w.heap.size + 1 := by rw [hww]; simp
  have K1 : Keeps (fun x => x = sb) w w1 := by rw [hww]; exact (Keeps.refl _ _).alloc _
  have HGB := Lib.hid hgB
  have hM1 : (4 : Int) * (r.w : Int) = ((4 * r.w : Nat) : Int) := by omega
  obtain ⟨M1, hM1e⟩ : ∃ M1, M1 = 4 * r.w := ⟨_, rfl⟩
  rw [← hM1e] at hM1
  obtain ⟨M, hMe⟩ : ∃ M, M = M1 * r.h := ⟨_, rfl⟩
  have hM2 : (M1 : Int) * (r.h : Int) = (M : Nat) := by rw [hMe, Int.natCast_mul]
  have hM1l : M1 ≤ 64 := by omega
  have hMl : M ≤ 1024 := by rw [hMe]; exact Nat.mul_le_mul hM1l hh
  have HME := Lib.hid (show 4 * r.w * r.h = M by rw [hMe, hM1e])
  have hMp : 4 ≤ M := by rw [hMe]; exact Nat.mul_le_mul (show 4 ≤ M1 by omega) hh1
  have HM4 := Lib.hid (show M = 4 * (r.w * r.h) by rw [hMe, hM1e, Nat.mul_assoc])
  have HE := Lib.hid hE
  have HT := Lib.hid hTb
  go_enter Tryz.func27, Tryz.ntmps27
  go_wp2_with fail
  rw [← hww, ← hgB]
  clear hww hgB hM1e hMe hb hE hTb
  by_cases c0 : s.size < 5
  · have hRn : R = none := by rw [HR.out]; exact Pak.un_short (by rw [lst_length]; exact c0)
    subst hRn
    by_cases c1 : s.size < 1
    · refine (ttake_no sb 1 s w1 hb1 c1).mono ?_
      rintro e w1 ⟨rfl, rfl⟩
      go_wp2_with fail
      refine (ttake_no sb 4 s w1 hb1 (by omega)).mono ?_
      rintro e w1 ⟨rfl, rfl⟩
      go_wp2_with fail
      go_ret2
      exact ⟨K1, rfl⟩
    · refine (ttake_is sb 1 s w1 hb1 (by omega)).mono ?_
      rintro e w2 ⟨a, b, -, hbb, rfl, hb2, k2⟩
      have hbz : b.size = s.size - 1 := by rw [← lst_length, hbb, List.length_drop, lst_length]
      have K2 := Lib.hid (K1.trans k2 (fun _ _ h => h))
      clear hbb k2
      go_wp2_with fail
      refine (ttake_no sb 4 b w2 hb2 (by omega)).mono ?_
      rintro e w2 ⟨rfl, rfl⟩
      go_wp2_with fail
      go_ret2
      exact ⟨K2.out, rfl⟩
  · have hs0 : 0 < (lst s).length := by rw [lst_length]; omega
    have hs5 : ¬ (lst s).length < 5 := by rw [lst_length]; exact c0
    have hsl2 : 5 ≤ s.size := by omega
    clear c0
    refine (ttake_is sb 1 s w1 hb1 (by omega)).mono ?_
    rintro e w2 ⟨a, s1, ha, hs1, rfl, hb2, k2⟩
    have hs1z : s1.size = s.size - 1 := by rw [← lst_length, hs1, List.length_drop, lst_length]
    obtain ⟨b0, hb0⟩ : ∃ b0 : Bool, b0 = decide ((lst s).getD 0 0 = 0) := ⟨_, rfl⟩
    have hk0 : (a.toList == [0]) = b0 := by rw [hb0]; exact one_eq a _ 0 ha hs0
    obtain ⟨b1, hbe1⟩ : ∃ b1 : Bool, b1 = decide ((lst s).getD 0 0 = 1) := ⟨_, rfl⟩
    have hk1 : (a.toList == [1]) = b1 := by rw [hbe1]; exact one_eq a _ 1 ha hs0
    have HB0 := Lib.hid hb0
    have HB1 := Lib.hid hbe1
    have HS1 := Lib.hid hs1
    have K2 := Lib.hid (K1.trans k2 (fun _ _ h => h))
    have BB2 := BB.keeps k2 hsB
    clear hb0 hbe1 ha hs1 k2 K1 BB hb1
    go_wp2_with fail
    refine (ttake_is sb 4 s1 w2 hb2 (by omega)).mono ?_
    rintro e w3 ⟨n, s2, hn, hs2, rfl, hb3, k3⟩
    have hnt : lst n = ((lst s).drop 1).take 4 := by rw [hn, HS1.out]
    have hs2d : lst s2 = (lst s).drop 5 := by rw [hs2, HS1.out, List.drop_drop]
    have hnz : n.size = 4 := by rw [← lst_length, hnt, List.length_take, List.length_drop, lst_length]; omega
    have hs2z : s2.size = s.size - 5 := by rw [← lst_length, hs2d, List.length_drop, lst_length]
    have HNT := Lib.hid hnt
    have HS2 := Lib.hid hs2d
    have K3 := Lib.hid (K2.out.trans k3 (fun _ _ h => h))
    have BB3 := BB2.keeps k3 hsB
    have d2 : w3.cell? ⟨gB, 2, none⟩ = some (.int .i64 r.w) := by rw [BB3.cell]; rfl
    have d3 : w3.cell? ⟨gB, 3, none⟩ = some (.int .i64 r.h) := by rw [BB3.cell]; rfl
    have hlB := BB3.lt
    have hs3l := hb3.lt
    clear hn hs2 hnt hs2d k3 BB2 hb2
    cases b0 with
    | true =>
      have hRn : R = some (Til.small (Pak.pixels (lst n)), (lst s).drop 5) := by rw [HR.out, HNT.out]; exact Pak.un_zero hs5 (of_decide_eq_true HB0.out.symm)
      subst hRn
      have HPL : Hid (0 < (Pak.pixels (lst n)).length ∧ (Pak.pixels (lst n)).length ≤ 1048576) := Lib.hid (by rw [Pak.pixels_length 1 _ (by rw [lst_length]; exact hnz)]; decide)
      go_wp2_with fail
      refine wp_region_held_drew (S := (fun w' => w'.cell? ⟨gB, 2, none⟩ = some (.int .i64 r.w) ∧ w'.cell? ⟨gB, 3, none⟩ = some (.int .i64 r.h))) (by kernel_rfl) ?_ (fun hHeld => ?_)
      · exact ⟨d2, d3⟩
      refine opT 0 rfl ?_; refine opT 1 rfl ?_; refine opT 2 rfl ?_; refine opT 3 rfl ?_; refine opT 4 rfl ?_
      refine opD 5 rfl (fun K hK => ?_)
      go_simp
      (go_at_call 40; refine (pixels_any n _ (by omega)).mono ?_; rintro e w8 ⟨A8, c8, rfl, hO8, hb8⟩)
      refine hK.out _ _ ?_ (fun hHeld => ?_)
      · exact ⟨bcell_ (Below.fromDrew hb8) (by show gB < w3.heap.size; omega) d2, bcell_ (Below.fromDrew hb8) (by show gB < w3.heap.size; omega) d3⟩
      clear hK K
      (try simp only [Act.put, nz1, nz2, nz3, nz4, nz5, nz6])
      refine opD 6 rfl (fun K hK => ?_)
      go_simp
      (go_at_call 32; refine (newTile_any r.w r.h A8 _ c8 (Pak.pixels (lst n)) w8 hO8.reads.2 HPL.out.1 HPL.out.2 hO8.capLe).mono ?_; rintro e w9 ⟨t9, rfl, ht1, htA, htb, htl, hti, hb9⟩)
      refine hK.out _ _ ?_ (fun hHeld => ?_)
      · exact ⟨bcell_ hb9 (by have := hb8.size; show gB < w8.heap.size; have e0 : w3.drew.heap.size = w3.heap.size := rfl; omega) hHeld.1, bcell_ hb9 (by have := hb8.size; show gB < w8.heap.size; have e0 : w3.drew.heap.size = w3.heap.size := rfl; omega) hHeld.2⟩
      clear hK K
      (try simp only [Act.put, nz1, nz2, nz3, nz4, nz5, nz6])
      refine opT 7 rfl ?_; refine opT 8 rfl ?_
      refine wpAnyH_done (by kernel_rfl) ?_ _
      go_wp2_with fail
      go_ret2
      have hb39 : Below w3.heap.size w3 w9 := (Below.fromDrew hb8).trans (hb9.mono (show w3.drew.heap.size ≤ w8.heap.size from hb8.size))
      exact ⟨K3.out.trans (Keeps.of_below (S := fun _ => False) hb39 fun _ h _ => h) (fun _ _ h => h.elim), t9, s2, rfl, HS2.out, hb3.below hb39 hb3.lt, hti, ⟨Nat.le_trans K3.out.size (Nat.le_trans (show w3.drew.heap.size ≤ w8.heap.size from hb8.size) htb), fun b off e => Nat.le_trans K3.out.size (hO8.lt b (by rw [← htA, e]; rfl)).1⟩, htl, ht1⟩
    | false =>
      have h0 : (lst s).getD 0 0 ≠ 0 := of_decide_eq_false HB0.out.symm
      obtain ⟨V, hV⟩ : ∃ V, V = Crc.val (lst n) := ⟨_, rfl⟩
      have hVl : V < 4294967296 := by
        have h1 := val_lt (lst n)
        rw [lst_length, hnz, ← hV] at h1
        exact h1
      have hVw : IntKind.i64.wrap (V : Int) = V := IntWalk.i64_in _ (by omega)
      have HV := Lib.hid (show V = Crc.val (((lst s).drop 1).take 4) by rw [hV, HNT.out])
      go_wp2_with fail
      refine (value_any n w3 (by omega)).mono ?_
      rintro e w3 ⟨rfl, rfl⟩
      rw [← hV]
      clear hV
      go_wp2_with fail
      by_cases cV : s2.size < V
      · have hRn : R = none := by rw [HR.out]; exact Pak.un_less hs5 h0 HV.out (by rw [← HS2.out, lst_length]; exact cV)
        subst hRn
        refine (ttake_no sb V s2 w3 hb3 cV).mono ?_
        rintro e w3 ⟨rfl, rfl⟩
        go_wp2_with fail
        refine (inflate_any ⟨#[]⟩ M E w3 (HE.out.keeps K3.out hN hsl) (HT.out.keeps K3.out hG (fun x h1 h2 => by omega)) (Nat.le_trans hG K3.out.size) (by decide) (by omega)).mono ?_
        rintro e w4 ⟨hb4, he⟩
        have K4 := Lib.hid (K3.out.trans (Keeps.of_below (S := fun _ => False) hb4 fun _ h _ => h) (fun _ _ h => h.elim))
        clear hb4
        cases hx : Inf.inflate (lst ⟨#[]⟩) M with
        | error k =>
          rw [hx] at he
          subst he
          clear hx
          go_wp2_with fail
          go_ret2
          exact ⟨K4.out, rfl⟩
        | ok q =>
          rw [hx] at he
          subst he
          clear hx
          go_wp2_with fail
          go_ret2
          exact ⟨K4.out, rfl⟩
      · have hV2 : V ≤ s2.size := Nat.le_of_not_lt cV
        have hRm := Pak.un_more (r := r) hs5 h0 HV.out (by rw [← HS2.out, lst_length]; exact cV)
        rw [← HR.out, HME.out] at hRm
        have HRM := Lib.hid hRm
        clear hRm cV
        refine (ttake_is sb V s2 w3 hb3 hV2).mono ?_
        rintro e w4 ⟨z, s3, hz, hs3, rfl, hb4, k4⟩
        have hzd : lst z = ((lst s).drop 5).take V := by rw [hz, HS2.out]
        have hzz : z.size = V := by rw [← lst_length, hz, List.length_take, lst_length]; omega
        have hs3d : lst s3 = (lst s).drop (5 + V) := by rw [hs3, HS2.out, List.drop_drop]
        have HZD := Lib.hid hzd
        have HS3 := Lib.hid hs3d
        have K4 := Lib.hid (K3.out.trans k4 (fun _ _ h => h))
        have BB4 := BB3.keeps k4 hsB
        have d2 : w4.cell? ⟨gB, 2, none⟩ = some (.int .i64 r.w) := by rw [BB4.cell]; rfl
        have d3 : w4.cell? ⟨gB, 3, none⟩ = some (.int .i64 r.h) := by rw [BB4.cell]; rfl
        have hl4 := BB4.lt
        clear hz hs3 hzd hs3d k4 BB3 hb3
        go_wp2_with fail
        refine (inflate_any z M E w4 (HE.out.keeps K4.out hN hsl) (HT.out.keeps K4.out hG (fun x h1 h2 => by omega)) (Nat.le_trans hG K4.out.size) (by omega) (by omega)).mono ?_
        rintro e w5 ⟨hb5, he⟩
        have K5 := Lib.hid (K4.out.trans (Keeps.of_below (S := fun _ => False) hb5 fun _ h _ => h) (fun _ _ h => h.elim))
        have d2 : w5.cell? ⟨gB, 2, none⟩ = some (.int .i64 r.w) := bcell_ hb5 hl4 d2
        have d3 : w5.cell? ⟨gB, 3, none⟩ = some (.int .i64 r.h) := bcell_ hb5 hl4 d3
        have hb5s := hb4.below hb5 hb4.lt
        have hl5 : gB < w5.heap.size := Nat.lt_of_lt_of_le hl4 hb5.size
        clear hb5 BB4 hb4
        cases hx : Inf.inflate (lst z) M with
        | error k =>
          rw [hx] at he
          subst he
          have hRn : R = none := by rw [HRM.out, ← HZD.out, hx]
          subst hRn
          clear hx
          unfold errV
          cases b1 with
          | true =>
            go_wp2_with fail
            go_ret2
            exact ⟨K5.out, rfl⟩
          | false =>
            go_wp2_with fail
            go_ret2
            exact ⟨K5.out, rfl⟩
        | ok q =>
          obtain ⟨t, u⟩ := q
          rw [hx] at he
          subst he
          have hRu : R = if (lst s).getD 0 0 ≠ 1 ∨ u ≠ V ∨ t.length ≠ M then none else some (Til.small (Pak.pixels t), (lst s).drop (5 + V)) := by rw [HRM.out, ← HZD.out, hx]
          have HRU := Lib.hid hRu
          clear hx hRu
          cases b1 with
          | false =>
            have hRn : R = none := by rw [HRU.out, if_pos (.inl (of_decide_eq_false HB1.out.symm))]
            subst hRn
            go_wp2_with fail
            go_ret2
            exact ⟨K5.out, rfl⟩
          | true =>
            by_cases cu : u = V
            · by_cases ct : t.length = M
              · obtain ⟨tt, htt⟩ : ∃ tt : ByteArray, tt = ⟨t.toArray⟩ := ⟨_, rfl⟩
                have hRn : R = some (Til.small (Pak.pixels (lst tt)), (lst s).drop (5 + V)) := by rw [htt]; rw [HRU.out, if_neg (by rintro (h | h | h); exact h (of_decide_eq_true HB1.out.symm); exact h cu; exact h ct)]
                subst hRn
                have hts : tt.size = M := by rw [htt]; exact ct
                rw [← htt]
                have HPL : Hid (0 < (Pak.pixels (lst tt)).length ∧ (Pak.pixels (lst tt)).length ≤ 1048576) := Lib.hid (by
                  rw [Pak.pixels_length (r.w * r.h) _ (by rw [lst_length, hts]; exact HM4.out)]
                  have := HM4.out
                  omega)
                subst cu
                clear htt ct
                go_wp2_with fail
                refine wp_region_held_drew (S := (fun w' => w'.cell? ⟨gB, 2, none⟩ = some (.int .i64 r.w) ∧ w'.cell? ⟨gB, 3, none⟩ = some (.int .i64 r.h))) (by kernel_rfl) ?_ (fun hHeld => ?_)
                · exact ⟨d2, d3⟩
                refine opT 0 rfl ?_; refine opT 1 rfl ?_; refine opT 2 rfl ?_; refine opT 3 rfl ?_; refine opT 4 rfl ?_
                refine opD 5 rfl (fun K hK => ?_)
                go_simp
                (go_at_call 40; refine (pixels_any tt _ (by omega)).mono ?_; rintro e w8 ⟨A8, c8, rfl, hO8, hb8⟩)
                refine hK.out _ _ ?_ (fun hHeld => ?_)
                · exact ⟨bcell_ (Below.fromDrew hb8) (by show gB < w5.heap.size; omega) d2, bcell_ (Below.fromDrew hb8) (by show gB < w5.heap.size; omega) d3⟩
                clear hK K
                (try simp only [Act.put, nz1, nz2, nz3, nz4, nz5, nz6])
                refine opD 6 rfl (fun K hK => ?_)
                go_simp
                (go_at_call 32; refine (newTile_any r.w r.h A8 _ c8 (Pak.pixels (lst tt)) w8 hO8.reads.2 HPL.out.1 HPL.out.2 hO8.capLe).mono ?_; rintro e w9 ⟨t9, rfl, ht1, htA, htb, htl, hti, hb9⟩)
                refine hK.out _ _ ?_ (fun hHeld => ?_)
                · exact ⟨bcell_ hb9 (by have := hb8.size; show gB < w8.heap.size; have e0 : w5.drew.heap.size = w5.heap.size := rfl; omega) hHeld.1, bcell_ hb9 (by have := hb8.size; show gB < w8.heap.size; have e0 : w5.drew.heap.size = w5.heap.size := rfl; omega) hHeld.2⟩
                clear hK K
                (try simp only [Act.put, nz1, nz2, nz3, nz4, nz5, nz6])
                refine opT 7 rfl ?_; refine opT 8 rfl ?_
                refine wpAnyH_done (by kernel_rfl) ?_ _
                go_wp2_with fail
                go_ret2
                have hb59 : Below w5.heap.size w5 w9 := (Below.fromDrew hb8).trans (hb9.mono (show w5.drew.heap.size ≤ w8.heap.size from hb8.size))
                exact ⟨K5.out.trans (Keeps.of_below (S := fun _ => False) hb59 fun _ h _ => h) (fun _ _ h => h.elim), t9, s3, rfl, HS3.out, hb5s.below hb59 hb5s.lt, hti, ⟨Nat.le_trans K5.out.size (Nat.le_trans (show w5.drew.heap.size ≤ w8.heap.size from hb8.size) htb), fun b off e => Nat.le_trans K5.out.size (hO8.lt b (by rw [← htA, e]; rfl)).1⟩, htl, ht1⟩
              · have hRn : R = none := by rw [HRU.out, if_pos (.inr (.inr ct))]
                subst hRn
                go_wp2_with fail
                go_ret2
                exact ⟨K5.out, rfl⟩
            · have hRn : R = none := by rw [HRU.out, if_pos (.inr (.inl cu))]
              subst hRn
              go_wp2_with fail
              go_ret2
              exact ⟨K5.out, rfl⟩
end Go.Proofs.YthohmpjoeffckaaGreatDoor
/- tiles.Unpack: the walk. Printed by mk.py. -/
namespace Go.Proofs.YthohmpjoeffckaaGreatDoor
open Go Go.RowKit

namespace Pak
/-- What a tile read is. -/
theorem unTile_is {r : Til.R} {s : List UInt8} {l : List Px} {rest : List UInt8} (h : unTile r s = some (l, rest)) (hw : 1 ≤ r.w ∧ r.w ≤ 16) (hh : 1 ≤ r.h ∧ r.h ≤ 16) : l.length ≤ 256 ∧ rest.length ≤ s.length := by
  have key : ∀ p : List Px, p.length ≤ 256 → (Til.small p).length ≤ 256 := fun p h2 => by
    unfold Til.small
    split
    · rw [List.length_take]; omega
    · exact h2
  by_cases h5 : s.length < 5
  · rw [un_short h5] at h; cases h
  by_cases h0 : s.getD 0 0 = 0
  · rw [un_zero h5 h0] at h
    injection h with h
    injection h with h h2
    rw [← h, ← h2]
    have : (pixels ((s.drop 1).take 4)).length = 1 := pixels_length 1 _ (by rw [List.length_take, List.length_drop]; omega)
    exact ⟨key _ (by omega), by rw [List.length_drop]; omega⟩
  by_cases hl : (s.drop 5).length < Crc.val ((s.drop 1).take 4)
  · rw [un_less h5 h0 rfl hl] at h; cases h
  rw [un_more h5 h0 rfl hl] at h
  cases hx : Inf.inflate ((s.drop 5).take (Crc.val ((s.drop 1).take 4))) (4 * r.w * r.h) with
  | error k => rw [hx] at h; cases h
  | ok q =>
    obtain ⟨t, u⟩ := q
    rw [hx] at h
    simp only at h
    split at h
    · cases h
    · rename_i hq
      injection h with h
      injection h with h h2
      rw [← h, ← h2]
      have ht : t.length = 4 * (r.w * r.h) := by rw [← Nat.mul_assoc]; exact Decidable.byContradiction fun e => hq (.inr (.inr e))
      have hp := pixels_length (r.w * r.h) t ht
      have h2 : r.w * r.h ≤ 16 * 16 := Nat.mul_le_mul hw.2 hh.2
      exact ⟨key _ (by omega), by rw [List.length_drop]; omega⟩
theorem unTiles_no {r : Til.R} {rs : List Til.R} {s : List UInt8} (h : unTile r s = none) : unTiles (r :: rs) s = none := by rw [unTiles, h]
theorem unTiles_yes {r : Til.R} {rs : List Til.R} {s s1 : List UInt8} {t : List Px} (h : unTile r s = some (t, s1)) : unTiles (r :: rs) s = (unTiles rs s1).map fun q => (t :: q.1, q.2) := by
  rw [unTiles, h]
  simp only
  cases unTiles rs s1 <;> rfl
end Pak
theorem TileIn.keeps {w w' : World} {t : TM} {g : Nat} (h : TileIn w t) (k : Keeps (fun x => x = g) w w') (ha : Above (g + 1) t) : TileIn w' t :=
  ⟨h.blk.keeps k (fun e => by have := ha.b; omega), h.px.keepAt k.size fun b off e hb _ => k.block b hb (fun e2 => by have := ha.A b off e; omega)⟩
theorem RcK.keeps {gG g : Nat} {Ar : Option Addr} {N : Nat} {l : List Til.R} {v : Value} {wr w' : World} (h : RcK gG Ar N l v wr) (k : Keeps (fun x => x = g) wr w') (hA : ∀ b off, Ar = some ⟨b, off, none⟩ → g < b) : RcK gG Ar N l v w' :=
  ⟨h.rd.keepAt k.size fun b off e hb _ => k.block b hb (fun e2 => by have := hA b off e; omega), h.nv, h.ng⟩
/-- What stands through Unpack's loop. -/
structure UnL (w : World) (W H gG gs : Nat) (v : Value) (ts : List TM) (z : ByteArray) (wr : World) : Prop where
  bG : Blk wr gG 50 #[.int .i64 W, .int .i64 H, v]
  bS : Blk wr gs 9 #[.string z]
  own : Own wr (gs + 1) 1 v ts.length (tmCells ts)
  ti : ∀ t ∈ ts, TileIn wr t
  ab : ∀ t ∈ ts, Above (gs + 1) t
  off : ∀ t ∈ ts, Off v.ownBlock t
  gg : w.heap.size ≤ gG
  gs : gG < gs
  bel : Below w.heap.size w wr
section
variable {W H gG gs : Nat} {w wr w' : World} {v v' : Value} {ts : List TM} {z z' : ByteArray}
theorem UnL.step (h : UnL w W H gG gs v ts z wr) (hb : Below wr.heap.size wr w') : UnL w W H gG gs v ts z w' :=
  ⟨h.bG.below hb h.bG.lt, h.bS.below hb h.bS.lt, h.own.below hb (Nat.le_refl _), fun t ht => (h.ti t ht).step hb, h.ab, h.off, h.gg, h.gs, h.bel.trans (hb.mono h.bel.size)⟩
theorem UnL.next (h : UnL w W H gG gs v ts z wr) (k : Keeps (fun x => x = gs) wr w') (hb : Blk w' gs 9 #[.string z']) : UnL w W H gG gs v ts z' w' :=
  ⟨h.bG.keeps k (fun e => by have := h.gs; omega), hb, h.own.keeps k (fun b hb e => by have := (h.own.lt b hb).1; omega), fun t ht => (h.ti t ht).keeps k (h.ab t ht), h.ab, h.off, h.gg, h.gs,
    h.bel.trans (k.below (fun x hx => by rw [hx]; have := h.gs; have := h.gg; omega) h.bel.size)⟩
theorem UnL.nG (h : UnL w W H gG gs v ts z wr) : v.ownBlock ≠ some gG := fun e => by have := (h.own.lt _ e).1; have := h.gs; omega
theorem UnL.push {wT : World} {t : TM} {o : Obj} (F : UnL w W H gG gs v ts z wr) (ht : TileIn wr t) (hta : Above (gs + 1) t) (hto : Off v.ownBlock t)
    (ho : Own wT (gs + 1) 1 v' (ts.length + 1) (tmCells ts ++ [tmPtr t])) (hg : (wr.alloc o).grownBy wT v.ownBlock) (hat : v'.ownBlock = v.ownBlock ∨ v'.ownBlock = some (wr.alloc o).heap.size) :
    UnL w W H gG gs v' (ts ++ [t]) z (wT.setCell ⟨gG, 2, none⟩ v') := by
  have F1 := F.step (Below.alloc (Below.refl _ _) (Nat.le_refl _) o)
  have ht1 := ht.step (Below.alloc (Below.refl _ _) (Nat.le_refl _) o)
  have hG := F1.bG.lt
  have hgs := F.gs
  have nv : ∀ g, g < gs + 1 → some g ≠ v.ownBlock := fun g hg' e => by have := (F1.own.lt g e.symm).1; omega
  have n5 : v'.ownBlock ≠ some gG := fun e => by have := (ho.lt _ e).1; omega
  have hall : ∀ s ∈ ts ++ [t], TileIn (wr.alloc o) s ∧ Above (gs + 1) s ∧ Off v.ownBlock s := by
    intro s hs
    rcases List.mem_append.1 hs with hs | hs
    · exact ⟨F1.ti s hs, F.ab s hs, F.off s hs⟩
    · rw [List.mem_singleton.1 hs]
      exact ⟨ht1, hta, hto⟩
  refine ⟨?_, ?_, ?_, fun s hs => ?_, fun s hs => (hall s hs).2.1, fun s hs => ?_, F.gg, F.gs, ?_⟩
  · have := (F1.bG.grown hg (nv _ (by omega))).set_ 2 v'
    simpa using this
  · exact (F1.bS.grown hg (nv _ (by omega))).far (p := ⟨gG, 2, none⟩) (by simp; omega) _
  · rw [List.length_append, tmCells_append]
    exact ho.setCell n5 _
  · exact ((hall s hs).1.grown hg (hall s hs).2.2).set_ ((hall s hs).2.1.off (by simp; omega)) _
  · rcases hat with e | e
    · rw [e]; exact (hall s hs).2.2
    · rw [e]; exact (hall s hs).1.off (Nat.le_refl _)
  · exact (F1.bel.grown hg F1.bel.size (fun g e => by have := (F1.own.lt g e).1; have := F.gg; omega)).setCell (by show w.heap.size ≤ gG; exact F.gg) _
theorem UnL.gd (h : UnL w W H gG gs v ts z wr) : Gd wr gG W H ts := by
  obtain ⟨Av, cv, hv, _, hr⟩ := h.own.form
  subst hv
  exact ⟨⟨Av, cv, h.bG, hr⟩, h.ti⟩
end
/-- What is known of the tiles that are read. -/
structure UnM (W H : Nat) (RT : Option (List (List Px) × List UInt8)) (ts : List TM) (z : ByteArray) (k : Nat) : Prop where
  rt : (Pak.unTiles ((Til.rects W H).drop k) (lst z)).map (fun q => (ts.map (·.l) ++ q.1, q.2)) = RT
  wd : ts.map (·.w) = ((Til.rects W H).take k).map (·.w)
  z : z.size ≤ 300000
  le : ∀ t ∈ ts, t.l.length ≤ 256
/-- What Unpack gives. -/
def UnpR (w : World) (E : Nat → Addr) (R : Except Nat (Nat × Nat × List (List Px))) (e : Ending) (w' : World) : Prop :=
  Below w.heap.size w w' ∧ match R with
  | .error k => e = .returned (.tuple #[.pointer none, errV (E k)])
  | .ok q => ∃ gG ts, e = .returned (.tuple #[.pointer (some ⟨gG, 0, none⟩), .nilIface]) ∧ Gd w' gG q.1 q.2.1 ts ∧ ts.map (·.l) = q.2.2 ∧ ts.map (·.w) = (Til.rects q.1 q.2.1).map (·.w) ∧ (∀ t ∈ ts, t.l.length ≤ 256)
set_option maxHeartbeats 4000000 in
set_option maxRecDepth 100000 in
theorem unpack_any (s : ByteArray) (E : Nat → Addr) (w : World) (hE : ErrsAt w E) (hTb : Tabs w) (hs : s.size ≤ 300000) :
    Calls Tryz.prog 10 #[.string s] w fun e w' => UnpR w E (Pak.unpack (lst s)) e w' := by
  have hG := hTb.size
  obtain ⟨i0, hi, hy0, hy1, hy2⟩ := info_parts tmInfo
  obtain ⟨R, hR⟩ : ∃ R, R = Pak.unpack (lst s) := ⟨_, rfl⟩
  rw [← hR]
  unfold Pak.unpack at hR
  rw [if_neg (show ¬ 300000 < (lst s).length by rw [lst_length]; omega)] at hR
  have HE := Lib.hid hE
  have HT := Lib.hid hTb
  by_cases c12 : s.size < 12
  · rw [if_pos (show (lst s).length < 12 from c12)] at hR
    have dT := hE.text
    subst hR
    have c12i : (s.size : Int) < 12 := by omega
    go_enter Tryz.func10, Tryz.ntmps10
    go_wp2_with fail
    go_quiet (fail)
    go_wp2_with fail
    go_ret2
    exact ⟨below_drewN (Below.refl _ _) _, rfl⟩
  rw [if_neg (show ¬ (lst s).length < 12 from c12)] at hR
  have c12i : (12 : Int) ≤ s.size := by omega
  obtain ⟨n4, hn4⟩ : ∃ n4, n4 = s.size - 4 := ⟨_, rfl⟩
  have hn4i : (s.size : Int) - 4 = (n4 : Nat) := by omega
  have hn8 : 8 ≤ n4 := by omega
  obtain ⟨tB, hB⟩ : ∃ tB, tB = s.extract 0 n4 := ⟨_, rfl⟩
  obtain ⟨tC, hC⟩ : ∃ tC, tC = s.extract n4 s.size := ⟨_, rfl⟩
  have hBl : lst tB = (lst s).take n4 := by rw [hB, lst_extract, List.drop_zero, Nat.sub_zero]
  have hCl : lst tC = (lst s).drop n4 := by rw [hC, lst_extract, List.take_of_length_le (by rw [List.length_drop, lst_length]; exact Nat.le_refl _)]
  have hBz : tB.size = n4 := by rw [← lst_length, hBl, List.length_take, lst_length]; omega
  have hCz : tC.size = 4 := by rw [← lst_length, hCl, List.length_drop, lst_length]; omega
  rw [lst_length, ← hn4, ← hBl, ← hCl] at hR
  obtain ⟨X, hX⟩ : ∃ X, X = Crc.val (lst tC) := ⟨_, rfl⟩
  obtain ⟨Y, hY⟩ : ∃ Y, Y = Crc.crc (lst tB) := ⟨_, rfl⟩
  rw [← hX, ← hY] at hR
  have HR := Lib.hid hR
  have HB := Lib.hid hB
  have HC := Lib.hid hC
  have HBL := Lib.hid hBl
  have HX := Lib.hid hX
  have HY := Lib.hid hY
  have HN4 := Lib.hid hn4
  clear hR hB hC hBl hCl hX hY hE hTb hn4
  go_enter Tryz.func10, Tryz.ntmps10
  go_wp2_with fail
  rw [← HB.out, ← HC.out]
  refine (value_any tC w (by omega)).mono ?_
  rintro e w ⟨rfl, rfl⟩
  rw [← HX.out]
  go_wp2_with fail
  refine (crc_any tB w (by omega)).mono ?_
  rintro e w2 ⟨rfl, hb2⟩
  rw [← HY.out]
  have hE2 := HE.out.below hb2
  have dT := hE2.text
  have dS := hE2.sum
  by_cases cx : X = Y
  case neg =>
    have hRn : R = .error 3 := by rw [HR.out, if_pos cx]
    subst hRn
    have hXY : ((X : Int) == (Y : Int)) = false := by rw [beq_eq_false_iff_ne]; omega
    clear cx dT
    go_wp2_with fail
    go_quiet (fail)
    go_wp2_with fail
    go_ret2
    exact ⟨below_drewN hb2 _, rfl⟩
  case pos =>
  subst cx
  have hR2 := HR.out
  rw [if_neg (by simp)] at hR2
  have HR2 := Lib.hid hR2
  clear hR2 HR dS
  obtain ⟨tE, hEe⟩ : ∃ tE, tE = tB.extract 0 4 := ⟨_, rfl⟩
  obtain ⟨tF, hFe⟩ : ∃ tF, tF = tB.extract 4 8 := ⟨_, rfl⟩
  have hEl : lst tE = (lst s).take 4 := by rw [hEe, lst_extract, List.drop_zero, HBL.out, List.take_take]; congr 1; omega
  have hFl : lst tF = ((lst s).drop 4).take 4 := by rw [hFe, lst_extract, HBL.out, List.drop_take, List.take_take]; congr 1; omega
  have hEz : tE.size = 4 := by rw [← lst_length, hEl, List.length_take, lst_length]; omega
  have hFz : tF.size = 4 := by rw [← lst_length, hFl, List.length_take, List.length_drop, lst_length]; omega
  have HEE := Lib.hid hEe
  have HFE := Lib.hid hFe
  obtain ⟨W, hW⟩ : ∃ W, W = Crc.val (lst tE) := ⟨_, rfl⟩
  obtain ⟨H, hH⟩ : ∃ H, H = Crc.val (lst tF) := ⟨_, rfl⟩
  have hR3 := HR2.out
  rw [← hEl, ← hFl, ← hW, ← hH] at hR3
  have HR3 := Lib.hid hR3
  have HW := Lib.hid hW
  have HH := Lib.hid hH
  have hBz4 : (4 : Int) ≤ n4 := by omega
  have hBz8 : (8 : Int) ≤ n4 := by omega
  clear hR3 HR2 hW hH hEl hFl hEe hFe
  go_wp2_with fail
  refine wp_region_held_drew (S := (fun w9 => w9 = w2.drew)) (by kernel_rfl) ?_ (fun hHeld => ?_)
  · rfl
  refine opT 0 rfl ?_; refine opT 1 rfl ?_; refine opT 3 rfl ?_; refine opT 4 rfl ?_
  refine opD 2 rfl (fun K hK => ?_)
  go_simp
  (go_at_call 26; rw [← HEE.out]; refine (value_any tE _ (by omega)).mono ?_; rintro e wq ⟨rfl, rfl⟩; rw [← HW.out])
  refine hK.out _ _ ?_ (fun hHeld => ?_)
  · rfl
  clear hK K
  (try simp only [Act.put, nz1, nz2, nz3, nz4, nz5, nz6])
  refine opD 5 rfl (fun K hK => ?_)
  go_simp
  (go_at_call 26; rw [← HFE.out]; refine (value_any tF _ (by omega)).mono ?_; rintro e wq ⟨rfl, rfl⟩; rw [← HH.out])
  refine hK.out _ _ ?_ (fun hHeld => ?_)
  · rfl
  clear hK K
  (try simp only [Act.put, nz1, nz2, nz3, nz4, nz5, nz6])
  refine opT 6 rfl ?_; refine opT 7 rfl ?_
  refine wpAnyH_done (by kernel_rfl) ?_ _
  obtain ⟨w3, hw3⟩ : ∃ w3, w3 = w2.drew := ⟨_, rfl⟩
  have dT3 : w3.cell? ⟨2, 0, none⟩ = some (.iface 230 (.pointer (some (E 0)))) := by rw [hw3]; exact dT
  have hb3 : Below w.heap.size w w3 := by rw [hw3]; exact hb2.drew
  have hE3 : ErrsAt w3 E := HE.out.below hb3
  rw [← hw3]
  clear dT hb2 hE2 hw3
  by_cases d1 : W < 1
  · have d1i : (W : Int) < 1 := by omega
    have hRn : R = .error 0 := by rw [HR3.out, if_pos (.inl d1)]
    subst hRn
    go_wp2_with fail
    go_quiet (fail)
    go_wp2_with fail
    go_ret2
    exact ⟨below_drewN hb3 _, rfl⟩
  have d1i : (1 : Int) ≤ W := by omega
  by_cases d2 : 256 < W
  · have d2i : (256 : Int) < W := by omega
    have hRn : R = .error 0 := by rw [HR3.out, if_pos (.inr (.inl d2))]
    subst hRn
    go_wp2_with fail
    go_quiet (fail)
    go_wp2_with fail
    go_ret2
    exact ⟨below_drewN hb3 _, rfl⟩
  have d2i : (W : Int) ≤ 256 := by omega
  by_cases d3 : H < 1
  · have d3i : (H : Int) < 1 := by omega
    have hRn : R = .error 0 := by rw [HR3.out, if_pos (.inr (.inr (.inl d3)))]
    subst hRn
    go_wp2_with fail
    go_quiet (fail)
    go_wp2_with fail
    go_ret2
    exact ⟨below_drewN hb3 _, rfl⟩
  have d3i : (1 : Int) ≤ H := by omega
  by_cases d4 : 256 < H
  · have d4i : (256 : Int) < H := by omega
    have hRn : R = .error 0 := by rw [HR3.out, if_pos (.inr (.inr (.inr d4)))]
    subst hRn
    go_wp2_with fail
    go_quiet (fail)
    go_wp2_with fail
    go_ret2
    exact ⟨below_drewN hb3 _, rfl⟩
  have d4i : (H : Int) ≤ 256 := by omega
  have hW1 : 1 ≤ W ∧ W ≤ 256 := by omega
  have hH1 : 1 ≤ H ∧ H ≤ 256 := by omega
  have hR4 := HR3.out
  rw [if_neg (by omega)] at hR4
  have HR4 := Lib.hid hR4
  clear hR4 HR3 d1 d2 d3 d4 HW HH HEE HFE hEz hFz HX HY hCz HC
  have hWw : IntKind.i64.wrap (W : Int) = W := IntWalk.i64_in _ (by omega)
  have hHw : IntKind.i64.wrap (H : Int) = H := IntWalk.i64_in _ (by omega)
  obtain ⟨z0, hz0⟩ : ∃ z0, z0 = tB.extract 8 n4 := ⟨_, rfl⟩
  have hz0l : lst z0 = (lst tB).drop 8 := by rw [hz0, ← hBz, lst_extract, List.take_of_length_le (by rw [List.length_drop, lst_length]; exact Nat.le_refl _)]
  have hz0z : z0.size ≤ 300000 := by rw [← lst_length, hz0l, List.length_drop, lst_length]; omega
  rw [← hz0l] at HR4
  obtain ⟨gG, hgG⟩ : ∃ gG, gG = w3.heap.size := ⟨_, rfl⟩
  obtain ⟨gs, hgs⟩ : ∃ gs, gs = gG + 1 := ⟨_, rfl⟩
  obtain ⟨w4, hw4⟩ : ∃ w4, w4 = (w3.alloc (.cells #[.int .i64 W, .int .i64 H, .slice none 0 0] 50)).alloc (.cells #[.string z0] 9) := ⟨_, rfl⟩
  have F0 : UnL w W H gG gs (.slice none 0 0) [] z0 w4 := by
    rw [hw4, hgs, hgG]
    exact ⟨(Blk.new _ _ _ rfl).alloc _, Blk.new _ _ _ (by simp), Own.nil _ _ _, (fun t h => by cases h), (fun t h => by cases h), (fun t h => by cases h), hb3.size, by omega, (hb3.alloc hb3.size _).alloc (by have := hb3.size; simp; omega) _⟩
  have HZ0 := Lib.hid hz0
  have HGG := Lib.hid hgG
  have HGS := Lib.hid hgs
  have HW4 := Lib.hid hw4
  have HF0 := Lib.hid F0
  clear hz0 hz0l hgG hgs hw4 F0
  have gg0 : w4.cell? ⟨gG, 0, none⟩ = some (.int .i64 W) := by rw [HF0.out.bG.cell]; rfl
  have gg1 : w4.cell? ⟨gG, 1, none⟩ = some (.int .i64 H) := by rw [HF0.out.bG.cell]; rfl
  have hGl := HF0.out.bG.lt
  go_upto_region 13 with (fail)
  rw [← HZ0.out, ← HW4.out, ← HGG.out, ← HGS.out]
  refine wp_region_held_drew (S := (fun w9 => w9.cell? ⟨gG, 0, none⟩ = some (.int .i64 W) ∧ w9.cell? ⟨gG, 1, none⟩ = some (.int .i64 H))) (by kernel_rfl) ?_ (fun hHeld => ?_)
  · exact ⟨gg0, gg1⟩
  refine opT 0 rfl ?_; refine opT 1 rfl ?_; refine opT 2 rfl ?_; refine opT 3 rfl ?_; refine opT 4 rfl ?_; refine opT 5 rfl ?_; refine opT 6 rfl ?_; refine opT 7 rfl ?_; refine opT 10 rfl ?_
  refine opD 8 rfl (fun K hK => ?_)
  go_simp
  (go_at_call 18; refine (rects_any W H w4.drew hW1.2 hH1.2).mono ?_; rintro e w5 ⟨Ar, cr, rfl, hO, hb5⟩)
  refine hK.out _ _ ?_ (fun hHeld => ?_)
  · exact ⟨bcell_ hb5 hGl hHeld.1, bcell_ hb5 hGl hHeld.2⟩
  clear hK K
  (try simp only [Act.put, nz1, nz2, nz3, nz4, nz5, nz6])
  refine opT 9 rfl ?_
  refine wpAnyH_done (by kernel_rfl) ?_ _
  obtain ⟨N, hN⟩ : ∃ N, (Til.rects W H).length = N := ⟨_, rfl⟩
  have hN1 : N ≤ 256 := by
    have h1 : Til.cols W ≤ 16 := by unfold Til.cols; omega
    have h2 : Til.cols H ≤ 16 := by unfold Til.cols; omega
    have := Nat.mul_le_mul h2 h1
    have h3 := Til.rects_length W H
    omega
  have HNN := Lib.hid hN
  have F5 := HF0.out.step (Below.fromDrew hb5)
  have HAR := Lib.hid (show ∀ b off, Ar = some ⟨b, off, none⟩ → gs < b from fun b off e => by have := (hO.lt b (by rw [e]; rfl)).1; have h2 := HF0.out.bS.lt; have h3 : w4.drew.heap.size = w4.heap.size := rfl; omega)
  have R5 : RcK gG Ar N (Til.rects W H) (.slice none 0 0) w5 := ⟨by have h := hO.reads.2; rw [hN] at h; exact h, (fun b off e _ e2 => by simp [Value.ownBlock] at e2), fun b off e => Nat.lt_trans HF0.out.gs (HAR.out b off e)⟩
  rw [hN]
  have hcr := hO.capLe
  clear HF0 hO hb5 hN gg0 gg1 hGl
  obtain ⟨RT, hRT⟩ : ∃ RT, RT = Pak.unTiles (Til.rects W H) (lst z0) := ⟨_, rfl⟩
  rw [← hRT] at HR4
  have HRT := Lib.hid hRT
  clear hRT
  go_wp2_with fail
  go_loopw [75] (fun i wr => ∃ (k : Nat) (v : Value) (ts : List TM) (z : ByteArray), k ≤ N ∧ i = .int .i64 k ∧ UnL w W H gG gs v ts z wr ∧ RcK gG Ar N (Til.rects W H) v wr ∧ UnM W H RT ts z k) (fun i _ => N - (intOf i).toNat)
  case atStart => exact ⟨0, _, [], z0, Nat.zero_le _, rfl, F5, R5, ⟨by rw [List.drop_zero, ← HRT.out]; cases RT <;> rfl, rfl, hz0z, (fun t h => by cases h)⟩⟩
  case round =>
    clear F5 R5 hz0z
    obtain ⟨k, v, ts, z, hk, rfl, F, RK, hM⟩ := hrel
    have HM := Lib.hid hM
    have hzz := hM.z
    have htl : ts.length = k := by
      have := congrArg List.length hM.wd
      rw [List.length_map, List.length_map, List.length_take, HNN.out] at this
      omega
    have hE6 : ErrsAt wr E := HE.out.below F.bel
    have hT6 := HT.out.below F.bel hG
    have HTL := Lib.hid htl
    clear hM
    by_cases hlt : k < N
    · obtain ⟨br, orr, rfl, hbrr⟩ := RK.rd.addr (by omega)
      have hkl : k < (Til.rects W H).length := by rw [HNN.out]; exact hlt
      obtain ⟨x0, x1, x2, x3⟩ := RK.rd.rc k hkl
      have hrin := Til.rects_in (List.getElem_mem hkl)
      have HDK := Lib.hid (List.drop_eq_getElem_cons hkl)
      have HTK := Lib.hid (List.take_succ_eq_append_getElem hkl)
      obtain ⟨r, hr⟩ : ∃ r, (Til.rects W H)[k] = r := ⟨_, rfl⟩
      rw [hr] at x0 x1 x2 x3 hrin HTK HDK
      obtain ⟨gB, hgB⟩ : ∃ gB, gB = wr.heap.size := ⟨_, rfl⟩
      obtain ⟨wB, hwB⟩ : ∃ wB, wB = wr.alloc (.cells #[.int .i64 r.x, .int .i64 r.y, .int .i64 r.w, .int .i64 r.h] 52) := ⟨_, rfl⟩
      have hbB : Below wr.heap.size wr wB := by rw [hwB]; exact Below.alloc (Below.refl _ _) (Nat.le_refl _) _
      have FB := F.step hbB
      have RB := RK.step hbB
      have hEB := hE6.below hbB
      have hTB := hT6.below hbB (by have := F.bel.size; omega)
      have hGB := Nat.le_trans hG FB.bel.size
      have HGB := Lib.hid hgB
      have HWB := Lib.hid hwB
      have hgsG : 15 ≤ gs := by have := F.gs; have := F.gg; omega
      clear hr hkl hgB hwB hbB F RK hE6 hT6
      go_wp2_with fail
      rw [← HWB.out]
      refine (untile_any gs z r E wB FB.bS hzz hEB.er4 hTB hGB hgsG hrin.w16 hrin.h16 hrin.w1 hrin.h1).mono ?_
      rintro e w6 ⟨K6, he⟩
      cases hx : Pak.unTile r (lst z) with
      | none =>
        rw [hx] at he
        replace he : e = .returned (.tuple #[.pointer none, .bool false]) := he
        subst he
        have hRT : RT = none := by rw [← HM.out.rt, HDK.out, Pak.unTiles_no hx]; rfl
        have hRn : R = .error 0 := by rw [HR4.out, hRT]
        subst hRn
        have dT := (hEB.er4.keeps K6 hgsG FB.bS.lt).text
        have hb6 : Below w.heap.size w w6 := FB.bel.trans (K6.below (fun x hx => by rw [hx]; have := FB.gs; have := FB.gg; omega) FB.bel.size)
        clear hRT x0 x1 x2 x3 hEB hTB FB RB
        go_wp2_with fail
        go_quiet (fail)
        go_wp2_with fail
        go_ret2
        exact ⟨below_drewN hb6 _, rfl⟩
      | some q =>
        obtain ⟨l, rest⟩ := q
        rw [hx] at he
        obtain ⟨t, z', rfl, hz', hb', hti, hab, hl, hwd⟩ := he
        have hli := Pak.unTile_is hx ⟨hrin.w1, hrin.w16⟩ ⟨hrin.h1, hrin.h16⟩
        have F6 := FB.next K6 hb'
        have R6 := RB.keeps K6 HAR.out
        have hta : Above (gs + 1) t := hab.mono FB.bS.lt
        have hto : Off v.ownBlock t := by
          cases hv : v.ownBlock with
          | none => exact Off.none_ t
          | some g => exact hab.off (FB.own.lt g hv).2
        have hM6 : UnM W H RT (ts ++ [t]) z' (k + 1) := by
          refine ⟨?_, ?_, ?_, ?_⟩
          · rw [← HM.out.rt, HDK.out, Pak.unTiles_yes hx, Option.map_map, hz']
            cases Pak.unTiles ((Til.rects W H).drop (k + 1)) rest <;> simp [hl]
          · rw [HTK.out, List.map_append, List.map_append, HM.out.wd]
            simp [hwd]
          · have h1 := hli.2
            have h2 : z'.size = rest.length := by rw [← lst_length, hz']
            rw [lst_length] at h1
            omega
          · intro u hu
            rcases List.mem_append.1 hu with hu | hu
            · exact HM.out.le u hu
            · rw [List.mem_singleton.1 hu, hl]; exact hli.1
        obtain ⟨Av, cv, hv, hcv, _⟩ := F6.own.form
        subst hv
        obtain ⟨m, hm⟩ : ∃ m, ts.length = m := ⟨_, rfl⟩
        have hm1 : m ≤ 1000 := by rw [← hm, htl]; omega
        have hFo := F6.own
        have F6' := F6
        rw [hm] at hFo F6'
        have s7 : w6.cell? ⟨gG, 2, none⟩ = some (.slice Av m cv) := by rw [F6'.bG.cell]; rfl
        have HM6 := Lib.hid hM6
        have HF := Lib.hid F6
        have HRK := Lib.hid R6
        have HFO := Lib.hid hFo
        have HFG := Lib.hid (F6.bG.free 2)
        have HFN := Lib.hid F6'.nG
        have HTI := Lib.hid hti
        have HTA := Lib.hid hta
        have HTO := Lib.hid hto
        have HMM := Lib.hid hm
        have hGl := F6.bG.lt
        have hgl2 : gs + 1 ≤ w6.heap.size := F6.bS.lt
        clear hx hz' hb' hti hab hl hwd hli F6 F6' R6 hta hto hM6 hFo hcv FB RB hEB hTB x0 x1 x2 x3 htl hm K6
        go_wp2_with (at_builtin; refine wpList_append_S rfl (.tmp 91) (.tmp 93) 48 48 rfl (gs + 1) 53 i0 _ 1 8 Tryz.underlying48 hi hy0 hy1 hy2 rfl (by decide) (.slice Av m cv) m (tmCells ts) rfl (HFO.out.alloc _) (tmCells_one _) 1 [tmPtr t] (Src.blk Tryz.underlying48 (Blk.new _ _ _ rfl) rfl (tmCells_one [t])) (m + 1) rfl (tmCells ts ++ [tmPtr t]) rfl (by unfold maxLen; omega) (by omega) (by simp; omega) ?_; intro A3 c3 wT hownT hgT hatT; have t5 : wT.cell? ⟨gG, 2, none⟩ = some (.slice Av m cv) := (hgT.cell_far ⟨gG, 2, none⟩ (by simp; omega) (fun e => HFN.out e.symm)).trans (cell_past _ s7); have f5 : wT.frozen? ⟨gG, 2, none⟩ = false := (hgT.frozen_far ⟨gG, 2, none⟩ (by simp; omega) (fun e => HFN.out e.symm)).trans (free_past _ (by simp; omega) HFG.out))
        have F9 := UnL.push (o := .cells #[.pointer (some ⟨t.b, 0, none⟩)] 53) HF.out HTI.out HTA.out HTO.out (by rw [HMM.out]; exact hownT) (by rw [HMM.out]; exact hgT) (by rw [HMM.out]; exact hatT)
        have R9 := RcK.push (o := .cells #[.pointer (some ⟨t.b, 0, none⟩)] 53) HRK.out (Below.refl _ _) (by rw [HMM.out]; exact hgT) (by rw [HMM.out]; exact hatT)
        have HF9 := Lib.hid F9
        have HR9 := Lib.hid R9
        clear F9 R9 hownT hgT hatT t5 f5 s7
        go_wp2_with fail
        go_roundw
        case rel => exact ⟨k + 1, _, ts ++ [t], z', by omega, by go_num, HF9.out, HR9.out, HM6.out⟩
        case measure => simp [intOf]; omega
    · have e : k = N := by omega
      subst e
      have hRT : RT = some (ts.map (·.l), lst z) := by
        rw [← HM.out.rt, ← HNN.out, List.drop_length]
        simp [Pak.unTiles]
      have hR5 := HR4.out
      rw [hRT] at hR5
      simp only at hR5
      have HR5 := Lib.hid hR5
      have HGD := Lib.hid F.gd
      have hbw := F.bel
      have htl2 : ts.length ≤ 256 := by omega
      have HLE := Lib.hid HM.out.le
      have HWD := Lib.hid (show ts.map (·.w) = (Til.rects W H).map (·.w) by rw [HM.out.wd, ← HNN.out, List.take_length])
      clear hR5 hRT HR4 HRT F RK
      go_wp2_with fail
      refine (pack_any gG W H ts E wr HGD.out hE6.er4.ers hT6 hW1.2 hH1.2 htl2 HLE.out (Nat.le_trans hG hbw.size)).mono ?_
      rintro e w7 ⟨rfl, hb7⟩
      obtain ⟨pk, hpk⟩ : ∃ pk, pk = Pak.pack W H (ts.map (·.l)) := ⟨_, rfl⟩
      rw [← hpk] at HR5 ⊢
      have HPK := Lib.hid hpk
      have hb7w := hbw.trans (hb7.mono hbw.size)
      have dT := (hE6.below hb7).text
      clear hpk
      by_cases hq : pk = lst s
      · have hRn : R = .ok (W, H, ts.map (·.l)) := by rw [HR5.out, if_neg (by simp [hq])]
        subst hRn
        have hqq : (pk == s.toList) = true := by rw [Lib.toList_data, beq_iff_eq]; exact hq
        clear hq dT
        go_wp2_with fail
        go_ret2
        exact ⟨hb7w, gG, ts, rfl, HGD.out.step hb7, rfl, HWD.out, HLE.out⟩
      · have hRn : R = .error 0 := by rw [HR5.out, if_pos hq]
        subst hRn
        have hqq : (pk == s.toList) = false := by rw [Lib.toList_data, beq_eq_false_iff_ne]; exact hq
        clear hq
        go_wp2_with fail
        go_quiet (fail)
        go_wp2_with fail
        go_ret2
        exact ⟨below_drewN hb7w _, rfl⟩
end Go.Proofs.YthohmpjoeffckaaGreatDoor
/- TilesRead: the law's walk. Printed by mk.py. -/
namespace Go.Proofs.YthohmpjoeffckaaGreatDoor
open Go Go.RowKit

namespace Pak
theorem unpack_error {s : List UInt8} {k : Nat} (hs : s.length ≤ 300000) (h : unpack s = .error k) : k = 0 ∨ k = 3 := by
  unfold unpack at h
  rw [if_neg (by omega)] at h
  split at h
  · injection h with h; exact .inl h.symm
  · split at h
    · injection h with h; exact .inr h.symm
    · split at h
      · injection h with h; exact .inl h.symm
      · split at h
        · injection h with h; exact .inl h.symm
        · split at h
          · injection h with h; exact .inl h.symm
          · cases h
theorem unpack_ok {s : List UInt8} {W H : Nat} {ts : List (List Px)} (h : unpack s = .ok (W, H, ts)) : pack W H ts = s ∧ W ≤ 256 ∧ H ≤ 256 := by
  unfold unpack at h
  split at h
  · cases h
  · split at h
    · cases h
    · split at h
      · cases h
      · split at h
        · cases h
        · rename_i hq
          split at h
          · cases h
          · split at h
            · cases h
            · rename_i hp
              injection h with h
              injection h with h1 h
              injection h with h2 h3
              subst h1; subst h2; subst h3
              exact ⟨Decidable.byContradiction fun e => hp e, by omega, by omega⟩
end Pak
theorem rects_few {W H : Nat} (hW : W ≤ 256) (hH : H ≤ 256) : (Til.rects W H).length ≤ 256 := by
  have h1 : Til.cols W ≤ 16 := by unfold Til.cols; omega
  have h2 : Til.cols H ≤ 16 := by unfold Til.cols; omega
  have := Nat.mul_le_mul h2 h1
  rw [Til.rects_length]
  omega
set_option maxRecDepth 100000 in
set_option maxHeartbeats 4000000 in
theorem tilesRead_any (s : ByteArray) (E : Nat → Addr) (w : World) (hE : ErrsAt w E) (hTb : Tabs w) :
    Calls Tryz.prog 4 #[.string s] w fun e w' => e = .returned (.bool true) ∧ Below w.heap.size w w' := by
  have HE := Lib.hid hE
  have HT := Lib.hid hTb
  clear hE hTb
  go_enter Tryz.func4, Tryz.ntmps4
  go_wp2_with fail
  refine (lawOne_any _).mono ?_
  rintro e w1 ⟨rfl, hb1⟩
  by_cases hs : 3000 < s.size
  · have hsi : (3000 : Int) < s.size := by omega
    go_wp2_with fail
    go_ret
    exact ⟨rfl, hb1⟩
  have hsi : (s.size : Int) ≤ 3000 := by omega
  have hsl : (lst s).length ≤ 300000 := by rw [lst_length]; omega
  clear hs
  go_wp2_with fail
  refine (unpack_any s E w1 (HE.out.below hb1) (HT.out.below hb1 HT.out.size) (by omega)).mono ?_
  rintro e w2 ⟨hb2, he⟩
  have hbw := hb1.trans (hb2.mono hb1.size)
  cases hx : Pak.unpack (lst s) with
  | error k =>
    rw [hx] at he
    subst he
    have hE2 := HE.out.below hbw
    rcases Pak.unpack_error hsl hx with rfl | rfl
    · clear hx
      unfold errV
      go_wp2_with fail
      refine (coded_sent E 0 (by decide) 1 w2 hE2).mono ?_
      rintro e w3 ⟨rfl, hb3⟩
      go_wp2_with fail
      go_ret
      exact ⟨rfl, hbw.trans (hb3.mono hbw.size)⟩
    · clear hx
      unfold errV
      go_wp2_with fail
      refine (coded_sent E 3 (by decide) 1 w2 hE2).mono ?_
      rintro e w3 ⟨rfl, hb3⟩
      go_wp2_with fail
      refine (coded_sent E 3 (by decide) 4 w3 (hE2.below hb3)).mono ?_
      rintro e w4 ⟨rfl, hb4⟩
      have hb24 := hb3.trans (hb4.mono hb3.size)
      go_wp2_with fail
      go_ret
      exact ⟨rfl, hbw.trans (hb24.mono hbw.size)⟩
  | ok q =>
    obtain ⟨W, H, tl⟩ := q
    rw [hx] at he
    obtain ⟨gG, ts, rfl, hG, hl, hwd, hle⟩ := he
    obtain ⟨hp, hW, hH⟩ := Pak.unpack_ok hx
    replace hwd : ts.map (·.w) = (Til.rects W H).map (·.w) := hwd
    replace hl : ts.map (·.l) = tl := hl
    have htl : ts.length ≤ 256 := by
      have h1 := congrArg List.length hwd
      rw [List.length_map, List.length_map] at h1
      have h2 := rects_few hW hH
      omega
    have HP := Lib.hid (show Pak.pack W H (ts.map (·.l)) = lst s by rw [hl]; exact hp)
    have HG := Lib.hid hG
    have HLE := Lib.hid hle
    clear hx hl hwd hG hp hle
    go_wp2_with fail
    refine (pack_any gG W H ts E w2 HG.out (HE.out.below hbw).er4.ers (HT.out.below hbw HT.out.size) hW hH htl HLE.out (Nat.le_trans HT.out.size hbw.size)).mono ?_
    rw [HP.out]
    rintro e w3 ⟨rfl, hb3⟩
    have hq : (lst s == s.toList) = true := by rw [Lib.toList_data, beq_iff_eq]
    have hbw3 := hbw.trans (hb3.mono hbw.size)
    go_wp2_with fail
    go_ret
    exact ⟨rfl, hbw3⟩
end Go.Proofs.YthohmpjoeffckaaGreatDoor
/- tiles.Of where the picture is not right; how many pixels a tile has. -/
namespace Go.Proofs.YthohmpjoeffckaaGreatDoor
open Go Go.RowKit

theorem rightLen {W H : Nat} {n : Nat} (h : (n : Int) = (W : Int) * (H : Int)) : n = H * W := by
  have h1 : (n : Int) = ((W * H : Nat) : Int) := by rw [Int.natCast_mul]; exact h
  rw [Nat.mul_comm]
  omega
set_option maxRecDepth 100000 in
set_option maxHeartbeats 1000000 in
theorem ofS_bad (W H : Int) (A : Option Addr) (n c : Nat) (E : Nat → Addr) (w : World) (hE : ErS w E) (hr : rightB W H n = false) :
    Calls Tryz.prog 7 #[.agg #[.int .i64 W, .int .i64 H, .slice A n c]] w fun e w' => e = .returned (.tuple #[.pointer none, errV (E 2)]) ∧ Below w.heap.size w w' := by
  have HR := Lib.hid hr
  have HE := Lib.hid hE
  clear hr hE
  go_enter Tryz.func7, Tryz.ntmps7
  go_wp2_with fail
  refine (rright_any W H A n c _).mono ?_
  rw [HR.out]
  rintro e w1 ⟨rfl, hb1⟩
  have hbw : Below w.heap.size w w1 := Below.trans (by go_grown) (hb1.mono (by simp))
  have dS := (HE.out.below hbw).shape
  clear hb1
  go_wp2_with fail
  go_quiet (fail)
  go_wp2_with fail
  go_ret2
  exact ⟨rfl, below_drewN hbw _⟩
theorem tile_le {ps : List Px} {W H : Nat} {ts : List TM} (h : TsOf ps W H ts) {t : TM} (ht : t ∈ ts) : t.l.length ≤ 256 := by
  have h1 : t.l ∈ Til.tilesOf ps W H := by rw [← h.px]; exact List.mem_map.2 ⟨t, ht, rfl⟩
  unfold Til.tilesOf at h1
  obtain ⟨r, hr, e⟩ := List.mem_map.1 h1
  have hi := Til.rects_in hr
  have hl := Til.crop_length ps W r
  have h2 : r.h * r.w ≤ 16 * 16 := Nat.mul_le_mul hi.h16 hi.w16
  have h3 : (Til.small (Til.crop ps W r)).length ≤ (Til.crop ps W r).length := by
    unfold Til.small
    split
    · rw [List.length_take]; omega
    · exact Nat.le_refl _
  rw [← e]
  omega
end Go.Proofs.YthohmpjoeffckaaGreatDoor
/- A string turned into bytes. -/
namespace Go.Proofs.YthohmpjoeffckaaGreatDoor
open Go Go.RowKit

/-- A string turned into bytes of one's own. -/
theorem conv_string (w : World) (s : ByteArray) (hs : s.size ≤ maxLen) : ∃ c w', (convert 9 40 (.string s)).run Tryz.prog w = .ok (.slice (some ⟨w.heap.size, 0, none⟩) s.size c) w' ∧
    Own w' w.heap.size 1 (.slice (some ⟨w.heap.size, 0, none⟩) s.size c) s.size (bytes (lst s)) ∧ Below w.heap.size w w' := by
  refine ⟨_, _, Lib.run_convert_string_bytes w _ _ _ s Tryz.underlying9 Tryz.underlying40 Tryz.underlying5, ?_, ?_⟩
  · have h1 := grownCap_ge w s.size 0 5
    have h3 := grownCap_le_maxLen w s.size 0 5 hs
    have hat := Lib.bytesWorld_at_new w 5 s
    have hsz := Lib.bytesWorld_size w 5 s
    have hbs : (Lib.bytesCells w 5 s).size = grownCap w s.size 0 5 := by
      unfold Lib.bytesCells
      rw [Array.size_append, Array.size_map, Array.size_replicate]
      show s.size + _ = _
      omega
    refine ⟨by rw [bytes_length, lst_length, Nat.mul_one], .inr ⟨w.heap.size, 0, _, rfl, Nat.le_refl _, by omega, h1, h3, fun j hj => ?_, fun j hj => ?_⟩⟩
    · rw [Nat.mul_one] at hj
      rw [Nat.zero_add, Lib.bytesWorld_cell w _ s j hj, bytes_at]
      have hj2 : j < (lst s).length := by rw [lst_length]; exact hj
      rw [List.getElem?_eq_getElem hj2, List.getD_eq_getElem?_getD, List.getElem?_eq_getElem hj2]
      rfl
    · rw [Nat.mul_one] at hj
      rw [Nat.zero_add, cell_of_row _ _ j _ _ _ hat]
      refine ⟨by simp [hbs, hj], ?_⟩
      simp [World.frozen?, hat, hbs]
      omega
  · exact ⟨rfl, rfl, rfl, by rw [Lib.bytesWorld_size]; omega, fun g hg => Lib.bytesWorld_at_old w _ s g hg⟩
end Go.Proofs.YthohmpjoeffckaaGreatDoor
/- TilesPack: the law's walk. Printed by mk.py. -/
namespace Go.Proofs.YthohmpjoeffckaaGreatDoor
open Go Go.RowKit

namespace Til
theorem tiles_ok {ps : List Px} {W H : Nat} (k : Nat) (h : k < (tilesOf ps W H).length) (h2 : k < (rects W H).length) :
    (tilesOf ps W H)[k] = small (tilesOf ps W H)[k] ∧ ((tilesOf ps W H)[k].length = 1 ∨ (tilesOf ps W H)[k].length = (rects W H)[k].w * (rects W H)[k].h) ∧ 1 ≤ (tilesOf ps W H)[k].length ∧ (tilesOf ps W H)[k].length ≤ 1000 := by
  obtain ⟨r, hr⟩ : ∃ r, r = (rects W H)[k] := ⟨_, rfl⟩
  have hi := rects_in (W := W) (H := H) (r := r) (by rw [hr]; exact List.getElem_mem h2)
  have e : (tilesOf ps W H)[k] = small (crop ps W r) := by
    simp only [tilesOf, List.getElem_map, hr]
  rw [e, ← hr]
  have hl := crop_length ps W r
  have h3 : 1 * 1 ≤ r.h * r.w := Nat.mul_le_mul hi.h1 hi.w1
  have h4 : r.h * r.w ≤ 16 * 16 := Nat.mul_le_mul hi.h16 hi.w16
  refine ⟨(Pak.small_small _).symm, ?_, ?_⟩
  · rcases Pak.small_len (crop ps W r) with h | h
    · exact .inl h
    · right; rw [h, hl, Nat.mul_comm]
  · rcases Pak.small_len (crop ps W r) with h | h
    · omega
    · rw [h, hl]; omega
theorem tilesOf_length (ps : List Px) (W H : Nat) : (tilesOf ps W H).length = (rects W H).length := by simp [tilesOf]
theorem plain_bytes : ∀ ts : List (List Px), plain ts = ts.length → (ts.flatMap Pak.packTile).length = 5 * ts.length
  | [], _ => rfl
  | t :: ts, h => by
    unfold plain at h
    by_cases h1 : t.length = 1
    · rw [List.filter_cons_of_pos (by simpa using h1), List.length_cons, List.length_cons] at h
      have := plain_bytes ts (by unfold plain; omega)
      rw [List.flatMap_cons, List.length_append, this, List.length_cons]
      unfold Pak.packTile
      rw [if_pos h1, List.length_cons, Pak.pxBytes_length, h1]
      omega
    · rw [List.filter_cons_of_neg (by simpa using h1), List.length_cons] at h
      have := List.length_filter_le (fun l : List Px => decide (l.length = 1)) ts
      omega
theorem pack_plain {ps : List Px} {W H : Nat} (h : plain (tilesOf ps W H) = (rects W H).length) : (Pak.pack W H (tilesOf ps W H)).length ≤ 64 + 8 * (rects W H).length := by
  have h1 := plain_bytes (tilesOf ps W H) (by rw [h, tilesOf_length])
  rw [tilesOf_length] at h1
  unfold Pak.pack Pak.body
  rw [List.length_append, List.length_append, List.length_append, h1, Pak.num_length, Pak.num_length, Pak.num_length]
  omega
end Til
/-- One bit of a byte turned. -/
def flip (b : UInt8) (k : Nat) : UInt8 := UInt8.ofNat (b.toNat ^^^ 2 ^ k)
theorem flip_nat (b : UInt8) (k : Nat) (hk : k ≤ 7) : (flip b k).toNat = b.toNat ^^^ 2 ^ k := by
  have h1 := b.toNat_lt
  have h2 : b.toNat ^^^ 2 ^ k < 2 ^ 8 := Nat.xor_lt_two_pow (by omega) (Nat.pow_lt_pow_right (by omega) (by omega))
  unfold flip
  rw [UInt8.toNat_ofNat']
  exact Nat.mod_eq_of_lt h2
theorem flip_ne (b : UInt8) (k : Nat) (hk : k ≤ 7) : flip b k ≠ b := by
  intro e
  have h := flip_nat b k hk
  rw [e] at h
  have h2 : b.toNat ^^^ (b.toNat ^^^ 2 ^ k) = b.toNat ^^^ b.toNat := by rw [← h]
  rw [← Nat.xor_assoc, Nat.xor_self, Nat.zero_xor] at h2
  have := Nat.pow_pos (n := k) (show 0 < 2 by omega)
  omega
theorem flip_int (b : UInt8) (k : Nat) (hk : k ≤ 7) : bits .xor .u8 (b.toNat : Int) ((2 ^ k : Nat) : Int) = ((flip b k).toNat : Int) := by
  rw [flip_nat b k hk]
  exact u8_xor_nat _ _ (by have := b.toNat_lt; omega) (Nat.pow_lt_pow_right (show 1 < 2 by omega) (show k < 8 by omega))
set_option maxRecDepth 100000 in
set_option maxHeartbeats 8000000 in
theorem tilesPack_any (W H : Int) (A : Option Addr) (n c : Nat) (ps : List Px) (at_ bit : Int) (E : Nat → Addr) (w : World) (hp : Reads w w.heap.size 4 A n (pxCells ps)) (hE : ErrsAt w E) (hTb : Tabs w) :
    Calls Tryz.prog 3 #[.agg #[.int .i64 W, .int .i64 H, .slice A n c], .int .i64 at_, .int .i64 bit] w fun e w' => e = .returned (.bool true) ∧ Below w.heap.size w w' := by
  obtain rfl := hp.pxLen
  have HP := Lib.hid hp
  have HE := Lib.hid hE
  have HTB := Lib.hid hTb
  clear hp hE hTb
  obtain ⟨rb, hrb⟩ : ∃ rb, rightB W H ps.length = rb := ⟨_, rfl⟩
  have HRB := Lib.hid hrb
  clear hrb
  go_enter Tryz.func3, Tryz.ntmps3
  go_wp2_with fail
  refine (lawOne_any _).mono ?_
  rintro e w1 ⟨rfl, hb1⟩
  have B1 := (Blk.new w 24 #[.int .i64 W, .int .i64 H, .slice A ps.length c] rfl).below hb1 (by simp)
  have K1 : Below w.heap.size w w1 := Below.trans (by go_grown) (hb1.mono (by simp))
  have cp := B1.cell
  clear hb1
  go_wp2_with fail
  refine (small_any W H A ps.length c _).mono ?_
  rintro e w2 ⟨rfl, hb2⟩
  have B2 := B1.below hb2 B1.lt
  have K2 := K1.trans (hb2.mono K1.size)
  by_cases hn3 : ps.length ≤ 3000
  case neg =>
    have hd : decide (ps.length ≤ 3000) = false := by simp [hn3]
    rw [hd]
    go_wp2_with fail
    go_ret
    exact ⟨rfl, K2⟩
  have hd : decide (ps.length ≤ 3000) = true := by simp [hn3]
  rw [hd]
  clear hd cp B1 K1 hb2
  by_cases hb0 : bit < 0
  · go_wp2_with fail
    go_ret
    exact ⟨rfl, K2⟩
  by_cases hb7 : 7 < bit
  · replace hb0 : 0 ≤ bit := by omega
    go_wp2_with fail
    go_ret
    exact ⟨rfl, K2⟩
  replace hb0 : 0 ≤ bit := by omega
  replace hb7 : bit ≤ 7 := by omega
  have cp := B2.cell
  go_wp2_with fail
  refine (own_any W H A ps.length c ps _ ((HP.out.below K2 (Nat.le_refl _)).more K2.size) (by omega)).mono ?_
  rintro e w4 ⟨A4, c4, rfl, hO4, hb4⟩
  have K4 := K2.trans (hb4.mono K2.size)
  have R4 := hO4.reads.2
  have B4 := B2.below hb4 B2.lt
  clear hO4 hb4 K2 cp B2
  cases rb with
  | false =>
    go_wp2_with fail
    refine (ofS_bad W H A4 ps.length c4 E _ (HE.out.below K4).er4.ers HRB.out).mono ?_
    rintro e w5 ⟨rfl, hb5⟩
    have K5 := K4.trans (hb5.mono K4.size)
    unfold errV
    go_wp2_with fail
    go_ret
    exact ⟨rfl, K5⟩
  | true =>
    obtain ⟨⟨a1, a2⟩, ⟨a3, a4⟩, hWH, _⟩ := rightB_true HRB.out
    obtain ⟨W', rfl⟩ : ∃ W' : Nat, W = W' := ⟨W.toNat, by omega⟩
    obtain ⟨H', rfl⟩ : ∃ H' : Nat, H = H' := ⟨H.toNat, by omega⟩
    have HNL := Lib.hid (rightLen hWH)
    have hW' : 1 ≤ W' ∧ W' ≤ 256 := by omega
    have hH' : 1 ≤ H' ∧ H' ≤ 256 := by omega
    clear hWH a1 a2 a3 a4
    obtain ⟨gp, hgp⟩ : ∃ gp, gp = w.heap.size := ⟨_, rfl⟩
    rw [← hgp] at B4 ⊢
    have HGP := Lib.hid hgp
    clear hgp
    go_wp2_with fail
    refine (of_good W' H' A4 ps.length c4 ps _ R4 hW' hH' HNL.out).mono ?_
    rintro e w5 ⟨g1, ts, rfl, G5, T5, hb5⟩
    have K5 := K4.trans (hb5.mono K4.size)
    have B5 := B4.below hb5 B4.lt
    have hl1 : ts.length ≤ 256 := by
      have h1 := T5.len
      have h2 : Til.cols H' * Til.cols W' ≤ 16 * 16 := Nat.mul_le_mul (by unfold Til.cols; omega) (by unfold Til.cols; omega)
      omega
    have HT5 := Lib.hid T5
    have HG5 := Lib.hid G5
    clear T5 G5 hb5 K4 R4 B4
    have hTz := HTB.out.size
    go_wp2_with fail
    refine (pack_any g1 W' H' ts E w5 HG5.out (HE.out.below K5).er4.ers (HTB.out.below K5 hTz) hW'.2 hH'.2 hl1 (fun t ht => tile_le HT5.out ht) (Nat.le_trans hTz K5.size)).mono ?_
    rw [HT5.out.px]
    obtain ⟨S, hS⟩ : ∃ S, S = Pak.pack W' H' (Til.tilesOf ps W' H') := ⟨_, rfl⟩
    rw [← hS]
    have hSl : S.length ≤ 300000 := by
      have h1 := bodyTo_length W' H' (Til.tilesOf ps W' H') (fun l hl => by
        obtain ⟨k, hk, e⟩ := List.getElem_of_mem hl
        rw [← HT5.out.px] at hl
        obtain ⟨t, ht, e2⟩ := List.mem_map.1 hl
        rw [← e2]
        exact tile_le HT5.out ht) (Til.tilesOf ps W' H').length
      rw [bodyTo_all, Til.tilesOf_length] at h1
      have h2 := rects_few hW'.2 hH'.2
      rw [hS]
      unfold Pak.pack
      rw [List.length_append, Pak.num_length]
      omega
    have hUn : Pak.unpack S = .ok (W', H', Til.tilesOf ps W' H') := by
      rw [hS] at hSl ⊢
      exact Pak.unpack_pack W' H' _ hW' hH' (Til.tilesOf_length _ _ _) (fun k h h2 => Til.tiles_ok k h h2) hSl
    have hTu : ∀ (i : Nat) (hi : i < S.length) (b : UInt8), b ≠ S[i] → Pak.unpack (S.set i b) = .error 3 := by
      intro i hi b hb
      have h := Pak.unpack_turned W' H' (Til.tilesOf ps W' H') (by rw [← hS]; exact hSl) i (by rw [← hS]; exact hi) b (by simp only [← hS]; exact hb)
      rw [← hS] at h
      exact h
    have HS := Lib.hid hS
    have HUN := Lib.hid hUn
    have HTU := Lib.hid hTu
    clear hS hUn hTu
    rintro e w6 ⟨rfl, hb6⟩
    obtain ⟨z, hz⟩ : ∃ z : ByteArray, z = ⟨S.toArray⟩ := ⟨_, rfl⟩
    rw [← hz]
    have hzl : lst z = S := by rw [hz]
    have hzs : z.size = S.length := by rw [← lst_length, hzl]
    have K6 := K5.trans (hb6.mono K5.size)
    have B6 := B5.below hb6 B5.lt
    have HG6 := Lib.hid (HG5.out.step hb6)
    have HZL := Lib.hid hzl
    have HZ := Lib.hid hz
    have HZS := Lib.hid hzs
    have hz3 : z.size ≤ 300000 := by omega
    clear hb6 K5 B5 HG5 hzl hz hzs
    go_wp2_with fail
    refine (unpack_any z E w6 (HE.out.below K6) (HTB.out.below K6 hTz) hz3).mono ?_
    rw [HZL.out, HUN.out]
    rintro e w7 ⟨hb7, g2, us, rfl, G7, hus, huw, hule⟩
    replace hus : us.map (·.l) = Til.tilesOf ps W' H' := hus
    replace huw : us.map (·.w) = (Til.rects W' H').map (·.w) := huw
    have T7 : TsOf ps W' H' us := ⟨hus, huw⟩
    have K7 := K6.trans (hb7.mono K6.size)
    have B7 := B6.below hb7 B6.lt
    have hl2 : us.length ≤ 256 := by rw [T7.len, ← HT5.out.len]; exact hl1
    have HG1 := Lib.hid (HG6.out.step hb7)
    have HG2 := Lib.hid (show Gd w7 g2 W' H' us from G7)
    have HT7 := Lib.hid T7
    have e0 : w7.drew.cell? ⟨gp, 0, none⟩ = some (.int .i64 W') := (B7.cell 0).trans rfl
    have e1 : w7.drew.cell? ⟨gp, 1, none⟩ = some (.int .i64 H') := (B7.cell 1).trans rfl
    have e2 : w7.drew.cell? ⟨gp, 2, none⟩ = some (.slice A ps.length c) := (B7.cell 2).trans rfl
    have hgpl := B7.lt
    clear hb7 K6 B6 HG6 G7 hus huw T7 hule
    go_wp2_with fail
    have hz7 : gp < w7.heap.size := hgpl
    have hzz : (z.toList == z.toList) = true := beq_self_eq_true _
    refine wp_region_held_drew (S := (fun w' => w'.cell? ⟨gp, 0, none⟩ = some (.int .i64 W') ∧ w'.cell? ⟨gp, 1, none⟩ = some (.int .i64 H') ∧ w'.cell? ⟨gp, 2, none⟩ = some (.slice A ps.length c))) (by kernel_rfl) ?_ (fun hHeld => ?_)
    · exact ⟨e0, e1, e2⟩
    refine opT 0 rfl ?_; refine opT 1 rfl ?_; refine opT 2 rfl ?_; refine opT 3 rfl ?_; refine opT 4 rfl ?_; refine opT 5 rfl ?_; refine opT 6 rfl ?_; refine opT 7 rfl ?_; refine opT 9 rfl ?_
    refine opD 8 rfl (fun K hK => ?_)
    go_simp
    (go_at_call 12; refine (gpicture_any g2 W' H' us ps w7.drew (HG2.out.step (Below.here w7)) HT7.out HNL.out hW' hH').mono ?_; rintro e w8 ⟨A8, c8, rfl, hO8, hb8⟩; have hb78 := Below.fromDrew hb8; have K8 := K7.trans (hb78.mono K7.size); have l8 : gp < w8.heap.size := Nat.lt_of_lt_of_le hz7 hb78.size)
    refine hK.out _ _ ?_ (fun hHeld => ?_)
    · exact ⟨bcell_ hb8 hz7 hHeld.1, bcell_ hb8 hz7 hHeld.2.1, bcell_ hb8 hz7 hHeld.2.2⟩
    clear hK K
    (try simp only [Act.put, nz1, nz2, nz3, nz4, nz5, nz6])
    refine opD 10 rfl (fun K hK => ?_)
    go_simp
    (go_at_call 11; refine (samePicture_same W' H' A8 ps.length c8 A c ps w8 hO8.reads.2 ((HP.out.below K8 (Nat.le_refl _)).more K8.size) (by omega)).mono ?_; rintro e w9 ⟨rfl, hb9⟩; have hb79 := hb78.trans (hb9.mono hb78.size); have K9 := K8.trans (hb9.mono K8.size); have l9 : gp < w9.heap.size := Nat.lt_of_lt_of_le l8 hb9.size)
    refine hK.out _ _ ?_ (fun hHeld => ?_)
    · exact ⟨bcell_ hb9 l8 hHeld.1, bcell_ hb9 l8 hHeld.2.1, bcell_ hb9 l8 hHeld.2.2⟩
    clear hK K
    (try simp only [Act.put, nz1, nz2, nz3, nz4, nz5, nz6])
    refine opT 11 rfl ?_; refine opT 12 rfl ?_; refine opT 13 rfl ?_; refine opT 14 rfl ?_; refine opT 16 rfl ?_
    refine opD 15 rfl (fun K hK => ?_)
    go_simp
    (go_at_call 9; refine (pack_any g2 W' H' us E w9 (HG2.out.step hb79) (HE.out.below K9).er4.ers (HTB.out.below K9 hTz) hW'.2 hH'.2 hl2 (fun t ht => tile_le HT7.out ht) (Nat.le_trans hTz K9.size)).mono ?_; rw [HT7.out.px, ← HS.out]; rintro e wa ⟨rfl, hba⟩; rw [← HZ.out]; have hb7a := hb79.trans (hba.mono hb79.size); have Ka := K9.trans (hba.mono K9.size))
    refine hK.out _ _ ?_ (fun hHeld => ?_)
    · exact ⟨bcell_ hba l9 hHeld.1, bcell_ hba l9 hHeld.2.1, bcell_ hba l9 hHeld.2.2⟩
    clear hK K
    (try simp only [Act.put, nz1, nz2, nz3, nz4, nz5, nz6])
    refine opT 17 rfl ?_; refine opT 18 rfl ?_
    refine wpAnyH_done (by kernel_rfl) ?_ _
    have Ba := B7.below hb7a hz7
    have f0 : wa.cell? ⟨gp, 0, none⟩ = some (.int .i64 W') := (Ba.cell 0).trans rfl
    have f1 : wa.cell? ⟨gp, 1, none⟩ = some (.int .i64 H') := (Ba.cell 1).trans rfl
    have HGa := Lib.hid (HG1.out.step hb7a)
    have hTbl := HTB.out.size
    clear hb8 hb9 hba hb78 hb79 hb7a K7 K8 K9 l8 l9 B7 e0 e1 e2 hO8 HG1 HG2 HT7 hHeld Ba
    go_wp2_with fail
    refine (refRects_any W' H' wa hW'.2 hH'.2).mono ?_
    rintro e wb ⟨Ab, cb, rfl, -, hbb⟩
    obtain ⟨N, hN⟩ : ∃ N, N = (Til.rects W' H').length := ⟨_, rfl⟩
    have hNl : N ≤ 256 := by rw [hN]; exact rects_few hW'.2 hH'.2
    have Kb := Ka.trans (hbb.mono Ka.size)
    have HGb := Lib.hid (HGa.out.step hbb)
    obtain ⟨P, hP⟩ : ∃ P, P = Til.plain (Til.tilesOf ps W' H') := ⟨_, rfl⟩
    have hple : P = N → (z.size : Int) ≤ 64 + 8 * (N : Int) := by
      intro e
      have h := Til.pack_plain (ps := ps) (W := W') (H := H') (by rw [← hP, ← hN]; exact e)
      rw [← HS.out, ← hN] at h
      have := HZS.out
      omega
    have HPLE := Lib.hid hple
    have HP2 := Lib.hid hP
    have HN := Lib.hid hN
    rw [← hN]
    clear hbb HGa f0 f1 Ka hple hP hN
    go_upto_region 12 with (fail)
    go_cut [82] from 71 to 82 (fun s wx => s = .bool false ∧ wb = wx)
    case first =>
      go_wp2_with fail
      refine (gplain_any g1 W' H' ts ps wb HGb.out HT5.out (by omega)).mono ?_
      rintro e wb ⟨rfl, rfl⟩
      rw [← HP2.out]
      by_cases hPN : P = N
      · have hle := HPLE.out hPN
        have hPi : ((P : Int) == (N : Int)) = true := by rw [beq_iff_eq]; omega
        obtain ⟨M, hM⟩ : ∃ M : Nat, M = 8 * N := ⟨_, rfl⟩
        have hM1 : 8 * (N : Int) = (M : Nat) := by omega
        obtain ⟨M2, hM2⟩ : ∃ M2 : Nat, M2 = 64 + M := ⟨_, rfl⟩
        have hM3 : 64 + (M : Int) = (M2 : Nat) := by omega
        have hle2 : (z.size : Int) ≤ M2 := by omega
        have hw1 : IntKind.i64.wrap (M : Int) = M := IntWalk.i64_in _ (by omega)
        have hw2 : IntKind.i64.wrap (M2 : Int) = M2 := IntWalk.i64_in _ (by omega)
        clear hM hM2 hle hPN
        go_wp2_with fail
        go_meet
        case rel => exact ⟨by first | rfl | (simp; omega), rfl⟩
      · have hPi : ((P : Int) == (N : Int)) = false := by rw [beq_eq_false_iff_ne]; omega
        clear hPN
        go_wp2_with fail
        go_meet
        case rel => exact ⟨rfl, rfl⟩
    case rest =>
      obtain ⟨rfl, rfl⟩ := hcut
      by_cases ha0 : at_ < 0
      · go_wp2_with fail
        go_ret
        exact ⟨rfl, Kb⟩
      replace ha0 : 0 ≤ at_ := by omega
      obtain ⟨i, rfl⟩ : ∃ i : Nat, at_ = i := ⟨at_.toNat, by omega⟩
      by_cases ha1 : (z.size : Int) ≤ i
      · go_wp2_with fail
        go_ret
        exact ⟨rfl, Kb⟩
      replace ha1 : (i : Int) < z.size := by omega
      have hiz : i < z.size := by omega
      have hiS : i < S.length := by have := HZS.out; omega
      obtain ⟨k, rfl⟩ : ∃ k : Nat, bit = k := ⟨bit.toNat, by omega⟩
      have hk7 : k ≤ 7 := by omega
      obtain ⟨cb2, wc, hrun, hOc, hbc⟩ := conv_string wb z (by unfold maxLen; omega)
      rw [HZL.out] at hOc
      have Kc := Kb.trans (hbc.mono Kb.size)
      obtain ⟨gC, hgC⟩ : ∃ gC, gC = wb.heap.size := ⟨_, rfl⟩
      rw [← hgC] at hrun hOc
      have hgw : w.heap.size ≤ gC := by rw [hgC]; exact Kb.size
      obtain ⟨x, hx⟩ : ∃ x, x = S[i] := ⟨_, rfl⟩
      obtain ⟨c1, c2⟩ := hOc.cellAt i hiz
      rw [Nat.zero_add, bytes_at, List.getElem?_eq_getElem hiS, ← hx] at c1
      rw [Nat.zero_add] at c2
      replace c1 : wc.cell? ⟨gC, i, none⟩ = some (.int .u8 x.toNat) := c1
      obtain ⟨y, hy⟩ : ∃ y, y = flip x k := ⟨_, rfl⟩
      have hxor := flip_int x k hk7
      rw [← hy] at hxor
      obtain ⟨T, hT⟩ : ∃ T : Nat, T = 2 ^ k := ⟨_, rfl⟩
      have hTl : T < 256 := by rw [hT]; exact Nat.pow_lt_pow_right (show 1 < 2 by omega) (show k < 8 by omega)
      rw [← hT] at hxor
      have hpm : (2 : Int) ^ k % 256 = (T : Nat) := by
        have e : (2 : Int) ^ k = (T : Nat) := by rw [hT, Int.natCast_pow]; rfl
        rw [e]
        omega
      clear hT
      have hOd := hOc.setByte i hiz y
      rw [Nat.zero_add] at hOd
      have hun : Pak.unpack (S.set i y) = .error 3 := HTU.out i hiS y (by rw [hy, ← hx]; exact flip_ne x k hk7)
      have hSs : (S.set i y).length = S.length := List.length_set ..
      have Kd : Below w.heap.size w (wc.setCell ⟨gC, i, none⟩ (.int .u8 y.toNat)) := Kc.setCell (p := ⟨gC, i, none⟩) hgw _
      have hcv := conv_reads (wc.setCell ⟨gC, i, none⟩ (.int .u8 y.toNat)) _ z.size cb2 _ _ hOd.reads.2
      have HKD := Lib.hid Kd
      have HUN2 := Lib.hid hun
      have HSS := Lib.hid hSs
      have hki : (0 : Int) ≤ k := by omega
      have hkw : IntKind.u64.wrap (k : Int) = k := IntWalk.u64_in _ (by omega)
      clear Kb Kc Kd hun hSs hOc hOd hgC hx hy hbc HGb
      go_wp2_with fail
      refine (unpack_any ⟨(S.set i y).toArray⟩ E _ (HE.out.below HKD.out) (HTB.out.below HKD.out hTz) (by show (S.set i y).length ≤ 300000; have := HSS.out; omega)).mono ?_
      rw [show lst ⟨(S.set i y).toArray⟩ = S.set i y from rfl, HUN2.out]
      rintro e we ⟨hbe, rfl⟩
      have Ke := HKD.out.trans (hbe.mono HKD.out.size)
      have hEe := HE.out.below Ke
      have HKE := Lib.hid Ke
      clear hbe Ke hcv hrun c1 c2 hxor hpm
      unfold errV
      go_wp2_with fail
      refine (coded_sent E 3 (by decide) 1 we hEe).mono ?_
      rintro e wf ⟨rfl, hbf⟩
      go_wp2_with fail
      refine (coded_sent E 3 (by decide) 4 wf (hEe.below hbf)).mono ?_
      rintro e wg ⟨rfl, hbg⟩
      have hbeg := hbf.trans (hbg.mono hbf.size)
      go_wp2_with fail
      go_ret
      exact ⟨rfl, HKE.out.trans (hbeg.mono HKE.out.size)⟩
end Go.Proofs.YthohmpjoeffckaaGreatDoor
