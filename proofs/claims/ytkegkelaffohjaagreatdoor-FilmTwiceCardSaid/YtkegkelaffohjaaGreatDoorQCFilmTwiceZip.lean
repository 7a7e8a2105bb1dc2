/- sum.Adler, deflate.Zip, inflate.Unzip: the walks. Printed by mk.py. -/
import Derived.Test.YtkegkelaffohjaaGreatDoorQCFilmTwiceDeflate
import Derived.Test.YtkegkelaffohjaaGreatDoorQCFilmTwiceInflate
import Derived.Test.YtkegkelaffohjaaGreatDoorKCFilmTwice7
import Derived.Test.YtkegkelaffohjaaGreatDoorKCFilmTwice2
import Derived.Test.YtkegkelaffohjaaGreatDoorKCFilmTwice10
namespace Go.Proofs.YtkegkelaffohjaaGreatDoor
open Go Go.RowKit
theorem adler_pair (s : List UInt8) : Adl.adler s = (Adl.run s).2 * 65536 + (Adl.run s).1 := rfl
set_option maxRecDepth 100000 in
theorem moreAdler_any (s : ByteArray) (w : World) (hs : s.size ≤ 1099511627776) :
  Calls Tryz.prog 109 #[.int .u32 1, .string s] w fun e w' => e = .returned (.int .u32 (Adl.adler (lst s))) ∧ w' = w := by
 go_enter Tryz.func109, Tryz.ntmps109
 go_wp2_with fail
 go_loop [5, 6, 16] (fun xv yv i => ∃ j : Nat, j ≤ s.size ∧ i = .int .i64 j ∧ xv = .int .u32 (Adl.run ((lst s).take j)).1 ∧ yv = .int .u32 (Adl.run ((lst s).take j)).2) (fun _ _ i => s.size - (intOf i).toNat)
 case atStart => exact ⟨0, Nat.zero_le _, rfl, rfl, rfl⟩
 case round =>
  obtain ⟨j, hj, rfl, rfl, rfl⟩ := hrel
  have hl := Adl.run_lt ((lst s).take j)
  obtain ⟨Q, hQ⟩ : ∃ Q, Q = Adl.run ((lst s).take j) := ⟨_, rfl⟩
  rw [← hQ] at hl ⊢
  have HQ := Lib.hid hQ
  clear hQ
  obtain ⟨x, y⟩ := Q
  by_cases hlt : j < s.size
  ·obtain ⟨b, hb⟩ : ∃ b : UInt8, s[j] = b := ⟨_, rfl⟩
   have hbl := b.toNat_lt
   obtain ⟨x2, hx2⟩ : ∃ x2 : Nat, x2 = (x + b.toNat) % 65521 := ⟨_, rfl⟩
   obtain ⟨y2, hy2⟩ : ∃ y2 : Nat, y2 = (y + x2) % 65521 := ⟨_, rfl⟩
   have hst : Adl.run ((lst s).take (j + 1)) = (x2, y2) := by
    have hj2 : (lst s).take (j + 1) = (lst s).take j ++ [b] := by
     rw [List.take_succ_eq_append_getElem (by rw [lst_length]; exact hlt)]
     congr 2
    rw [hj2, Adl.run_snoc, ← HQ.out, hy2, hx2]
    rfl
   have HST := Lib.hid hst
   have HX2 := Lib.hid hx2
   have HY2 := Lib.hid hy2
   clear hst hx2 hy2
   go_wp2_with fail
   go_round
   case rel =>
    have h1 := HX2.out
    have h2 := HY2.out
    refine ⟨j + 1, hlt, by go_num, ?_, ?_⟩
    ·rw [HST.out]
     show Value.int IntKind.u32 (((x : Int) + b.toNat) % 65521) = Value.int IntKind.u32 ((x2 : Nat) : Int)
     congr 1
     omega
    ·rw [HST.out]
     show Value.int IntKind.u32 (((y : Int) + ((x : Int) + b.toNat) % 65521) % 65521) = Value.int IntKind.u32 ((y2 : Nat) : Int)
     congr 1
     omega
   case measure => simp [intOf]; omega
  ·have hje : j = s.size := by omega
   subst hje
   have hq := HQ.out
   rw [List.take_of_length_le (by rw [lst_length]; exact Nat.le_refl _)] at hq
   have hor : bits .or .u32 ((y : Int) * 65536) (x : Int) = ((Adl.adler (lst s) : Nat) : Int) := by
    have h := nat_join 16 (y * 65536) x (by omega) (by simp only at hl; omega)
    rw [adler_pair, ← hq]
    have e : ((y : Int) * 65536) = ((y * 65536 : Nat) : Int) := by omega
    rw [e, u32_or_nat _ _ (by simp only at hl; omega) (by simp only at hl; omega), h]
   have hw : (y : Int) * 65536 % 4294967296 = (y : Int) * 65536 := by simp only at hl; omega
   clear hq
   go_wp2_with fail
   go_ret
   refine ⟨?_, rfl⟩
   first | rfl | (rw [hor]; rfl) | (simp only [hw, hor]; rfl)
theorem adler_any (s : ByteArray) (w : World) (hs : s.size ≤ 1099511627776) :
  Calls Tryz.prog 72 #[.string s] w fun e w' => e = .returned (.int .u32 (Adl.adler (lst s))) ∧ w' = w := by
 go_enter Tryz.func72, Tryz.ntmps72
 go_wp2_with fail
 refine (moreAdler_any s w hs).mono ?_
 rintro e w ⟨rfl, rfl⟩
 go_wp2_with fail
 go_ret
 exact ⟨rfl, rfl⟩
set_option maxHeartbeats 1000000 in
theorem zip_any (s : ByteArray) (E : Nat → Addr) (w : World) (hE : ErS w E) (hT : Tabs w) (hs : s.size ≤ 65535) :
  Calls Tryz.prog 40 #[.string s] w fun e w' => ∃ z : ByteArray, e = .returned (.tuple #[.string z, .nilIface]) ∧ lst z = Inf.zip (lst s) ∧ Below w.heap.size w w' := by
 obtain ⟨n, hn⟩ : ∃ n, n = Adl.adler (lst s) := ⟨_, rfl⟩
 obtain ⟨D, hD⟩ : ∃ D, D = Inf.deflate (lst s) := ⟨_, rfl⟩
 have hnl : n < 4294967296 := by rw [hn]; exact Adl.adler_lt _
 have hcv := fun w => conv_made w (Crc.num n) 4 #[.int .u8 ((n : Int) / 16777216), .int .u8 ((n : Int) / 65536 % 256), .int .u8 ((n : Int) / 256 % 256), .int .u8 ((n : Int) % 256)] rfl (by
  simp only [Crc.num, bytes, List.map_cons, List.map_nil, UInt8.toNat_ofNat']
  congr 1
  have e1 : ((n / 16777216 % 2 ^ 8 : Nat) : Int) = (n : Int) / 16777216 := by omega
  have e2 : ((n / 65536 % 2 ^ 8 : Nat) : Int) = (n : Int) / 65536 % 256 := by omega
  have e3 : ((n / 256 % 2 ^ 8 : Nat) : Int) = (n : Int) / 256 % 256 := by omega
  have e4 : ((n % 2 ^ 8 : Nat) : Int) = (n : Int) % 256 := by omega
  rw [e1, e2, e3, e4])
 have HN := Lib.hid hn
 have HD := Lib.hid hD
 clear hn hD
 go_enter Tryz.func40, Tryz.ntmps40
 go_wp2_with fail
 refine (deflate_any s E w hE hT (by omega)).mono ?_
 rintro e w1 ⟨rfl, hb1⟩
 rw [← HD.out]
 obtain ⟨d, hd⟩ : ∃ d : ByteArray, d = ⟨D.toArray⟩ := ⟨_, rfl⟩
 rw [← hd]
 have hdl : lst d = D := by rw [hd]
 have hds : d.size ≤ 65540 := by rw [← lst_length, hdl, HD.out]; have := Pak.deflate_short (lst s) (by rw [lst_length]; exact hs); rw [lst_length] at this; omega
 have hc1 : (9223372036854775807 < 2 + d.size) = False := eq_false (by omega)
 have hc2 : (9223372036854775807 < 2 + d.size + (Crc.num n).length) = False := eq_false (by rw [Pak.num_length]; omega)
 have HDL := Lib.hid hdl
 clear hd hdl
 go_wp2_with fail
 refine (adler_any s w1 (by omega)).mono ?_
 rintro e w1 ⟨rfl, rfl⟩
 rw [← HN.out]
 go_wp2_with fail
 go_ret2
 refine ⟨_, rfl, ?_, hb1.alloc hb1.size _⟩
 rw [lst_append, lst_append, HDL.out, HD.out]
 unfold Inf.zip
 rw [← HN.out]
 rfl
def UzR (w : World) (E : Nat → Addr) (R : Except Nat (List UInt8)) (e : Ending) (w' : World) : Prop :=
 Below w.heap.size w w' ∧ match R with
 | .error k => e = .returned (.tuple #[.string ⟨#[]⟩, errV (E k)])
 | .ok t => ∃ z : ByteArray, e = .returned (.tuple #[.string z, .nilIface]) ∧ lst z = t
theorem and15 : ∀ a, a < 256 → a &&& 15 = a % 16 := by decide +kernel
theorem and32 : ∀ a, a < 256 → a &&& 32 = 32 * (a / 32 % 2) := by decide +kernel
theorem i64_or_big (x y : Nat) (hx : x < 256) (hy : y < 256) : bits .or .i64 ((x : Int) * 256) (y : Int) = ((x * 256 + y : Nat) : Int) := by
 have h := nat_join 8 (x * 256) y (by omega) (by omega)
 have e : (x : Int) * 256 = ((x * 256 : Nat) : Int) := by omega
 rw [e]
 show IntKind.i64.wrap ((BitVec.ofInt 64 ((x * 256 : Nat) : Int) ||| BitVec.ofInt 64 (y : Int)).toNat : Int) = _
 rw [BitVec.toNat_or, BitVec.ofInt_natCast, BitVec.ofInt_natCast, BitVec.toNat_ofNat, BitVec.toNat_ofNat, Nat.mod_eq_of_lt (by omega), Nat.mod_eq_of_lt (by omega), h, IntWalk.i64_in _ (by omega)]
namespace Inf
theorem rblocks_len (most : Nat) : ∀ (f : Nat) (bs b : List Bool) (out o : List UInt8), out.length ≤ most → rblocks most f bs out = .ok (b, o) → o.length ≤ most
 | 0, _, _, _, _, _, h => by cases h
 | f + 1, bs, b, out, o, ho, h => by
  rw [rblocks] at h
  cases hx : rblock most bs out with
  | error k => rw [hx] at h; cases h
  | ok q =>
   obtain ⟨last, b1, o1⟩ := q
   have h1 := rblock_len hx ho
   rw [hx] at h
   simp only at h
   split at h
   ·injection h with h
    injection h with _ h
    rw [← h]
    exact h1.2
   ·exact rblocks_len most f b1 b o1 o h1.2 h
theorem inflate_len {s t : List UInt8} {most u : Nat} (h : inflate s most = .ok (t, u)) : t.length ≤ most ∧ u ≤ s.length := by
 unfold inflate at h
 cases hx : rblocks most (8 * s.length + 1) (Bit.bits s) [] with
 | error k => rw [hx] at h; cases h
 | ok q =>
  obtain ⟨b, o⟩ := q
  rw [hx] at h
  injection h with h
  injection h with h1 h2
  exact ⟨by rw [← h1]; exact rblocks_len most _ _ _ _ _ (Nat.zero_le _) hx, by omega⟩
end Inf
set_option maxRecDepth 100000 in
set_option maxHeartbeats 4000000 in
theorem unzip_any (s : ByteArray) (most : Nat) (E : Nat → Addr) (w : World) (hE : Er4 w E) (hTb : Tabs w) (hG : 15 ≤ w.heap.size) (hs : s.size ≤ 300000) (hm : most ≤ 300000) :
  Calls Tryz.prog 56 #[.string s, .int .i64 most] w fun e w' => UzR w E (Inf.unzip (lst s) most) e w' := by
 have dT := hE.text
 obtain ⟨R, hR⟩ : ∃ R, R = Inf.unzip (lst s) most := ⟨_, rfl⟩
 rw [← hR]
 unfold Inf.unzip at hR
 have HE := Lib.hid hE
 have HT := Lib.hid hTb
 clear hE hTb
 go_enter Tryz.func56, Tryz.ntmps56
 go_wp2_with fail
 refine (bound_no s most w hs hm).mono ?_
 rintro e w ⟨rfl, rfl⟩
 by_cases c2 : s.size < 2
 ·rw [if_pos (show (lst s).length < 2 from c2)] at hR
  subst hR
  have c2i : (s.size : Int) < 2 := by omega
  clear c2
  go_wp2_with fail
  refine wp_region_held_drew (S := (fun _ => True)) (by kernel_rfl) ?_ (fun hHeld => ?_)
  ·trivial
  refine opT 0 rfl ?_; refine opT 1 rfl ?_
  refine opV 2 ((.bool true)) rfl ?_ ?_
  ·(intro w hSw; (try dsimp only at hSw); go_simp <;> first | with_reducible rfl | assumption | omega | (simp; omega))
  (try simp only [Act.put, nz1, nz2, nz3, nz4, nz5, nz6])
  refine opT 3 rfl ?_
  refine opU 4 rfl ?_; refine opU 5 rfl ?_; refine opU 6 rfl ?_; refine opU 7 rfl ?_
  refine opT 8 rfl ?_; refine opT 9 rfl ?_
  refine opU 10 rfl ?_; refine opU 11 rfl ?_; refine opU 12 rfl ?_; refine opU 13 rfl ?_
  refine opT 14 rfl ?_; refine opT 15 rfl ?_
  refine opU 16 rfl ?_; refine opU 17 rfl ?_; refine opU 18 rfl ?_; refine opU 19 rfl ?_; refine opU 20 rfl ?_; refine opU 21 rfl ?_; refine opU 22 rfl ?_; refine opU 23 rfl ?_; refine opU 24 rfl ?_; refine opU 25 rfl ?_
  refine opT 26 rfl ?_; refine opT 27 rfl ?_
  refine opU 28 rfl ?_; refine opU 29 rfl ?_; refine opU 30 rfl ?_; refine opU 31 rfl ?_
  refine opT 32 rfl ?_
  refine wpAnyH_done (by kernel_rfl) ?_ _
  go_wp2_with fail
  go_quiet (fail)
  go_wp2_with fail
  go_ret2
  exact ⟨below_drewN (Below.refl _ _).drew _, rfl⟩
 rw [if_neg (show ¬ (lst s).length < 2 from c2)] at hR
 have c2i : (2 : Int) ≤ s.size := by omega
 have i0 : 0 < s.size := by omega
 have i1 : 1 < s.size := by omega
 have i1i : (1 : Int) < s.size := by omega
 have i0i : (0 : Int) < s.size := by omega
 obtain ⟨a, ha⟩ : ∃ a : UInt8, s[0] = a := ⟨_, rfl⟩
 obtain ⟨b, hb⟩ : ∃ b : UInt8, s[1] = b := ⟨_, rfl⟩
 have ga : (lst s).getD 0 0 = a := by rw [List.getD_eq_getElem?_getD, List.getElem?_eq_getElem (by rw [lst_length]; exact i0)]; exact ha
 have gb : (lst s).getD 1 0 = b := by rw [List.getD_eq_getElem?_getD, List.getElem?_eq_getElem (by rw [lst_length]; exact i1)]; exact hb
 rw [ga, gb] at hR
 have hal := a.toNat_lt
 have hbl := b.toNat_lt
 obtain ⟨x, hx⟩ : ∃ x, x = a.toNat := ⟨_, rfl⟩
 obtain ⟨y, hy⟩ : ∃ y, y = b.toNat := ⟨_, rfl⟩
 rw [← hx, ← hy] at hR
 rw [← hx] at hal
 rw [← hy] at hbl
 have n15 : bits .and .u8 (x : Int) 15 = ((x % 16 : Nat) : Int) := by rw [show (15 : Int) = ((15 : Nat) : Int) from rfl, u8_and_nat _ _ (by omega) (by omega), and15 x (by omega)]
 have n32 : bits .and .u8 (y : Int) 32 = ((32 * (y / 32 % 2) : Nat) : Int) := by rw [show (32 : Int) = ((32 : Nat) : Int) from rfl, u8_and_nat _ _ (by omega) (by omega), and32 y (by omega)]
 have nor := i64_or_big x y (by omega) (by omega)
 obtain ⟨X16, hX16⟩ : ∃ X16, X16 = x % 16 := ⟨_, rfl⟩
 obtain ⟨X, hX⟩ : ∃ X, X = x * 256 + y := ⟨_, rfl⟩
 obtain ⟨Y, hY⟩ : ∃ Y, Y = 32 * (y / 32 % 2) := ⟨_, rfl⟩
 rw [← hX16] at n15
 rw [← hX] at nor
 rw [← hY] at n32
 have hx' : a.toNat = x := hx.symm
 have hy' : b.toNat = y := hy.symm
 obtain ⟨Z, hZ⟩ : ∃ Z, Z = X % 31 := ⟨_, rfl⟩
 have hr31 : (X : Int).tmod 31 = (Z : Nat) := by rw [Int.tmod_eq_emod_of_nonneg (by omega)]; omega
 have hr32 : (X : Int) % 31 = (Z : Nat) := by omega
 have wx : IntKind.i64.wrap (x : Int) = x := IntWalk.i64_in _ (by omega)
 have wy : IntKind.i64.wrap (y : Int) = y := IntWalk.i64_in _ (by omega)
 have wx2 : IntKind.i64.wrap ((x : Int) * 256) = (x : Int) * 256 := IntWalk.i64_in _ (by omega)
 obtain ⟨H, hH⟩ : ∃ H, H = x / 16 := ⟨_, rfl⟩
 have hh16 : (x : Int) / 16 = (H : Nat) := by omega
 clear ga gb hx hy c2
 by_cases b1 : X16 = 8
 case neg =>
  rw [if_pos (show Inf.headBad x y from .inl (by omega))] at hR
  subst hR
  have e1 : ((X16 : Int) != 8) = true := by rw [bne_iff_ne]; omega
  clear b1 hX16 hX hY hZ hH hal hbl
  go_wp2_with fail
  refine wp_region_held_drew (S := (fun _ => True)) (by kernel_rfl) ?_ (fun hHeld => ?_)
  ·trivial
  refine opT 0 rfl ?_; refine opT 1 rfl ?_
  refine opV 2 ((.bool false)) rfl ?_ ?_
  ·(intro w hSw; (try dsimp only at hSw); go_simp <;> first | with_reducible rfl | assumption | omega | (simp; omega))
  (try simp only [Act.put, nz1, nz2, nz3, nz4, nz5, nz6])
  refine opT 3 rfl ?_; refine opT 4 rfl ?_; refine opT 5 rfl ?_; refine opT 6 rfl ?_
  refine opV 7 ((.bool true)) rfl ?_ ?_
  ·(intro w hSw; (try dsimp only at hSw); go_simp <;> first | with_reducible rfl | assumption | omega | (simp; omega))
  (try simp only [Act.put, nz1, nz2, nz3, nz4, nz5, nz6])
  refine opT 8 rfl ?_; refine opT 9 rfl ?_
  refine opU 10 rfl ?_; refine opU 11 rfl ?_; refine opU 12 rfl ?_; refine opU 13 rfl ?_
  refine opT 14 rfl ?_; refine opT 15 rfl ?_
  refine opU 16 rfl ?_; refine opU 17 rfl ?_; refine opU 18 rfl ?_; refine opU 19 rfl ?_; refine opU 20 rfl ?_; refine opU 21 rfl ?_; refine opU 22 rfl ?_; refine opU 23 rfl ?_; refine opU 24 rfl ?_; refine opU 25 rfl ?_
  refine opT 26 rfl ?_; refine opT 27 rfl ?_
  refine opU 28 rfl ?_; refine opU 29 rfl ?_; refine opU 30 rfl ?_; refine opU 31 rfl ?_
  refine opT 32 rfl ?_
  refine wpAnyH_done (by kernel_rfl) ?_ _
  go_wp2_with fail
  go_quiet (fail)
  go_wp2_with fail
  go_ret2
  exact ⟨below_drewN (Below.refl _ _).drew _, rfl⟩
 case pos =>
 have e1 : ((X16 : Int) != 8) = false := by rw [bne_eq_false_iff_eq]; omega
 by_cases b2 : 7 < H
 ·rw [if_pos (show Inf.headBad x y from .inr (.inl (by omega)))] at hR
  subst hR
  have e2 : (7 : Int) < H := by omega
  clear b1 b2 hX16 hX hY hZ hH hal hbl
  go_wp2_with fail
  refine wp_region_held_drew (S := (fun _ => True)) (by kernel_rfl) ?_ (fun hHeld => ?_)
  ·trivial
  refine opT 0 rfl ?_; refine opT 1 rfl ?_
  refine opV 2 ((.bool false)) rfl ?_ ?_
  ·(intro w hSw; (try dsimp only at hSw); go_simp <;> first | with_reducible rfl | assumption | omega | (simp; omega))
  (try simp only [Act.put, nz1, nz2, nz3, nz4, nz5, nz6])
  refine opT 3 rfl ?_; refine opT 4 rfl ?_; refine opT 5 rfl ?_; refine opT 6 rfl ?_
  refine opV 7 ((.bool false)) rfl ?_ ?_
  ·(intro w hSw; (try dsimp only at hSw); go_simp <;> first | with_reducible rfl | assumption | omega | (simp; omega))
  (try simp only [Act.put, nz1, nz2, nz3, nz4, nz5, nz6])
  refine opT 8 rfl ?_; refine opT 9 rfl ?_; refine opT 10 rfl ?_; refine opT 11 rfl ?_; refine opT 12 rfl ?_
  refine opV 13 ((.bool true)) rfl ?_ ?_
  ·(intro w hSw; (try dsimp only at hSw); go_simp <;> first | with_reducible rfl | assumption | omega | (simp; omega))
  (try simp only [Act.put, nz1, nz2, nz3, nz4, nz5, nz6])
  refine opT 14 rfl ?_; refine opT 15 rfl ?_
  refine opU 16 rfl ?_; refine opU 17 rfl ?_; refine opU 18 rfl ?_; refine opU 19 rfl ?_; refine opU 20 rfl ?_; refine opU 21 rfl ?_; refine opU 22 rfl ?_; refine opU 23 rfl ?_; refine opU 24 rfl ?_; refine opU 25 rfl ?_
  refine opT 26 rfl ?_; refine opT 27 rfl ?_
  refine opU 28 rfl ?_; refine opU 29 rfl ?_; refine opU 30 rfl ?_; refine opU 31 rfl ?_
  refine opT 32 rfl ?_
  refine wpAnyH_done (by kernel_rfl) ?_ _
  go_wp2_with fail
  go_quiet (fail)
  go_wp2_with fail
  go_ret2
  exact ⟨below_drewN (Below.refl _ _).drew _, rfl⟩
 have e2 : (H : Int) ≤ 7 := by omega
 by_cases b3 : Z = 0
 case neg =>
  rw [if_pos (show Inf.headBad x y from .inr (.inr (.inl (by omega))))] at hR
  subst hR
  have e3 : ((Z : Int) != 0) = true := by rw [bne_iff_ne]; omega
  clear b1 b2 b3 hX16 hX hY hZ hH hal hbl
  go_wp2_with fail
  refine wp_region_held_drew (S := (fun _ => True)) (by kernel_rfl) ?_ (fun hHeld => ?_)
  ·trivial
  refine opT 0 rfl ?_; refine opT 1 rfl ?_
  refine opV 2 ((.bool false)) rfl ?_ ?_
  ·(intro w hSw; (try dsimp only at hSw); go_simp <;> first | with_reducible rfl | assumption | omega | (simp; omega))
  (try simp only [Act.put, nz1, nz2, nz3, nz4, nz5, nz6])
  refine opT 3 rfl ?_; refine opT 4 rfl ?_; refine opT 5 rfl ?_; refine opT 6 rfl ?_
  refine opV 7 ((.bool false)) rfl ?_ ?_
  ·(intro w hSw; (try dsimp only at hSw); go_simp <;> first | with_reducible rfl | assumption | omega | (simp; omega))
  (try simp only [Act.put, nz1, nz2, nz3, nz4, nz5, nz6])
  refine opT 8 rfl ?_; refine opT 9 rfl ?_; refine opT 10 rfl ?_; refine opT 11 rfl ?_; refine opT 12 rfl ?_
  refine opV 13 ((.bool false)) rfl ?_ ?_
  ·(intro w hSw; (try dsimp only at hSw); go_simp <;> first | with_reducible rfl | assumption | omega | (simp; omega))
  (try simp only [Act.put, nz1, nz2, nz3, nz4, nz5, nz6])
  refine opT 14 rfl ?_; refine opT 15 rfl ?_; refine opT 16 rfl ?_; refine opT 17 rfl ?_; refine opT 18 rfl ?_; refine opT 19 rfl ?_; refine opT 20 rfl ?_; refine opT 21 rfl ?_; refine opT 22 rfl ?_; refine opT 23 rfl ?_; refine opT 24 rfl ?_
  refine opV 25 ((.bool true)) rfl ?_ ?_
  ·(intro w hSw; (try dsimp only at hSw); go_simp <;> first | with_reducible rfl | assumption | omega | (simp; omega))
  (try simp only [Act.put, nz1, nz2, nz3, nz4, nz5, nz6])
  refine opT 26 rfl ?_; refine opT 27 rfl ?_
  refine opU 28 rfl ?_; refine opU 29 rfl ?_; refine opU 30 rfl ?_; refine opU 31 rfl ?_
  refine opT 32 rfl ?_
  refine wpAnyH_done (by kernel_rfl) ?_ _
  go_wp2_with fail
  go_quiet (fail)
  go_wp2_with fail
  go_ret2
  exact ⟨below_drewN (Below.refl _ _).drew _, rfl⟩
 case pos =>
 have e3 : ((Z : Int) != 0) = false := by rw [bne_eq_false_iff_eq]; omega
 by_cases b4 : Y = 0
 case neg =>
  rw [if_pos (show Inf.headBad x y from .inr (.inr (.inr (by omega))))] at hR
  subst hR
  have e4 : ((Y : Int) != 0) = true := by rw [bne_iff_ne]; omega
  clear b1 b2 b3 b4 hX16 hX hY hZ hH hal hbl
  go_wp2_with fail
  refine wp_region_held_drew (S := (fun _ => True)) (by kernel_rfl) ?_ (fun hHeld => ?_)
  ·trivial
  refine opT 0 rfl ?_; refine opT 1 rfl ?_
  refine opV 2 ((.bool false)) rfl ?_ ?_
  ·(intro w hSw; (try dsimp only at hSw); go_simp <;> first | with_reducible rfl | assumption | omega | (simp; omega))
  (try simp only [Act.put, nz1, nz2, nz3, nz4, nz5, nz6])
  refine opT 3 rfl ?_; refine opT 4 rfl ?_; refine opT 5 rfl ?_; refine opT 6 rfl ?_
  refine opV 7 ((.bool false)) rfl ?_ ?_
  ·(intro w hSw; (try dsimp only at hSw); go_simp <;> first | with_reducible rfl | assumption | omega | (simp; omega))
  (try simp only [Act.put, nz1, nz2, nz3, nz4, nz5, nz6])
  refine opT 8 rfl ?_; refine opT 9 rfl ?_; refine opT 10 rfl ?_; refine opT 11 rfl ?_; refine opT 12 rfl ?_
  refine opV 13 ((.bool false)) rfl ?_ ?_
  ·(intro w hSw; (try dsimp only at hSw); go_simp <;> first | with_reducible rfl | assumption | omega | (simp; omega))
  (try simp only [Act.put, nz1, nz2, nz3, nz4, nz5, nz6])
  refine opT 14 rfl ?_; refine opT 15 rfl ?_; refine opT 16 rfl ?_; refine opT 17 rfl ?_; refine opT 18 rfl ?_; refine opT 19 rfl ?_; refine opT 20 rfl ?_; refine opT 21 rfl ?_; refine opT 22 rfl ?_; refine opT 23 rfl ?_; refine opT 24 rfl ?_
  refine opV 25 ((.bool false)) rfl ?_ ?_
  ·(intro w hSw; (try dsimp only at hSw); go_simp <;> first | with_reducible rfl | assumption | omega | (simp; omega))
  (try simp only [Act.put, nz1, nz2, nz3, nz4, nz5, nz6])
  refine opT 26 rfl ?_; refine opT 27 rfl ?_; refine opT 28 rfl ?_; refine opT 29 rfl ?_; refine opT 30 rfl ?_
  refine opV 31 ((.bool true)) rfl ?_ ?_
  ·(intro w hSw; (try dsimp only at hSw); go_simp <;> first | with_reducible rfl | assumption | omega | (simp; omega))
  (try simp only [Act.put, nz1, nz2, nz3, nz4, nz5, nz6])
  refine opT 32 rfl ?_
  refine wpAnyH_done (by kernel_rfl) ?_ _
  go_wp2_with fail
  go_quiet (fail)
  go_wp2_with fail
  go_ret2
  exact ⟨below_drewN (Below.refl _ _).drew _, rfl⟩
 case pos =>
 have e4 : ((Y : Int) != 0) = false := by rw [bne_eq_false_iff_eq]; omega
 rw [if_neg (show ¬ Inf.headBad x y from fun h => by unfold Inf.headBad at h; omega)] at hR
 obtain ⟨s2, hs2⟩ : ∃ s2, s2 = s.extract 2 s.size := ⟨_, rfl⟩
 have hs2l : lst s2 = (lst s).drop 2 := by rw [hs2, lst_extract, List.take_of_length_le (by rw [List.length_drop, lst_length]; exact Nat.le_refl _)]
 have hs2z : s2.size ≤ 300000 := by rw [← lst_length, hs2l, List.length_drop, lst_length]; omega
 rw [← hs2l] at hR
 have HR := Lib.hid hR
 have HS2 := Lib.hid hs2
 have HS2L := Lib.hid hs2l
 clear b1 b2 b3 b4 hX16 hX hY hZ hH hal hbl hR hs2 hs2l
 go_wp2_with fail
 refine wp_region_held_drew (S := (fun _ => True)) (by kernel_rfl) ?_ (fun hHeld => ?_)
 ·trivial
 refine opT 0 rfl ?_; refine opT 1 rfl ?_
 refine opV 2 ((.bool false)) rfl ?_ ?_
 ·(intro w hSw; (try dsimp only at hSw); go_simp <;> first | with_reducible rfl | assumption | omega | (simp; omega))
 (try simp only [Act.put, nz1, nz2, nz3, nz4, nz5, nz6])
 refine opT 3 rfl ?_; refine opT 4 rfl ?_; refine opT 5 rfl ?_; refine opT 6 rfl ?_
 refine opV 7 ((.bool false)) rfl ?_ ?_
 ·(intro w hSw; (try dsimp only at hSw); go_simp <;> first | with_reducible rfl | assumption | omega | (simp; omega))
 (try simp only [Act.put, nz1, nz2, nz3, nz4, nz5, nz6])
 refine opT 8 rfl ?_; refine opT 9 rfl ?_; refine opT 10 rfl ?_; refine opT 11 rfl ?_; refine opT 12 rfl ?_
 refine opV 13 ((.bool false)) rfl ?_ ?_
 ·(intro w hSw; (try dsimp only at hSw); go_simp <;> first | with_reducible rfl | assumption | omega | (simp; omega))
 (try simp only [Act.put, nz1, nz2, nz3, nz4, nz5, nz6])
 refine opT 14 rfl ?_; refine opT 15 rfl ?_; refine opT 16 rfl ?_; refine opT 17 rfl ?_; refine opT 18 rfl ?_; refine opT 19 rfl ?_; refine opT 20 rfl ?_; refine opT 21 rfl ?_; refine opT 22 rfl ?_; refine opT 23 rfl ?_; refine opT 24 rfl ?_
 refine opV 25 ((.bool false)) rfl ?_ ?_
 ·(intro w hSw; (try dsimp only at hSw); go_simp <;> first | with_reducible rfl | assumption | omega | (simp; omega))
 (try simp only [Act.put, nz1, nz2, nz3, nz4, nz5, nz6])
 refine opT 26 rfl ?_; refine opT 27 rfl ?_; refine opT 28 rfl ?_; refine opT 29 rfl ?_; refine opT 30 rfl ?_
 refine opV 31 ((.bool false)) rfl ?_ ?_
 ·(intro w hSw; (try dsimp only at hSw); go_simp <;> first | with_reducible rfl | assumption | omega | (simp; omega))
 (try simp only [Act.put, nz1, nz2, nz3, nz4, nz5, nz6])
 refine opT 32 rfl ?_
 refine wpAnyH_done (by kernel_rfl) ?_ _
 go_wp2_with fail
 rw [← HS2.out]
 refine (inflate_any s2 most E w.drew (HE.out.below (Below.here w)) (HT.out.below (Below.here w) hG) hG hs2z hm).mono ?_
 rintro e w2 ⟨hb2, he⟩
 have hbw := Below.fromDrew hb2
 have hR := HR.out
 cases hx : Inf.inflate (lst s2) most with
 | error k =>
  rw [hx] at he hR
  replace he : e = .returned (.tuple #[.string ⟨#[]⟩, .int .i64 0, errV (E k)]) := he
  replace hR : R = .error k := hR
  subst he
  subst hR
  unfold errV
  go_wp2_with fail
  go_ret2
  exact ⟨hbw, rfl⟩
 | ok q =>
  obtain ⟨t, u⟩ := q
  have hil := Inf.inflate_len hx
  rw [hx] at he hR
  replace he : e = .returned (.tuple #[.string ⟨t.toArray⟩, .int .i64 u, .nilIface]) := he
  subst he
  obtain ⟨tt, htt⟩ : ∃ tt : ByteArray, tt = ⟨t.toArray⟩ := ⟨_, rfl⟩
  rw [← htt]
  have htl : lst tt = t := by rw [htt]
  have hts : tt.size ≤ 300000 := by rw [← lst_length, htl]; omega
  obtain ⟨U, hU⟩ : ∃ U, U = 2 + u := ⟨_, rfl⟩
  have hUs : U ≤ s.size := by have := hil.2; rw [HS2L.out, List.length_drop, lst_length] at this; omega
  have hUi : (2 : Int) + u = (U : Nat) := by omega
  have hUw : IntKind.i64.wrap (U : Int) = U := IntWalk.i64_in _ (by omega)
  have hUl : (U : Int) ≤ s.size := by omega
  have hU0 : (0 : Int) ≤ U := by omega
  obtain ⟨r, hr⟩ : ∃ r, r = s.extract U s.size := ⟨_, rfl⟩
  have hrl : lst r = (lst s).drop U := by rw [hr, lst_extract, List.take_of_length_le (by rw [List.length_drop, lst_length]; exact Nat.le_refl _)]
  simp only at hR
  rw [← hU, ← hrl, ← htl] at hR
  replace hR : R = if (lst r).length ≠ 4 then .error 0 else if Crc.val (lst r) ≠ Adl.adler (lst tt) then .error 3 else .ok (lst tt) := hR
  have HRR := Lib.hid hr
  have HR2 := Lib.hid hR
  have dT2 := (HE.out.below hbw).text
  have dS2 := (HE.out.below hbw).sum
  clear hR hr hrl hil hx htt htl hU hb2
  go_upto_region 9 with (fail)
  rw [← HRR.out]
  by_cases r4 : r.size = 4
  case neg =>
   have hRn : R = .error 0 := by rw [HR2.out, if_pos (show (lst r).length ≠ 4 from r4)]
   subst hRn
   have r4i : ((r.size : Int) != 4) = true := by rw [bne_iff_ne]; omega
   have r4j : ¬ (r.size : Int) = 4 := by omega
   clear r4
   go_wp2_with fail
   go_quiet (fail)
   go_wp2_with fail
   go_ret2
   exact ⟨below_drewN hbw _, rfl⟩
  case pos =>
  have r4i : ((r.size : Int) != 4) = false := by rw [bne_eq_false_iff_eq]; omega
  have hR3 := HR2.out
  rw [if_neg (show ¬ (lst r).length ≠ 4 from fun h => h r4)] at hR3
  have HR3 := Lib.hid hR3
  have HR4 := Lib.hid r4
  clear hR3
  go_wp2_with fail
  go_loopw [10, 69] (fun nv iv wr => ∃ j : Nat, j ≤ 4 ∧ iv = .int .i64 j ∧ nv = .int .u32 (Crc.val ((lst r).take j)) ∧ wr = w2) (fun _ iv _ => 4 - (intOf iv).toNat)
  case atStart => exact ⟨0, Nat.zero_le _, rfl, by simp [Crc.val], rfl⟩
  case round =>
   obtain ⟨j, hj, rfl, rfl, rfl⟩ := hrel
   obtain ⟨v, hv⟩ : ∃ v, v = Crc.val ((lst r).take j) := ⟨_, rfl⟩
   rw [← hv]
   have HV := Lib.hid hv
   clear hv
   by_cases hlt : j < 4
   ·have hjr : j < r.size := by omega
    obtain ⟨y, hy⟩ : ∃ y : UInt8, r[j] = y := ⟨_, rfl⟩
    have hji : (j : Int) < 4 := by omega
    have hvl := val_lt ((lst r).take j)
    rw [List.length_take, lst_length, Nat.min_eq_left (by omega), ← HV.out] at hvl
    have h3 : (256 : Nat) ^ j ≤ 256 ^ 3 := Nat.pow_le_pow_right (by omega) (by omega)
    have hyl := y.toNat_lt
    obtain ⟨v2, hv2⟩ : ∃ v2, v2 = v * 256 + y.toNat := ⟨_, rfl⟩
    have hn : Crc.val ((lst r).take (j + 1)) = v2 := by
     rw [List.take_succ_eq_append_getElem (by rw [lst_length]; exact hjr), val_snoc, ← HV.out, hv2, ← hy]
     rfl
    have hor : bits .or .u32 ((v : Int) * 256 % 4294967296) (y.toNat : Int) = (v2 : Int) := by
     have e1 : (v : Int) * 256 % 4294967296 = ((v * 256 : Nat) : Int) := by omega
     have hjn : (v * 256) ||| y.toNat = v * 256 + y.toNat := nat_join 8 (v * 256) y.toNat (by omega) (by omega)
     rw [e1, u32_or_nat _ _ (by omega) (by omega), hjn, hv2]
    have HNX := Lib.hid hn
    have HOR := Lib.hid hor
    clear hn hv2 hvl h3 hor
    go_wp2_with fail
    go_roundw
    case rel => exact ⟨j + 1, hlt, by go_num, by rw [HNX.out, ← HOR.out], trivial⟩
    case measure => simp [intOf]; omega
   ·have hj4 : j = 4 := by omega
    subst hj4
    have hvr : v = Crc.val (lst r) := by rw [HV.out, List.take_of_length_le (by rw [lst_length, HR4.out]; exact Nat.le_refl _)]
    have hR5 := HR3.out
    rw [← hvr] at hR5
    have HR5 := Lib.hid hR5
    clear hR5 hvr
    go_wp2_with fail
    refine (adler_any tt wr (by omega)).mono ?_
    rintro e wr ⟨rfl, rfl⟩
    by_cases hc : v = Adl.adler (lst tt)
    ·have hRn : R = .ok (lst tt) := by rw [HR5.out, if_neg (fun h => h hc)]
     subst hRn
     have hci : ((v : Int) != (Adl.adler (lst tt) : Int)) = false := by rw [bne_eq_false_iff_eq, hc]
     clear hc
     go_wp2_with fail
     go_ret2
     exact ⟨hbw, tt, rfl, rfl⟩
    ·have hRn : R = .error 3 := by rw [HR5.out, if_pos hc]
     subst hRn
     have hci : ((v : Int) != (Adl.adler (lst tt) : Int)) = true := by rw [bne_iff_ne]; omega
     clear hc
     go_wp2_with fail
     go_quiet (fail)
     go_wp2_with fail
     go_ret2
     exact ⟨below_drewN hbw _, rfl⟩
end Go.Proofs.YtkegkelaffohjaaGreatDoor
