/- chunk.isKind, Write: the walks. Printed by mk.py. -/
import Derived.Test.YtkegkelaffohjaaGreatDoorKCFilmTwice2
import Derived.Test.YtkegkelaffohjaaGreatDoorKCFilmTwice10
import Derived.Test.YtkegkelaffohjaaGreatDoorKCFilmTwice1
import Derived.Deep.RegionLaw
namespace Go.Proofs.YtkegkelaffohjaaGreatDoor
open Go Go.RowKit
theorem or32 : ∀ a, a < 256 → (a ||| 32) < 256 := by decide +kernel
theorem u8_or_nat (a b : Nat) (ha : a < 256) (hb : b < 256) : bits .or .u8 (a : Int) (b : Int) = ((a ||| b : Nat) : Int) := by
 have hx : a ||| b < 2 ^ 8 := Nat.or_lt_two_pow (by omega) (by omega)
 show IntKind.u8.wrap ((BitVec.ofInt 8 (a : Int) ||| BitVec.ofInt 8 (b : Int)).toNat : Int) = _
 rw [BitVec.toNat_or, BitVec.ofInt_natCast, BitVec.ofInt_natCast, BitVec.toNat_ofNat, BitVec.toNat_ofNat, Nat.mod_eq_of_lt (by omega), Nat.mod_eq_of_lt (by omega), IntKind.wrap_u8]
 omega
def kindTo (l : List UInt8) (j : Nat) : Bool := decide (l.length = 4) && (l.take j).all Chk.letter
theorem kindTo_succ (l : List UInt8) (j : Nat) (h : j < l.length) : kindTo l (j + 1) = (kindTo l j && Chk.letter l[j]) := by
 unfold kindTo
 rw [List.take_succ_eq_append_getElem h, List.all_append, Bool.and_assoc]
 simp
theorem kindTo_no (l : List UInt8) (j : Nat) (h : kindTo l j = false) : Chk.isKind l = false := by
 unfold kindTo at h
 unfold Chk.isKind
 cases hd : decide (l.length = 4) with
 | false => rfl
 | true =>
  rw [hd, Bool.true_and] at h
  rw [Bool.true_and, ← Bool.not_eq_true]
  intro ha
  rw [← List.take_append_drop j l, List.all_append, h] at ha
  cases ha
set_option maxRecDepth 100000 in
theorem isKind_any (s : ByteArray) (w : World) (hs : s.size ≤ 300000) :
  Calls Tryz.prog 54 #[.string s] w fun e w' => e = .returned (.bool (Chk.isKind (lst s))) ∧ w' = w := by
 obtain ⟨R, hR⟩ : ∃ R, R = Chk.isKind (lst s) := ⟨_, rfl⟩
 rw [← hR]
 have HR := Lib.hid hR
 clear hR
 go_enter Tryz.func54, Tryz.ntmps54
 go_wp2_with fail
 go_loop [3, 4] (fun ok i => ∃ j : Nat, j ≤ s.size ∧ i = .int .i64 j ∧ ok = .bool (kindTo (lst s) j)) (fun _ i => s.size - (intOf i).toNat)
 case atStart =>
  refine ⟨0, Nat.zero_le _, rfl, ?_⟩
  have hk0 : kindTo (lst s) 0 = decide ((s.size : Int) = 4) := by
   unfold kindTo
   rw [lst_length]
   show (decide (s.size = 4) && true) = _
   rw [Bool.and_true]
   by_cases h : s.size = 4
   ·rw [decide_eq_true h, decide_eq_true (by omega)]
   ·rw [decide_eq_false h, decide_eq_false (by omega)]
  rw [hk0]
  rfl
 case round =>
  obtain ⟨j, hj, rfl, rfl⟩ := hrel
  obtain ⟨k, hk⟩ : ∃ k, k = kindTo (lst s) j := ⟨_, rfl⟩
  rw [← hk]
  have HK := Lib.hid hk
  clear hk
  by_cases hlt : j < s.size
  ·cases k with
   | false =>
    have hRn : R = false := by rw [HR.out, kindTo_no _ j HK.out.symm]
    subst hRn
    go_wp2_with fail
    go_ret
    exact ⟨rfl, rfl⟩
   | true =>
    obtain ⟨x, hx⟩ : ∃ x : UInt8, s[j] = x := ⟨_, rfl⟩
    have hxl := x.toNat_lt
    have hks := kindTo_succ (lst s) j (by rw [lst_length]; exact hlt)
    have hxj : (lst s)[j]'(by rw [lst_length]; exact hlt) = x := hx
    rw [← HK.out, hxj, Bool.true_and] at hks
    obtain ⟨o, ho⟩ : ∃ o, o = x.toNat ||| 32 := ⟨_, rfl⟩
    have hol : o < 256 := by rw [ho]; exact or32 _ hxl
    have hor : bits .or .u8 (x.toNat : Int) 32 = (o : Int) := by rw [show (32 : Int) = ((32 : Nat) : Int) from rfl, u8_or_nat _ _ (by omega) (by omega), ho]
    have hlet : Chk.letter x = decide (97 ≤ o ∧ o ≤ 122) := by
     unfold Chk.letter
     rw [UInt8.toNat_or, ho]
     rfl
    rw [hlet] at hks
    have HKS := Lib.hid hks
    clear hks hlet ho hxj
    by_cases h1 : 97 ≤ o
    ·by_cases h2 : o ≤ 122
     ·have h1i : (97 : Int) ≤ o := by omega
      have h2i : (o : Int) ≤ 122 := by omega
      go_wp2_with fail
      go_round
      case rel => exact ⟨j + 1, hlt, by go_num, by rw [HKS.out, decide_eq_true (⟨h1, h2⟩ : 97 ≤ o ∧ o ≤ 122)]⟩
      case measure => simp [intOf]; omega
     ·have h1i : (97 : Int) ≤ o := by omega
      have h2i : (122 : Int) < o := by omega
      go_wp2_with fail
      go_round
      case rel => exact ⟨j + 1, hlt, by go_num, by rw [HKS.out, decide_eq_false (fun hc => h2 hc.2 : ¬(97 ≤ o ∧ o ≤ 122)), decide_eq_false (by omega : ¬((o : Int) ≤ 122))]⟩
      case measure => simp [intOf]; omega
    ·have h1i : (o : Int) < 97 := by omega
     go_wp2_with fail
     go_round
     case rel => exact ⟨j + 1, hlt, by go_num, by rw [HKS.out, decide_eq_false (fun hc => h1 hc.1 : ¬(97 ≤ o ∧ o ≤ 122))]⟩
     case measure => simp [intOf]; omega
  ·have hje : j = s.size := by omega
   subst hje
   have hq : k = R := by
    rw [HK.out, HR.out]
    unfold kindTo Chk.isKind
    rw [List.take_of_length_le (by rw [lst_length]; exact Nat.le_refl _)]
   rw [hq]
   go_wp2_with fail
   go_ret
   exact ⟨rfl, rfl⟩
set_option maxHeartbeats 1000000 in
set_option maxRecDepth 100000 in
theorem blen_any (B b : Nat) (l : List UInt8) (w : World) (h : IsBd B b l w) :
  Calls Tryz.prog 75 #[.pointer (some ⟨b, 0, none⟩)] w fun e w' => e = .returned (.int .i64 l.length) ∧ w' = w := by
 obtain ⟨p, hB, v, hbk, hown, hne⟩ : ∃ p, Lib.BuilderAt 104 5 B b p (bytes l) w := by
  rcases h with h | h
  ·exact ⟨_, h⟩
  ·exact ⟨_, h⟩
 rw [bytes_length] at hown
 obtain ⟨ao, cap, rfl⟩ : ∃ ao cap, v = .slice ao l.length cap := by
  rcases hown.2 with ⟨hv, h0⟩ | ⟨g, cap, cur, hv, _⟩
  ·exact ⟨none, 0, by rw [hv, h0]⟩
  ·exact ⟨_, _, hv⟩
 have c1 : w.cell? ⟨b, 1, none⟩ = some (.slice ao l.length cap) := by rw [Lib.cell_of_heap hbk]; rfl
 clear hown hbk h
 go_enter Tryz.func75, Tryz.ntmps75
 go_wp2_with fail
 go_ret
 exact ⟨rfl, rfl⟩
abbrev CB := ByteArray × ByteArray
def chCs (c : CB) : List Value := [.string c.1, .string c.2]
def chCells (l : List CB) : List Value := l.flatMap chCs
theorem chCells_at (l : List CB) (k : Nat) (hk : k < l.length) (j : Nat) (hj : j < 2) : (chCells l)[k * 2 + j]? = (chCs l[k])[j]? := flatCells_at chCs 2 (fun _ => rfl) l k hk j hj
def chL (l : List CB) : List Chk.C := l.map fun c => (lst c.1, lst c.2)
namespace Chk
def fileTo (l : List C) (k : Nat) : List UInt8 := sig ++ (l.take k).flatMap chunkB
theorem fileTo_all (l : List C) : fileTo l l.length = file l := by unfold fileTo file; rw [List.take_length]
theorem fileTo_succ (l : List C) (k : Nat) (h : k < l.length) : fileTo l (k + 1) = fileTo l k ++ chunkB l[k] := by
 unfold fileTo
 rw [List.take_succ_eq_append_getElem h, List.flatMap_append, List.flatMap_singleton, List.append_assoc]
theorem fileTo_le (l : List C) (k : Nat) : (fileTo l k).length ≤ (file l).length := by
 have h : file l = fileTo l k ++ (l.drop k).flatMap chunkB := by
  unfold file fileTo
  rw [List.append_assoc, ← List.flatMap_append, List.take_append_drop]
 rw [h, List.length_append]
 omega
end Chk
structure ChR (w : World) (g : Nat) (l : List UInt8) (wr : World) : Prop where
 b : IsBd w.heap.size g l wr
 bel : Below w.heap.size w wr
def FarBd (B b : Nat) (l : List UInt8) (gc : Nat) (w : World) : Prop := IsBd B b l w ∧ b ≠ gc ∧ ∀ p v, w.heap[b]? = some (.cells #[p, v] 104 (0, 0)) → v.ownBlock ≠ some gc
theorem isBd_far {B b gc : Nat} {l : List UInt8} {w w' : World} (h : IsBd B b l w) (hb : Below w.heap.size w w') (hgc : w.heap.size ≤ gc) : FarBd B b l gc w' := by
 have key : ∀ p, Lib.BuilderAt 104 5 B b p (bytes l) w → FarBd B b l gc w' := by
  rintro p ⟨h1, v, h2, h3, h4⟩
  have hlt := (Array.getElem?_eq_some_iff.1 h2).1
  refine ⟨isBd_below h hb, by omega, fun q u hq => ?_⟩
  rw [hb.block b hlt, h2] at hq
  injection hq with hq
  injection hq with hq
  have hv : v = u := by
   have := congrArg (fun a : Array Value => a[1]?) hq
   simpa using this
  subst hv
  rcases h3.2 with ⟨h5, _⟩ | ⟨g, cap, cur, e, r1, r2, r3⟩
  ·rw [h5]
   exact fun e => by cases e
  ·rw [e]
   intro e2
   have e3 : g = gc := by injection e2
   have := (Array.getElem?_eq_some_iff.1 r2).1
   omega
 rcases h with h' | h'
 ·exact key _ h'
 ·exact key _ h'
theorem copyCheck_far (B b gc : Nat) (l : List UInt8) (w : World) (h : FarBd B b l gc w) :
  Calls Tryz.prog 112 #[.pointer (some ⟨b, 0, none⟩)] w fun e w' => e = .returned (.tuple #[]) ∧ (Lib.BuilderAt 104 5 B b (.pointer (some ⟨b, 0, none⟩)) (bytes l) w' ∧ Below B w w' ∧ w'.heap[gc]? = w.heap[gc]? ∧ ∀ p v, w'.heap[b]? = some (.cells #[p, v] 104 (0, 0)) → v.ownBlock ≠ some gc) := by
 obtain ⟨h, hbg, hv⟩ := h
 rcases h with h | h
 ·refine (copyCheck_fresh b w h.cell0 h.shape h.frozen0).mono ?_
  rintro e w' ⟨rfl, rfl⟩
  refine ⟨rfl, h.used _, (Below.refl B w).setCell (p := ⟨b, 0, none⟩) h.1 _, Below.heap_setCell _ _ _ _ (Ne.symm hbg), fun p v hq => ?_⟩
  obtain ⟨h1, u, h2, h3, h4⟩ := h
  have := hv _ _ h2
  obtain ⟨_, u', h2', _⟩ := Lib.BuilderAt.used ⟨h1, u, h2, h3, h4⟩ (.pointer (some ⟨b, 0, none⟩))
  have hlt := (Array.getElem?_eq_some_iff.1 h2).1
  have e1 : (w.setCell ⟨b, 0, none⟩ (.pointer (some ⟨b, 0, none⟩))).cell? ⟨b, 1, none⟩ = w.cell? ⟨b, 1, none⟩ := World.cell?_setCell_other _ _ _ _ (fun e => by cases e)
  rw [Lib.cell_of_heap h2, Lib.cell_of_heap hq] at e1
  have e2 : v = u := by injection e1
  rw [e2]
  exact this
 ·refine (copyCheck_used b w h.cell0).mono ?_
  rintro e w' ⟨rfl, rfl⟩
  exact ⟨rfl, h, Below.refl B _, rfl, hv⟩
set_option maxHeartbeats 2000000 in
set_option maxRecDepth 100000 in
theorem writeString_far (B b gc : Nat) (l : List UInt8) (s : ByteArray) (w : World) (h : FarBd B b l gc w) (hgc : gc < w.heap.size) (hlen : l.length + s.size ≤ 1099511627776) (hBw : B ≤ w.heap.size) :
  Calls Tryz.prog 74 #[.pointer (some ⟨b, 0, none⟩), .string s] w fun e w' => e = .returned (.tuple #[.int .i64 s.size, .nilIface]) ∧ (Lib.IsBuilder 104 5 B b (bytes (l ++ lst s)) w' ∧ Below B w w' ∧ w'.heap[gc]? = w.heap[gc]?) := by
 obtain ⟨i0, hi, hz0, hz1, hz2⟩ := info_parts byteInfo
 have hbl := bytes_length l
 go_enter Tryz.func74, Tryz.ntmps74
 go_wp2_with fail
 have hbg := h.2.1
 refine (copyCheck_far B b gc l _ h).mono ?_
 rintro e w1 ⟨rfl, h1, hb1, hk1, hv1⟩
 obtain ⟨hB, v, hbk, hown, hne⟩ := h1
 have hvg := hv1 _ _ hbk
 have hgc1 : gc < w1.heap.size := Nat.lt_of_lt_of_le hgc hb1.size
 clear hv1
 have c0 : w1.cell? ⟨b, 0, none⟩ = some (.pointer (some ⟨b, 0, none⟩)) := by rw [Lib.cell_of_heap hbk]; rfl
 have c1 : w1.cell? ⟨b, 1, none⟩ = some v := by rw [Lib.cell_of_heap hbk]; rfl
 go_wp2_with (at_builtin; refine Lib.wpList_append_own_string _ rfl _ _ 102 9 rfl B 5 i0 Tryz.underlying102 Tryz.underlying9 hi hz0 hz1 hz2 _ _ _ rfl hown s rfl ?c3 ?c4 ?c5 ?_)
 case c3 => unfold maxLen; omega
 case c4 => omega
 case c5 => have := hb1.size; omega
 intro v' w2 hown' hgrow _
 have hk2 : w2.heap[gc]? = w1.heap[gc]? := hgrow.block gc hgc1 (fun e => hvg e.symm)
 have hlt : b < w1.heap.size := by
  rcases Nat.lt_or_ge b w1.heap.size with h' | h'
  ·exact h'
  ·simp [Array.getElem?_eq_none h'] at hbk
 have hb2 : w2.heap[b]? = some (.cells #[.pointer (some ⟨b, 0, none⟩), v] 104 (0, 0)) := by
  rw [hgrow.block b hlt (fun e => hne e.symm)]
  exact hbk
 have d0 : w2.cell? ⟨b, 0, none⟩ = some (.pointer (some ⟨b, 0, none⟩)) := by rw [Lib.cell_of_heap hb2]; rfl
 have d1 : w2.cell? ⟨b, 1, none⟩ = some v := by rw [Lib.cell_of_heap hb2]; rfl
 have f1 : w2.frozen? ⟨b, 1, none⟩ = false := Lib.frozen_of_heap hb2 1
 obtain ⟨ao, n', cap, rfl⟩ : ∃ ao n' cap, v' = .slice ao n' cap := by
  rcases hown'.2 with ⟨hv, _⟩ | ⟨g, cap, cur, hv, _⟩
  ·exact ⟨_, _, _, hv⟩
  ·exact ⟨_, _, _, hv⟩
 clear hbl
 go_wp2
 go_ret2
 have e : bytes (l ++ lst s) = bytes l ++ Lib.strCells s := by rw [bytes_append]; rfl
 refine ⟨rfl, ?_, ?_, ?_⟩
 ·rw [e]
  exact .inr (Lib.BuilderAt.put (T := 104) (e := 5) hB hb2 (bs' := bytes l ++ Lib.strCells s) (by rw [List.length_append, Lib.strCells_length, bytes_length]; exact hown') (by decide))
 ·exact (hb1.grown hgrow (by have := hb1.size; omega) (fun k hk => (hown.lt k hk).1)).setCell (p := ⟨b, 1, none⟩) hB _
 ·rw [← hk1, ← hk2]
  exact Below.heap_setCell _ _ _ _ (Ne.symm hbg)
theorem cell_heap {w w' : World} {g : Nat} (h : w'.heap[g]? = w.heap[g]?) (i : Nat) : w'.cell? ⟨g, i, none⟩ = w.cell? ⟨g, i, none⟩ := by
 unfold World.cell?
 rw [h]
theorem eq_false_iff_ (p : Prop) : (p = False) = ¬ p := by simp
set_option maxHeartbeats 4000000 in
set_option maxRecDepth 100000 in
theorem chWrite_any (A : Option Addr) (c : Nat) (l : List CB) (w : World) (hr : Reads w w.heap.size 2 A l.length (chCells l)) (hk : ∀ x ∈ chL l, Chk.isKind x.1 = true) (hz : (Chk.file (chL l)).length ≤ 300000) (hn : l.length ≤ 300000) :
  Calls Tryz.prog 42 #[.slice A l.length c] w fun e w' => e = .returned (.tuple #[.string ⟨(Chk.file (chL l)).toArray⟩, .nilIface]) ∧ Below w.heap.size w w' := by
 obtain ⟨Z, hZ⟩ : ∃ Z, Z = Chk.file (chL l) := ⟨_, rfl⟩
 rw [← hZ] at hz
 rw [← hZ]
 have HZ := Lib.hid hZ
 have HRD := Lib.hid hr
 have HKD := Lib.hid hk
 have hcl : (chL l).length = l.length := by unfold chL; rw [List.length_map]
 have HCL := Lib.hid hcl
 obtain ⟨g, hgd⟩ : ∃ g, g = w.heap.size := ⟨_, rfl⟩
 have hI0 : IsBd w.heap.size g [] (w.alloc (.cells #[.pointer none, .slice none 0 0] 104)) := by
  rw [hgd]
  exact Lib.fresh_isBuilder _ _ w
 have hw2 : Below w.heap.size w (w.alloc (.cells #[.pointer none, .slice none 0 0] 104)) := (Below.refl _ _).alloc (Nat.le_refl _) _
 clear hr hk hZ hcl
 go_enter Tryz.func42, Tryz.ntmps42
 go_upto_region 2 with (fail)
 rw [← hgd]
 have hz2 := hw2.size
 generalize w.alloc (.cells #[.pointer none, .slice none 0 0] 104) = w2 at *
 have HIB := Lib.hid hI0
 have HGD2 := Lib.hid hgd
 have HW2 := Lib.hid hw2
 clear hgd hI0 hw2
 go_wp2_with fail
 refine (writeString_any w.heap.size g [] _ _ HIB.out (by decide) hz2).mono ?_
 rintro e w3 ⟨rfl, hI3, hb3⟩
 have hl0 : [] ++ lst (⟨#[137, 80, 78, 71, 13, 10, 26, 10]⟩ : ByteArray) = Chk.fileTo (chL l) 0 := rfl
 rw [hl0] at hI3
 have HP3 := Lib.hid (show ChR w g (Chk.fileTo (chL l) 0) w3 from ⟨hI3, HW2.out.trans hb3⟩)
 clear hl0 hI3 hb3 HIB HW2 hz2
 go_wp2_with fail
 go_loopw [10] (fun i wr => ∃ k : Nat, k ≤ l.length ∧ i = .int .i64 k ∧ ChR w g (Chk.fileTo (chL l) k) wr) (fun i _ => l.length - (intOf i).toNat)
 case atStart => exact ⟨0, Nat.zero_le _, rfl, HP3.out⟩
 case round =>
  clear HP3
  obtain ⟨k, hk, rfl, hP⟩ := hrel
  have HP := Lib.hid hP
  by_cases hlt : k < l.length
  ·obtain ⟨gA, oA, rfl, _⟩ := HRD.out.addr (by omega)
   have d0 : wr.cell? ⟨gA, oA + k * 2, none⟩ = some (.string l[k].1) := by
    have := (HRD.out.below hP.bel (Nat.le_refl _)).cell rfl (k * 2) (by omega)
    rw [show (chCells l)[k * 2]? = _ from chCells_at l k hlt 0 (by decide)] at this
    exact this
   have d1 : wr.cell? ⟨gA, oA + k * 2 + 1, none⟩ = some (.string l[k].2) := by
    have := (HRD.out.below hP.bel (Nat.le_refl _)).cell rfl (k * 2 + 1) (by omega)
    rw [chCells_at l k hlt 1 (by decide)] at this
    exact this
   have hkd : Chk.isKind (lst l[k].1) = true := HKD.out (lst l[k].1, lst l[k].2) (by
    unfold chL
    exact List.mem_map.2 ⟨l[k], List.getElem_mem hlt, rfl⟩)
   have hsucc : Chk.fileTo (chL l) (k + 1) = Chk.fileTo (chL l) k ++ Chk.chunkB (lst l[k].1, lst l[k].2) := by
    rw [Chk.fileTo_succ _ k (by have := HCL.out; omega)]
    unfold chL
    rw [List.getElem_map]
   obtain ⟨xk, hxk⟩ : ∃ xk, xk = l[k].1 := ⟨_, rfl⟩
   obtain ⟨xd, hxd⟩ : ∃ xd, xd = l[k].2 := ⟨_, rfl⟩
   rw [← hxk] at d0 hkd hsucc
   rw [← hxd] at d1 hsucc
   have hk4 : xk.size = 4 := by have := Chk.isKind_length hkd; rw [lst_length] at this; exact this
   have htot : (Chk.fileTo (chL l) k).length + xd.size + 12 ≤ 300000 := by
    have h1 := Chk.fileTo_le (chL l) (k + 1)
    rw [← HZ.out, hsucc, List.length_append, Chk.chunkB_length _ hkd, lst_length] at h1
    omega
   have HS := Lib.hid hsucc
   clear hxk hxd hsucc hP
   go_wp2_with fail
   refine (isKind_any xk _ (by omega)).mono ?_
   rintro e w5 ⟨rfl, h5⟩
   rw [hkd]
   obtain ⟨gc, hgc⟩ : ∃ gc, gc = wr.heap.size := ⟨_, rfl⟩
   have c0 : w5.cell? ⟨gc, 0, none⟩ = some (.string xk) := by rw [h5, hgc]; exact Blk.cell (Blk.new wr _ _ rfl) 0
   have c1 : w5.cell? ⟨gc, 1, none⟩ = some (.string xd) := by rw [h5, hgc]; exact Blk.cell (Blk.new wr _ _ rfl) 1
   have hb5 : Below wr.heap.size wr w5 := by rw [h5]; exact (Below.refl _ _).alloc (Nat.le_refl _) _
   have hg5 : gc < w5.heap.size := by
    rw [h5, hgc]
    exact (Blk.new wr _ _ rfl).lt
   have HIC := Lib.hid (show ∀ wB, Below wr.heap.size wr wB → IsBd w.heap.size g (Chk.fileTo (chL l) k) wB from fun wB hb => isBd_below HP.out.b hb)
   have HFC := Lib.hid (show ∀ wB, Below wr.heap.size wr wB → FarBd w.heap.size g (Chk.fileTo (chL l) k) gc wB from fun wB hb => isBd_far HP.out.b hb (by rw [hgc]; exact Nat.le_refl _))
   obtain ⟨FL, hFL⟩ : ∃ FL, FL = (Chk.fileTo (chL l) k).length := ⟨_, rfl⟩
   rw [← hFL] at htot
   have HFL := Lib.hid hFL
   rw [← hgc]
   have HGC := Lib.hid hgc
   have HB5 := Lib.hid hb5
   have HKD2 := Lib.hid hkd
   have q1 : IntKind.i64.wrap ((FL : Int) + 12) = (FL : Int) + 12 := IntWalk.i64_in _ (by omega)
   have q2 : IntKind.i64.wrap ((FL : Int) + 12 + xd.size) = (FL : Int) + 12 + xd.size := IntWalk.i64_in _ (by omega)
   have hwd : IntKind.u32.wrap (xd.size : Int) = (xd.size : Nat) := IntWalk.u32_in _ (by omega)
   have hcc : (9223372036854775807 < xk.size + xd.size) = False := by rw [hk4, eq_false_iff_]; omega
   have HK4 := Lib.hid hk4
   clear hgc hb5 d0 d1 h5 hkd hFL hk4
   go_wp2_with fail
   refine wp_region_held_drew (S := (fun w' => w'.cell? ⟨gc, 0, none⟩ = some (.string xk) ∧ w'.cell? ⟨gc, 1, none⟩ = some (.string xd))) (by kernel_rfl) ?_ (fun hHeld => ?_)
   ·exact ⟨c0, c1⟩
   refine opT 2 rfl ?_; refine opT 3 rfl ?_; refine opT 4 rfl ?_
   refine opD 0 rfl (fun K hK => ?_)
   go_simp
   (go_at_call 75; refine (blen_any w.heap.size g _ _ (HIC.out _ (Below.drew HB5.out))).mono ?_; rintro e w6 ⟨rfl, h6⟩; subst h6; rw [← HFL.out])
   refine hK.out _ _ ?_ (fun hHeld => ?_)
   ·exact ⟨c0, c1⟩
   clear hK K
   (try simp only [Act.put, nz1, nz2, nz3, nz4, nz5, nz6])
   refine opT 1 rfl ?_; refine opT 5 rfl ?_; refine opT 6 rfl ?_
   refine wpAnyH_done (by kernel_rfl) ?_ _
   go_upto_region 10 with (fail)
   have hcr := Crc.crc_lt (lst (xk ++ xd))
   have hkl := lst_append xk xd
   obtain ⟨cr, hcrd⟩ : ∃ cr, cr = Crc.crc (lst (xk ++ xd)) := ⟨_, rfl⟩
   rw [← hcrd] at hcr
   have HCR := Lib.hid hcrd
   clear hcrd
   have hz5 : w5.heap.size ≤ w5.drew.heap.size := Nat.le_refl _
   refine wp_region_held_drew (S := (fun w' => w'.cell? ⟨gc, 0, none⟩ = some (.string xk) ∧ w'.cell? ⟨gc, 1, none⟩ = some (.string xd))) (by kernel_rfl) ?_ (fun hHeld => ?_)
   ·exact hHeld
   refine opT 0 rfl ?_; refine opT 1 rfl ?_; refine opT 2 rfl ?_; refine opT 3 rfl ?_; refine opT 5 rfl ?_; refine opT 6 rfl ?_; refine opT 8 rfl ?_; refine opT 9 rfl ?_; refine opT 11 rfl ?_; refine opT 12 rfl ?_; refine opT 13 rfl ?_; refine opT 14 rfl ?_; refine opT 15 rfl ?_
   refine opD 4 rfl (fun K hK => ?_)
   go_simp
   (go_at_call 69; refine (number_any xd.size _ (by omega)).mono ?_; rintro e wA ⟨tA, rfl, htA, hbA⟩; have HSA := Lib.hid (show tA.size = 4 by rw [← lst_length, htA]; rfl); have hc2 : (9223372036854775807 < tA.size + xk.size) = False := (by rw [HSA.out, HK4.out]; decide); have hc3 : (9223372036854775807 < tA.size + xk.size + xd.size) = False := (by rw [HSA.out, HK4.out, eq_false_iff_]; omega); have hc4 : (9223372036854775807 < (tA ++ xk : ByteArray).size + xd.size) = False := (by rw [ByteArray.size_append]; exact hc3))
   refine hK.out _ _ ?_ (fun hHeld => ?_)
   ·exact ⟨bcell_ hbA hg5 hHeld.1, bcell_ hbA hg5 hHeld.2⟩
   clear hK K
   (try simp only [Act.put, nz1, nz2, nz3, nz4, nz5, nz6])
   refine opT 7 rfl ?_; refine opT 10 rfl ?_
   refine opD 16 rfl (fun K hK => ?_)
   go_simp
   (go_at_call 55; refine (crc_any (xk ++ xd) _ (by rw [ByteArray.size_append]; have := HK4.out; omega)).mono ?_; rintro e wB ⟨rfl, hbB⟩; rw [← HCR.out]; have hbAB := Below.trans hbA (hbB.mono hbA.size))
   refine hK.out _ _ ?_ (fun hHeld => ?_)
   ·exact ⟨bcell_ hbB (Nat.lt_of_lt_of_le hg5 hbA.size) hHeld.1, bcell_ hbB (Nat.lt_of_lt_of_le hg5 hbA.size) hHeld.2⟩
   clear hK K
   (try simp only [Act.put, nz1, nz2, nz3, nz4, nz5, nz6])
   refine opD 17 rfl (fun K hK => ?_)
   go_simp
   (go_at_call 69; refine (number_any cr _ hcr).mono ?_; rintro e wC ⟨tB, rfl, htB, hbC⟩; have hbABC := Below.trans hbAB (hbC.mono hbAB.size); have HBC := Lib.hid (show Below wr.heap.size wr wC from HB5.out.trans (Below.mono (Below.fromDrew (Below.fromDrew hbABC)) HB5.out.size)); have hgcC : gc < wC.heap.size := Nat.lt_of_lt_of_le hg5 hbABC.size; have HSB := Lib.hid (show tB.size = 4 by rw [← lst_length, htB]; rfl); have hc5 : (9223372036854775807 < tA.size + xk.size + xd.size + tB.size) = False := (by rw [HSA.out, HSB.out, HK4.out, eq_false_iff_]; omega); have hc6 : (9223372036854775807 < (tA ++ xk ++ xd : ByteArray).size + tB.size) = False := (by rw [ByteArray.size_append, ByteArray.size_append]; exact hc5); have hpt : lst (tA ++ xk ++ xd ++ tB) = Chk.chunkB (lst xk, lst xd) := (by rw [lst_append, lst_append, lst_append, htA, htB, HCR.out, hkl, ← lst_length]; unfold Chk.chunkB; simp only [List.append_assoc]))
   refine hK.out _ _ ?_ (fun hHeld => ?_)
   ·exact ⟨bcell_ hbC (Nat.lt_of_lt_of_le hg5 hbAB.size) hHeld.1, bcell_ hbC (Nat.lt_of_lt_of_le hg5 hbAB.size) hHeld.2⟩
   clear hK K
   (try simp only [Act.put, nz1, nz2, nz3, nz4, nz5, nz6])
   refine opT 18 rfl ?_
   refine opD 19 rfl (fun K hK => ?_)
   go_simp
   (go_at_call 74; refine (writeString_far w.heap.size g gc (Chk.fileTo (chL l) k) _ _ (HFC.out _ HBC.out) hgcC (by rw [← lst_length, hpt, ← HFL.out, Chk.chunkB_length _ HKD2.out, lst_length]; omega) (by have := HP.out.bel.size; have := HBC.out.size; omega)).mono ?_; obtain ⟨zz, hzz⟩ : ∃ zz : Nat, zz = (tA ++ xk ++ xd ++ tB).size := ⟨_, rfl⟩; rw [← hzz]; clear hzz; rintro e wD ⟨rfl, hI5, hbD, hkD⟩)
   refine hK.out _ _ ?_ (fun hHeld => ?_)
   ·exact ⟨(cell_heap hkD _).trans hHeld.1, (cell_heap hkD _).trans hHeld.2⟩
   clear hK K
   (try simp only [Act.put, nz1, nz2, nz3, nz4, nz5, nz6])
   refine wpAnyH_done (by kernel_rfl) ?_ _
   go_wp2_with fail
   refine ⟨⟨k + 1, hlt, by go_num, ?_, HP.out.bel.trans ((HBC.out.mono HP.out.bel.size).trans hbD)⟩, by simp [intOf]; omega⟩
   rw [HS.out, ← hpt]
   exact hI5
  ·have hke : k = (chL l).length := by have := HCL.out; omega
   have hI := hP.b
   rw [hke, Chk.fileTo_all, ← HZ.out] at hI
   have hne : Z ≠ [] := by
    rw [HZ.out]
    unfold Chk.file Chk.sig
    simp
   have HI := Lib.hid hI
   clear hke hI hP
   go_wp2_with fail
   refine (bstring_any w.heap.size g Z wr HI.out hne).mono ?_
   rintro e w4 ⟨rfl, hb4⟩
   have HW4 := Lib.hid (HP.out.bel.trans hb4)
   clear hb4
   go_wp2_with fail
   go_ret2
   exact ⟨rfl, HW4.out⟩
end Go.Proofs.YtkegkelaffohjaaGreatDoor
