/- FilmCtl, FilmTake, PngHead: put together. -/
import Derived.Test.YtkegkelaffohjaaGreatDoorQCFilmTwiceChWalk
import Derived.Test.YtkegkelaffohjaaGreatDoorKCFilmTwice7
/- film.two, number, control; png.Head: the walks. Printed by mk.py. -/
namespace Go.Proofs.YtkegkelaffohjaaGreatDoor
open Go Go.RowKit
set_option maxRecDepth 100000 in
theorem ftwo_any (n : Nat) (w : World) (hn : n ≤ 65535) :
  Calls Tryz.prog 70 #[.int .i64 n] w fun e w' => ∃ t : ByteArray, e = .returned (.string t) ∧ lst t = Film.big2 n ∧ Below w.heap.size w w' := by
 have hcv := conv_made w (Film.big2 n) 2 #[.int .u8 ((n : Int) / 256), .int .u8 ((n : Int) % 256)] rfl (by
  simp only [Film.big2, bytes, List.map_cons, List.map_nil, UInt8.toNat_ofNat']
  congr 1
  have e1 : ((n / 256 % 2 ^ 8 : Nat) : Int) = (n : Int) / 256 := by omega
  have e2 : ((n % 2 ^ 8 : Nat) : Int) = (n : Int) % 256 := by omega
  rw [e1, e2])
 go_enter Tryz.func70, Tryz.ntmps70
 go_wp2_with fail
 go_ret
 exact ⟨_, rfl, rfl, (Below.refl _ _).alloc (Nat.le_refl _) _⟩
set_option maxRecDepth 100000 in
theorem fnumber_any (n : Nat) (w : World) (hn : n < 4294967296) :
  Calls Tryz.prog 38 #[.int .i64 n] w fun e w' => ∃ t : ByteArray, e = .returned (.string t) ∧ lst t = Crc.num n ∧ Below w.heap.size w w' := by
 have hw : IntKind.u32.wrap (n : Int) = (n : Nat) := IntWalk.u32_in _ (by omega)
 go_enter Tryz.func38, Tryz.ntmps38
 go_wp2_with fail
 refine (number_any n w hn).mono ?_
 rintro e w1 ⟨t, rfl, ht, hb⟩
 go_wp2_with fail
 go_ret
 exact ⟨t, rfl, ht, hb⟩
set_option maxHeartbeats 4000000 in
set_option maxRecDepth 100000 in
theorem control_any (n W H d : Nat) (A : Option Addr) (m c : Nat) (w : World) (hn : n < 4294967296) (hW : W ≤ 256) (hH : H ≤ 256) (hd : d ≤ 65535) :
  Calls Tryz.prog 39 #[.int .i64 n, .agg #[.int .i64 W, .int .i64 H, .slice A m c, .int .i64 d]] w fun e w' => ∃ t : ByteArray, e = .returned (.agg #[.string ⟨Film.kfcTL.toArray⟩, .string t]) ∧ lst t = Film.control n W H d ∧ Below w.heap.size w w' := by
 go_enter Tryz.func39, Tryz.ntmps39
 go_upto_region 1 with (fail)
 have B1 := (Blk.new w 54 #[.int .i64 W, .int .i64 H, .slice A m c, .int .i64 d] rfl).alloc (.cells #[.string ⟨#[]⟩, .string ⟨#[]⟩] 91)
 have B2 := Blk.new (w.alloc (.cells #[.int .i64 W, .int .i64 H, .slice A m c, .int .i64 d] 54)) 91 #[.string ⟨#[]⟩, .string ⟨#[]⟩] (g := w.heap.size + 1) (by simp)
 have hb2 : Below w.heap.size w ((w.alloc (.cells #[.int .i64 W, .int .i64 H, .slice A m c, .int .i64 d] 54)).alloc (.cells #[.string ⟨#[]⟩, .string ⟨#[]⟩] 91)) := ((Below.refl _ _).alloc (Nat.le_refl _) _).alloc (by simp) _
 generalize hw2 : (w.alloc (.cells #[.int .i64 W, .int .i64 H, .slice A m c, .int .i64 d] 54)).alloc (.cells #[.string ⟨#[]⟩, .string ⟨#[]⟩] 91) = w2 at *
 clear hw2
 obtain ⟨gc, hgc⟩ : ∃ gc, gc = w.heap.size + 1 := ⟨_, rfl⟩
 obtain ⟨gf, hgf⟩ : ∃ gf, gf = w.heap.size := ⟨_, rfl⟩
 rw [← hgc] at B2
 rw [← hgf] at B1
 rw [← hgc, ← hgf]
 have hgf' : gf < w2.heap.size := B1.lt
 have hgc' : gc < w2.heap.size := B2.lt
 have hS0 : w2.cell? ⟨gf, 0, none⟩ = some (.int .i64 W) ∧ w2.cell? ⟨gf, 1, none⟩ = some (.int .i64 H) ∧ w2.cell? ⟨gf, 3, none⟩ = some (.int .i64 d) ∧ ∃ a b, Blk w2 gc 91 #[a, b] := ⟨B1.cell 0, B1.cell 1, B1.cell 3, _, _, B2⟩
 have HGC := Lib.hid hgc
 have HGF := Lib.hid hgf
 have HB2 := Lib.hid hb2
 clear hgc hgf hb2 B1 B2
 refine wp_region_held_drew (S := (fun w' => w'.cell? ⟨gf, 0, none⟩ = some (.int .i64 W) ∧ w'.cell? ⟨gf, 1, none⟩ = some (.int .i64 H) ∧ w'.cell? ⟨gf, 3, none⟩ = some (.int .i64 d) ∧ ∃ a b, Blk w' gc 91 #[a, b])) (by kernel_rfl) ?_ (fun hHeld => ?_)
 ·exact hS0
 refine opT 0 rfl ?_; refine opT 2 rfl ?_; refine opT 3 rfl ?_; refine opT 4 rfl ?_; refine opT 7 rfl ?_; refine opT 8 rfl ?_; refine opT 9 rfl ?_; refine opT 16 rfl ?_; refine opT 17 rfl ?_
 refine opD 1 rfl (fun K hK => ?_)
 go_simp
 (go_at_call 38; refine (fnumber_any n _ (by omega)).mono ?_; rintro e wn1 ⟨tn1, rfl, ht1, hb1⟩; have HT1 := Lib.hid ht1; have hz1 : tn1.size = 4 := (by rw [← lst_length, ht1]; rfl); have k1 := hb1; clear ht1)
 refine hK.out _ _ ?_ (fun hHeld => ?_)
 ·exact ⟨bcell_ hb1 hgf' hHeld.1, bcell_ hb1 hgf' hHeld.2.1, bcell_ hb1 hgf' hHeld.2.2.1, (by obtain ⟨_, _, _, a, b, hB⟩ := hHeld; exact ⟨a, b, hB.below hb1 hgc'⟩)⟩
 clear hK K
 (try simp only [Act.put, nz1, nz2, nz3, nz4, nz5, nz6])
 refine opD 5 rfl (fun K hK => ?_)
 go_simp
 (go_at_call 38; refine (fnumber_any W _ (by omega)).mono ?_; rintro e wn5 ⟨tn5, rfl, ht5, hb5⟩; have HT5 := Lib.hid ht5; have hz5 : tn5.size = 4 := (by rw [← lst_length, ht5]; rfl); have k5 := Below.trans k1 (hb5.mono k1.size); clear ht5)
 refine hK.out _ _ ?_ (fun hHeld => ?_)
 ·exact ⟨bcell_ hb5 (Nat.lt_of_lt_of_le hgf' k1.size) hHeld.1, bcell_ hb5 (Nat.lt_of_lt_of_le hgf' k1.size) hHeld.2.1, bcell_ hb5 (Nat.lt_of_lt_of_le hgf' k1.size) hHeld.2.2.1, (by obtain ⟨_, _, _, a, b, hB⟩ := hHeld; exact ⟨a, b, hB.below hb5 (Nat.lt_of_lt_of_le hgc' k1.size)⟩)⟩
 clear hK K
 (try simp only [Act.put, nz1, nz2, nz3, nz4, nz5, nz6])
 refine opT 6 rfl ?_
 refine opD 10 rfl (fun K hK => ?_)
 go_simp
 (go_at_call 38; refine (fnumber_any H _ (by omega)).mono ?_; rintro e wn10 ⟨tn10, rfl, ht10, hb10⟩; have HT10 := Lib.hid ht10; have hz10 : tn10.size = 4 := (by rw [← lst_length, ht10]; rfl); have k10 := Below.trans k5 (hb10.mono k5.size); clear ht10)
 refine hK.out _ _ ?_ (fun hHeld => ?_)
 ·exact ⟨bcell_ hb10 (Nat.lt_of_lt_of_le hgf' k5.size) hHeld.1, bcell_ hb10 (Nat.lt_of_lt_of_le hgf' k5.size) hHeld.2.1, bcell_ hb10 (Nat.lt_of_lt_of_le hgf' k5.size) hHeld.2.2.1, (by obtain ⟨_, _, _, a, b, hB⟩ := hHeld; exact ⟨a, b, hB.below hb10 (Nat.lt_of_lt_of_le hgc' k5.size)⟩)⟩
 clear hK K
 (try simp only [Act.put, nz1, nz2, nz3, nz4, nz5, nz6])
 refine opT 11 rfl ?_
 refine opD 12 rfl (fun K hK => ?_)
 go_simp
 (go_at_call 38; refine (fnumber_any 0 _ (by omega)).mono ?_; rintro e wn12 ⟨tn12, rfl, ht12, hb12⟩; have HT12 := Lib.hid ht12; have hz12 : tn12.size = 4 := (by rw [← lst_length, ht12]; rfl); have k12 := Below.trans k10 (hb12.mono k10.size); clear ht12)
 refine hK.out _ _ ?_ (fun hHeld => ?_)
 ·exact ⟨bcell_ hb12 (Nat.lt_of_lt_of_le hgf' k10.size) hHeld.1, bcell_ hb12 (Nat.lt_of_lt_of_le hgf' k10.size) hHeld.2.1, bcell_ hb12 (Nat.lt_of_lt_of_le hgf' k10.size) hHeld.2.2.1, (by obtain ⟨_, _, _, a, b, hB⟩ := hHeld; exact ⟨a, b, hB.below hb12 (Nat.lt_of_lt_of_le hgc' k10.size)⟩)⟩
 clear hK K
 (try simp only [Act.put, nz1, nz2, nz3, nz4, nz5, nz6])
 refine opT 13 rfl ?_
 refine opD 14 rfl (fun K hK => ?_)
 go_simp
 (go_at_call 38; refine (fnumber_any 0 _ (by omega)).mono ?_; rintro e wn14 ⟨tn14, rfl, ht14, hb14⟩; have HT14 := Lib.hid ht14; have hz14 : tn14.size = 4 := (by rw [← lst_length, ht14]; rfl); have k14 := Below.trans k12 (hb14.mono k12.size); clear ht14)
 refine hK.out _ _ ?_ (fun hHeld => ?_)
 ·exact ⟨bcell_ hb14 (Nat.lt_of_lt_of_le hgf' k12.size) hHeld.1, bcell_ hb14 (Nat.lt_of_lt_of_le hgf' k12.size) hHeld.2.1, bcell_ hb14 (Nat.lt_of_lt_of_le hgf' k12.size) hHeld.2.2.1, (by obtain ⟨_, _, _, a, b, hB⟩ := hHeld; exact ⟨a, b, hB.below hb14 (Nat.lt_of_lt_of_le hgc' k12.size)⟩)⟩
 clear hK K
 (try simp only [Act.put, nz1, nz2, nz3, nz4, nz5, nz6])
 refine opT 15 rfl ?_
 refine opD 18 rfl (fun K hK => ?_)
 go_simp
 (go_at_call 70; refine (ftwo_any d _ (by omega)).mono ?_; rintro e wn18 ⟨tn18, rfl, ht18, hb18⟩; have HT18 := Lib.hid ht18; have hz18 : tn18.size = 2 := (by rw [← lst_length, ht18]; rfl); have k18 := Below.trans k14 (hb18.mono k14.size); clear ht18)
 refine hK.out _ _ ?_ (fun hHeld => ?_)
 ·exact ⟨bcell_ hb18 (Nat.lt_of_lt_of_le hgf' k14.size) hHeld.1, bcell_ hb18 (Nat.lt_of_lt_of_le hgf' k14.size) hHeld.2.1, bcell_ hb18 (Nat.lt_of_lt_of_le hgf' k14.size) hHeld.2.2.1, (by obtain ⟨_, _, _, a, b, hB⟩ := hHeld; exact ⟨a, b, hB.below hb18 (Nat.lt_of_lt_of_le hgc' k14.size)⟩)⟩
 clear hK K
 (try simp only [Act.put, nz1, nz2, nz3, nz4, nz5, nz6])
 refine opT 19 rfl ?_
 refine opD 20 rfl (fun K hK => ?_)
 go_simp
 (go_at_call 70; refine (ftwo_any 100 _ (by omega)).mono ?_; rintro e wn20 ⟨tn20, rfl, ht20, hb20⟩; have HT20 := Lib.hid ht20; have hz20 : tn20.size = 2 := (by rw [← lst_length, ht20]; rfl); have k20 := Below.trans k18 (hb20.mono k18.size); clear ht20)
 refine hK.out _ _ ?_ (fun hHeld => ?_)
 ·exact ⟨bcell_ hb20 (Nat.lt_of_lt_of_le hgf' k18.size) hHeld.1, bcell_ hb20 (Nat.lt_of_lt_of_le hgf' k18.size) hHeld.2.1, bcell_ hb20 (Nat.lt_of_lt_of_le hgf' k18.size) hHeld.2.2.1, (by obtain ⟨_, _, _, a, b, hB⟩ := hHeld; exact ⟨a, b, hB.below hb20 (Nat.lt_of_lt_of_le hgc' k18.size)⟩)⟩
 clear hK K
 (try simp only [Act.put, nz1, nz2, nz3, nz4, nz5, nz6])
 refine opT 21 rfl ?_; refine opT 22 rfl ?_; refine opT 23 rfl ?_
 refine opD 24 rfl (fun K hK => ?_)
 (obtain ⟨hh0, hh1, hh3, xa, xb, hBC⟩ := hHeld; have q0 := hBC.free 0; have q1 := hBC.free 1; have q2 : wn20.cell? ⟨gc, 0, none⟩ = some xa := hBC.cell 0; have q3 : wn20.cell? ⟨gc, 1, none⟩ = some xb := hBC.cell 1; have HB9 := Lib.hid (show Blk ((wn20.setCell ⟨gc, 0, none⟩ (.string ⟨#[102, 99, 84, 76]⟩)).setCell ⟨gc, 1, none⟩ (.string (tn1 ++ tn5 ++ tn10 ++ tn12 ++ tn14 ++ tn18 ++ tn20 ++ (⟨#[0, 0]⟩ : ByteArray)))) gc 91 #[.string ⟨#[102, 99, 84, 76]⟩, .string (tn1 ++ tn5 ++ tn10 ++ tn12 ++ tn14 ++ tn18 ++ tn20 ++ (⟨#[0, 0]⟩ : ByteArray))] from (hBC.set_ 0 _).set_ 1 _); go_simp)
 refine hK.out _ _ ?_ (fun hHeld => ?_)
 ·(have hne : gc ≠ gf := (by rw [HGC.out, HGF.out]; omega); exact ⟨(World.cell?_setCell_far _ _ _ _ hne).trans ((World.cell?_setCell_far _ _ _ _ hne).trans hh0), (World.cell?_setCell_far _ _ _ _ hne).trans ((World.cell?_setCell_far _ _ _ _ hne).trans hh1), (World.cell?_setCell_far _ _ _ _ hne).trans ((World.cell?_setCell_far _ _ _ _ hne).trans hh3), _, _, HB9.out⟩)
 clear hK K
 (try simp only [Act.put, nz1, nz2, nz3, nz4, nz5, nz6])
 refine wpAnyH_done (by kernel_rfl) ?_ _
 have r0 := HB9.out.cell 0
 have r1 := HB9.out.cell 1
 have HLB := Lib.hid (((HB2.out.trans ((Below.fromDrew k20).mono HB2.out.size)).setCell (p := ⟨gc, 0, none⟩) (by show w.heap.size ≤ gc; rw [HGC.out]; omega) (.string ⟨#[102, 99, 84, 76]⟩)).setCell (p := ⟨gc, 1, none⟩) (by show w.heap.size ≤ gc; rw [HGC.out]; omega) (.string (tn1 ++ tn5 ++ tn10 ++ tn12 ++ tn14 ++ tn18 ++ tn20 ++ (⟨#[0, 0]⟩ : ByteArray))))
 have htt : lst (tn1 ++ tn5 ++ tn10 ++ tn12 ++ tn14 ++ tn18 ++ tn20 ++ (⟨#[0, 0]⟩ : ByteArray)) = Film.control n W H d := by
  rw [lst_append, lst_append, lst_append, lst_append, lst_append, lst_append, lst_append, HT1.out, HT5.out, HT10.out, HT12.out, HT14.out, HT18.out, HT20.out]
  unfold Film.control
  simp only [List.append_assoc]
 have HTT := Lib.hid htt
 clear htt
 go_wp2_with fail
 generalize hw9 : (wn20.setCell ⟨gc, 0, none⟩ (.string ⟨#[102, 99, 84, 76]⟩)).setCell ⟨gc, 1, none⟩ (.string (tn1 ++ tn5 ++ tn10 ++ tn12 ++ tn14 ++ tn18 ++ tn20 ++ (⟨#[0, 0]⟩ : ByteArray))) = w9 at *
 refine bodyPost_ret (v := .agg #[.string ⟨#[102, 99, 84, 76]⟩, .string (tn1 ++ tn5 ++ tn10 ++ tn12 ++ tn14 ++ tn18 ++ tn20 ++ (⟨#[0, 0]⟩ : ByteArray))]) (by simp [results, Tryz.results39, go_sem, r0, r1]) rfl ⟨_, rfl, HTT.out, HLB.out⟩
end Go.Proofs.YtkegkelaffohjaaGreatDoor
/- (film.reader).take: the walk. Printed by mk.py. -/
namespace Go.Proofs.YtkegkelaffohjaaGreatDoor
open Go Go.RowKit
structure FRd (w : World) (gb W H nx : Nat) (l : List CB) (A : Option Addr) (c : Nat) : Prop where
 blk : Blk w gb 60 #[.slice A l.length c, .int .i64 W, .int .i64 H, .int .i64 nx]
 rd : Reads w gb 2 A l.length (chCells l)
 cap : l.length ≤ c
 big : c ≤ maxLen
theorem FRd.next {w : World} {gb W H nx gA oA c m : Nat} {x : CB} {l : List CB} (h : FRd w gb W H nx (x :: l) (some ⟨gA, oA, none⟩) c) (hm : m = (x :: l).length) : Below gb w (w.setCell ⟨gb, 0, none⟩ (.slice (if c = 1 then some ⟨gA, oA, none⟩ else some ⟨gA, oA + 2, none⟩) (m - 1 : Nat) (c - 1 : Nat))) ∧ ∃ A' c', FRd (w.setCell ⟨gb, 0, none⟩ (.slice (if c = 1 then some ⟨gA, oA, none⟩ else some ⟨gA, oA + 2, none⟩) (m - 1 : Nat) (c - 1 : Nat))) gb W H nx l A' c' ∧ Keeps (fun x => x = gb) w (w.setCell ⟨gb, 0, none⟩ (.slice (if c = 1 then some ⟨gA, oA, none⟩ else some ⟨gA, oA + 2, none⟩) (m - 1 : Nat) (c - 1 : Nat))) := by
 have hl : m - 1 = l.length := by rw [hm, List.length_cons]; omega
 have hc := h.cap
 have hb := h.big
 rw [List.length_cons] at hc
 refine ⟨(Below.refl _ _).setCell (p := ⟨gb, 0, none⟩) (Nat.le_refl _) _, (if c = 1 then some ⟨gA, oA, none⟩ else some ⟨gA, oA + 2, none⟩), c - 1, ⟨?_, ?_, by omega, by omega⟩, (Keeps.refl (fun x => x = gb) w).setCell (p := ⟨gb, 0, none⟩) (fun _ => rfl) _⟩
 ·rw [hl]
  exact h.blk.set_ 0 _
 ·have hr := (h.rd.cut (k := 1) (cap := c) (by simp) (by rw [List.length_cons]; omega)).setCell (p := ⟨gb, 0, none⟩) (Nat.le_refl _) (.slice (if c = 1 then some ⟨gA, oA, none⟩ else some ⟨gA, oA + 2, none⟩) (m - 1 : Nat) (c - 1 : Nat))
  have hd : (chCells (x :: l)).drop (1 * 2) = chCells l := rfl
  rw [hd, List.length_cons, Nat.add_sub_cancel] at hr
  exact hr
def takeB (k : ByteArray) (z : Int) : List CB → Option (ByteArray × List CB)
 | [] => none
 | x :: l => if x.1 ≠ k ∨ (0 ≤ z ∧ (x.2.size : Int) ≠ z) then none else some (x.2, l)
set_option maxHeartbeats 4000000 in
set_option maxRecDepth 100000 in
theorem ftake_any (gb W H nx : Nat) (l : List CB) (A : Option Addr) (c : Nat) (k : ByteArray) (z : Int) (w : World) (hF : FRd w gb W H nx l A c) :
  Calls Tryz.prog 22 #[.pointer (some ⟨gb, 0, none⟩), .string k, .int .i64 z] w fun e w' => Below gb w w' ∧ match takeB k z l with
   | none => e = .returned (.tuple #[.string ⟨#[]⟩, .bool false]) ∧ w' = w
   | some (d, l') => e = .returned (.tuple #[.string d, .bool true]) ∧ ∃ A' c', FRd w' gb W H nx l' A' c' ∧ Keeps (fun x => x = gb) w w' := by
 have c0 : w.cell? ⟨gb, 0, none⟩ = some (.slice A l.length c) := hF.blk.cell 0
 have f0 := hF.blk.free 0
 have HF := Lib.hid hF
 cases l with
 | nil =>
  clear hF
  replace c0 : w.cell? ⟨gb, 0, none⟩ = some (.slice A 0 c) := c0
  go_enter Tryz.func22, Tryz.ntmps22
  go_wp2_with fail
  go_ret2
  exact ⟨Below.refl _ _, rfl, rfl⟩
 | cons x l =>
  obtain ⟨gA, oA, rfl, hlt⟩ := hF.rd.addr (by simp)
  have d0 : w.cell? ⟨gA, oA, none⟩ = some (.string x.1) := by
   have := hF.rd.cell rfl 0 (by simp)
   exact this
  have d1 : w.cell? ⟨gA, oA + 1, none⟩ = some (.string x.2) := by
   have := hF.rd.cell rfl 1 (by simp; omega)
   exact this
  obtain ⟨m, hm⟩ : ∃ m, m = (x :: l).length := ⟨_, rfl⟩
  have hm1 : 1 ≤ m := by rw [hm]; simp
  have hm0 : ((m : Int) == 0) = false := by rw [beq_eq_false_iff_ne]; omega
  rw [← hm] at c0
  have HM := Lib.hid hm
  have hcap : (m : Int) ≤ c := by have := hF.cap; omega
  obtain ⟨xk, xd⟩ := x
  clear hF hm
  by_cases h1 : xk = k
  ·by_cases h2 : 0 ≤ z
   ·by_cases h3 : (xd.size : Int) = z
    ·have ht : takeB k z ((xk, xd) :: l) = some (xd, l) := if_neg (fun h => h.elim (fun h => h h1) (fun h => h.2 h3))
     rw [ht]
     subst h1
     have hzz : ((xd.size : Int) != z) = false := by rw [h3]; simp
     clear ht h3
     go_enter Tryz.func22, Tryz.ntmps22
     go_wp2_with fail
     all_goals
      obtain ⟨hn1, hn2⟩ := HF.out.next HM.out
      simp only [*, if_true, if_false] at hn1 hn2
      go_ret2
      obtain ⟨aA, ac, hn3, hn4⟩ := hn2
      exact ⟨hn1, rfl, ⟨aA, ac, hn3⟩, hn4⟩
    ·have ht : takeB k z ((xk, xd) :: l) = none := if_pos (.inr ⟨h2, h3⟩)
     rw [ht]
     subst h1
     have hzz : ((xd.size : Int) != z) = true := by rw [bne_iff_ne]; exact h3
     clear ht h3
     go_enter Tryz.func22, Tryz.ntmps22
     go_wp2_with fail
     go_ret2
     exact ⟨Below.refl _ _, rfl, rfl⟩
   ·have ht : takeB k z ((xk, xd) :: l) = some (xd, l) := if_neg (fun h => h.elim (fun h => h h1) (fun h => h2 h.1))
    rw [ht]
    subst h1
    have hzl : z < 0 := by omega
    clear ht h2
    go_enter Tryz.func22, Tryz.ntmps22
    go_wp2_with fail
    all_goals
     obtain ⟨hn1, hn2⟩ := HF.out.next HM.out
     simp only [*, if_true, if_false] at hn1 hn2
     go_ret2
     obtain ⟨aA, ac, hn3, hn4⟩ := hn2
     exact ⟨hn1, rfl, ⟨aA, ac, hn3⟩, hn4⟩
  ·have ht : takeB k z ((xk, xd) :: l) = none := if_pos (.inl h1)
   rw [ht]
   have hne : (xk.toList == k.toList) = false := by
    rw [beq_eq_false_iff_ne, Lib.toList_data, Lib.toList_data]
    exact fun e => h1 (lst_inj e)
   clear ht h1
   go_enter Tryz.func22, Tryz.ntmps22
   go_wp2_with fail
   go_ret2
   exact ⟨Below.refl _ _, rfl, rfl⟩
end Go.Proofs.YtkegkelaffohjaaGreatDoor
/- png.Head: the walk. Printed by mk.py. -/
namespace Go.Proofs.YtkegkelaffohjaaGreatDoor
open Go Go.RowKit
theorem made_reads {w : World} {g : Nat} (h : Blk w g 5 #[.int .u8 8, .int .u8 6, .int .u8 0, .int .u8 0, .int .u8 0]) : Reads w (g + 1) 1 (some ⟨g, 0, none⟩) 5 (bytes [8, 6, 0, 0, 0]) :=
 ⟨rfl, fun _ => ⟨g, 0, rfl, Nat.lt_succ_self g, fun j u hu => by rw [Nat.zero_add, h.cell]; exact (show (bytes [8, 6, 0, 0, 0]).toArray[j]? = some u by rw [List.getElem?_toArray]; exact hu)⟩⟩
set_option maxHeartbeats 8000000 in
set_option maxRecDepth 100000 in
theorem phead_any (W H : Nat) (w : World) (hW : W ≤ 256) (hH : H ≤ 256) :
  Calls Tryz.prog 37 #[.int .i64 W, .int .i64 H, .int .i64 8, .int .i64 6] w fun e w' => ∃ t : ByteArray, e = .returned (.agg #[.string ⟨Film.kIHDR.toArray⟩, .string t]) ∧ lst t = Crc.num W ++ (Crc.num H ++ [8, 6, 0, 0, 0]) ∧ Below w.heap.size w w' := by
 have hw1 : IntKind.u32.wrap (W : Int) = (W : Nat) := IntWalk.u32_in _ (by omega)
 have hw2 : IntKind.u32.wrap (H : Int) = (H : Nat) := IntWalk.u32_in _ (by omega)
 go_enter Tryz.func37, Tryz.ntmps37
 go_upto_region 1 with (fail)
 have B1 := Blk.new w 91 #[.string ⟨#[]⟩, .string ⟨#[]⟩] rfl
 have kb : Below w.heap.size w (w.alloc (.cells #[.string ⟨#[]⟩, .string ⟨#[]⟩] 91)).drew := ((Below.refl _ _).alloc (Nat.le_refl _) _).drew
 obtain ⟨gc, hgc⟩ : ∃ gc, gc = w.heap.size := ⟨_, rfl⟩
 have HGC := Lib.hid hgc
 rw [← hgc] at B1
 rw [← hgc]
 replace B1 := B1.drew
 have hu8 : IntKind.u8.wrap 8 = 8 := rfl
 have hu6 : IntKind.u8.wrap 6 = 6 := rfl
 generalize hwS : w.alloc (.cells #[.string ⟨#[]⟩, .string ⟨#[]⟩] 91) = w0 at *
 clear hgc hwS
 refine wp_region_held_drew (S := (fun w' => ∃ a b, Blk w' gc 91 #[a, b])) (by kernel_rfl) ?_ (fun hHeld => ?_)
 ·exact ⟨_, _, B1⟩
 refine opT 0 rfl ?_; refine opT 1 rfl ?_; refine opT 3 rfl ?_; refine opT 4 rfl ?_; refine opT 7 rfl ?_; refine opT 8 rfl ?_; refine opT 9 rfl ?_; refine opT 10 rfl ?_
 refine wpAnyH_ready (rs := [2, 11]) (by kernel_rfl) (by simp) ?_
 refine AllReadyH.cons rfl (fun K hK => ?_) (AllReadyH.cons rfl (fun K hK => ?_) AllReadyH.nil)
 ·go_simp
  (go_at_call 69; refine (number_any W _ (by omega)).mono ?_; rintro e wn2 ⟨tn2, rfl, ht2, hb2⟩)
  have hHT2 := Lib.hid ht2
  have hz2 : tn2.size = 4 := by rw [← lst_length, ht2]; rfl
  have kb := kb.trans (hb2.mono kb.size)
  have hHB2 := Lib.hid hb2
  clear ht2 hb2
  refine hK.out _ _ ?_ (fun hHeld => ?_)
  ·exact (by obtain ⟨a, b, hB⟩ := hHeld; exact ⟨a, b, hB.below hHB2.out hB.lt⟩)
  clear hK K
  (try simp only [Act.put, nz1, nz2, nz3, nz4, nz5, nz6])
  refine wpAnyH_ready (rs := [5, 11]) (by kernel_rfl) (by simp) ?_
  refine AllReadyH.cons rfl (fun K hK => ?_) (AllReadyH.cons rfl (fun K hK => ?_) AllReadyH.nil)
  ·go_simp
   (go_at_call 69; refine (number_any H _ (by omega)).mono ?_; rintro e wn5 ⟨tn5, rfl, ht5, hb5⟩)
   have hHT5 := Lib.hid ht5
   have hz5 : tn5.size = 4 := by rw [← lst_length, ht5]; rfl
   have kb := kb.trans (hb5.mono kb.size)
   have hHB5 := Lib.hid hb5
   clear ht5 hb5
   refine hK.out _ _ ?_ (fun hHeld => ?_)
   ·exact (by obtain ⟨a, b, hB⟩ := hHeld; exact ⟨a, b, hB.below hHB5.out hB.lt⟩)
   clear hK K
   (try simp only [Act.put, nz1, nz2, nz3, nz4, nz5, nz6])
   refine opT 6 rfl ?_
   refine opD 11 rfl (fun K hK => ?_)
   go_simp
   obtain ⟨ga, hga⟩ : ∃ ga, ga = wn5.heap.size := ⟨_, rfl⟩
   rw [← hga]
   have hA := Blk.new wn5 5 #[.int .u8 8, .int .u8 6, .int .u8 0, .int .u8 0, .int .u8 0] hga
   have kb : Below w.heap.size w (wn5.alloc (.cells #[.int .u8 8, .int .u8 6, .int .u8 0, .int .u8 0, .int .u8 0] 5)) := kb.alloc kb.size (.cells #[.int .u8 8, .int .u8 6, .int .u8 0, .int .u8 0, .int .u8 0] 5)
   refine hK.out _ _ ?_ (fun hHeld => ?_)
   ·exact (by obtain ⟨a, b, hB⟩ := hHeld; exact ⟨a, b, hB.alloc _⟩)
   generalize hwa : wn5.alloc (.cells #[.int .u8 8, .int .u8 6, .int .u8 0, .int .u8 0, .int .u8 0] 5) = wa at *
   clear hwa hga
   clear hK K
   (try simp only [Act.put, nz1, nz2, nz3, nz4, nz5, nz6])
   refine opD 12 rfl (fun K hK => ?_)
   have hcv := conv_reads wa (some ⟨ga, 0, none⟩) 5 5 (ga + 1) [8, 6, 0, 0, 0] (made_reads hA)
   go_simp
   refine hK.out _ _ ?_ (fun hHeld => ?_)
   ·exact hHeld
   clear hcv hA
   clear hK K
   (try simp only [Act.put, nz1, nz2, nz3, nz4, nz5, nz6])
   refine opT 13 rfl ?_; refine opT 14 rfl ?_
   refine opD 15 rfl (fun K hK => ?_)
   (obtain ⟨xa, xb, hBC⟩ := hHeld; have q0 := hBC.free 0; have q1 := hBC.free 1; have q2 : wa.cell? ⟨gc, 0, none⟩ = some xa := hBC.cell 0; have q3 : wa.cell? ⟨gc, 1, none⟩ = some xb := hBC.cell 1; have HB9 := Lib.hid (show Blk ((wa.setCell ⟨gc, 0, none⟩ (.string ⟨#[73, 72, 68, 82]⟩)).setCell ⟨gc, 1, none⟩ (.string (tn2 ++ tn5 ++ (⟨#[8, 6, 0, 0, 0]⟩ : ByteArray)))) gc 91 #[.string ⟨#[73, 72, 68, 82]⟩, .string (tn2 ++ tn5 ++ (⟨#[8, 6, 0, 0, 0]⟩ : ByteArray))] from (hBC.set_ 0 _).set_ 1 _))
   go_simp
   refine hK.out _ _ ?_ (fun hHeld => ?_)
   ·exact ⟨_, _, HB9.out⟩
   clear hK K
   (try simp only [Act.put, nz1, nz2, nz3, nz4, nz5, nz6])
   refine wpAnyH_done (by kernel_rfl) ?_ _
   have r0 := HB9.out.cell 0
   have r1 := HB9.out.cell 1
   have kb := (kb.setCell (p := ⟨gc, 0, none⟩) (by show w.heap.size ≤ gc; rw [HGC.out]; exact Nat.le_refl _) (.string ⟨#[73, 72, 68, 82]⟩)).setCell (p := ⟨gc, 1, none⟩) (by show w.heap.size ≤ gc; rw [HGC.out]; exact Nat.le_refl _) (.string (tn2 ++ tn5 ++ (⟨#[8, 6, 0, 0, 0]⟩ : ByteArray)))
   have HKB := Lib.hid kb
   have HTT := Lib.hid (show lst (tn2 ++ tn5 ++ (⟨#[8, 6, 0, 0, 0]⟩ : ByteArray)) = Crc.num W ++ (Crc.num H ++ [8, 6, 0, 0, 0]) by rw [lst_append, lst_append, hHT2.out, hHT5.out, List.append_assoc])
   clear kb q0 q1 q2 q3
   go_wp2_with fail
   generalize hw9 : (wa.setCell ⟨gc, 0, none⟩ (.string ⟨#[73, 72, 68, 82]⟩)).setCell ⟨gc, 1, none⟩ (.string (tn2 ++ tn5 ++ (⟨#[8, 6, 0, 0, 0]⟩ : ByteArray))) = w9 at *
   refine bodyPost_ret (v := .agg #[.string ⟨#[73, 72, 68, 82]⟩, .string (tn2 ++ tn5 ++ (⟨#[8, 6, 0, 0, 0]⟩ : ByteArray))]) (by simp [results, Tryz.results37, go_sem, r0, r1]) rfl ⟨_, rfl, HTT.out, HKB.out⟩
  ·go_simp
   obtain ⟨ga, hga⟩ : ∃ ga, ga = wn2.heap.size := ⟨_, rfl⟩
   rw [← hga]
   have hA := Blk.new wn2 5 #[.int .u8 8, .int .u8 6, .int .u8 0, .int .u8 0, .int .u8 0] hga
   have kb : Below w.heap.size w (wn2.alloc (.cells #[.int .u8 8, .int .u8 6, .int .u8 0, .int .u8 0, .int .u8 0] 5)) := kb.alloc kb.size (.cells #[.int .u8 8, .int .u8 6, .int .u8 0, .int .u8 0, .int .u8 0] 5)
   refine hK.out _ _ ?_ (fun hHeld => ?_)
   ·exact (by obtain ⟨a, b, hB⟩ := hHeld; exact ⟨a, b, hB.alloc _⟩)
   generalize hwa : wn2.alloc (.cells #[.int .u8 8, .int .u8 6, .int .u8 0, .int .u8 0, .int .u8 0] 5) = wa at *
   clear hwa hga
   clear hK K
   (try simp only [Act.put, nz1, nz2, nz3, nz4, nz5, nz6])
   refine wpAnyH_ready (rs := [5, 12]) (by kernel_rfl) (by simp) ?_
   refine AllReadyH.cons rfl (fun K hK => ?_) (AllReadyH.cons rfl (fun K hK => ?_) AllReadyH.nil)
   ·go_simp
    (go_at_call 69; refine (number_any H _ (by omega)).mono ?_; rintro e wn5 ⟨tn5, rfl, ht5, hb5⟩)
    have hHT5 := Lib.hid ht5
    have hz5 : tn5.size = 4 := by rw [← lst_length, ht5]; rfl
    have kb := kb.trans (hb5.mono kb.size)
    have hA := hA.below hb5 hA.lt
    have hHB5 := Lib.hid hb5
    clear ht5 hb5
    refine hK.out _ _ ?_ (fun hHeld => ?_)
    ·exact (by obtain ⟨a, b, hB⟩ := hHeld; exact ⟨a, b, hB.below hHB5.out hB.lt⟩)
    clear hK K
    (try simp only [Act.put, nz1, nz2, nz3, nz4, nz5, nz6])
    refine opT 6 rfl ?_
    refine opD 12 rfl (fun K hK => ?_)
    have hcv := conv_reads wn5 (some ⟨ga, 0, none⟩) 5 5 (ga + 1) [8, 6, 0, 0, 0] (made_reads hA)
    go_simp
    refine hK.out _ _ ?_ (fun hHeld => ?_)
    ·exact hHeld
    clear hcv hA
    clear hK K
    (try simp only [Act.put, nz1, nz2, nz3, nz4, nz5, nz6])
    refine opT 13 rfl ?_; refine opT 14 rfl ?_
    refine opD 15 rfl (fun K hK => ?_)
    (obtain ⟨xa, xb, hBC⟩ := hHeld; have q0 := hBC.free 0; have q1 := hBC.free 1; have q2 : wn5.cell? ⟨gc, 0, none⟩ = some xa := hBC.cell 0; have q3 : wn5.cell? ⟨gc, 1, none⟩ = some xb := hBC.cell 1; have HB9 := Lib.hid (show Blk ((wn5.setCell ⟨gc, 0, none⟩ (.string ⟨#[73, 72, 68, 82]⟩)).setCell ⟨gc, 1, none⟩ (.string (tn2 ++ tn5 ++ (⟨#[8, 6, 0, 0, 0]⟩ : ByteArray)))) gc 91 #[.string ⟨#[73, 72, 68, 82]⟩, .string (tn2 ++ tn5 ++ (⟨#[8, 6, 0, 0, 0]⟩ : ByteArray))] from (hBC.set_ 0 _).set_ 1 _))
    go_simp
    refine hK.out _ _ ?_ (fun hHeld => ?_)
    ·exact ⟨_, _, HB9.out⟩
    clear hK K
    (try simp only [Act.put, nz1, nz2, nz3, nz4, nz5, nz6])
    refine wpAnyH_done (by kernel_rfl) ?_ _
    have r0 := HB9.out.cell 0
    have r1 := HB9.out.cell 1
    have kb := (kb.setCell (p := ⟨gc, 0, none⟩) (by show w.heap.size ≤ gc; rw [HGC.out]; exact Nat.le_refl _) (.string ⟨#[73, 72, 68, 82]⟩)).setCell (p := ⟨gc, 1, none⟩) (by show w.heap.size ≤ gc; rw [HGC.out]; exact Nat.le_refl _) (.string (tn2 ++ tn5 ++ (⟨#[8, 6, 0, 0, 0]⟩ : ByteArray)))
    have HKB := Lib.hid kb
    have HTT := Lib.hid (show lst (tn2 ++ tn5 ++ (⟨#[8, 6, 0, 0, 0]⟩ : ByteArray)) = Crc.num W ++ (Crc.num H ++ [8, 6, 0, 0, 0]) by rw [lst_append, lst_append, hHT2.out, hHT5.out, List.append_assoc])
    clear kb q0 q1 q2 q3
    go_wp2_with fail
    generalize hw9 : (wn5.setCell ⟨gc, 0, none⟩ (.string ⟨#[73, 72, 68, 82]⟩)).setCell ⟨gc, 1, none⟩ (.string (tn2 ++ tn5 ++ (⟨#[8, 6, 0, 0, 0]⟩ : ByteArray))) = w9 at *
    refine bodyPost_ret (v := .agg #[.string ⟨#[73, 72, 68, 82]⟩, .string (tn2 ++ tn5 ++ (⟨#[8, 6, 0, 0, 0]⟩ : ByteArray))]) (by simp [results, Tryz.results37, go_sem, r0, r1]) rfl ⟨_, rfl, HTT.out, HKB.out⟩
   ·have hcv := conv_reads wa (some ⟨ga, 0, none⟩) 5 5 (ga + 1) [8, 6, 0, 0, 0] (made_reads hA)
    go_simp
    refine hK.out _ _ ?_ (fun hHeld => ?_)
    ·exact hHeld
    clear hcv hA
    clear hK K
    (try simp only [Act.put, nz1, nz2, nz3, nz4, nz5, nz6])
    refine opD 5 rfl (fun K hK => ?_)
    go_simp
    (go_at_call 69; refine (number_any H _ (by omega)).mono ?_; rintro e wn5 ⟨tn5, rfl, ht5, hb5⟩)
    have hHT5 := Lib.hid ht5
    have hz5 : tn5.size = 4 := by rw [← lst_length, ht5]; rfl
    have kb := kb.trans (hb5.mono kb.size)
    have hHB5 := Lib.hid hb5
    clear ht5 hb5
    refine hK.out _ _ ?_ (fun hHeld => ?_)
    ·exact (by obtain ⟨a, b, hB⟩ := hHeld; exact ⟨a, b, hB.below hHB5.out hB.lt⟩)
    clear hK K
    (try simp only [Act.put, nz1, nz2, nz3, nz4, nz5, nz6])
    refine opT 6 rfl ?_; refine opT 13 rfl ?_; refine opT 14 rfl ?_
    refine opD 15 rfl (fun K hK => ?_)
    (obtain ⟨xa, xb, hBC⟩ := hHeld; have q0 := hBC.free 0; have q1 := hBC.free 1; have q2 : wn5.cell? ⟨gc, 0, none⟩ = some xa := hBC.cell 0; have q3 : wn5.cell? ⟨gc, 1, none⟩ = some xb := hBC.cell 1; have HB9 := Lib.hid (show Blk ((wn5.setCell ⟨gc, 0, none⟩ (.string ⟨#[73, 72, 68, 82]⟩)).setCell ⟨gc, 1, none⟩ (.string (tn2 ++ tn5 ++ (⟨#[8, 6, 0, 0, 0]⟩ : ByteArray)))) gc 91 #[.string ⟨#[73, 72, 68, 82]⟩, .string (tn2 ++ tn5 ++ (⟨#[8, 6, 0, 0, 0]⟩ : ByteArray))] from (hBC.set_ 0 _).set_ 1 _))
    go_simp
    refine hK.out _ _ ?_ (fun hHeld => ?_)
    ·exact ⟨_, _, HB9.out⟩
    clear hK K
    (try simp only [Act.put, nz1, nz2, nz3, nz4, nz5, nz6])
    refine wpAnyH_done (by kernel_rfl) ?_ _
    have r0 := HB9.out.cell 0
    have r1 := HB9.out.cell 1
    have kb := (kb.setCell (p := ⟨gc, 0, none⟩) (by show w.heap.size ≤ gc; rw [HGC.out]; exact Nat.le_refl _) (.string ⟨#[73, 72, 68, 82]⟩)).setCell (p := ⟨gc, 1, none⟩) (by show w.heap.size ≤ gc; rw [HGC.out]; exact Nat.le_refl _) (.string (tn2 ++ tn5 ++ (⟨#[8, 6, 0, 0, 0]⟩ : ByteArray)))
    have HKB := Lib.hid kb
    have HTT := Lib.hid (show lst (tn2 ++ tn5 ++ (⟨#[8, 6, 0, 0, 0]⟩ : ByteArray)) = Crc.num W ++ (Crc.num H ++ [8, 6, 0, 0, 0]) by rw [lst_append, lst_append, hHT2.out, hHT5.out, List.append_assoc])
    clear kb q0 q1 q2 q3
    go_wp2_with fail
    generalize hw9 : (wn5.setCell ⟨gc, 0, none⟩ (.string ⟨#[73, 72, 68, 82]⟩)).setCell ⟨gc, 1, none⟩ (.string (tn2 ++ tn5 ++ (⟨#[8, 6, 0, 0, 0]⟩ : ByteArray))) = w9 at *
    refine bodyPost_ret (v := .agg #[.string ⟨#[73, 72, 68, 82]⟩, .string (tn2 ++ tn5 ++ (⟨#[8, 6, 0, 0, 0]⟩ : ByteArray))]) (by simp [results, Tryz.results37, go_sem, r0, r1]) rfl ⟨_, rfl, HTT.out, HKB.out⟩
 ·go_simp
  obtain ⟨ga, hga⟩ : ∃ ga, ga = w0.heap.size := ⟨_, rfl⟩
  rw [← hga]
  have hA := Blk.new w0 5 #[.int .u8 8, .int .u8 6, .int .u8 0, .int .u8 0, .int .u8 0] hga
  replace hA := hA.drew
  have kb : Below w.heap.size w ((w0.alloc (.cells #[.int .u8 8, .int .u8 6, .int .u8 0, .int .u8 0, .int .u8 0] 5)).drew) := kb.alloc kb.size (.cells #[.int .u8 8, .int .u8 6, .int .u8 0, .int .u8 0, .int .u8 0] 5)
  refine hK.out _ _ ?_ (fun hHeld => ?_)
  ·exact (by obtain ⟨a, b, hB⟩ := hHeld; exact ⟨a, b, hB.alloc _⟩)
  generalize hwa : (w0.alloc (.cells #[.int .u8 8, .int .u8 6, .int .u8 0, .int .u8 0, .int .u8 0] 5)).drew = wa at *
  clear hwa hga
  clear hK K
  (try simp only [Act.put, nz1, nz2, nz3, nz4, nz5, nz6])
  refine wpAnyH_ready (rs := [2, 12]) (by kernel_rfl) (by simp) ?_
  refine AllReadyH.cons rfl (fun K hK => ?_) (AllReadyH.cons rfl (fun K hK => ?_) AllReadyH.nil)
  ·go_simp
   (go_at_call 69; refine (number_any W _ (by omega)).mono ?_; rintro e wn2 ⟨tn2, rfl, ht2, hb2⟩)
   have hHT2 := Lib.hid ht2
   have hz2 : tn2.size = 4 := by rw [← lst_length, ht2]; rfl
   have kb := kb.trans (hb2.mono kb.size)
   have hA := hA.below hb2 hA.lt
   have hHB2 := Lib.hid hb2
   clear ht2 hb2
   refine hK.out _ _ ?_ (fun hHeld => ?_)
   ·exact (by obtain ⟨a, b, hB⟩ := hHeld; exact ⟨a, b, hB.below hHB2.out hB.lt⟩)
   clear hK K
   (try simp only [Act.put, nz1, nz2, nz3, nz4, nz5, nz6])
   refine wpAnyH_ready (rs := [5, 12]) (by kernel_rfl) (by simp) ?_
   refine AllReadyH.cons rfl (fun K hK => ?_) (AllReadyH.cons rfl (fun K hK => ?_) AllReadyH.nil)
   ·go_simp
    (go_at_call 69; refine (number_any H _ (by omega)).mono ?_; rintro e wn5 ⟨tn5, rfl, ht5, hb5⟩)
    have hHT5 := Lib.hid ht5
    have hz5 : tn5.size = 4 := by rw [← lst_length, ht5]; rfl
    have kb := kb.trans (hb5.mono kb.size)
    have hA := hA.below hb5 hA.lt
    have hHB5 := Lib.hid hb5
    clear ht5 hb5
    refine hK.out _ _ ?_ (fun hHeld => ?_)
    ·exact (by obtain ⟨a, b, hB⟩ := hHeld; exact ⟨a, b, hB.below hHB5.out hB.lt⟩)
    clear hK K
    (try simp only [Act.put, nz1, nz2, nz3, nz4, nz5, nz6])
    refine opT 6 rfl ?_
    refine opD 12 rfl (fun K hK => ?_)
    have hcv := conv_reads wn5 (some ⟨ga, 0, none⟩) 5 5 (ga + 1) [8, 6, 0, 0, 0] (made_reads hA)
    go_simp
    refine hK.out _ _ ?_ (fun hHeld => ?_)
    ·exact hHeld
    clear hcv hA
    clear hK K
    (try simp only [Act.put, nz1, nz2, nz3, nz4, nz5, nz6])
    refine opT 13 rfl ?_; refine opT 14 rfl ?_
    refine opD 15 rfl (fun K hK => ?_)
    (obtain ⟨xa, xb, hBC⟩ := hHeld; have q0 := hBC.free 0; have q1 := hBC.free 1; have q2 : wn5.cell? ⟨gc, 0, none⟩ = some xa := hBC.cell 0; have q3 : wn5.cell? ⟨gc, 1, none⟩ = some xb := hBC.cell 1; have HB9 := Lib.hid (show Blk ((wn5.setCell ⟨gc, 0, none⟩ (.string ⟨#[73, 72, 68, 82]⟩)).setCell ⟨gc, 1, none⟩ (.string (tn2 ++ tn5 ++ (⟨#[8, 6, 0, 0, 0]⟩ : ByteArray)))) gc 91 #[.string ⟨#[73, 72, 68, 82]⟩, .string (tn2 ++ tn5 ++ (⟨#[8, 6, 0, 0, 0]⟩ : ByteArray))] from (hBC.set_ 0 _).set_ 1 _))
    go_simp
    refine hK.out _ _ ?_ (fun hHeld => ?_)
    ·exact ⟨_, _, HB9.out⟩
    clear hK K
    (try simp only [Act.put, nz1, nz2, nz3, nz4, nz5, nz6])
    refine wpAnyH_done (by kernel_rfl) ?_ _
    have r0 := HB9.out.cell 0
    have r1 := HB9.out.cell 1
    have kb := (kb.setCell (p := ⟨gc, 0, none⟩) (by show w.heap.size ≤ gc; rw [HGC.out]; exact Nat.le_refl _) (.string ⟨#[73, 72, 68, 82]⟩)).setCell (p := ⟨gc, 1, none⟩) (by show w.heap.size ≤ gc; rw [HGC.out]; exact Nat.le_refl _) (.string (tn2 ++ tn5 ++ (⟨#[8, 6, 0, 0, 0]⟩ : ByteArray)))
    have HKB := Lib.hid kb
    have HTT := Lib.hid (show lst (tn2 ++ tn5 ++ (⟨#[8, 6, 0, 0, 0]⟩ : ByteArray)) = Crc.num W ++ (Crc.num H ++ [8, 6, 0, 0, 0]) by rw [lst_append, lst_append, hHT2.out, hHT5.out, List.append_assoc])
    clear kb q0 q1 q2 q3
    go_wp2_with fail
    generalize hw9 : (wn5.setCell ⟨gc, 0, none⟩ (.string ⟨#[73, 72, 68, 82]⟩)).setCell ⟨gc, 1, none⟩ (.string (tn2 ++ tn5 ++ (⟨#[8, 6, 0, 0, 0]⟩ : ByteArray))) = w9 at *
    refine bodyPost_ret (v := .agg #[.string ⟨#[73, 72, 68, 82]⟩, .string (tn2 ++ tn5 ++ (⟨#[8, 6, 0, 0, 0]⟩ : ByteArray))]) (by simp [results, Tryz.results37, go_sem, r0, r1]) rfl ⟨_, rfl, HTT.out, HKB.out⟩
   ·have hcv := conv_reads wn2 (some ⟨ga, 0, none⟩) 5 5 (ga + 1) [8, 6, 0, 0, 0] (made_reads hA)
    go_simp
    refine hK.out _ _ ?_ (fun hHeld => ?_)
    ·exact hHeld
    clear hcv hA
    clear hK K
    (try simp only [Act.put, nz1, nz2, nz3, nz4, nz5, nz6])
    refine opD 5 rfl (fun K hK => ?_)
    go_simp
    (go_at_call 69; refine (number_any H _ (by omega)).mono ?_; rintro e wn5 ⟨tn5, rfl, ht5, hb5⟩)
    have hHT5 := Lib.hid ht5
    have hz5 : tn5.size = 4 := by rw [← lst_length, ht5]; rfl
    have kb := kb.trans (hb5.mono kb.size)
    have hHB5 := Lib.hid hb5
    clear ht5 hb5
    refine hK.out _ _ ?_ (fun hHeld => ?_)
    ·exact (by obtain ⟨a, b, hB⟩ := hHeld; exact ⟨a, b, hB.below hHB5.out hB.lt⟩)
    clear hK K
    (try simp only [Act.put, nz1, nz2, nz3, nz4, nz5, nz6])
    refine opT 6 rfl ?_; refine opT 13 rfl ?_; refine opT 14 rfl ?_
    refine opD 15 rfl (fun K hK => ?_)
    (obtain ⟨xa, xb, hBC⟩ := hHeld; have q0 := hBC.free 0; have q1 := hBC.free 1; have q2 : wn5.cell? ⟨gc, 0, none⟩ = some xa := hBC.cell 0; have q3 : wn5.cell? ⟨gc, 1, none⟩ = some xb := hBC.cell 1; have HB9 := Lib.hid (show Blk ((wn5.setCell ⟨gc, 0, none⟩ (.string ⟨#[73, 72, 68, 82]⟩)).setCell ⟨gc, 1, none⟩ (.string (tn2 ++ tn5 ++ (⟨#[8, 6, 0, 0, 0]⟩ : ByteArray)))) gc 91 #[.string ⟨#[73, 72, 68, 82]⟩, .string (tn2 ++ tn5 ++ (⟨#[8, 6, 0, 0, 0]⟩ : ByteArray))] from (hBC.set_ 0 _).set_ 1 _))
    go_simp
    refine hK.out _ _ ?_ (fun hHeld => ?_)
    ·exact ⟨_, _, HB9.out⟩
    clear hK K
    (try simp only [Act.put, nz1, nz2, nz3, nz4, nz5, nz6])
    refine wpAnyH_done (by kernel_rfl) ?_ _
    have r0 := HB9.out.cell 0
    have r1 := HB9.out.cell 1
    have kb := (kb.setCell (p := ⟨gc, 0, none⟩) (by show w.heap.size ≤ gc; rw [HGC.out]; exact Nat.le_refl _) (.string ⟨#[73, 72, 68, 82]⟩)).setCell (p := ⟨gc, 1, none⟩) (by show w.heap.size ≤ gc; rw [HGC.out]; exact Nat.le_refl _) (.string (tn2 ++ tn5 ++ (⟨#[8, 6, 0, 0, 0]⟩ : ByteArray)))
    have HKB := Lib.hid kb
    have HTT := Lib.hid (show lst (tn2 ++ tn5 ++ (⟨#[8, 6, 0, 0, 0]⟩ : ByteArray)) = Crc.num W ++ (Crc.num H ++ [8, 6, 0, 0, 0]) by rw [lst_append, lst_append, hHT2.out, hHT5.out, List.append_assoc])
    clear kb q0 q1 q2 q3
    go_wp2_with fail
    generalize hw9 : (wn5.setCell ⟨gc, 0, none⟩ (.string ⟨#[73, 72, 68, 82]⟩)).setCell ⟨gc, 1, none⟩ (.string (tn2 ++ tn5 ++ (⟨#[8, 6, 0, 0, 0]⟩ : ByteArray))) = w9 at *
    refine bodyPost_ret (v := .agg #[.string ⟨#[73, 72, 68, 82]⟩, .string (tn2 ++ tn5 ++ (⟨#[8, 6, 0, 0, 0]⟩ : ByteArray))]) (by simp [results, Tryz.results37, go_sem, r0, r1]) rfl ⟨_, rfl, HTT.out, HKB.out⟩
  ·have hcv := conv_reads wa (some ⟨ga, 0, none⟩) 5 5 (ga + 1) [8, 6, 0, 0, 0] (made_reads hA)
   go_simp
   refine hK.out _ _ ?_ (fun hHeld => ?_)
   ·exact hHeld
   clear hcv hA
   clear hK K
   (try simp only [Act.put, nz1, nz2, nz3, nz4, nz5, nz6])
   refine opD 2 rfl (fun K hK => ?_)
   go_simp
   (go_at_call 69; refine (number_any W _ (by omega)).mono ?_; rintro e wn2 ⟨tn2, rfl, ht2, hb2⟩)
   have hHT2 := Lib.hid ht2
   have hz2 : tn2.size = 4 := by rw [← lst_length, ht2]; rfl
   have kb := kb.trans (hb2.mono kb.size)
   have hHB2 := Lib.hid hb2
   clear ht2 hb2
   refine hK.out _ _ ?_ (fun hHeld => ?_)
   ·exact (by obtain ⟨a, b, hB⟩ := hHeld; exact ⟨a, b, hB.below hHB2.out hB.lt⟩)
   clear hK K
   (try simp only [Act.put, nz1, nz2, nz3, nz4, nz5, nz6])
   refine opD 5 rfl (fun K hK => ?_)
   go_simp
   (go_at_call 69; refine (number_any H _ (by omega)).mono ?_; rintro e wn5 ⟨tn5, rfl, ht5, hb5⟩)
   have hHT5 := Lib.hid ht5
   have hz5 : tn5.size = 4 := by rw [← lst_length, ht5]; rfl
   have kb := kb.trans (hb5.mono kb.size)
   have hHB5 := Lib.hid hb5
   clear ht5 hb5
   refine hK.out _ _ ?_ (fun hHeld => ?_)
   ·exact (by obtain ⟨a, b, hB⟩ := hHeld; exact ⟨a, b, hB.below hHB5.out hB.lt⟩)
   clear hK K
   (try simp only [Act.put, nz1, nz2, nz3, nz4, nz5, nz6])
   refine opT 6 rfl ?_; refine opT 13 rfl ?_; refine opT 14 rfl ?_
   refine opD 15 rfl (fun K hK => ?_)
   (obtain ⟨xa, xb, hBC⟩ := hHeld; have q0 := hBC.free 0; have q1 := hBC.free 1; have q2 : wn5.cell? ⟨gc, 0, none⟩ = some xa := hBC.cell 0; have q3 : wn5.cell? ⟨gc, 1, none⟩ = some xb := hBC.cell 1; have HB9 := Lib.hid (show Blk ((wn5.setCell ⟨gc, 0, none⟩ (.string ⟨#[73, 72, 68, 82]⟩)).setCell ⟨gc, 1, none⟩ (.string (tn2 ++ tn5 ++ (⟨#[8, 6, 0, 0, 0]⟩ : ByteArray)))) gc 91 #[.string ⟨#[73, 72, 68, 82]⟩, .string (tn2 ++ tn5 ++ (⟨#[8, 6, 0, 0, 0]⟩ : ByteArray))] from (hBC.set_ 0 _).set_ 1 _))
   go_simp
   refine hK.out _ _ ?_ (fun hHeld => ?_)
   ·exact ⟨_, _, HB9.out⟩
   clear hK K
   (try simp only [Act.put, nz1, nz2, nz3, nz4, nz5, nz6])
   refine wpAnyH_done (by kernel_rfl) ?_ _
   have r0 := HB9.out.cell 0
   have r1 := HB9.out.cell 1
   have kb := (kb.setCell (p := ⟨gc, 0, none⟩) (by show w.heap.size ≤ gc; rw [HGC.out]; exact Nat.le_refl _) (.string ⟨#[73, 72, 68, 82]⟩)).setCell (p := ⟨gc, 1, none⟩) (by show w.heap.size ≤ gc; rw [HGC.out]; exact Nat.le_refl _) (.string (tn2 ++ tn5 ++ (⟨#[8, 6, 0, 0, 0]⟩ : ByteArray)))
   have HKB := Lib.hid kb
   have HTT := Lib.hid (show lst (tn2 ++ tn5 ++ (⟨#[8, 6, 0, 0, 0]⟩ : ByteArray)) = Crc.num W ++ (Crc.num H ++ [8, 6, 0, 0, 0]) by rw [lst_append, lst_append, hHT2.out, hHT5.out, List.append_assoc])
   clear kb q0 q1 q2 q3
   go_wp2_with fail
   generalize hw9 : (wn5.setCell ⟨gc, 0, none⟩ (.string ⟨#[73, 72, 68, 82]⟩)).setCell ⟨gc, 1, none⟩ (.string (tn2 ++ tn5 ++ (⟨#[8, 6, 0, 0, 0]⟩ : ByteArray))) = w9 at *
   refine bodyPost_ret (v := .agg #[.string ⟨#[73, 72, 68, 82]⟩, .string (tn2 ++ tn5 ++ (⟨#[8, 6, 0, 0, 0]⟩ : ByteArray))]) (by simp [results, Tryz.results37, go_sem, r0, r1]) rfl ⟨_, rfl, HTT.out, HKB.out⟩
end Go.Proofs.YtkegkelaffohjaaGreatDoor
