/- (film.reader).head: the walk. Printed by mk.py. -/
import Derived.Test.YtkegkelaffohjaaGreatDoorKCFilmTwice11
import Derived.Test.YtkegkelaffohjaaGreatDoorQCFilmTwiceChRead
namespace Go.Proofs.YtkegkelaffohjaaGreatDoor
open Go Go.RowKit
def headB (l : List CB) : Option ((Nat × Nat × Nat × Nat) × List CB) :=
 match takeB ⟨#[73, 72, 68, 82]⟩ 13 l with
 | none => none
 | some (h, l1) =>
  match takeB ⟨#[97, 99, 84, 76]⟩ 8 l1 with
  | none => none
  | some (a, l2) =>
   if Crc.val ((lst h).take 4) < 1 ∨ 256 < Crc.val ((lst h).take 4) ∨ Crc.val (((lst h).drop 4).take 4) < 1 ∨ 256 < Crc.val (((lst h).drop 4).take 4) ∨ (lst h).drop 8 ≠ [8, 6, 0, 0, 0] then none
   else if Crc.val ((lst a).take 4) < 1 ∨ 16 < Crc.val ((lst a).take 4) ∨ 65535 < Crc.val ((lst a).drop 4) ∨ 60000 < Crc.val ((lst a).take 4) * Crc.val ((lst h).take 4) * Crc.val (((lst h).drop 4).take 4) then none
   else some ((Crc.val ((lst h).take 4), Crc.val (((lst h).drop 4).take 4), Crc.val ((lst a).take 4), Crc.val ((lst a).drop 4)), l2)
theorem takeB_is (k : ByteArray) (z : Int) (l : List CB) : (takeB k z l).map (fun p => (lst p.1, chL p.2)) = Film.takeC (lst k) (if 0 ≤ z then some z.toNat else none) (chL l) := by
 cases l with
 | nil => rfl
 | cons x l =>
  show (if x.1 ≠ k ∨ (0 ≤ z ∧ (x.2.size : Int) ≠ z) then none else some (x.2, l) : Option (ByteArray × List CB)).map _ = if lst x.1 ≠ lst k ∨ (∃ n, (if 0 ≤ z then some z.toNat else none) = some n ∧ (lst x.2).length ≠ n) then none else some (lst x.2, chL l)
  have hk : x.1 ≠ k ↔ lst x.1 ≠ lst k := ⟨fun h e => h (lst_inj e), fun h e => h (by rw [e])⟩
  have hz : (0 ≤ z ∧ (x.2.size : Int) ≠ z) ↔ (∃ n, (if 0 ≤ z then some z.toNat else none) = some n ∧ (lst x.2).length ≠ n) := by
   rw [lst_length]
   by_cases h0 : 0 ≤ z
   ·rw [if_pos h0]
    exact ⟨fun h => ⟨_, rfl, by omega⟩, fun ⟨n, hn, h⟩ => ⟨h0, by injection hn with hn; omega⟩⟩
   ·rw [if_neg h0]
    exact ⟨fun h => absurd h.1 h0, fun ⟨n, hn, _⟩ => by cases hn⟩
  by_cases h : x.1 ≠ k ∨ (0 ≤ z ∧ (x.2.size : Int) ≠ z)
  ·rw [if_pos h, if_pos (h.imp hk.1 hz.1)]
   rfl
  ·rw [if_neg h, if_neg (fun h2 => h (h2.imp hk.2 hz.2))]
   rfl
theorem headB_is (l : List CB) : (headB l).map (fun p => (p.1, chL p.2)) = Film.rhead (chL l) := by
 unfold headB Film.rhead
 have h1 := takeB_is ⟨#[73, 72, 68, 82]⟩ 13 l
 replace h1 : _ = Film.takeC Film.kIHDR (some 13) (chL l) := h1
 rw [← h1]
 cases takeB ⟨#[73, 72, 68, 82]⟩ 13 l with
 | none => rfl
 | some p =>
  obtain ⟨h, l1⟩ := p
  have h2 := takeB_is ⟨#[97, 99, 84, 76]⟩ 8 l1
  replace h2 : _ = Film.takeC Film.kacTL (some 8) (chL l1) := h2
  simp only [Option.map_some]
  rw [← h2]
  cases takeB ⟨#[97, 99, 84, 76]⟩ 8 l1 with
  | none => rfl
  | some q =>
   simp only [Option.map_some]
   split
   ·rfl
   ·split <;> rfl
theorem FRd.drew {w : World} {gb W H nx c : Nat} {l : List CB} {A : Option Addr} (h : FRd w gb W H nx l A c) : FRd w.drew gb W H nx l A c := ⟨h.blk.drew, h.rd.drew, h.cap, h.big⟩
theorem FRd.sized {w : World} {gb W H nx c : Nat} {l : List CB} {A : Option Addr} (h : FRd w gb W H nx l A c) (V1 V2 : Nat) : FRd ((w.setCell ⟨gb, 1, none⟩ (.int .i64 V1)).setCell ⟨gb, 2, none⟩ (.int .i64 V2)) gb V1 V2 nx l A c :=
 ⟨(h.blk.set_ 1 _).set_ 2 _, (h.rd.setCell (p := ⟨gb, 1, none⟩) (Nat.le_refl _) _).setCell (p := ⟨gb, 2, none⟩) (Nat.le_refl _) _, h.cap, h.big⟩
theorem takeB_size {k d : ByteArray} {z : Int} {l l' : List CB} (h : takeB k z l = some (d, l')) (hz : 0 ≤ z) : (d.size : Int) = z := by
 cases l with
 | nil => cases h
 | cons x l =>
  unfold takeB at h
  simp only at h
  split at h
  ·cases h
  ·rename_i hn
   injection h with h
   injection h with h1 h2
   rw [← h1]
   exact Decidable.byContradiction fun e => hn (.inr ⟨hz, e⟩)
set_option maxHeartbeats 4000000 in
set_option maxRecDepth 100000 in
theorem fhead_any (gb : Nat) (l : List CB) (A : Option Addr) (c : Nat) (w : World) (hF : FRd w gb 0 0 0 l A c) :
  Calls Tryz.prog 20 #[.pointer (some ⟨gb, 0, none⟩)] w fun e w' => Below gb w w' ∧ match headB l with
   | none => e = .returned (.tuple #[.int .i64 0, .int .i64 0, .bool false]) ∧ ∃ W H l2 A' c', FRd w' gb W H 0 l2 A' c'
   | some ((W, H, m, lp), l2) => e = .returned (.tuple #[.int .i64 m, .int .i64 lp, .bool true]) ∧ ∃ A' c', FRd w' gb W H 0 l2 A' c' := by
 obtain ⟨R, hR⟩ : ∃ R, R = headB l := ⟨_, rfl⟩
 rw [← hR]
 unfold headB at hR
 have HF := Lib.hid hF
 have HR := Lib.hid hR
 clear hF hR
 go_enter Tryz.func20, Tryz.ntmps20
 go_wp2_with fail
 refine (ftake_any gb 0 0 0 l A c ⟨#[73, 72, 68, 82]⟩ 13 w HF.out).mono ?_
 rintro e w1 ⟨hb1, h1⟩
 have hR := HR.out
 cases hx : takeB ⟨#[73, 72, 68, 82]⟩ 13 l with
 | none =>
  rw [hx] at h1 hR
  obtain ⟨rfl, rfl⟩ := h1
  replace hR : R = none := hR
  subst hR
  go_wp2_with fail
  refine bodyPost_ret (v := .tuple #[.int .i64 0, .int .i64 0, .bool false]) (by simp [results, Tryz.results20, go_sem]) rfl ⟨hb1, rfl, _, _, _, _, _, HF.out⟩
 | some p =>
  obtain ⟨hd, l1⟩ := p
  have hz13 := takeB_size hx (by decide)
  rw [hx] at h1 hR
  obtain ⟨rfl, A1, c1, hF1, -⟩ := h1
  simp only at hR
  have hz : hd.size = 13 := by omega
  have HZ := Lib.hid hz
  have hz4 : (4 : Int) ≤ hd.size := by omega
  have hz8 : (8 : Int) ≤ hd.size := by omega
  have e1 : lst (hd.extract 0 4) = (lst hd).take 4 := by rw [lst_extract, List.drop_zero]
  have e2 : lst (hd.extract 4 8) = ((lst hd).drop 4).take 4 := lst_extract hd 4 8
  rw [← e1, ← e2] at hR
  obtain ⟨V1, hV1⟩ : ∃ V1, V1 = Crc.val (lst (hd.extract 0 4)) := ⟨_, rfl⟩
  obtain ⟨V2, hV2⟩ : ∃ V2, V2 = Crc.val (lst (hd.extract 4 8)) := ⟨_, rfl⟩
  have hl1 := Crc.val_lt4 (lst (hd.extract 0 4)) (by rw [e1, List.length_take]; omega)
  have hl2 := Crc.val_lt4 (lst (hd.extract 4 8)) (by rw [e2, List.length_take]; omega)
  rw [← hV1] at hR hl1
  rw [← hV2] at hR hl2
  have HV1 := Lib.hid hV1
  have HV2 := Lib.hid hV2
  have HR2 := Lib.hid hR
  have HF1 := Lib.hid hF1
  clear hV1 hV2 hR hF1 e1 e2 hz hx hz13
  go_upto_region 4 with (fail)
  refine wp_region_held_drew (S := (fun _ => True)) (by kernel_rfl) ?_ (fun hHeld => ?_)
  ·trivial
  refine opT 0 rfl ?_; refine opT 1 rfl ?_; refine opT 3 rfl ?_; refine opT 4 rfl ?_
  refine opD 2 rfl (fun K hK => ?_)
  go_simp
  (go_at_call 53; refine (value_any (hd.extract 0 4) _ (by rw [← lst_length, lst_extract, List.length_take]; omega)).mono ?_; rintro e wv2 ⟨rfl, hwv2⟩; subst hwv2; rw [← HV1.out])
  refine hK.out _ _ ?_ (fun hHeld => ?_)
  ·trivial
  clear hK K
  (try simp only [Act.put, nz1, nz2, nz3, nz4, nz5, nz6])
  refine opD 5 rfl (fun K hK => ?_)
  go_simp
  (go_at_call 53; refine (value_any (hd.extract 4 8) _ (by rw [← lst_length, lst_extract, List.length_take]; omega)).mono ?_; rintro e wv5 ⟨rfl, hwv5⟩; subst hwv5; rw [← HV2.out])
  refine hK.out _ _ ?_ (fun hHeld => ?_)
  ·trivial
  clear hK K
  (try simp only [Act.put, nz1, nz2, nz3, nz4, nz5, nz6])
  refine opT 6 rfl ?_; refine opT 7 rfl ?_
  refine wpAnyH_done (by kernel_rfl) ?_ _
  go_wp2_with fail
  have hb1d : Below gb w w1.drew := hb1.drew
  have HB1 := Lib.hid hb1d
  clear hb1 hb1d
  refine (ftake_any gb 0 0 0 l1 A1 c1 ⟨#[97, 99, 84, 76]⟩ 8 _ HF1.out.drew).mono ?_
  rintro e w2 ⟨hb2, h2⟩
  have HB2 := Lib.hid (HB1.out.trans hb2)
  have hR := HR2.out
  clear hb2 HR2
  cases hx : takeB ⟨#[97, 99, 84, 76]⟩ 8 l1 with
  | none =>
   rw [hx] at h2 hR
   obtain ⟨rfl, rfl⟩ := h2
   replace hR : R = none := hR
   subst hR
   go_wp2_with fail
   refine bodyPost_ret (v := .tuple #[.int .i64 0, .int .i64 0, .bool false]) (by simp [results, Tryz.results20, go_sem]) rfl ⟨HB2.out, rfl, _, _, _, _, _, HF1.out.drew⟩
  | some q =>
   obtain ⟨ac, l2⟩ := q
   have hz8a := takeB_size hx (by decide)
   rw [hx] at h2 hR
   obtain ⟨rfl, A2, c2, hF2, -⟩ := h2
   simp only at hR
   have HR3 := Lib.hid hR
   have HF2 := Lib.hid hF2
   have HZA := Lib.hid hz8a
   clear hR hF2 hx hz8a
   by_cases q1 : V1 < 1
   ·have hRn : R = none := by rw [HR3.out, if_pos (by omega)]
    subst hRn
    have q1i : (V1 : Int) < 1 := by omega
    clear HR3
    go_wp2_with fail
    refine bodyPost_ret (v := .tuple #[.int .i64 0, .int .i64 0, .bool false]) (by simp [results, Tryz.results20, go_sem]) rfl ⟨HB2.out, rfl, _, _, _, _, _, HF2.out⟩
   by_cases q2 : 256 < V1
   ·have hRn : R = none := by rw [HR3.out, if_pos (by omega)]
    subst hRn
    have q2i : (256 : Int) < V1 := by omega
    clear HR3
    go_wp2_with fail
    refine bodyPost_ret (v := .tuple #[.int .i64 0, .int .i64 0, .bool false]) (by simp [results, Tryz.results20, go_sem]) rfl ⟨HB2.out, rfl, _, _, _, _, _, HF2.out⟩
   by_cases q3 : V2 < 1
   ·have hRn : R = none := by rw [HR3.out, if_pos (by omega)]
    subst hRn
    have q3i : (V2 : Int) < 1 := by omega
    clear HR3
    go_wp2_with fail
    refine bodyPost_ret (v := .tuple #[.int .i64 0, .int .i64 0, .bool false]) (by simp [results, Tryz.results20, go_sem]) rfl ⟨HB2.out, rfl, _, _, _, _, _, HF2.out⟩
   by_cases q4 : 256 < V2
   ·have hRn : R = none := by rw [HR3.out, if_pos (by omega)]
    subst hRn
    have q4i : (256 : Int) < V2 := by omega
    clear HR3
    go_wp2_with fail
    refine bodyPost_ret (v := .tuple #[.int .i64 0, .int .i64 0, .bool false]) (by simp [results, Tryz.results20, go_sem]) rfl ⟨HB2.out, rfl, _, _, _, _, _, HF2.out⟩
   have e8 : lst (hd.extract 8 hd.size) = (lst hd).drop 8 := by rw [lst_extract, List.take_of_length_le (by rw [List.length_drop, lst_length]; exact Nat.le_refl _)]
   by_cases hq5 : (lst hd).drop 8 ≠ [8, 6, 0, 0, 0]
   ·have hRn : R = none := by rw [HR3.out, if_pos (.inr (.inr (.inr (.inr hq5))))]
    subst hRn
    have hs8 : ((hd.extract 8 hd.size).toList == [8, 6, 0, 0, 0]) = false := by
     rw [beq_eq_false_iff_ne, Lib.toList_data]
     exact fun e => hq5 (by rw [← e8]; exact e)
    clear HR3
    go_wp2_with fail
    refine bodyPost_ret (v := .tuple #[.int .i64 0, .int .i64 0, .bool false]) (by simp [results, Tryz.results20, go_sem]) rfl ⟨HB2.out, rfl, _, _, _, _, _, HF2.out⟩
   have hs8 : ((hd.extract 8 hd.size).toList == [8, 6, 0, 0, 0]) = true := by
    rw [beq_iff_eq, Lib.toList_data]
    exact e8.trans (Decidable.not_not.1 hq5)
   have hR := HR3.out
   rw [if_neg (by rintro (h | h | h | h | h) <;> first | omega | exact hq5 h)] at hR
   have HR4 := Lib.hid hR
   have a1 : (1 : Int) ≤ V1 := by omega
   have a2 : (V1 : Int) ≤ 256 := by omega
   have a3 : (1 : Int) ≤ V2 := by omega
   have a4 : (V2 : Int) ≤ 256 := by omega
   have r1 : w2.cell? ⟨gb, 1, none⟩ = some (.int .i64 ((0 : Nat) : Int)) := HF2.out.blk.cell 1
   have r2 : w2.cell? ⟨gb, 2, none⟩ = some (.int .i64 ((0 : Nat) : Int)) := HF2.out.blk.cell 2
   have g1 := HF2.out.blk.free 1
   have g2 := HF2.out.blk.free 2
   have HF3 := Lib.hid (HF2.out.sized V1 V2)
   clear hR HR3 q1 q2 q3 q4 e8 hq5
   have hza : ac.size = 8 := by have := HZA.out; omega
   have za4 : (4 : Int) ≤ ac.size := by omega
   have e3 : lst (ac.extract 0 4) = (lst ac).take 4 := by rw [lst_extract, List.drop_zero]
   have e4 : lst (ac.extract 4 ac.size) = (lst ac).drop 4 := by rw [lst_extract, List.take_of_length_le (by rw [List.length_drop, lst_length]; exact Nat.le_refl _)]
   have hR := HR4.out
   rw [← e3, ← e4] at hR
   obtain ⟨M1, hM1⟩ : ∃ M1, M1 = Crc.val (lst (ac.extract 0 4)) := ⟨_, rfl⟩
   obtain ⟨M2, hM2⟩ : ∃ M2, M2 = Crc.val (lst (ac.extract 4 ac.size)) := ⟨_, rfl⟩
   have hm1 := Crc.val_lt4 (lst (ac.extract 0 4)) (by rw [e3, List.length_take]; omega)
   have hm2 := Crc.val_lt4 (lst (ac.extract 4 ac.size)) (by rw [e4, List.length_drop, lst_length]; omega)
   rw [← hM1] at hR hm1
   rw [← hM2] at hR hm2
   have HM1 := Lib.hid hM1
   have HM2 := Lib.hid hM2
   have HR5 := Lib.hid hR
   clear hR hM1 hM2 e3 e4 HR4 hza
   go_upto_region 9 with (fail)
   refine wp_region_held_drew (S := (fun _ => True)) (by kernel_rfl) ?_ (fun hHeld => ?_)
   ·trivial
   refine opT 0 rfl ?_; refine opT 1 rfl ?_; refine opT 3 rfl ?_; refine opT 4 rfl ?_
   refine opD 2 rfl (fun K hK => ?_)
   go_simp
   (go_at_call 53; refine (value_any (ac.extract 0 4) _ (by rw [← lst_length, lst_extract, List.length_take]; omega)).mono ?_; rintro e wv2 ⟨rfl, hwv2⟩; subst hwv2; rw [← HM1.out])
   refine hK.out _ _ ?_ (fun hHeld => ?_)
   ·trivial
   clear hK K
   (try simp only [Act.put, nz1, nz2, nz3, nz4, nz5, nz6])
   refine opD 5 rfl (fun K hK => ?_)
   go_simp
   (go_at_call 53; refine (value_any (ac.extract 4 ac.size) _ (by rw [← lst_length, lst_extract, List.length_take]; have := HZA.out; omega)).mono ?_; rintro e wv5 ⟨rfl, hwv5⟩; subst hwv5; rw [← HM2.out])
   refine hK.out _ _ ?_ (fun hHeld => ?_)
   ·trivial
   clear hK K
   (try simp only [Act.put, nz1, nz2, nz3, nz4, nz5, nz6])
   refine opT 6 rfl ?_; refine opT 7 rfl ?_
   refine wpAnyH_done (by kernel_rfl) ?_ _
   go_upto_region 10 with (fail)
   have s1 := HF3.out.blk.cell 1
   have s2 := HF3.out.blk.cell 2
   have HB3 := Lib.hid (((HB2.out.setCell (p := ⟨gb, 1, none⟩) (Nat.le_refl _) (.int .i64 V1)).setCell (p := ⟨gb, 2, none⟩) (Nat.le_refl _) (.int .i64 V2)).drew.drew)
   by_cases p1 : M1 < 1
   ·have hRn : R = none := by rw [HR5.out, if_pos (by omega)]
    subst hRn
    have p1i : (M1 : Int) < 1 := by omega
    clear HR5
    refine wp_region_held_drew (S := (fun w' => w'.cell? ⟨gb, 1, none⟩ = some (.int .i64 V1) ∧ w'.cell? ⟨gb, 2, none⟩ = some (.int .i64 V2))) (by kernel_rfl) ?_ (fun hHeld => ?_)
    ·exact ⟨s1, s2⟩
    refine opT 0 rfl ?_
    refine opV 1 ((.bool true)) rfl ?_ ?_
    ·(intro w hSw; (try dsimp only at hSw); go_simp <;> first | with_reducible rfl | assumption | omega | (simp; omega))
    (try simp only [Act.put, nz1, nz2, nz3, nz4, nz5, nz6])
    refine opT 2 rfl ?_
    refine opU 3 rfl ?_; refine opU 4 rfl ?_
    refine opV 5 ((.bool true)) rfl ?_ ?_
    ·(intro w hSw; (try dsimp only at hSw); go_simp <;> first | with_reducible rfl | assumption | omega | (simp; omega))
    (try simp only [Act.put, nz1, nz2, nz3, nz4, nz5, nz6])
    refine opT 6 rfl ?_
    refine opU 7 rfl ?_; refine opU 8 rfl ?_
    refine opV 9 ((.bool true)) rfl ?_ ?_
    ·(intro w hSw; (try dsimp only at hSw); go_simp <;> first | with_reducible rfl | assumption | omega | (simp; omega))
    (try simp only [Act.put, nz1, nz2, nz3, nz4, nz5, nz6])
    refine opT 10 rfl ?_
    refine opU 11 rfl ?_; refine opU 12 rfl ?_; refine opU 13 rfl ?_; refine opU 14 rfl ?_; refine opU 15 rfl ?_; refine opU 16 rfl ?_; refine opU 17 rfl ?_; refine opU 18 rfl ?_; refine opU 19 rfl ?_; refine opU 20 rfl ?_; refine opU 21 rfl ?_; refine opU 22 rfl ?_; refine opU 23 rfl ?_
    refine opV 24 ((.bool true)) rfl ?_ ?_
    ·(intro w hSw; (try dsimp only at hSw); go_simp <;> first | with_reducible rfl | assumption | omega | (simp; omega))
    (try simp only [Act.put, nz1, nz2, nz3, nz4, nz5, nz6])
    refine wpAnyH_done (by kernel_rfl) ?_ _
    go_wp2_with fail
    refine bodyPost_ret (v := .tuple #[.int .i64 0, .int .i64 0, .bool false]) (by simp [results, Tryz.results20, go_sem]) rfl ⟨HB3.out, rfl, _, _, _, _, _, HF3.out.drew.drew⟩
   by_cases p2 : 16 < M1
   ·have hRn : R = none := by rw [HR5.out, if_pos (by omega)]
    subst hRn
    have p2i : (16 : Int) < M1 := by omega
    have p1i : (1 : Int) ≤ M1 := by omega
    clear HR5
    refine wp_region_held_drew (S := (fun w' => w'.cell? ⟨gb, 1, none⟩ = some (.int .i64 V1) ∧ w'.cell? ⟨gb, 2, none⟩ = some (.int .i64 V2))) (by kernel_rfl) ?_ (fun hHeld => ?_)
    ·exact ⟨s1, s2⟩
    refine opT 0 rfl ?_
    refine opV 1 ((.bool false)) rfl ?_ ?_
    ·(intro w hSw; (try dsimp only at hSw); go_simp <;> first | with_reducible rfl | assumption | omega | (simp; omega))
    (try simp only [Act.put, nz1, nz2, nz3, nz4, nz5, nz6])
    refine opT 2 rfl ?_; refine opT 3 rfl ?_
    refine opV 4 ((.bool true)) rfl ?_ ?_
    ·(intro w hSw; (try dsimp only at hSw); go_simp <;> first | with_reducible rfl | assumption | omega | (simp; omega))
    (try simp only [Act.put, nz1, nz2, nz3, nz4, nz5, nz6])
    refine opV 5 ((.bool true)) rfl ?_ ?_
    ·(intro w hSw; (try dsimp only at hSw); go_simp <;> first | with_reducible rfl | assumption | omega | (simp; omega))
    (try simp only [Act.put, nz1, nz2, nz3, nz4, nz5, nz6])
    refine opT 6 rfl ?_
    refine opU 7 rfl ?_; refine opU 8 rfl ?_
    refine opV 9 ((.bool true)) rfl ?_ ?_
    ·(intro w hSw; (try dsimp only at hSw); go_simp <;> first | with_reducible rfl | assumption | omega | (simp; omega))
    (try simp only [Act.put, nz1, nz2, nz3, nz4, nz5, nz6])
    refine opT 10 rfl ?_
    refine opU 11 rfl ?_; refine opU 12 rfl ?_; refine opU 13 rfl ?_; refine opU 14 rfl ?_; refine opU 15 rfl ?_; refine opU 16 rfl ?_; refine opU 17 rfl ?_; refine opU 18 rfl ?_; refine opU 19 rfl ?_; refine opU 20 rfl ?_; refine opU 21 rfl ?_; refine opU 22 rfl ?_; refine opU 23 rfl ?_
    refine opV 24 ((.bool true)) rfl ?_ ?_
    ·(intro w hSw; (try dsimp only at hSw); go_simp <;> first | with_reducible rfl | assumption | omega | (simp; omega))
    (try simp only [Act.put, nz1, nz2, nz3, nz4, nz5, nz6])
    refine wpAnyH_done (by kernel_rfl) ?_ _
    go_wp2_with fail
    refine bodyPost_ret (v := .tuple #[.int .i64 0, .int .i64 0, .bool false]) (by simp [results, Tryz.results20, go_sem]) rfl ⟨HB3.out, rfl, _, _, _, _, _, HF3.out.drew.drew⟩
   by_cases p3 : 65535 < M2
   ·have hRn : R = none := by rw [HR5.out, if_pos (by omega)]
    subst hRn
    have p3i : (65535 : Int) < M2 := by omega
    have p1i : (1 : Int) ≤ M1 := by omega
    have p2i : (M1 : Int) ≤ 16 := by omega
    clear HR5
    refine wp_region_held_drew (S := (fun w' => w'.cell? ⟨gb, 1, none⟩ = some (.int .i64 V1) ∧ w'.cell? ⟨gb, 2, none⟩ = some (.int .i64 V2))) (by kernel_rfl) ?_ (fun hHeld => ?_)
    ·exact ⟨s1, s2⟩
    refine opT 0 rfl ?_
    refine opV 1 ((.bool false)) rfl ?_ ?_
    ·(intro w hSw; (try dsimp only at hSw); go_simp <;> first | with_reducible rfl | assumption | omega | (simp; omega))
    (try simp only [Act.put, nz1, nz2, nz3, nz4, nz5, nz6])
    refine opT 2 rfl ?_; refine opT 3 rfl ?_
    refine opV 4 ((.bool false)) rfl ?_ ?_
    ·(intro w hSw; (try dsimp only at hSw); go_simp <;> first | with_reducible rfl | assumption | omega | (simp; omega))
    (try simp only [Act.put, nz1, nz2, nz3, nz4, nz5, nz6])
    refine opV 5 ((.bool false)) rfl ?_ ?_
    ·(intro w hSw; (try dsimp only at hSw); go_simp <;> first | with_reducible rfl | assumption | omega | (simp; omega))
    (try simp only [Act.put, nz1, nz2, nz3, nz4, nz5, nz6])
    refine opT 6 rfl ?_; refine opT 7 rfl ?_
    refine opV 8 ((.bool true)) rfl ?_ ?_
    ·(intro w hSw; (try dsimp only at hSw); go_simp <;> first | with_reducible rfl | assumption | omega | (simp; omega))
    (try simp only [Act.put, nz1, nz2, nz3, nz4, nz5, nz6])
    refine opV 9 ((.bool true)) rfl ?_ ?_
    ·(intro w hSw; (try dsimp only at hSw); go_simp <;> first | with_reducible rfl | assumption | omega | (simp; omega))
    (try simp only [Act.put, nz1, nz2, nz3, nz4, nz5, nz6])
    refine opT 10 rfl ?_
    refine opU 11 rfl ?_; refine opU 12 rfl ?_; refine opU 13 rfl ?_; refine opU 14 rfl ?_; refine opU 15 rfl ?_; refine opU 16 rfl ?_; refine opU 17 rfl ?_; refine opU 18 rfl ?_; refine opU 19 rfl ?_; refine opU 20 rfl ?_; refine opU 21 rfl ?_; refine opU 22 rfl ?_; refine opU 23 rfl ?_
    refine opV 24 ((.bool true)) rfl ?_ ?_
    ·(intro w hSw; (try dsimp only at hSw); go_simp <;> first | with_reducible rfl | assumption | omega | (simp; omega))
    (try simp only [Act.put, nz1, nz2, nz3, nz4, nz5, nz6])
    refine wpAnyH_done (by kernel_rfl) ?_ _
    go_wp2_with fail
    refine bodyPost_ret (v := .tuple #[.int .i64 0, .int .i64 0, .bool false]) (by simp [results, Tryz.results20, go_sem]) rfl ⟨HB3.out, rfl, _, _, _, _, _, HF3.out.drew.drew⟩
   obtain ⟨P1, hP1⟩ : ∃ P1, P1 = M1 * V1 := ⟨_, rfl⟩
   obtain ⟨P2, hP2⟩ : ∃ P2, P2 = P1 * V2 := ⟨_, rfl⟩
   have hR := HR5.out
   rw [← hP1, ← hP2] at hR
   have l1 : P1 ≤ 4096 := by rw [hP1]; exact Nat.mul_le_mul (show M1 ≤ 16 by omega) (show V1 ≤ 256 by omega)
   have l2 : P2 ≤ 1048576 := by rw [hP2]; exact Nat.mul_le_mul l1 (show V2 ≤ 256 by omega)
   have i1 : (M1 : Int) * V1 = (P1 : Nat) := by rw [hP1, Int.natCast_mul]
   have i2 : (P1 : Int) * V2 = (P2 : Nat) := by rw [hP2, Int.natCast_mul]
   have w0 : IntKind.i64.wrap (M1 : Int) = M1 := IntWalk.i64_in _ (by omega)
   have w1' : IntKind.i64.wrap (P1 : Int) = P1 := IntWalk.i64_in _ (by omega)
   have w2' : IntKind.i64.wrap (P2 : Int) = P2 := IntWalk.i64_in _ (by omega)
   have p1i : (1 : Int) ≤ M1 := by omega
   have p2i : (M1 : Int) ≤ 16 := by omega
   have p3i : (M2 : Int) ≤ 65535 := by omega
   clear hP1 hP2 p1 p2 p3 HR5
   by_cases p4 : 60000 < P2
   ·have p4i : (60000 : Int) < P2 := by omega
    rw [if_pos (.inr (.inr (.inr p4)))] at hR
    subst hR
    clear p4
    refine wp_region_held_drew (S := (fun w' => w'.cell? ⟨gb, 1, none⟩ = some (.int .i64 V1) ∧ w'.cell? ⟨gb, 2, none⟩ = some (.int .i64 V2))) (by kernel_rfl) ?_ (fun hHeld => ?_)
    ·exact ⟨s1, s2⟩
    refine opT 0 rfl ?_
    refine opV 1 ((.bool false)) rfl ?_ ?_
    ·(intro w hSw; (try dsimp only at hSw); go_simp <;> first | with_reducible rfl | assumption | omega | (simp; omega))
    (try simp only [Act.put, nz1, nz2, nz3, nz4, nz5, nz6])
    refine opT 2 rfl ?_; refine opT 3 rfl ?_
    refine opV 4 ((.bool false)) rfl ?_ ?_
    ·(intro w hSw; (try dsimp only at hSw); go_simp <;> first | with_reducible rfl | assumption | omega | (simp; omega))
    (try simp only [Act.put, nz1, nz2, nz3, nz4, nz5, nz6])
    refine opV 5 ((.bool false)) rfl ?_ ?_
    ·(intro w hSw; (try dsimp only at hSw); go_simp <;> first | with_reducible rfl | assumption | omega | (simp; omega))
    (try simp only [Act.put, nz1, nz2, nz3, nz4, nz5, nz6])
    refine opT 6 rfl ?_; refine opT 7 rfl ?_
    refine opV 8 ((.bool false)) rfl ?_ ?_
    ·(intro w hSw; (try dsimp only at hSw); go_simp <;> first | with_reducible rfl | assumption | omega | (simp; omega))
    (try simp only [Act.put, nz1, nz2, nz3, nz4, nz5, nz6])
    refine opV 9 ((.bool false)) rfl ?_ ?_
    ·(intro w hSw; (try dsimp only at hSw); go_simp <;> first | with_reducible rfl | assumption | omega | (simp; omega))
    (try simp only [Act.put, nz1, nz2, nz3, nz4, nz5, nz6])
    refine opT 10 rfl ?_; refine opT 11 rfl ?_; refine opT 12 rfl ?_; refine opT 13 rfl ?_; refine opT 14 rfl ?_; refine opT 15 rfl ?_; refine opT 16 rfl ?_; refine opT 17 rfl ?_; refine opT 18 rfl ?_; refine opT 19 rfl ?_; refine opT 20 rfl ?_; refine opT 21 rfl ?_; refine opT 22 rfl ?_
    refine opV 23 ((.bool true)) rfl ?_ ?_
    ·(intro w hSw; (try dsimp only at hSw); go_simp <;> first | with_reducible rfl | assumption | omega | (simp; omega))
    (try simp only [Act.put, nz1, nz2, nz3, nz4, nz5, nz6])
    refine opV 24 ((.bool true)) rfl ?_ ?_
    ·(intro w hSw; (try dsimp only at hSw); go_simp <;> first | with_reducible rfl | assumption | omega | (simp; omega))
    (try simp only [Act.put, nz1, nz2, nz3, nz4, nz5, nz6])
    refine wpAnyH_done (by kernel_rfl) ?_ _
    go_wp2_with fail
    refine bodyPost_ret (v := .tuple #[.int .i64 0, .int .i64 0, .bool false]) (by simp [results, Tryz.results20, go_sem]) rfl ⟨HB3.out, rfl, _, _, _, _, _, HF3.out.drew.drew⟩
   ·have p4i : (P2 : Int) ≤ 60000 := by omega
    rw [if_neg (by omega)] at hR
    subst hR
    clear p4
    refine wp_region_held_drew (S := (fun w' => w'.cell? ⟨gb, 1, none⟩ = some (.int .i64 V1) ∧ w'.cell? ⟨gb, 2, none⟩ = some (.int .i64 V2))) (by kernel_rfl) ?_ (fun hHeld => ?_)
    ·exact ⟨s1, s2⟩
    refine opT 0 rfl ?_
    refine opV 1 ((.bool false)) rfl ?_ ?_
    ·(intro w hSw; (try dsimp only at hSw); go_simp <;> first | with_reducible rfl | assumption | omega | (simp; omega))
    (try simp only [Act.put, nz1, nz2, nz3, nz4, nz5, nz6])
    refine opT 2 rfl ?_; refine opT 3 rfl ?_
    refine opV 4 ((.bool false)) rfl ?_ ?_
    ·(intro w hSw; (try dsimp only at hSw); go_simp <;> first | with_reducible rfl | assumption | omega | (simp; omega))
    (try simp only [Act.put, nz1, nz2, nz3, nz4, nz5, nz6])
    refine opV 5 ((.bool false)) rfl ?_ ?_
    ·(intro w hSw; (try dsimp only at hSw); go_simp <;> first | with_reducible rfl | assumption | omega | (simp; omega))
    (try simp only [Act.put, nz1, nz2, nz3, nz4, nz5, nz6])
    refine opT 6 rfl ?_; refine opT 7 rfl ?_
    refine opV 8 ((.bool false)) rfl ?_ ?_
    ·(intro w hSw; (try dsimp only at hSw); go_simp <;> first | with_reducible rfl | assumption | omega | (simp; omega))
    (try simp only [Act.put, nz1, nz2, nz3, nz4, nz5, nz6])
    refine opV 9 ((.bool false)) rfl ?_ ?_
    ·(intro w hSw; (try dsimp only at hSw); go_simp <;> first | with_reducible rfl | assumption | omega | (simp; omega))
    (try simp only [Act.put, nz1, nz2, nz3, nz4, nz5, nz6])
    refine opT 10 rfl ?_; refine opT 11 rfl ?_; refine opT 12 rfl ?_; refine opT 13 rfl ?_; refine opT 14 rfl ?_; refine opT 15 rfl ?_; refine opT 16 rfl ?_; refine opT 17 rfl ?_; refine opT 18 rfl ?_; refine opT 19 rfl ?_; refine opT 20 rfl ?_; refine opT 21 rfl ?_; refine opT 22 rfl ?_
    refine opV 23 ((.bool false)) rfl ?_ ?_
    ·(intro w hSw; (try dsimp only at hSw); go_simp <;> first | with_reducible rfl | assumption | omega | (simp; omega))
    (try simp only [Act.put, nz1, nz2, nz3, nz4, nz5, nz6])
    refine opV 24 ((.bool false)) rfl ?_ ?_
    ·(intro w hSw; (try dsimp only at hSw); go_simp <;> first | with_reducible rfl | assumption | omega | (simp; omega))
    (try simp only [Act.put, nz1, nz2, nz3, nz4, nz5, nz6])
    refine wpAnyH_done (by kernel_rfl) ?_ _
    go_wp2_with fail
    refine bodyPost_ret (v := .tuple #[.int .i64 M1, .int .i64 M2, .bool true]) (by simp [results, Tryz.results20, go_sem]) rfl ⟨HB3.out, rfl, A2, c2, HF3.out.drew.drew⟩
end Go.Proofs.YtkegkelaffohjaaGreatDoor
