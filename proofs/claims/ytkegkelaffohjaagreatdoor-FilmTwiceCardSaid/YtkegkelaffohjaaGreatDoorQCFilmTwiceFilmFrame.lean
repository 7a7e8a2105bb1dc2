/- (film.reader).frame: the walk. Printed by mk.py. -/
import Derived.Test.YtkegkelaffohjaaGreatDoorQCFilmTwiceFilmHead
namespace Go.Proofs.YtkegkelaffohjaaGreatDoor
open Go Go.RowKit
def frameB (W H nx i : Nat) (l : List CB) : Option ((Nat × ByteArray) × List CB) :=
 match takeB ⟨#[102, 99, 84, 76]⟩ 26 l with
 | none => none
 | some (c, l1) =>
  if lst c ≠ Film.control nx W H (Crc.val (((lst c).drop 20).take 2)) then none
  else if i = 0 then
   match takeB ⟨#[73, 68, 65, 84]⟩ (-1) l1 with
   | none => none
   | some (d, l2) => some ((Crc.val (((lst c).drop 20).take 2), d), l2)
  else
   match takeB ⟨#[102, 100, 65, 84]⟩ (-1) l1 with
   | none => none
   | some (d, l2) => if d.size < 4 ∨ (lst d).take 4 ≠ Crc.num (nx + 1) then none else some ((Crc.val (((lst c).drop 20).take 2), d.extract 4 d.size), l2)
theorem frameB_is (W H i : Nat) (l : List CB) : (frameB W H (2 * i - 1) i l).map (fun p => ((p.1.1, lst p.1.2), chL p.2)) = Film.rframe W H i (chL l) := by
 unfold frameB Film.rframe
 have h1 := takeB_is ⟨#[102, 99, 84, 76]⟩ 26 l
 replace h1 : _ = Film.takeC Film.kfcTL (some 26) (chL l) := h1
 rw [← h1]
 cases takeB ⟨#[102, 99, 84, 76]⟩ 26 l with
 | none => rfl
 | some p =>
  obtain ⟨c, l1⟩ := p
  simp only [Option.map_some]
  split
  ·rfl
  ·by_cases h0 : i = 0
   ·rw [if_pos h0, if_pos h0]
    have h2 := takeB_is ⟨#[73, 68, 65, 84]⟩ (-1) l1
    replace h2 : _ = Film.takeC Film.kIDAT none (chL l1) := h2
    rw [← h2]
    cases takeB ⟨#[73, 68, 65, 84]⟩ (-1) l1 with
    | none => rfl
    | some q => rfl
   ·rw [if_neg h0, if_neg h0]
    have h2 := takeB_is ⟨#[102, 100, 65, 84]⟩ (-1) l1
    replace h2 : _ = Film.takeC Film.kfdAT none (chL l1) := h2
    rw [← h2]
    cases takeB ⟨#[102, 100, 65, 84]⟩ (-1) l1 with
    | none => rfl
    | some q =>
     obtain ⟨d, l2⟩ := q
     have e : 2 * i - 1 + 1 = 2 * i := by omega
     simp only [Option.map_some]
     rw [e]
     by_cases hc : d.size < 4 ∨ (lst d).take 4 ≠ Crc.num (2 * i)
     ·rw [if_pos hc, if_pos (by rw [lst_length]; exact hc)]
      rfl
     ·rw [if_neg hc, if_neg (by rw [lst_length]; exact hc)]
      have e4 : lst (d.extract 4 d.size) = (lst d).drop 4 := by rw [lst_extract, List.take_of_length_le (by rw [List.length_drop, lst_length]; exact Nat.le_refl _)]
      rw [Option.map_some, e4]
theorem FRd.below {w w' : World} {gb W H nx c B : Nat} {l : List CB} {A : Option Addr} (h : FRd w gb W H nx l A c) (hb : Below B w w') (hg : gb < B) : FRd w' gb W H nx l A c := ⟨h.blk.below hb hg, h.rd.below hb (by omega), h.cap, h.big⟩
theorem FRd.nexted {w : World} {gb W H nx c : Nat} {l : List CB} {A : Option Addr} (h : FRd w gb W H nx l A c) (n : Nat) : FRd (w.setCell ⟨gb, 3, none⟩ (.int .i64 n)) gb W H n l A c :=
 ⟨h.blk.set_ 3 _, h.rd.setCell (p := ⟨gb, 3, none⟩) (Nat.le_refl _) _, h.cap, h.big⟩
theorem framed_keeps {w wa : World} {gb g : Nat} (h : Keeps (fun x => x = gb) w wa) (u0 u1 u2 u3 : Value) (hg : w.heap.size ≤ g) : Keeps (fun x => x = gb) w ((((wa.setCell ⟨g, 0, none⟩ u0).setCell ⟨g, 1, none⟩ u1).setCell ⟨g, 2, none⟩ u2).setCell ⟨g, 3, none⟩ u3) := by
 have k : ∀ j, (⟨g, j, none⟩ : Addr).block < w.heap.size → (⟨g, j, none⟩ : Addr).block = gb := fun j hj => absurd hj (by show ¬ g < _; omega)
 exact (((h.setCell (p := ⟨g, 0, none⟩) (k 0) u0).setCell (p := ⟨g, 1, none⟩) (k 1) u1).setCell (p := ⟨g, 2, none⟩) (k 2) u2).setCell (p := ⟨g, 3, none⟩) (k 3) u3
theorem keeps_more {w wa wb : World} {gb : Nat} (h : Keeps (fun x => x = gb) w wa) (hb : Below wa.heap.size wa wb) : Keeps (fun x => x = gb) w wb := h.trans (Keeps.of_below (S := fun x => x = gb) hb (fun _ hg _ => hg)) (fun _ _ h => h)
theorem FRd.far {wa : World} {gb W H nx c g : Nat} {l : List CB} {A : Option Addr} (h : FRd wa gb W H nx l A c) (j : Nat) (u : Value) (hg : gb < g) : FRd (wa.setCell ⟨g, j, none⟩ u) gb W H nx l A c :=
 ⟨h.blk.far (by show gb ≠ g; omega) u, h.rd.setCell (p := ⟨g, j, none⟩) (by show gb ≤ g; omega) u, h.cap, h.big⟩
theorem FRd.framed {wa : World} {gb W H nx c g : Nat} {l : List CB} {A : Option Addr} (h : FRd wa gb W H nx l A c) (u0 u1 u2 u3 : Value) (hg : gb < g) : FRd ((((wa.setCell ⟨g, 0, none⟩ u0).setCell ⟨g, 1, none⟩ u1).setCell ⟨g, 2, none⟩ u2).setCell ⟨g, 3, none⟩ u3) gb W H nx l A c :=
 (((h.far 0 u0 hg).far 1 u1 hg).far 2 u2 hg).far 3 u3 hg
theorem run_chunk_data (a b : ByteArray) (w : World) : (Instr.field 91 (.agg #[.string a, .string b]) 1).run Tryz.prog w = .ok (.string b) w := by kernel_rfl
theorem val_two (l : List UInt8) (h : l.length = 2) : Crc.val l ≤ 65535 := by
 match l, h with
 | [a, b], _ =>
  have := a.toNat_lt
  have := b.toNat_lt
  simp only [Crc.val, List.foldl_cons, List.foldl_nil]
  omega
set_option maxHeartbeats 8000000 in
set_option maxRecDepth 100000 in
theorem fframe_any (gb W H nx i : Nat) (l : List CB) (A : Option Addr) (c : Nat) (w : World) (hF : FRd w gb W H nx l A c) (hW : W ≤ 256) (hH : H ≤ 256) (hnx : nx ≤ 1000) (hi : i ≤ 1000) :
  Calls Tryz.prog 21 #[.pointer (some ⟨gb, 0, none⟩), .int .i64 i] w fun e w' => Keeps (fun x => x = gb) w w' ∧ match frameB W H nx i l with
   | none => ∃ (d : Int) (z : ByteArray), e = .returned (.tuple #[.int .i64 d, .string z, .bool false])
   | some ((d, z), l2) => e = .returned (.tuple #[.int .i64 d, .string z, .bool true]) ∧ d ≤ 65535 ∧ ∃ A' c', FRd w' gb W H (if i = 0 then nx + 1 else nx + 2) l2 A' c' := by
 obtain ⟨R, hR⟩ : ∃ R, R = frameB W H nx i l := ⟨_, rfl⟩
 rw [← hR]
 unfold frameB at hR
 have HF := Lib.hid hF
 have HR := Lib.hid hR
 clear hF hR
 go_enter Tryz.func21, Tryz.ntmps21
 go_wp2_with fail
 refine (ftake_any gb W H nx l A c ⟨#[102, 99, 84, 76]⟩ 26 w HF.out).mono ?_
 rintro e w1 ⟨-, h1⟩
 have hR := HR.out
 cases hx : takeB ⟨#[102, 99, 84, 76]⟩ 26 l with
 | none =>
  rw [hx] at h1 hR
  obtain ⟨rfl, rfl⟩ := h1
  replace hR : R = none := hR
  subst hR
  go_wp2_with fail
  refine bodyPost_ret (v := .tuple #[.int .i64 0, .string ⟨#[]⟩, .bool false]) (by simp [results, Tryz.results21, go_sem]) rfl ⟨Keeps.refl _ _, 0, _, rfl⟩
 | some p =>
  obtain ⟨hc, l1⟩ := p
  have hz26 := takeB_size hx (by decide)
  rw [hx] at h1 hR
  obtain ⟨rfl, A1, c1, hF1, hb1⟩ := h1
  simp only at hR
  have hz : hc.size = 26 := by omega
  have HZ := Lib.hid hz
  have hz20 : (20 : Int) ≤ hc.size := by omega
  have hz22 : (22 : Int) ≤ hc.size := by omega
  have e2 : lst (hc.extract 20 22) = ((lst hc).drop 20).take 2 := lst_extract hc 20 22
  have hv2 : Crc.val (((lst hc).drop 20).take 2) ≤ 65535 := val_two _ (by rw [List.length_take, List.length_drop, lst_length]; omega)
  rw [← e2] at hR hv2
  have ez : (hc.extract 20 22).size ≤ 4 := by rw [← lst_length, e2, List.length_take]; omega
  obtain ⟨V, hV⟩ : ∃ V, V = Crc.val (lst (hc.extract 20 22)) := ⟨_, rfl⟩
  rw [← hV] at hR hv2
  have hV2 : V ≤ 65535 := hv2
  have HV := Lib.hid hV
  have HR2 := Lib.hid hR
  have HF1 := Lib.hid hF1
  have HB1 := Lib.hid hb1
  clear hV hR hF1 e2 hz hx hz26 hv2 hb1
  go_upto_region 4 with (fail)
  obtain ⟨W0, hW0⟩ : ∃ W0, W0 = w1 := ⟨_, rfl⟩
  have s1 : W0.cell? ⟨gb, 1, none⟩ = some (.int .i64 W) := by rw [hW0]; exact HF1.out.blk.cell 1
  have s2 : W0.cell? ⟨gb, 2, none⟩ = some (.int .i64 H) := by rw [hW0]; exact HF1.out.blk.cell 2
  have hgb1 : gb < W0.heap.size := by rw [hW0]; exact HF1.out.blk.lt
  have HW0 := Lib.hid hW0
  have HF1' := Lib.hid (show FRd W0 gb W H nx l1 A1 c1 by rw [hW0]; exact HF1.out)
  have HB1' := Lib.hid (show Keeps (fun x => x = gb) w W0 by rw [hW0]; exact HB1.out)
  rw [← hW0]
  clear hW0
  clear HW0 HF1 HB1
  clear w1
  obtain ⟨gf, hgf⟩ : ∃ gf, gf = W0.heap.size := ⟨_, rfl⟩
  have hwv : IntKind.i64.wrap (V : Int) = V := IntWalk.i64_in _ (by omega)
  go_cut [8] (fun v wx => v = .pointer (some ⟨gf, 0, none⟩) ∧ Blk wx gf 54 #[.int .i64 W, .int .i64 H, .slice none 0 0, .int .i64 V] ∧ FRd wx gb W H nx l1 A1 c1 ∧ Keeps (fun x => x = gb) w wx)
  case first =>
   have HGL := Lib.hid (show gb < gf by rw [hgf]; exact hgb1)
   have HGW := Lib.hid (show w.heap.size ≤ gf by rw [hgf]; exact HB1'.out.size)
   have HGF := Lib.hid hgf
   clear hgf
   refine wp_region_held_drew (S := (fun w' => w'.cell? ⟨gb, 1, none⟩ = some (.int .i64 W) ∧ w'.cell? ⟨gb, 2, none⟩ = some (.int .i64 H))) (by kernel_rfl) ?_ (fun hHeld => ?_)
   ·exact ⟨s1, s2⟩
   refine opT 0 rfl ?_; refine opT 1 rfl ?_; refine opT 2 rfl ?_; refine opT 3 rfl ?_; refine opT 4 rfl ?_; refine opT 5 rfl ?_; refine opT 6 rfl ?_; refine opT 7 rfl ?_; refine opT 8 rfl ?_; refine opT 9 rfl ?_; refine opT 10 rfl ?_
   refine wpAnyH_ready (rs := [11, 14]) (by kernel_rfl) (by simp) ?_
   refine AllReadyH.cons rfl (fun K hK => ?_) (AllReadyH.cons rfl (fun K hK => ?_) AllReadyH.nil)
   ·go_simp
    (go_at_call 53; refine (value_any (hc.extract 20 22) _ ez).mono ?_; rintro e wv ⟨rfl, hwv⟩; subst hwv; rw [← HV.out])
    refine hK.out _ _ ?_ (fun hHeld => ?_)
    ·exact hHeld
    clear hK K
    (try simp only [Act.put, nz1, nz2, nz3, nz4, nz5, nz6])
    refine opT 12 rfl ?_; refine opT 13 rfl ?_
    refine opD 14 rfl (fun K hK => ?_)
    go_simp
    refine hK.out _ _ ?_ (fun hHeld => ?_)
    ·exact ⟨cell_past _ hHeld.1, cell_past _ hHeld.2⟩
    clear hK K
    (try simp only [Act.put, nz1, nz2, nz3, nz4, nz5, nz6])
    have B8 : Blk (W0.alloc (.cells #[.int .i64 0, .int .i64 0, .slice none 0 0, .int .i64 0] 54)).drew gf 54 #[.int .i64 0, .int .i64 0, .slice none 0 0, .int .i64 0] := (Blk.new W0 _ _ HGF.out).drew
    have HFa := Lib.hid (show FRd (W0.alloc (.cells #[.int .i64 0, .int .i64 0, .slice none 0 0, .int .i64 0] 54)).drew gb W H nx l1 A1 c1 from HF1'.out.below (((Below.refl W0.heap.size W0).alloc (Nat.le_refl _) (.cells #[.int .i64 0, .int .i64 0, .slice none 0 0, .int .i64 0] 54)).drew) hgb1)
    have HBa := Lib.hid (show Keeps (fun x => x = gb) w (W0.alloc (.cells #[.int .i64 0, .int .i64 0, .slice none 0 0, .int .i64 0] 54)).drew from (HB1'.out.alloc (.cells #[.int .i64 0, .int .i64 0, .slice none 0 0, .int .i64 0] 54)).drew)
    rw [← HGF.out]
    generalize hwa : (W0.alloc (.cells #[.int .i64 0, .int .i64 0, .slice none 0 0, .int .i64 0] 54)).drew = wa at *
    clear hwa
    refine opD 15 rfl (fun K hK => ?_)
    have c80 := B8.cell 0
    have c81 := B8.cell 1
    have c82 := B8.cell 2
    have c83 := B8.cell 3
    have f80 := B8.free 0
    have f81 := B8.free 1
    have f82 := B8.free 2
    have f83 := B8.free 3
    have HB8 := Lib.hid ((((B8.set_ 0 (.int .i64 W)).set_ 1 (.int .i64 H)).set_ 2 (.slice none 0 0)).set_ 3 (.int .i64 V))
    clear B8
    go_simp
    refine hK.out _ _ ?_ (fun hHeld => ?_)
    ·exact ⟨cell_set_other _ (ne_blk HGL.out _ _) (cell_set_other _ (ne_blk HGL.out _ _) (cell_set_other _ (ne_blk HGL.out _ _) (cell_set_other _ (ne_blk HGL.out _ _) hHeld.1))), cell_set_other _ (ne_blk HGL.out _ _) (cell_set_other _ (ne_blk HGL.out _ _) (cell_set_other _ (ne_blk HGL.out _ _) (cell_set_other _ (ne_blk HGL.out _ _) hHeld.2)))⟩
    clear hK K
    (try simp only [Act.put, nz1, nz2, nz3, nz4, nz5, nz6])
    refine wpAnyH_done (by kernel_rfl) ?_ _
    go_wp2_with fail
    go_meet
    case rel =>
     exact ⟨rfl, HB8.out, HFa.out.framed _ _ _ _ HGL.out, framed_keeps HBa.out _ _ _ _ HGW.out⟩
   ·go_simp
    refine hK.out _ _ ?_ (fun hHeld => ?_)
    ·exact ⟨cell_past _ hHeld.1, cell_past _ hHeld.2⟩
    clear hK K
    (try simp only [Act.put, nz1, nz2, nz3, nz4, nz5, nz6])
    refine opD 11 rfl (fun K hK => ?_)
    go_simp
    (go_at_call 53; refine (value_any (hc.extract 20 22) _ ez).mono ?_; rintro e wv ⟨rfl, hwv⟩; subst hwv; rw [← HV.out])
    refine hK.out _ _ ?_ (fun hHeld => ?_)
    ·exact hHeld
    clear hK K
    (try simp only [Act.put, nz1, nz2, nz3, nz4, nz5, nz6])
    refine opT 12 rfl ?_; refine opT 13 rfl ?_
    have B8 : Blk (W0.alloc (.cells #[.int .i64 0, .int .i64 0, .slice none 0 0, .int .i64 0] 54)).drew gf 54 #[.int .i64 0, .int .i64 0, .slice none 0 0, .int .i64 0] := (Blk.new W0 _ _ HGF.out).drew
    have HFa := Lib.hid (show FRd (W0.alloc (.cells #[.int .i64 0, .int .i64 0, .slice none 0 0, .int .i64 0] 54)).drew gb W H nx l1 A1 c1 from HF1'.out.below (((Below.refl W0.heap.size W0).alloc (Nat.le_refl _) (.cells #[.int .i64 0, .int .i64 0, .slice none 0 0, .int .i64 0] 54)).drew) hgb1)
    have HBa := Lib.hid (show Keeps (fun x => x = gb) w (W0.alloc (.cells #[.int .i64 0, .int .i64 0, .slice none 0 0, .int .i64 0] 54)).drew from (HB1'.out.alloc (.cells #[.int .i64 0, .int .i64 0, .slice none 0 0, .int .i64 0] 54)).drew)
    rw [← HGF.out]
    generalize hwa : (W0.alloc (.cells #[.int .i64 0, .int .i64 0, .slice none 0 0, .int .i64 0] 54)).drew = wa at *
    clear hwa
    refine opD 15 rfl (fun K hK => ?_)
    have c80 := B8.cell 0
    have c81 := B8.cell 1
    have c82 := B8.cell 2
    have c83 := B8.cell 3
    have f80 := B8.free 0
    have f81 := B8.free 1
    have f82 := B8.free 2
    have f83 := B8.free 3
    have HB8 := Lib.hid ((((B8.set_ 0 (.int .i64 W)).set_ 1 (.int .i64 H)).set_ 2 (.slice none 0 0)).set_ 3 (.int .i64 V))
    clear B8
    go_simp
    refine hK.out _ _ ?_ (fun hHeld => ?_)
    ·exact ⟨cell_set_other _ (ne_blk HGL.out _ _) (cell_set_other _ (ne_blk HGL.out _ _) (cell_set_other _ (ne_blk HGL.out _ _) (cell_set_other _ (ne_blk HGL.out _ _) hHeld.1))), cell_set_other _ (ne_blk HGL.out _ _) (cell_set_other _ (ne_blk HGL.out _ _) (cell_set_other _ (ne_blk HGL.out _ _) (cell_set_other _ (ne_blk HGL.out _ _) hHeld.2)))⟩
    clear hK K
    (try simp only [Act.put, nz1, nz2, nz3, nz4, nz5, nz6])
    refine wpAnyH_done (by kernel_rfl) ?_ _
    go_wp2_with fail
    go_meet
    case rel =>
     exact ⟨rfl, HB8.out, HFa.out.framed _ _ _ _ HGL.out, framed_keeps HBa.out _ _ _ _ HGW.out⟩
  case rest =>
   obtain ⟨rfl, hB4, hF4, hb4⟩ := hcut
   obtain ⟨w4, hw4⟩ : ∃ w4, w4 = wc := ⟨_, rfl⟩
   rw [← hw4] at hB4 hF4 hb4 ⊢
   clear hw4
   have hgl : gb < gf := by rw [hgf]; exact hgb1
   have hfd := fun (tt : ByteArray) (w : World) => run_chunk_data ⟨Film.kfcTL.toArray⟩ tt w
   have hfl : gf < w4.heap.size := hB4.lt
   have hgb2 : gb < w4.heap.size := by omega
   have hgf2 : gf < w4.heap.size := hfl
   have HGL := Lib.hid hgl
   have s3 : w4.cell? ⟨gb, 3, none⟩ = some (.int .i64 nx) := hF4.blk.cell 3
   have u0 : w4.cell? ⟨gf, 0, none⟩ = some (.int .i64 W) := hB4.cell 0
   have u1 : w4.cell? ⟨gf, 1, none⟩ = some (.int .i64 H) := hB4.cell 1
   have u2 : w4.cell? ⟨gf, 2, none⟩ = some (.slice none 0 0) := hB4.cell 2
   have u3 : w4.cell? ⟨gf, 3, none⟩ = some (.int .i64 V) := hB4.cell 3
   have HF4 := Lib.hid hF4
   have HB4 := Lib.hid hb4
   have HU3 := Lib.hid hB4
   clear hB4 hF4 hb4 HF1' HB1' s1 s2 hgb1 hgf hwv W0 hgl
   by_cases hq : lst hc = Film.control nx W H V
   ·have hR := HR2.out
    rw [if_neg (fun h => h hq)] at hR
    have HR3 := Lib.hid hR
    have HCMP := Lib.hid (show ∀ tt : ByteArray, lst tt = Film.control nx W H V → (hc.toList == tt.toList) = true from fun tt h => by rw [beq_iff_eq, Lib.toList_data, Lib.toList_data]; exact hq.trans h.symm)
    clear hq hR HR2
    go_upto_region 5 with (fail)
    refine wp_region_held_drew (S := (fun w' => w'.cell? ⟨gb, 3, none⟩ = some (.int .i64 nx) ∧ w'.cell? ⟨gf, 0, none⟩ = some (.int .i64 W) ∧ w'.cell? ⟨gf, 1, none⟩ = some (.int .i64 H) ∧ w'.cell? ⟨gf, 2, none⟩ = some (.slice none 0 0) ∧ w'.cell? ⟨gf, 3, none⟩ = some (.int .i64 V))) (by kernel_rfl) ?_ (fun hHeld => ?_)
    ·exact ⟨s3, u0, u1, u2, u3⟩
    refine opT 0 rfl ?_; refine opT 1 rfl ?_; refine opT 2 rfl ?_; refine opT 3 rfl ?_; refine opT 4 rfl ?_; refine opT 5 rfl ?_
    refine opD 6 rfl (fun K hK => ?_)
    go_simp
    (go_at_call 39; refine (control_any nx W H V none 0 0 _ (by omega) hW hH hV2).mono ?_; rintro e wn ⟨tt, rfl, htt, hbn⟩; have hs5 := HCMP.out tt htt; have HTT := Lib.hid htt; have HBN := Lib.hid hbn; clear htt)
    refine hK.out _ _ ?_ (fun hHeld => ?_)
    ·exact ⟨bcell_ hbn hgb2 hHeld.1, bcell_ hbn hgf2 hHeld.2.1, bcell_ hbn hgf2 hHeld.2.2.1, bcell_ hbn hgf2 hHeld.2.2.2.1, bcell_ hbn hgf2 hHeld.2.2.2.2⟩
    clear hK K
    (try simp only [Act.put, nz1, nz2, nz3, nz4, nz5, nz6])
    refine opT 7 rfl ?_; refine opT 8 rfl ?_
    refine wpAnyH_done (by kernel_rfl) ?_ _
    have hF5 := HF4.out.below (Below.fromDrew HBN.out) hgb2
    have hU5 := HU3.out.below (Below.fromDrew HBN.out) hgf2
    have hb5 := keeps_more HB4.out (Below.fromDrew HBN.out)
    have hz5 := HBN.out.size
    have p3 : wn.cell? ⟨gb, 3, none⟩ = some (.int .i64 nx) := hF5.blk.cell 3
    have g3 := hF5.blk.free 3
    have q3 : wn.cell? ⟨gf, 3, none⟩ = some (.int .i64 V) := hU5.cell 3
    obtain ⟨n1, hN1⟩ : ∃ n1, n1 = nx + 1 := ⟨_, rfl⟩
    have hnw : IntKind.i64.wrap ((nx : Int) + 1) = n1 := by rw [hN1]; exact IntWalk.i64_in _ (by omega)
    have hn1l : n1 ≤ 1001 := by omega
    have HR3 := HR3.out
    rw [← hN1] at HR3
    have HR3 := Lib.hid HR3
    have HN1 := Lib.hid hN1
    clear hN1
    have hF6 := hF5.nexted n1
    have hU6 := hU5.far (p := ⟨gb, 3, none⟩) (by show gf ≠ gb; have := HGL.out; omega) (.int .i64 n1)
    have hb6 := hb5.setCell (p := ⟨gb, 3, none⟩) (fun _ => rfl) (.int .i64 n1)
    have HF6 := Lib.hid hF6
    have HU6 := Lib.hid hU6
    have HB6 := Lib.hid hb6
    clear hF5 hU5 hb5 hF6 hU6 hb6 s3 u0 u1 u2 u3 HF4 HB4 HU3 HBN HCMP
    by_cases h0 : i = 0
    ·subst h0
     have hR := HR3.out
     rw [if_pos rfl] at hR
     go_wp2_with fail
     generalize wn.setCell ⟨gb, 3, none⟩ (.int .i64 n1) = w6 at *
     refine (ftake_any gb W H n1 l1 A1 c1 ⟨#[73, 68, 65, 84]⟩ (-1) w6 HF6.out).mono ?_
     rintro e w7 ⟨-, h7⟩
     cases hx : takeB ⟨#[73, 68, 65, 84]⟩ (-1) l1 with
     | none =>
      rw [hx] at h7 hR
      obtain ⟨rfl, hw7⟩ := h7
      rw [hw7]
      replace hR : R = none := hR
      subst hR
      have q3 : w6.cell? ⟨gf, 3, none⟩ = some (.int .i64 V) := HU6.out.cell 3
      go_wp2_with fail
      refine bodyPost_ret (v := .tuple #[.int .i64 V, .string ⟨#[]⟩, .bool false]) (by simp [results, Tryz.results21, go_sem]) rfl ⟨HB6.out, _, _, rfl⟩
     | some p =>
      obtain ⟨d, l2⟩ := p
      rw [hx] at h7 hR
      obtain ⟨rfl, A7, c7, hF7, hk7⟩ := h7
      replace hR : R = some ((V, d), l2) := hR
      subst hR
      have q3 : w7.cell? ⟨gf, 3, none⟩ = some (.int .i64 V) := (HU6.out.keeps hk7 (by have := HGL.out; omega)).cell 3
      have HF7 := Lib.hid hF7
      have HK7 := Lib.hid (HB6.out.trans hk7 (fun _ _ h => h))
      clear hF7 hk7 hx
      go_wp2_with fail
      refine bodyPost_ret (v := .tuple #[.int .i64 V, .string d, .bool true]) (by simp [results, Tryz.results21, go_sem]) rfl ⟨HK7.out, rfl, A7, c7, by rw [← HN1.out]; exact HF7.out⟩
    ·have h0i : ((i : Int) == 0) = false := by rw [beq_eq_false_iff_ne]; omega
     have H0 := Lib.hid h0
     have hR := HR3.out
     rw [if_neg h0] at hR
     clear h0
     go_wp2_with fail
     generalize wn.setCell ⟨gb, 3, none⟩ (.int .i64 n1) = w6 at *
     refine (ftake_any gb W H n1 l1 A1 c1 ⟨#[102, 100, 65, 84]⟩ (-1) w6 HF6.out).mono ?_
     rintro e w7 ⟨-, h7⟩
     cases hx : takeB ⟨#[102, 100, 65, 84]⟩ (-1) l1 with
     | none =>
      rw [hx] at h7 hR
      obtain ⟨rfl, hw7⟩ := h7
      rw [hw7]
      replace hR : R = none := hR
      subst hR
      have p3 : w6.cell? ⟨gb, 3, none⟩ = some (.int .i64 n1) := HF6.out.blk.cell 3
      have q3 : w6.cell? ⟨gf, 3, none⟩ = some (.int .i64 V) := HU6.out.cell 3
      go_upto_region 12 with (fail)
      refine wp_region_held_drew (S := (fun w' => w'.cell? ⟨gb, 3, none⟩ = some (.int .i64 n1) ∧ w'.cell? ⟨gf, 3, none⟩ = some (.int .i64 V))) (by kernel_rfl) ?_ (fun hHeld => ?_)
      ·exact ⟨p3, q3⟩
      refine opT 0 rfl ?_
      refine opV 1 ((.bool true)) rfl ?_ ?_
      ·(intro w hSw; (try dsimp only at hSw); go_simp <;> first | with_reducible rfl | assumption | omega | (simp; omega))
      (try simp only [Act.put, nz1, nz2, nz3, nz4, nz5, nz6])
      refine opV 2 ((.bool true)) rfl ?_ ?_
      ·(intro w hSw; (try dsimp only at hSw); go_simp <;> first | with_reducible rfl | assumption | omega | (simp; omega))
      (try simp only [Act.put, nz1, nz2, nz3, nz4, nz5, nz6])
      refine opU 3 rfl ?_; refine opU 4 rfl ?_; refine opU 5 rfl ?_
      refine opV 6 ((.bool true)) rfl ?_ ?_
      ·(intro w hSw; (try dsimp only at hSw); go_simp <;> first | with_reducible rfl | assumption | omega | (simp; omega))
      (try simp only [Act.put, nz1, nz2, nz3, nz4, nz5, nz6])
      refine opV 7 ((.bool true)) rfl ?_ ?_
      ·(intro w hSw; (try dsimp only at hSw); go_simp <;> first | with_reducible rfl | assumption | omega | (simp; omega))
      (try simp only [Act.put, nz1, nz2, nz3, nz4, nz5, nz6])
      refine opU 8 rfl ?_; refine opU 9 rfl ?_; refine opU 10 rfl ?_; refine opU 11 rfl ?_; refine opU 12 rfl ?_; refine opU 13 rfl ?_; refine opU 14 rfl ?_; refine opU 15 rfl ?_
      refine opV 16 ((.bool true)) rfl ?_ ?_
      ·(intro w hSw; (try dsimp only at hSw); go_simp <;> first | with_reducible rfl | assumption | omega | (simp; omega))
      (try simp only [Act.put, nz1, nz2, nz3, nz4, nz5, nz6])
      refine wpAnyH_done (by kernel_rfl) ?_ _
      go_wp2_with fail
      refine bodyPost_ret (v := .tuple #[.int .i64 0, .string ⟨#[]⟩, .bool false]) (by simp [results, Tryz.results21, go_sem]) rfl ⟨HB6.out.drew, 0, _, rfl⟩
     | some p =>
      obtain ⟨d, l2⟩ := p
      rw [hx] at h7 hR
      obtain ⟨rfl, A7, c7, hF7, hk7⟩ := h7
      simp only at hR
      have p3 : w7.cell? ⟨gb, 3, none⟩ = some (.int .i64 n1) := hF7.blk.cell 3
      have q3 : w7.cell? ⟨gf, 3, none⟩ = some (.int .i64 V) := (HU6.out.keeps hk7 (by have := HGL.out; omega)).cell 3
      have hgb3 : gb < w7.heap.size := hF7.blk.lt
      have hgf3 : gf < w7.heap.size := cell_lt q3
      have HF7 := Lib.hid hF7
      have HK7 := Lib.hid (HB6.out.trans hk7 (fun _ _ h => h))
      clear hF7 hk7 hx
      go_upto_region 12 with (fail)
      by_cases h4 : d.size < 4
      ·rw [if_pos (.inl h4)] at hR
       subst hR
       have h4i : (d.size : Int) < 4 := by omega
       clear h4
       refine wp_region_held_drew (S := (fun w' => w'.cell? ⟨gb, 3, none⟩ = some (.int .i64 n1) ∧ w'.cell? ⟨gf, 3, none⟩ = some (.int .i64 V))) (by kernel_rfl) ?_ (fun hHeld => ?_)
       ·exact ⟨p3, q3⟩
       refine opT 0 rfl ?_
       refine opV 1 ((.bool false)) rfl ?_ ?_
       ·(intro w hSw; (try dsimp only at hSw); go_simp <;> first | with_reducible rfl | assumption | omega | (simp; omega))
       (try simp only [Act.put, nz1, nz2, nz3, nz4, nz5, nz6])
       refine opV 2 ((.bool false)) rfl ?_ ?_
       ·(intro w hSw; (try dsimp only at hSw); go_simp <;> first | with_reducible rfl | assumption | omega | (simp; omega))
       (try simp only [Act.put, nz1, nz2, nz3, nz4, nz5, nz6])
       refine opT 3 rfl ?_; refine opT 4 rfl ?_
       refine opV 5 ((.bool true)) rfl ?_ ?_
       ·(intro w hSw; (try dsimp only at hSw); go_simp <;> first | with_reducible rfl | assumption | omega | (simp; omega))
       (try simp only [Act.put, nz1, nz2, nz3, nz4, nz5, nz6])
       refine opV 6 ((.bool true)) rfl ?_ ?_
       ·(intro w hSw; (try dsimp only at hSw); go_simp <;> first | with_reducible rfl | assumption | omega | (simp; omega))
       (try simp only [Act.put, nz1, nz2, nz3, nz4, nz5, nz6])
       refine opV 7 ((.bool true)) rfl ?_ ?_
       ·(intro w hSw; (try dsimp only at hSw); go_simp <;> first | with_reducible rfl | assumption | omega | (simp; omega))
       (try simp only [Act.put, nz1, nz2, nz3, nz4, nz5, nz6])
       refine opU 8 rfl ?_; refine opU 9 rfl ?_; refine opU 10 rfl ?_; refine opU 11 rfl ?_; refine opU 12 rfl ?_; refine opU 13 rfl ?_; refine opU 14 rfl ?_; refine opU 15 rfl ?_
       refine opV 16 ((.bool true)) rfl ?_ ?_
       ·(intro w hSw; (try dsimp only at hSw); go_simp <;> first | with_reducible rfl | assumption | omega | (simp; omega))
       (try simp only [Act.put, nz1, nz2, nz3, nz4, nz5, nz6])
       refine wpAnyH_done (by kernel_rfl) ?_ _
       go_wp2_with fail
       refine bodyPost_ret (v := .tuple #[.int .i64 0, .string ⟨#[]⟩, .bool false]) (by simp [results, Tryz.results21, go_sem]) rfl ⟨HK7.out.drew, 0, _, rfl⟩
      ·have h4i : (4 : Int) ≤ d.size := by omega
       have e4 : lst (d.extract 0 4) = (lst d).take 4 := by rw [lst_extract, List.drop_zero]
       have hn1 : n1 < 4294967296 := by omega
       by_cases h5 : (lst d).take 4 ≠ Crc.num n1
       ·rw [if_pos (.inr h5)] at hR
        subst hR
        have HCM2 := Lib.hid (show ∀ tt : ByteArray, lst tt = Crc.num n1 → ((d.extract 0 4).toList == tt.toList) = false from fun tt h => by rw [beq_eq_false_iff_ne, Lib.toList_data, Lib.toList_data]; exact fun e => h5 (e4.symm.trans ((show lst (d.extract 0 4) = lst tt from e).trans h)))
        clear h5 e4 h4
        refine wp_region_held_drew (S := (fun w' => w'.cell? ⟨gb, 3, none⟩ = some (.int .i64 n1) ∧ w'.cell? ⟨gf, 3, none⟩ = some (.int .i64 V))) (by kernel_rfl) ?_ (fun hHeld => ?_)
        ·exact ⟨p3, q3⟩
        refine opT 0 rfl ?_
        refine opV 1 ((.bool false)) rfl ?_ ?_
        ·(intro w hSw; (try dsimp only at hSw); go_simp <;> first | with_reducible rfl | assumption | omega | (simp; omega))
        (try simp only [Act.put, nz1, nz2, nz3, nz4, nz5, nz6])
        refine opV 2 ((.bool false)) rfl ?_ ?_
        ·(intro w hSw; (try dsimp only at hSw); go_simp <;> first | with_reducible rfl | assumption | omega | (simp; omega))
        (try simp only [Act.put, nz1, nz2, nz3, nz4, nz5, nz6])
        refine opT 3 rfl ?_; refine opT 4 rfl ?_
        refine opV 5 ((.bool false)) rfl ?_ ?_
        ·(intro w hSw; (try dsimp only at hSw); go_simp <;> first | with_reducible rfl | assumption | omega | (simp; omega))
        (try simp only [Act.put, nz1, nz2, nz3, nz4, nz5, nz6])
        refine opV 6 ((.bool false)) rfl ?_ ?_
        ·(intro w hSw; (try dsimp only at hSw); go_simp <;> first | with_reducible rfl | assumption | omega | (simp; omega))
        (try simp only [Act.put, nz1, nz2, nz3, nz4, nz5, nz6])
        refine opV 7 ((.bool false)) rfl ?_ ?_
        ·(intro w hSw; (try dsimp only at hSw); go_simp <;> first | with_reducible rfl | assumption | omega | (simp; omega))
        (try simp only [Act.put, nz1, nz2, nz3, nz4, nz5, nz6])
        refine opT 8 rfl ?_; refine opT 9 rfl ?_; refine opT 10 rfl ?_; refine opT 11 rfl ?_; refine opT 12 rfl ?_; refine opT 13 rfl ?_
        refine opD 14 rfl (fun K hK => ?_)
        go_simp
        (go_at_call 38; refine (fnumber_any n1 _ hn1).mono ?_; rintro e wm ⟨tm, rfl, htm, hbm⟩; have hs9 := HCM2.out tm htm; have HBM := Lib.hid hbm; clear htm)
        refine hK.out _ _ ?_ (fun hHeld => ?_)
        ·exact ⟨bcell_ hbm hgb3 hHeld.1, bcell_ hbm hgf3 hHeld.2⟩
        clear hK K
        (try simp only [Act.put, nz1, nz2, nz3, nz4, nz5, nz6])
        refine opT 15 rfl ?_
        refine opV 16 ((.bool true)) rfl ?_ ?_
        ·(intro w hSw; (try dsimp only at hSw); go_simp <;> first | with_reducible rfl | assumption | omega | (simp; omega))
        (try simp only [Act.put, nz1, nz2, nz3, nz4, nz5, nz6])
        refine wpAnyH_done (by kernel_rfl) ?_ _
        go_wp2_with fail
        refine bodyPost_ret (v := .tuple #[.int .i64 0, .string ⟨#[]⟩, .bool false]) (by simp [results, Tryz.results21, go_sem]) rfl ⟨keeps_more HK7.out (Below.fromDrew HBM.out), 0, _, rfl⟩
       ·rw [if_neg (by rintro (h | h) <;> first | omega | exact h5 h)] at hR
        subst hR
        have HCM2 := Lib.hid (show ∀ tt : ByteArray, lst tt = Crc.num n1 → ((d.extract 0 4).toList == tt.toList) = true from fun tt h => by rw [beq_iff_eq, Lib.toList_data, Lib.toList_data]; exact e4.trans ((Decidable.not_not.1 h5).trans h.symm))
        clear h5 e4 h4
        refine wp_region_held_drew (S := (fun w' => w'.cell? ⟨gb, 3, none⟩ = some (.int .i64 n1) ∧ w'.cell? ⟨gf, 3, none⟩ = some (.int .i64 V))) (by kernel_rfl) ?_ (fun hHeld => ?_)
        ·exact ⟨p3, q3⟩
        refine opT 0 rfl ?_
        refine opV 1 ((.bool false)) rfl ?_ ?_
        ·(intro w hSw; (try dsimp only at hSw); go_simp <;> first | with_reducible rfl | assumption | omega | (simp; omega))
        (try simp only [Act.put, nz1, nz2, nz3, nz4, nz5, nz6])
        refine opV 2 ((.bool false)) rfl ?_ ?_
        ·(intro w hSw; (try dsimp only at hSw); go_simp <;> first | with_reducible rfl | assumption | omega | (simp; omega))
        (try simp only [Act.put, nz1, nz2, nz3, nz4, nz5, nz6])
        refine opT 3 rfl ?_; refine opT 4 rfl ?_
        refine opV 5 ((.bool false)) rfl ?_ ?_
        ·(intro w hSw; (try dsimp only at hSw); go_simp <;> first | with_reducible rfl | assumption | omega | (simp; omega))
        (try simp only [Act.put, nz1, nz2, nz3, nz4, nz5, nz6])
        refine opV 6 ((.bool false)) rfl ?_ ?_
        ·(intro w hSw; (try dsimp only at hSw); go_simp <;> first | with_reducible rfl | assumption | omega | (simp; omega))
        (try simp only [Act.put, nz1, nz2, nz3, nz4, nz5, nz6])
        refine opV 7 ((.bool false)) rfl ?_ ?_
        ·(intro w hSw; (try dsimp only at hSw); go_simp <;> first | with_reducible rfl | assumption | omega | (simp; omega))
        (try simp only [Act.put, nz1, nz2, nz3, nz4, nz5, nz6])
        refine opT 8 rfl ?_; refine opT 9 rfl ?_; refine opT 10 rfl ?_; refine opT 11 rfl ?_; refine opT 12 rfl ?_; refine opT 13 rfl ?_
        refine opD 14 rfl (fun K hK => ?_)
        go_simp
        (go_at_call 38; refine (fnumber_any n1 _ hn1).mono ?_; rintro e wm ⟨tm, rfl, htm, hbm⟩; have hs9 := HCM2.out tm htm; have HBM := Lib.hid hbm; clear htm)
        refine hK.out _ _ ?_ (fun hHeld => ?_)
        ·exact ⟨bcell_ hbm hgb3 hHeld.1, bcell_ hbm hgf3 hHeld.2⟩
        clear hK K
        (try simp only [Act.put, nz1, nz2, nz3, nz4, nz5, nz6])
        refine opT 15 rfl ?_
        refine opV 16 ((.bool false)) rfl ?_ ?_
        ·(intro w hSw; (try dsimp only at hSw); go_simp <;> first | with_reducible rfl | assumption | omega | (simp; omega))
        (try simp only [Act.put, nz1, nz2, nz3, nz4, nz5, nz6])
        refine wpAnyH_done (by kernel_rfl) ?_ _
        have hF8 := HF7.out.below (Below.fromDrew HBM.out) hgb3
        have g3 := hF8.blk.free 3
        have p8 : wm.cell? ⟨gb, 3, none⟩ = some (.int .i64 n1) := hF8.blk.cell 3
        have q8 : wm.cell? ⟨gf, 3, none⟩ = some (.int .i64 V) := bcell_ (Below.fromDrew HBM.out) hgf3 q3
        obtain ⟨n2, hN2⟩ : ∃ n2, n2 = n1 + 1 := ⟨_, rfl⟩
        have hnw2 : IntKind.i64.wrap ((n1 : Int) + 1) = n2 := by rw [hN2]; exact IntWalk.i64_in _ (by omega)
        have HN2 := Lib.hid (show n2 = nx + 2 by rw [hN2, HN1.out])
        clear hN2
        have HF8 := Lib.hid (hF8.nexted n2)
        have HK8 := Lib.hid ((keeps_more HK7.out (Below.fromDrew HBM.out)).setCell (p := ⟨gb, 3, none⟩) (fun _ => rfl) (.int .i64 n2))
        have z3 : (wm.setCell ⟨gb, 3, none⟩ (.int .i64 n2)).cell? ⟨gf, 3, none⟩ = some (.int .i64 V) := cell_set_other _ (fun e => by injection e with e; have := HGL.out; omega) q8
        clear hF8 p3 q3 hs9
        go_upto_region 15 with (fail)
        generalize wm.setCell ⟨gb, 3, none⟩ (.int .i64 n2) = w9 at *
        refine wp_region_held_drew (S := (fun w' => w'.cell? ⟨gf, 3, none⟩ = some (.int .i64 V))) (by kernel_rfl) ?_ (fun hHeld => ?_)
        ·exact z3
        refine opT 0 rfl ?_; refine opT 1 rfl ?_; refine opT 2 rfl ?_; refine opT 3 rfl ?_; refine opT 4 rfl ?_; refine opT 5 rfl ?_; refine opT 6 rfl ?_
        refine wpAnyH_done (by kernel_rfl) ?_ _
        go_wp2_with fail
        refine bodyPost_ret (v := .tuple #[.int .i64 V, .string (d.extract 4 d.size), .bool true]) (by simp [results, Tryz.results21, go_sem]) rfl ⟨HK8.out.drew, rfl, A7, c7, by rw [← HN2.out]; exact HF8.out.drew⟩
   ·have hR := HR2.out
    rw [if_pos hq] at hR
    subst hR
    have HCMP := Lib.hid (show ∀ tt : ByteArray, lst tt = Film.control nx W H V → (hc.toList == tt.toList) = false from fun tt h => by rw [beq_eq_false_iff_ne, Lib.toList_data, Lib.toList_data]; exact fun e => hq ((show lst hc = lst tt from e).trans h))
    clear hq HR2
    go_upto_region 5 with (fail)
    refine wp_region_held_drew (S := (fun w' => w'.cell? ⟨gb, 3, none⟩ = some (.int .i64 nx) ∧ w'.cell? ⟨gf, 0, none⟩ = some (.int .i64 W) ∧ w'.cell? ⟨gf, 1, none⟩ = some (.int .i64 H) ∧ w'.cell? ⟨gf, 2, none⟩ = some (.slice none 0 0) ∧ w'.cell? ⟨gf, 3, none⟩ = some (.int .i64 V))) (by kernel_rfl) ?_ (fun hHeld => ?_)
    ·exact ⟨s3, u0, u1, u2, u3⟩
    refine opT 0 rfl ?_; refine opT 1 rfl ?_; refine opT 2 rfl ?_; refine opT 3 rfl ?_; refine opT 4 rfl ?_; refine opT 5 rfl ?_
    refine opD 6 rfl (fun K hK => ?_)
    go_simp
    (go_at_call 39; refine (control_any nx W H V none 0 0 _ (by omega) hW hH hV2).mono ?_; rintro e wn ⟨tt, rfl, htt, hbn⟩; have hs5 := HCMP.out tt htt; have HTT := Lib.hid htt; have HBN := Lib.hid hbn; clear htt)
    refine hK.out _ _ ?_ (fun hHeld => ?_)
    ·exact ⟨bcell_ hbn hgb2 hHeld.1, bcell_ hbn hgf2 hHeld.2.1, bcell_ hbn hgf2 hHeld.2.2.1, bcell_ hbn hgf2 hHeld.2.2.2.1, bcell_ hbn hgf2 hHeld.2.2.2.2⟩
    clear hK K
    (try simp only [Act.put, nz1, nz2, nz3, nz4, nz5, nz6])
    refine opT 7 rfl ?_; refine opT 8 rfl ?_
    refine wpAnyH_done (by kernel_rfl) ?_ _
    go_wp2_with fail
    refine bodyPost_ret (v := .tuple #[.int .i64 0, .string ⟨#[]⟩, .bool false]) (by simp [results, Tryz.results21, go_sem]) rfl ⟨keeps_more HB4.out (Below.fromDrew HBN.out), 0, _, rfl⟩
end Go.Proofs.YtkegkelaffohjaaGreatDoor
