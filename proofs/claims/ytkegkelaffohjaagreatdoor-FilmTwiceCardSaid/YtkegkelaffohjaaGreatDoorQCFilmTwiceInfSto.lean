/- inflate.reader.stored: the walk. Printed by mk.py. -/
import Derived.Test.YtkegkelaffohjaaGreatDoorKCFilmTwice13
import Derived.Test.YtkegkelaffohjaaGreatDoorQCFilmTwiceBitT
import Derived.Deep.Cut
import Derived.Deep.DeepCutAuto
namespace Go.Proofs.YtkegkelaffohjaaGreatDoor
open Go Go.RowKit
theorem ofInt_64 (a : Nat) (ha : a < 9223372036854775808) : (BitVec.ofInt 64 (a : Int)).toNat = a := by
 rw [BitVec.ofInt_natCast, BitVec.toNat_ofNat]
 exact Nat.mod_eq_of_lt (by omega)
theorem xor_lt16 (n m : Nat) (hn : n < 65536) (hm : m < 65536) : n ^^^ m < 65536 := Nat.xor_lt_two_pow (n := 16) hn hm
theorem xor_ones (n m : Nat) (hn : n < 65536) : n ^^^ m = 65535 ↔ n + m = 65535 := by
 have h1 := xor_16 n hn
 constructor
 ·intro h
  have : m = n ^^^ 65535 := by rw [← h, ← Nat.xor_assoc, Nat.xor_self, Nat.zero_xor]
  omega
 ·intro h
  have : m = n ^^^ 65535 := by omega
  rw [this, ← Nat.xor_assoc, Nat.xor_self, Nat.zero_xor]
theorem i64_xor (n m : Nat) (hn : n < 65536) (hm : m < 65536) : bits .xor .i64 (n : Int) (m : Int) = ((n ^^^ m : Nat) : Int) := by
 show IntKind.i64.wrap ((BitVec.ofInt 64 (n : Int) ^^^ BitVec.ofInt 64 (m : Int)).toNat : Int) = _
 have := xor_lt16 n m hn hm
 rw [BitVec.toNat_xor, ofInt_64 n (by omega), ofInt_64 m (by omega), IntWalk.i64_in _ (by omega)]
theorem rstored_err1 {most : Nat} {bs : List Bool} {out : List UInt8} (h : Inf.get 16 (bs.drop (bs.length % 8)) = none) : Inf.rstored most bs out = .error 0 := by unfold Inf.rstored; rw [h]
theorem rstored_err2 {most n : Nat} {bs b1 : List Bool} {out : List UInt8} (h : Inf.get 16 (bs.drop (bs.length % 8)) = some (n, b1)) (h2 : Inf.get 16 b1 = none) : Inf.rstored most bs out = .error 0 := by unfold Inf.rstored; rw [h]; simp only; rw [h2]
theorem rstored_is {most n m : Nat} {bs b1 b2 : List Bool} {out : List UInt8} (h : Inf.get 16 (bs.drop (bs.length % 8)) = some (n, b1)) (h2 : Inf.get 16 b1 = some (m, b2)) :
  Inf.rstored most bs out = if n + m ≠ 65535 then .error 0 else if b2.length < 8 * n then .error 0 else if most < out.length + n then .error 1 else .ok (b2.drop (8 * n), out ++ Bit.pack (b2.take (8 * n))) := by unfold Inf.rstored; rw [h]; simp only; rw [h2]
theorem Keeps.fromDrew_ {S : Nat → Prop} {w w' : World} (h : Keeps S w.drew w') : Keeps S w w' := ⟨h.os, h.tape, h.output, h.size, h.block⟩
section
variable (B g gb most : Nat) (s : ByteArray) (E : Nat → Addr) (w : World)
set_option maxHeartbeats 4000000 in
set_option maxRecDepth 100000 in
theorem istored_any (bs : List Bool) (v : Value) (out : List UInt8) (hE : Er4 w E) (h : RdI w B g gb s most bs v out) (hG : 15 ≤ B) (hB : B ≤ w.heap.size) (hs : s.size ≤ 300000) (hm : most ≤ 300000) (ho : out.length ≤ most) :
  Calls Tryz.prog 151 #[.pointer (some ⟨g, 0, none⟩)] w fun e w' => StepI w B g gb s most E v (Inf.rstored most bs out) e w' := by
 obtain ⟨R, hRe⟩ : ∃ R, R = Inf.rstored most bs out := ⟨_, rfl⟩
 rw [← hRe]
 have HR := Lib.hid hRe
 clear hRe
 have c0 := h.c0
 have hGb : 15 ≤ gb := Nat.le_trans hG h.bb
 have H := Lib.hid h
 have HE := Lib.hid hE
 clear h hE
 go_enter Tryz.func151, Tryz.ntmps151
 go_wp2_with fail
 refine (ralign_any gb s bs w H.out.rd (by omega)).mono ?_
 rintro e w1 ⟨rfl, hR1, hk1⟩
 obtain ⟨b0, hb0⟩ : ∃ b, b = bs.drop (bs.length % 8) := ⟨_, rfl⟩
 rw [← hb0] at hR1
 have HB0 := Lib.hid hb0
 have H1 := Lib.hid (H.out.read hk1 hR1)
 have K1 := Lib.hid (KF.of_read (g := g) (v := v) hk1)
 have hE1 := Lib.hid (KF.er4 HE.out H.out K1.out hB hG)
 have h8 : b0.length % 8 = 0 := by rw [hb0, List.length_drop]; omega
 have H8 := Lib.hid h8
 clear hR1 hk1 hb0 h8 c0
 go_wp2_with fail
 refine (iget_any g gb s E w1 16 b0 v (.int .i64 most) hE1.out H1.out.blk H1.out.rd hGb (by omega) (by omega)).mono ?_
 rintro e w2 ⟨hk2, he2⟩
 have K2 := Lib.hid (K1.out.trans (KF.of_read (g := g) (v := v) hk2))
 cases hg1 : Inf.get 16 b0 with
 | none =>
  rw [hg1] at he2
  replace he2 : e = .panicked (thrownI E 0) := he2
  subst he2
  have hR : R = .error 0 := by rw [HR.out]; exact rstored_err1 (by rw [← HB0.out]; exact hg1)
  subst hR
  go_wp2_with fail
  exact ⟨rfl, rfl, K2.out.below H.out hB⟩
 | some r =>
  obtain ⟨n, b1⟩ := r
  rw [hg1] at he2
  replace he2 : e = .returned (.int .i64 n) ∧ RdB w2 gb s b1 := he2
  obtain ⟨rfl, hR2⟩ := he2
  obtain ⟨q1, q2, hn⟩ := Inf.get_some hg1
  replace hn : n < 65536 := hn
  have H2 := Lib.hid (H1.out.read hk2 hR2)
  have hE2 := Lib.hid (KF.er4 HE.out H.out K2.out hB hG)
  have dE := hE2.out.text
  have HL := Lib.hid H2.out.lb
  have HG1 := Lib.hid hg1
  have HQ := Lib.hid (And.intro q1 q2)
  have HG2 := Lib.hid (iget_any g gb s E w2.drew 16 b1 v (.int .i64 most) (hE2.out.below (Below.here w2)) H2.out.blk.drew H2.out.rd.drew hGb (by omega) (by omega))
  clear hg1 hR2 hk2 q1 q2 H1
  go_upto_region 2 with (fail)
  cases hg2 : Inf.get 16 b1 with
  | none =>
   have hR : R = .error 0 := by rw [HR.out]; exact rstored_err2 (by rw [← HB0.out]; exact HG1.out) hg2
   subst hR
   have HM := Lib.hid hg2
   clear hg2
   have HEND := Lib.hid (show ∀ w', Keeps (fun x => x = gb) w2 w' → StepI w B g gb s most E v (.error 0) (.panicked (thrownI E 0)) w' from fun w' k => ⟨rfl, (K2.out.trans (KF.of_read (g := g) (v := v) k)).below H.out hB⟩)
   refine wp_region_held_drew (S := (fun w' => w'.cell? ⟨0, 0, none⟩ = some (.iface 290 (.pointer (some (E 0)))))) (by kernel_rfl) ?_ (fun hHeld => ?_)
   ·exact dE
   refine opT 0 rfl ?_; refine opT 1 rfl ?_; refine opT 2 rfl ?_; refine opT 6 rfl ?_
   refine opD 3 rfl (fun K hK => ?_)
   go_simp
   (go_at_call 150; refine HG2.out.mono ?_; rintro e w3 ⟨hk3, he3⟩; rw [HM.out] at he3; replace he3 : e = .panicked (thrownI E 0) := he3; subst he3; exact bodyPost_pan rfl (HEND.out _ hk3.fromDrew_))
  | some r =>
   obtain ⟨m, b2⟩ := r
   have hR := HR.out
   rw [rstored_is (by rw [← HB0.out]; exact HG1.out) hg2] at hR
   obtain ⟨q3, q4, hm⟩ := Inf.get_some hg2
   replace hm : m < 65536 := hm
   have HM := Lib.hid hg2
   clear hg2
   by_cases hnm : n + m = 65535
   ·have hxo : (((n ^^^ m : Nat) : Int) == 65535) = true := by
     rw [beq_iff_eq]
     have := (xor_ones n m hn).2 hnm
     omega
    rw [if_neg (fun e => e hnm)] at hR
    have HR2 := Lib.hid hR
    have HB2 := Lib.hid q4
    have HQ3 := Lib.hid q3
    clear hR q3 q4
    refine wp_region_held_drew (S := (fun w' => w'.cell? ⟨0, 0, none⟩ = some (.iface 290 (.pointer (some (E 0)))))) (by kernel_rfl) ?_ (fun hHeld => ?_)
    ·exact dE
    refine opT 0 rfl ?_; refine opT 1 rfl ?_; refine opT 2 rfl ?_; refine opT 6 rfl ?_
    refine opD 3 rfl (fun K hK => ?_)
    go_simp
    (go_at_call 150; refine HG2.out.mono ?_; rintro e w3 ⟨hk3, he3⟩; rw [HM.out] at he3; obtain ⟨rfl, hR3⟩ := he3; have hx := i64_xor n m hn hm)
    refine hK.out _ _ ?_ (fun hHeld => ?_)
    ·exact (hE2.out.keeps hk3.fromDrew_ hGb HL.out).text
    clear hK K
    refine opT 4 rfl ?_; refine opT 5 rfl ?_
    refine opD 7 rfl (fun K hK => ?_)
    go_simp
    (go_at_call 175; refine (must_yes g _ _).mono ?_; rintro e w4 ⟨rfl, rfl⟩)
    refine hK.out _ _ ?_ (fun hHeld => ?_)
    ·exact (hE2.out.keeps hk3.fromDrew_ hGb HL.out).text
    clear hK K
    (try simp only [Act.put, nz1, nz2, nz3, nz4, nz5, nz6])
    refine wpAnyH_done (by kernel_rfl) ?_ _
    have K4 := Lib.hid (K2.out.trans (KF.of_read (g := g) (v := v) hk3.fromDrew_))
    have H4 := Lib.hid (H2.out.read hk3.fromDrew_ hR3)
    have c0 := H4.out.c0
    have h82 : b2.length % 8 = 0 := by
     have a1 := HQ.out
     have a2 := HQ3.out
     have a3 := H8.out
     have a4 := a1.2
     rw [a4, List.length_drop] at a2
     rw [HB2.out, List.length_drop, a4, List.length_drop]
     omega
    have H82 := Lib.hid h82
    clear hx hnm hxo hk3 hR3 h82 dE
    go_wp2_with fail
    by_cases hlt : b2.length < 8 * n
    ·have hR := HR2.out
     rw [if_pos hlt] at hR
     subst hR
     refine (rbytes_no gb n s b2 _ H4.out.rd (by omega) (by omega) H82.out hlt).mono ?_
     rintro e w5 ⟨rfl, hk5⟩
     have K5 := Lib.hid (K4.out.trans (KF.of_read (g := g) (v := v) hk5))
     have dE := (KF.er4 HE.out H.out K5.out hB hG).text
     go_wp2_with fail
     refine (must_no g E w5 0).mono ?_
     rintro e w6 ⟨rfl, rfl⟩
     go_wp2_with fail
     exact ⟨rfl, rfl, K5.out.below H.out hB⟩
    ·have hR := HR2.out
     rw [if_neg hlt] at hR
     have HR3 := Lib.hid hR
     clear hR
     refine (rbytes_yes gb n s b2 _ H4.out.rd (by omega) (by omega) H82.out (by omega)).mono ?_
     rintro e w5 ⟨⟨t, rfl, ht⟩, hR5, hk5⟩
     have K5 := Lib.hid (K4.out.trans (KF.of_read (g := g) (v := v) hk5))
     have H5 := Lib.hid (H4.out.read hk5 hR5)
     have hE5 := Lib.hid (KF.er4 HE.out H.out K5.out hB hG)
     have dE := hE5.out.text
     have htz : t.size = n := by
      have h1 := congrArg List.length ht
      rw [lst_length, Bit.pack_length, List.length_take] at h1
      omega
     have HT := Lib.hid ht
     have HTZ := Lib.hid htz
     clear ht hR5 hk5 hlt htz c0
     go_wp2_with fail
     refine (must_yes g w5 _).mono ?_
     rintro e w6 ⟨rfl, rfl⟩
     have dB := hE5.out.bound
     obtain ⟨A, c, hv, hc, _⟩ := H5.out.own.form
     subst hv
     have c0 := H5.out.c0
     have c1 := H5.out.c1
     have c2 := H5.out.c2
     clear dE
     go_upto_region 5 with (fail)
     obtain ⟨N, hN⟩ : ∃ N, N = out.length + n := ⟨_, rfl⟩
     have hw5 : IntKind.i64.wrap ((out.length : Int) + n) = N := by rw [hN, Int.natCast_add]; exact IntWalk.i64_in _ (by omega)
     have HNN := Lib.hid hN
     by_cases hbd : most < out.length + n
     ·have hR := HR3.out
      rw [if_pos hbd] at hR
      subst hR
      have hbi : decide (N ≤ most) = false := by rw [decide_eq_false_iff_not]; omega
      clear hbd hN
      refine wp_region_held_drew (S := (fun w' => w'.cell? ⟨g, 0, none⟩ = some (.pointer (some ⟨gb, 0, none⟩)) ∧ w'.cell? ⟨g, 1, none⟩ = some (.slice A out.length c) ∧ w'.cell? ⟨g, 2, none⟩ = some (.int .i64 most) ∧ w'.cell? ⟨1, 0, none⟩ = some (.iface 290 (.pointer (some (E 1)))))) (by kernel_rfl) ?_ (fun hHeld => ?_)
      ·exact ⟨c0, c1, c2, dB⟩
      refine opT 0 rfl ?_; refine opT 1 rfl ?_; refine opT 2 rfl ?_; refine opT 3 rfl ?_; refine opT 4 rfl ?_; refine opT 5 rfl ?_; refine opT 6 rfl ?_; refine opT 7 rfl ?_; refine opT 8 rfl ?_; refine opT 9 rfl ?_; refine opT 10 rfl ?_; refine opT 11 rfl ?_; refine opT 12 rfl ?_; refine opT 13 rfl ?_
      refine opD 14 rfl (fun K hK => ?_)
      go_simp
      (go_at_call 175; refine (must_no g E _ 1).mono ?_; rintro e w7 ⟨rfl, rfl⟩; exact bodyPost_pan rfl ⟨rfl, (K5.out.below H.out hB).drew⟩)
     ·have hR := HR3.out
      rw [if_neg hbd] at hR
      have hbi : decide (N ≤ most) = true := by rw [decide_eq_true_eq]; omega
      have HR4 := Lib.hid hR
      have HNM := Lib.hid (show N ≤ 300000 by omega)
      clear hR hbd hN
      refine wp_region_held_drew (S := (fun w' => w'.cell? ⟨g, 0, none⟩ = some (.pointer (some ⟨gb, 0, none⟩)) ∧ w'.cell? ⟨g, 1, none⟩ = some (.slice A out.length c) ∧ w'.cell? ⟨g, 2, none⟩ = some (.int .i64 most) ∧ w'.cell? ⟨1, 0, none⟩ = some (.iface 290 (.pointer (some (E 1)))))) (by kernel_rfl) ?_ (fun hHeld => ?_)
      ·exact ⟨c0, c1, c2, dB⟩
      refine opT 0 rfl ?_; refine opT 1 rfl ?_; refine opT 2 rfl ?_; refine opT 3 rfl ?_; refine opT 4 rfl ?_; refine opT 5 rfl ?_; refine opT 6 rfl ?_; refine opT 7 rfl ?_; refine opT 8 rfl ?_; refine opT 9 rfl ?_; refine opT 10 rfl ?_; refine opT 11 rfl ?_; refine opT 12 rfl ?_; refine opT 13 rfl ?_
      refine opD 14 rfl (fun K hK => ?_)
      go_simp
      (go_at_call 175; refine (must_yes g _ _).mono ?_; rintro e w7 ⟨rfl, rfl⟩)
      refine hK.out _ _ ?_ (fun hHeld => ?_)
      ·exact ⟨c0, c1, c2, dB⟩
      clear hK K
      (try simp only [Act.put, nz1, nz2, nz3, nz4, nz5, nz6])
      refine wpAnyH_done (by kernel_rfl) ?_ _
      obtain ⟨i0, hi, hz0, hz1, hz2⟩ := info_parts byteInfo
      have ho7 := H5.out.own.drew
      have hb7 := H5.out.blk.drew
      have nA := H5.out.ng
      have nA2 : some g ≠ (Value.slice A out.length c).ownBlock := fun e => nA e.symm
      have hB7 : B ≤ w6.heap.size := Nat.le_trans hB K5.out.keeps.size
      have hNm := HNM.out
      have hTN : out.length + t.size = N := by rw [HTZ.out]; exact HNN.out.symm
      have c01 : w6.drew.cell? ⟨g, 1, none⟩ = some (.slice A out.length c) := c1
      clear c0 c1 c2 dB hbi hw5
      go_wp2_with (at_builtin; refine wpList_append_S rfl (.tmp 52) (.tmp 53) 102 9 rfl B 5 i0 (.int .u8 0) 1 1 Tryz.underlying102 hi hz0 hz1 hz2 rfl (by decide) (.slice A out.length c) out.length (bytes out) rfl ho7 (bytes_one _) t.size (byteCells t) (Src.ofString _ Tryz.underlying9 _) N hTN (bytes (out ++ lst t)) (by rw [bytes_append]; rfl) (by unfold maxLen; omega) (by omega) hB7 ?_; intro A' c' w8 ho8 hg8 ha8; have B8 := hb7.grown hg8 nA2; have q1 := B8.free 1; have e1 : w8.cell? ⟨g, 1, none⟩ = some (.slice A out.length c) := (by rw [B8.cell]; rfl))
      go_end0
      obtain ⟨hP1, hP2⟩ := RdI.push H5.out.drew (xs := lst t) (by rw [lst_length, HNN.out, HTZ.out]) ho8 hg8 ha8
      rw [HR4.out, ← HT.out]
      exact ⟨rfl, _, hP1, K5.out.trans (KF.fromDrew hP2)⟩
   ·rw [if_pos hnm] at hR
    subst hR
    have HEND := Lib.hid (show ∀ w', Keeps (fun x => x = gb) w2 w' → StepI w B g gb s most E v (.error 0) (.panicked (thrownI E 0)) w' from fun w' k => ⟨rfl, (K2.out.trans (KF.of_read (g := g) (v := v) k)).below H.out hB⟩)
    have hne : (((n ^^^ m : Nat) : Int) == 65535) = false := by
     rw [beq_eq_false_iff_ne]
     intro e
     exact hnm ((xor_ones n m hn).1 (by omega))
    clear hnm q3 q4
    refine wp_region_held_drew (S := (fun w' => w'.cell? ⟨0, 0, none⟩ = some (.iface 290 (.pointer (some (E 0)))))) (by kernel_rfl) ?_ (fun hHeld => ?_)
    ·exact dE
    refine opT 0 rfl ?_; refine opT 1 rfl ?_; refine opT 2 rfl ?_; refine opT 6 rfl ?_
    refine opD 3 rfl (fun K hK => ?_)
    go_simp
    (go_at_call 150; refine HG2.out.mono ?_; rintro e w3 ⟨hk3, he3⟩; rw [HM.out] at he3; obtain ⟨rfl, hR3⟩ := he3; have hx := i64_xor n m hn hm)
    refine hK.out _ _ ?_ (fun hHeld => ?_)
    ·exact (hE2.out.keeps hk3.fromDrew_ hGb HL.out).text
    clear hK K
    refine opT 4 rfl ?_; refine opT 5 rfl ?_
    refine opD 7 rfl (fun K hK => ?_)
    go_simp
    (go_at_call 175; refine (must_no g E _ 0).mono ?_; rintro e w4 ⟨rfl, rfl⟩; exact bodyPost_pan rfl (HEND.out _ hk3.fromDrew_))
end
end Go.Proofs.YtkegkelaffohjaaGreatDoor
