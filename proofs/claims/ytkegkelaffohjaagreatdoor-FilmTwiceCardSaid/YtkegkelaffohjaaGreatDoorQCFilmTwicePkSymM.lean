/- slices.symMergeCmpFunc at huff.pack: the walk. Printed by mksymg.py. -/
import Derived.Test.YtkegkelaffohjaaGreatDoorQCFilmTwicePkSymO
import Derived.Deep.Cut
import Derived.Deep.DeepCutAuto
namespace Go.Proofs.YtkegkelaffohjaaGreatDoor
open Go Go.RowKit
open Stab
def SeekS (A B : List PkV) (h i0 q0 i q : Nat) : Prop :=
 i0 ≤ i ∧ i ≤ q ∧ q ≤ q0 ∧ (i = i0 ∨ ∃ (h1 : i - 1 < A.length) (h2 : h - i < B.length), pkvKey A[i - 1] ≤ pkvKey B[h - i]) ∧ (q = q0 ∨ ∃ (h1 : q < A.length) (h2 : h - 1 - q < B.length), pkvKey B[h - 1 - q] < pkvKey A[q])
def SymOK (base g off n c N : Nat) : Prop := ∀ (P A B S : List PkV) (w0 w : World) (a m b : Nat), A.length + B.length ≤ N → a = P.length → m = a + A.length → b = m + B.length → 0 < A.length → 0 < B.length → Srt pkvKey A → Srt pkvKey B → SmallU (A ++ B) →
 SoP base g off n c w0 (P ++ A ++ B ++ S) w → Calls Tryz.prog 190 #[.slice (some ⟨g, off, none⟩) n c, .int .i64 a, .int .i64 m, .int .i64 b, cmpV] w fun e w' => e = .returned (.tuple #[]) ∧ SortedTo base g off n c P (A ++ B) S w0 w'
set_option maxRecDepth 100000 in
set_option maxHeartbeats 4000000 in
theorem symMerge_step (base g off n c N : Nat) (hn : n ≤ 1048576) (ih : SymOK base g off n c N) (P A B S : List PkV) (w0 w : World) (a m b : Nat) (hN : A.length + B.length ≤ N + 1) (ha : a = P.length) (hm : m = a + A.length) (hb : b = m + B.length) (hA1 : 2 ≤ A.length) (hB1 : 2 ≤ B.length)
  (hA : Srt pkvKey A) (hB : Srt pkvKey B) (hu : SmallU (A ++ B)) (h : SoP base g off n c w0 (P ++ A ++ B ++ S) w) :
  Calls Tryz.prog 190 #[.slice (some ⟨g, off, none⟩) n c, .int .i64 a, .int .i64 m, .int .i64 b, cmpV] w fun e w' => e = .returned (.tuple #[]) ∧ SortedTo base g off n c P (A ++ B) S w0 w' := by
 have hlen : P.length + A.length + B.length + S.length = n := by rw [← h.len]; simp only [List.length_append]
 have HS := Lib.hid h
 have HA := Lib.hid ha
 have HM := Lib.hid hm
 have HB := Lib.hid hb
 have HU := Lib.hid hu
 have HSA := Lib.hid hA
 have HSB := Lib.hid hB
 have HIH := Lib.hid ih
 have HNN := Lib.hid hN
 obtain ⟨M, hM⟩ : ∃ M, M = (a + b) / 2 := ⟨_, rfl⟩
 obtain ⟨hf, hhf⟩ : ∃ hf, M = a + hf := ⟨M - a, by omega⟩
 have HF := Lib.hid hhf
 obtain ⟨i0, hi0⟩ : ∃ i0, i0 = if M < m then M + m - b - a else 0 := ⟨_, rfl⟩
 obtain ⟨q0, hq0⟩ : ∃ q0, q0 = if M < m then hf else A.length := ⟨_, rfl⟩
 have hiq : i0 ≤ q0 ∧ q0 ≤ A.length ∧ q0 ≤ hf ∧ hf ≤ i0 + B.length ∧ i0 ≤ hf ∧ (i0 = 0 ∨ hf = i0 + B.length) ∧ (q0 = A.length ∨ q0 = hf) := by
  by_cases hc : M < m
  ·rw [if_pos hc] at hi0 hq0; omega
  ·rw [if_neg hc] at hi0 hq0; omega
 have HIQ := Lib.hid hiq
 have hh : ((a : Int) + b) / 2 = (M : Int) := by omega
 obtain ⟨s0, hs0⟩ : ∃ s0, s0 = a + i0 := ⟨_, rfl⟩
 obtain ⟨r0, hr0⟩ : ∃ r0, r0 = a + q0 := ⟨_, rfl⟩
 have HI0 := Lib.hid (show (M < m → (s0 : Int) = (M : Int) + m - b ∧ r0 = M) ∧ (¬ M < m → s0 = a ∧ r0 = m) by
  constructor
  ·intro hc; rw [if_pos hc] at hi0 hq0; omega
  ·intro hc; rw [if_neg hc] at hi0 hq0; omega)
 have HS0 := Lib.hid hs0
 have HR0 := Lib.hid hr0
 have hbn : b ≤ n := by omega
 have hmb : m < b := by omega
 have ham : a < m := by omega
 have hMa : a < M := by omega
 have hMb : M < b := by omega
 have he0 : ((m : Int) - a == 1) = false := by simp; omega
 have he1 : ((b : Int) - m == 1) = false := by simp; omega
 have HMM := Lib.hid hM
 clear h hlen ha hm hb hu hA hB ih hM hhf hi0 hq0 hiq hs0 hr0 hN hA1 hB1
 unfold cmpV
 go_enter Tryz.func190, Tryz.ntmps190
 go_upto_if 140 with fail
 go_cut [20, 21] (fun sv rv wx => sv = .int .i64 (s0 : Int) ∧ rv = .int .i64 (r0 : Int) ∧ w = wx)
 case first => as_aux_lemma =>
  by_cases hc : M < m
  ·have e1 := (HI0.out.1 hc).1
   have E1 := Lib.hid e1
   have E2 := Lib.hid (HI0.out.1 hc).2
   clear e1
   go_wp2
   go_meet
   exact ⟨by rw [E1.out], by rw [E2.out], rfl⟩
  ·have E1 := Lib.hid (HI0.out.2 hc).1
   have E2 := Lib.hid (HI0.out.2 hc).2
   go_wp2
   go_meet
   exact ⟨by rw [E1.out], by rw [E2.out], rfl⟩
 case rest => as_aux_lemma =>
  obtain ⟨rfl, rfl, rfl⟩ := hcut
  have H0 := Lib.hid (show SeekS A B hf i0 q0 i0 q0 from ⟨Nat.le_refl _, HIQ.out.1, Nat.le_refl _, .inl rfl, .inl rfl⟩)
  go_wp2
  go_loopw [20, 21] (fun sv rv wx => ∃ i q I J : Nat, sv = .int .i64 I ∧ rv = .int .i64 J ∧ I = a + i ∧ J = a + q ∧ SeekS A B hf i0 q0 i q ∧ SoP base g off n c w0 (P ++ A ++ B ++ S) wx) (fun sv rv _ => (intOf rv).toNat - (intOf sv).toNat)
  case atStart => exact ⟨i0, q0, s0, r0, rfl, rfl, HS0.out, HR0.out, H0.out, HS.out⟩
  case round =>
   clear H0
   obtain ⟨i, q, I, J, rfl, rfl, hI, hJ, hsk, hR⟩ := hrel
   have HMC := Lib.hid hR
   have HSK := Lib.hid hsk
   have HI := Lib.hid hI
   have HJ := Lib.hid hJ
   obtain ⟨hk1, hk2, hk3, _, _⟩ := hsk
   clear hR
   by_cases hlt : I < J
   ·as_aux_lemma =>
    obtain ⟨H, hH⟩ : ∃ H, H = (I + J) / 2 := ⟨_, rfl⟩
    have hh2 : ((I : Int) + J) / 2 = (H : Int) := by omega
    obtain ⟨t, ht⟩ : ∃ t, H = a + t := ⟨H - a, by omega⟩
    have hit : i ≤ t ∧ t < q := by omega
    obtain ⟨e1, e2, e3, e4, e5, _, _⟩ := HIQ.out
    have htA : t < A.length := by omega
    have htB : hf - 1 - t < B.length := by omega
    obtain ⟨D, hD⟩ : ∃ D, D = m + (hf - 1 - t) := ⟨_, rfl⟩
    have hq1 : (M : Int) + m - 1 - H = (D : Int) := by have := HF.out; omega
    obtain ⟨x, hxe⟩ : ∃ x, x = A[t] := ⟨_, rfl⟩
    obtain ⟨y, hye⟩ : ∃ y, y = B[hf - 1 - t] := ⟨_, rfl⟩
    have HXE := Lib.hid hxe
    have HYE := Lib.hid hye
    have HUX := Lib.hid (show x.1 ≤ 1099511627776 from HU.out x (by rw [hxe]; exact List.mem_append_left _ (List.getElem_mem htA)))
    have HUY := Lib.hid (show y.1 ≤ 1099511627776 from HU.out y (by rw [hye]; exact List.mem_append_right _ (List.getElem_mem htB)))
    have HT := Lib.hid ht
    have HIT := Lib.hid hit
    have HHI := Lib.hid (show I ≤ H ∧ H < J by omega)
    obtain ⟨cx0, cx1⟩ := HMC.out.at D y (by
     rw [hye, hD, HM.out, HA.out, List.getElem?_append_left (by simp only [List.length_append]; omega), List.getElem?_append_right (by simp only [List.length_append]; omega)]
     rw [show P.length + A.length + (hf - 1 - t) - (P ++ A).length = hf - 1 - t by rw [List.length_append]; omega, List.getElem?_eq_getElem htB])
    obtain ⟨cy0, cy1⟩ := HMC.out.at H x (by
     rw [hxe, ht, HA.out, List.append_assoc, List.getElem?_append_left (by rw [List.length_append]; omega), List.getElem?_append_right (by omega), Nat.add_sub_cancel_left, List.getElem?_eq_getElem htA])
    have p0 : (0 : Int) ≤ (H : Int) := by omega
    have p1 : (H : Int) < (n : Int) := by omega
    have p2 : (0 : Int) ≤ (D : Int) := by omega
    have p3 : (D : Int) < (n : Int) := by have := HB.out; omega
    have q1 : IntKind.i64.wrap ((M : Int) + m - 1 - H) = (D : Int) := by rw [hq1]; exact IntWalk.i64_in _ (by omega)
    have hbd : J ≤ n := by omega
    clear hI hJ hH ht hxe hye hD hit e1 e2 e3 e4 e5 hk1 hk2 hk3 hq1
    go_wp2_with fail
    refine wp_region_held_drew (S := (fun w' => w'.cell? ⟨g, off + D * 2, none⟩ = some (.int .i64 y.1) ∧ w'.cell? ⟨g, off + D * 2 + 1, none⟩ = some (.slice y.A y.sy.length y.c) ∧ w'.cell? ⟨g, off + H * 2, none⟩ = some (.int .i64 x.1) ∧ w'.cell? ⟨g, off + H * 2 + 1, none⟩ = some (.slice x.A x.sy.length x.c))) (by kernel_rfl) ?_ (fun hHeld => ?_)
    ·exact ⟨cx0, cx1, cy0, cy1⟩
    refine opT 0 rfl ?_; refine opT 1 rfl ?_; refine opT 2 rfl ?_; refine opT 3 rfl ?_; refine opT 4 rfl ?_; refine opT 5 rfl ?_; refine opT 6 rfl ?_; refine opT 7 rfl ?_; refine opT 8 rfl ?_; refine opT 9 rfl ?_; refine opT 10 rfl ?_
    refine opD 11 rfl (fun K hK => ?_)
    go_simp
    (go_at_call 171; refine (cmpUse_any y x wr.drew HUY.out HUX.out).mono ?_; rintro e wC ⟨zc, rfl, hzc, hbC⟩; have HZC := Lib.hid hzc; clear hzc)
    refine hK.out _ _ ?_ (fun hHeld => ?_)
    ·exact ⟨bkeep (Below.fromDrew hbC) cx0, bkeep (Below.fromDrew hbC) cx1, bkeep (Below.fromDrew hbC) cy0, bkeep (Below.fromDrew hbC) cy1⟩
    clear hK K
    (try simp only [Act.put, nz1, nz2, nz3, nz4, nz5, nz6])
    refine opT 12 rfl ?_; refine opT 13 rfl ?_
    refine wpAnyH_done (by kernel_rfl) ?_ _
    have HM2 := Lib.hid (HMC.out.below (Below.fromDrew hbC))
    clear cx0 cx1 cy0 cy1 hbC q1
    rcases HZC.out with ⟨hc, hcc⟩ | ⟨hc, hcc⟩
    ·have HC2 := Lib.hid (show decide (zc < 0) = true from decide_eq_true hc)
     go_wp2
     ·have h : (!decide (zc < 0)) = true := by assumption
      rw [HC2.out] at h
      cases h
     go_roundw
     case rel => exact ⟨i, t, I, H, rfl, rfl, HI.out, HT.out, ⟨HSK.out.1, HIT.out.1, by have := HIT.out.2; have := HSK.out.2.2.1; omega, HSK.out.2.2.2.1, .inr ⟨htA, htB, by rw [← HXE.out, ← HYE.out]; unfold pkvKey; omega⟩⟩, HM2.out⟩
     case measure => have := HHI.out; simp [intOf] <;> omega
    ·have HC2 := Lib.hid (show decide (zc < 0) = false from decide_eq_false hc)
     go_wp2
     rotate_left
     ·have h : (!decide (zc < 0)) = false := by assumption
      rw [HC2.out] at h
      cases h
     go_roundw
     case rel => exact ⟨t + 1, q, H + 1, J, by congr 1, rfl, by rw [HT.out]; rfl, HJ.out, ⟨by have := HIT.out.1; have := HSK.out.1; omega, HIT.out.2, HSK.out.2.2.1, .inr ⟨htA, by rw [show hf - (t + 1) = hf - 1 - t by omega]; exact htB, by
      have e : pkvKey A[t] ≤ pkvKey B[hf - 1 - t] := by rw [← HXE.out, ← HYE.out]; unfold pkvKey; omega
      simpa only [Nat.add_sub_cancel, show hf - (t + 1) = hf - 1 - t by omega] using e⟩, HSK.out.2.2.2.2⟩, HM2.out⟩
     case measure => have := HHI.out; simp [intOf] <;> omega
   ·as_aux_lemma =>
    obtain rfl : i = q := by omega
    have hIJ : I = J := by omega
    subst hIJ
    obtain ⟨e1, e2, e3, e4, e5, e6, e7⟩ := HIQ.out
    have hHv := halves HSA.out HSB.out hf i (by omega) (by omega) (by omega)
     (by
      rcases HSK.out.2.2.2.1 with h | h
      ·rcases e6 with h6 | h6
       ·exact .inl (by omega)
       ·exact .inr (.inl (by omega))
      ·exact .inr (.inr h))
     (by
      rcases HSK.out.2.2.2.2 with h | h
      ·rcases e7 with h7 | h7
       ·exact .inl (by omega)
       ·exact .inr (.inl (by omega))
      ·exact .inr (.inr h))
    have HHV := Lib.hid hHv
    obtain ⟨A1, hA1⟩ : ∃ A1, A1 = A.take i := ⟨_, rfl⟩
    obtain ⟨A2, hA2⟩ : ∃ A2, A2 = A.drop i := ⟨_, rfl⟩
    obtain ⟨B1, hB1⟩ : ∃ B1, B1 = B.take (hf - i) := ⟨_, rfl⟩
    obtain ⟨B2, hB2⟩ : ∃ B2, B2 = B.drop (hf - i) := ⟨_, rfl⟩
    have hA12 : A = A1 ++ A2 := by rw [hA1, hA2, List.take_append_drop]
    have hB12 : B = B1 ++ B2 := by rw [hB1, hB2, List.take_append_drop]
    have l1 : A1.length = i := by rw [hA1, List.length_take]; omega
    have l2 : B1.length = hf - i := by rw [hB1, List.length_take]; omega
    have l3 : A.length = A1.length + A2.length := by rw [hA12, List.length_append]
    have l4 : B.length = B1.length + B2.length := by rw [hB12, List.length_append]
    have HL := Lib.hid (show A1.length = i ∧ B1.length = hf - i ∧ A.length = A1.length + A2.length ∧ B.length = B1.length + B2.length ∧ i ≤ hf from ⟨l1, l2, l3, l4, by omega⟩)
    have HHV2 := Lib.hid (show Le pkvKey A1 B2 ∧ Lt pkvKey B1 A2 by rw [hA1, hB2, hB1, hA2]; exact HHV.out)
    have HAB := Lib.hid (show A = A1 ++ A2 ∧ B = B1 ++ B2 from ⟨hA12, hB12⟩)
    have HR1 := Lib.hid (show SoP base g off n c w0 ((P ++ A1) ++ A2 ++ B1 ++ (B2 ++ S)) wr by have h := HMC.out; rw [hA12, hB12] at h; simpa using h)
    obtain ⟨Ee, hE⟩ : ∃ Ee, Ee = m + B1.length := ⟨_, rfl⟩
    have hq3 : (M : Int) + m - I = (Ee : Int) := by have := HF.out; omega
    have q3 : IntKind.i64.wrap ((M : Int) + m - I) = (Ee : Int) := by rw [hq3]; exact IntWalk.i64_in _ (by have := HB.out; omega)
    have HE := Lib.hid hE
    have hEb : Ee ≤ b := by have := HB.out; omega
    have hIm : I ≤ m := by have := HM.out; omega
    clear hA1 hA2 hB1 hB2 hA12 hB12 l1 l2 l3 l4 hE hI hJ e1 e2 e3 e4 e5 e6 e7 hHv hk1 hk2 hk3
    obtain ⟨b1, hb1⟩ : ∃ b1, b1 = decide (I < m ∧ m < Ee) := ⟨_, rfl⟩
    obtain ⟨b2, hb2⟩ : ∃ b2, b2 = decide (a < I ∧ I < M) := ⟨_, rfl⟩
    obtain ⟨b3, hb3⟩ : ∃ b3, b3 = decide (M < Ee ∧ Ee < b) := ⟨_, rfl⟩
    have HB1 := Lib.hid hb1
    have HB2 := Lib.hid hb2
    have HB3 := Lib.hid hb3
    clear hb1 hb2 hb3
    obtain ⟨wo, rfl⟩ : ∃ wo : World, wo = wr := ⟨_, rfl⟩
    go_upto_region 39 with fail
    have q4 : (M : Int) + m - I = (Ee : Int) := hq3
    try rw [hq3]
    clear q3 hq3 q4
    go_cut [185] (fun sv wx => sv = .bool b1 ∧ wo = wx)
    case first => as_aux_lemma =>
     by_cases h1 : I < m
     ·by_cases h2 : m < Ee
      ·have e0 : b1 = true := by rw [HB1.out]; exact decide_eq_true ⟨h1, h2⟩
       have d1 : decide (m < Ee) = true := decide_eq_true h2
       subst e0
       go_wp2_with fail
       go_meet
       exact ⟨rfl, rfl⟩
      ·have e0 : b1 = false := by rw [HB1.out]; exact decide_eq_false (fun h => h2 h.2)
       have d1 : decide (m < Ee) = false := decide_eq_false h2
       subst e0
       go_wp2_with fail
       go_meet
       exact ⟨rfl, rfl⟩
     ·have e0 : b1 = false := by rw [HB1.out]; exact decide_eq_false (fun h => h1 h.1)
      have d1 : decide (I < m) = false := decide_eq_false h1
      subst e0
      go_wp2_with fail
      go_meet
      exact ⟨rfl, rfl⟩
    case rest => as_aux_lemma =>
     obtain ⟨rfl, rfl⟩ := hcut
     go_upto_if 185 with fail
     go_cut [191] (fun _ wx => SoP base g off n c w0 ((P ++ A1) ++ B1 ++ A2 ++ (B2 ++ S)) wx)
     case first => as_aux_lemma =>
      cases b1 with
      | false =>
       have h0 : ¬ (I < m ∧ m < Ee) := of_decide_eq_false HB1.out.symm
       have hz : A2 = [] ∨ B1 = [] := by
        obtain ⟨l1, l2, l3, l4, l5⟩ := HL.out
        have := HM.out
        have := HI.out
        have := HE.out
        by_cases h1 : I < m
        ·exact .inr (List.eq_nil_of_length_eq_zero (by omega))
        ·exact .inl (List.eq_nil_of_length_eq_zero (by omega))
       have HZ := Lib.hid hz
       clear hz
       go_wp2_with fail
       go_meet
       have h2 := HR1.out
       rcases HZ.out with h | h
       ·rw [h] at h2 ⊢; simpa using h2
       ·rw [h] at h2 ⊢; simpa using h2
      | true =>
       have h0 : I < m ∧ m < Ee := of_decide_eq_true HB1.out.symm
       obtain ⟨h01, h02⟩ := h0
       go_wp2_with fail
       refine (rotate_any base g off n c (P ++ A1) A2 B1 (B2 ++ S) _ w0 wo I m Ee (by obtain ⟨l1, l2, l3, l4, l5⟩ := HL.out; rw [List.length_append, l1, HI.out, HA.out]) (by obtain ⟨l1, l2, l3, l4, l5⟩ := HL.out; rw [List.length_append, HM.out, HA.out]; omega) (by obtain ⟨l1, l2, l3, l4, l5⟩ := HL.out; rw [List.length_append, HE.out, HM.out, HA.out]; omega) HR1.out (by obtain ⟨l1, l2, l3, l4, l5⟩ := HL.out; have := HM.out; have := HI.out; omega) (by have := HE.out; omega) hn).mono ?_
       rintro e w1 ⟨rfl, hS1⟩
       have HS1 := Lib.hid hS1
       clear hS1
       go_wp2_with fail
       go_meet
       exact HS1.out
     case rest => as_aux_lemma =>
      have HR2 := Lib.hid hcut
      obtain ⟨wp, rfl⟩ : ∃ wp : World, wp = wc := ⟨_, rfl⟩
      clear hcut
      go_upto_region 41 with fail
      go_cut [199] (fun sv wx => sv = .bool b2 ∧ wp = wx)
      case first => as_aux_lemma =>
       by_cases h1 : a < I
       ·by_cases h2 : I < M
        ·have e0 : b2 = true := by rw [HB2.out]; exact decide_eq_true ⟨h1, h2⟩
         have d1 : decide (I < M) = true := decide_eq_true h2
         subst e0
         go_wp2_with fail
         go_meet
         exact ⟨rfl, rfl⟩
        ·have e0 : b2 = false := by rw [HB2.out]; exact decide_eq_false (fun h => h2 h.2)
         have d1 : decide (I < M) = false := decide_eq_false h2
         subst e0
         go_wp2_with fail
         go_meet
         exact ⟨rfl, rfl⟩
       ·have e0 : b2 = false := by rw [HB2.out]; exact decide_eq_false (fun h => h1 h.1)
        have d1 : decide (a < I) = false := decide_eq_false h1
        subst e0
        go_wp2_with fail
        go_meet
        exact ⟨rfl, rfl⟩
      case rest => as_aux_lemma =>
       obtain ⟨rfl, rfl⟩ := hcut
       go_upto_if 199 with fail
       go_cut [205] (fun _ wx => SortedTo base g off n c P (A1 ++ B1) (A2 ++ B2 ++ S) w0 wx)
       case first => as_aux_lemma =>
        have HSA1 := Lib.hid (show Srt pkvKey A1 from (srt_append.1 (HAB.out.1 ▸ HSA.out)).1)
        have HSB1 := Lib.hid (show Srt pkvKey B1 from (srt_append.1 (HAB.out.2 ▸ HSB.out)).1)
        have HR3 := Lib.hid (show SoP base g off n c w0 (P ++ A1 ++ B1 ++ (A2 ++ B2 ++ S)) wp by have h := HR2.out; simpa using h)
        cases b2 with
        | false =>
         have h0 : ¬ (a < I ∧ I < M) := of_decide_eq_false HB2.out.symm
         have hz : A1 = [] ∨ B1 = [] := by
          obtain ⟨l1, l2, l3, l4, l5⟩ := HL.out
          have := HF.out
          have := HI.out
          by_cases h1 : a < I
          ·exact .inr (List.eq_nil_of_length_eq_zero (by omega))
          ·exact .inl (List.eq_nil_of_length_eq_zero (by omega))
         have HZ := Lib.hid hz
         clear hz
         go_wp2_with fail
         go_meet
         refine ⟨A1 ++ B1, by have h := HR3.out; simpa using h, Same.refl _, ?_⟩
         rcases HZ.out with h | h
         ·rw [h]; exact HSB1.out
         ·rw [h, List.append_nil]; exact HSA1.out
        | true =>
         have h0 : a < I ∧ I < M := of_decide_eq_true HB2.out.symm
         obtain ⟨h01, h02⟩ := h0
         have HU1 := Lib.hid (show SmallU (A1 ++ B1) from fun z hz => HU.out z (by
          rw [HAB.out.1, HAB.out.2]
          rcases List.mem_append.1 hz with h | h
          ·exact List.mem_append_left _ (List.mem_append_left _ h)
          ·exact List.mem_append_right _ (List.mem_append_left _ h)))
         go_wp2_with fail
         refine (HIH.out P A1 B1 (A2 ++ B2 ++ S) w0 wp a I M (by obtain ⟨l1, l2, l3, l4, l5⟩ := HL.out; have := HNN.out; have := HF.out; have := HM.out; have := HB.out; omega) HA.out (by rw [HL.out.1]; exact HI.out) (by obtain ⟨l1, l2, l3, l4, l5⟩ := HL.out; have := HF.out; have := HI.out; omega) (by obtain ⟨l1, l2, l3, l4, l5⟩ := HL.out; have := HI.out; omega) (by obtain ⟨l1, l2, l3, l4, l5⟩ := HL.out; have := HF.out; have := HI.out; omega) HSA1.out HSB1.out HU1.out HR3.out).mono ?_
         rintro e w1 ⟨rfl, hS1⟩
         have HS1 := Lib.hid hS1
         clear hS1
         go_wp2_with fail
         go_meet
         exact HS1.out
       case rest => as_aux_lemma =>
        obtain ⟨C1, hC1, hs1, ht1⟩ := hcut
        have HC1 := Lib.hid (show SoP base g off n c w0 (P ++ C1 ++ A2 ++ B2 ++ S) wc by simpa using hC1)
        have hlc : C1.length = A1.length + B1.length := by
         have h1 := hC1.len
         have h2 := HR2.out.len
         simp only [List.length_append] at h1 h2
         omega
        have HLC := Lib.hid hlc
        have HS1 := Lib.hid hs1
        have HT1 := Lib.hid ht1
        obtain ⟨wq, rfl⟩ : ∃ wq : World, wq = wc := ⟨_, rfl⟩
        clear hC1 hs1 ht1 hlc
        go_upto_region 43 with fail
        go_cut [213] (fun sv wx => sv = .bool b3 ∧ wq = wx)
        case first => as_aux_lemma =>
         by_cases h1 : M < Ee
         ·by_cases h2 : Ee < b
          ·have e0 : b3 = true := by rw [HB3.out]; exact decide_eq_true ⟨h1, h2⟩
           have d1 : decide (Ee < b) = true := decide_eq_true h2
           subst e0
           go_wp2_with fail
           go_meet
           exact ⟨rfl, rfl⟩
          ·have e0 : b3 = false := by rw [HB3.out]; exact decide_eq_false (fun h => h2 h.2)
           have d1 : decide (Ee < b) = false := decide_eq_false h2
           subst e0
           go_wp2_with fail
           go_meet
           exact ⟨rfl, rfl⟩
         ·have e0 : b3 = false := by rw [HB3.out]; exact decide_eq_false (fun h => h1 h.1)
          have d1 : decide (M < Ee) = false := decide_eq_false h1
          subst e0
          go_wp2_with fail
          go_meet
          exact ⟨rfl, rfl⟩
        case rest => as_aux_lemma =>
         obtain ⟨rfl, rfl⟩ := hcut
         go_upto_if 213 with fail
         have HSA2 := Lib.hid (show Srt pkvKey A2 from (srt_append.1 (HAB.out.1 ▸ HSA.out)).2.1)
         have HSB2 := Lib.hid (show Srt pkvKey B2 from (srt_append.1 (HAB.out.2 ▸ HSB.out)).2.1)
         have HFIN := Lib.hid (show ∀ C2, Same pkvKey (A2 ++ B2) C2 → Srt pkvKey C2 → Same pkvKey (A ++ B) (C1 ++ C2) ∧ Srt pkvKey (C1 ++ C2) from fun C2 h1 h2 => by
          have hSA := HSA.out
          have hSB := HSB.out
          rw [HAB.out.1] at hSA
          rw [HAB.out.2] at hSB
          have := merged hSA hSB HHV2.out.1 HHV2.out.2 HS1.out HT1.out h1 h2
          rw [← HAB.out.1, ← HAB.out.2] at this
          exact this)
         cases b3 with
         | false =>
          have h0 : ¬ (M < Ee ∧ Ee < b) := of_decide_eq_false HB3.out.symm
          have hz : A2 = [] ∨ B2 = [] := by
           obtain ⟨l1, l2, l3, l4, l5⟩ := HL.out
           have := HF.out
           have := HM.out
           have := HE.out
           have := HB.out
           by_cases h1 : M < Ee
           ·exact .inr (List.eq_nil_of_length_eq_zero (by omega))
           ·exact .inl (List.eq_nil_of_length_eq_zero (by omega))
          have HZ := Lib.hid hz
          clear hz
          go_wp2
          go_end0
          refine ⟨rfl, ?_⟩
          have hs2 : Srt pkvKey (A2 ++ B2) := by
           rcases HZ.out with h | h
           ·rw [h]; exact HSB2.out
           ·rw [h, List.append_nil]; exact HSA2.out
          obtain ⟨f1, f2⟩ := HFIN.out (A2 ++ B2) (Same.refl _) hs2
          exact ⟨C1 ++ (A2 ++ B2), by have h := HC1.out; simpa using h, f1, f2⟩
         | true =>
          have h0 : M < Ee ∧ Ee < b := of_decide_eq_true HB3.out.symm
          obtain ⟨h01, h02⟩ := h0
          have HU2 := Lib.hid (show SmallU (A2 ++ B2) from fun z hz => HU.out z (by
           rw [HAB.out.1, HAB.out.2]
           rcases List.mem_append.1 hz with h | h
           ·exact List.mem_append_left _ (List.mem_append_right _ h)
           ·exact List.mem_append_right _ (List.mem_append_right _ h)))
          go_wp2_with fail
          refine (HIH.out (P ++ C1) A2 B2 S w0 wq M Ee b (by obtain ⟨l1, l2, l3, l4, l5⟩ := HL.out; have := HNN.out; have := HF.out; have := HM.out; have := HB.out; omega) (by obtain ⟨l1, l2, l3, l4, l5⟩ := HL.out; rw [List.length_append, HLC.out, HF.out, HA.out]; omega) (by obtain ⟨l1, l2, l3, l4, l5⟩ := HL.out; have := HE.out; have := HF.out; have := HM.out; omega) (by obtain ⟨l1, l2, l3, l4, l5⟩ := HL.out; have := HE.out; have := HB.out; omega) (by obtain ⟨l1, l2, l3, l4, l5⟩ := HL.out; have := HE.out; have := HF.out; have := HM.out; omega) (by obtain ⟨l1, l2, l3, l4, l5⟩ := HL.out; have := HE.out; have := HB.out; omega) HSA2.out HSB2.out HU2.out HC1.out).mono ?_
          rintro e w1 ⟨rfl, hS1⟩
          have HS2 := Lib.hid hS1
          clear hS1
          go_wp2
          go_end0
          refine ⟨rfl, ?_⟩
          obtain ⟨C2, k1, k2, k3⟩ := HS2.out
          obtain ⟨f1, f2⟩ := HFIN.out C2 k2 k3
          exact ⟨C1 ++ C2, by simpa using k1, f1, f2⟩
theorem symMerge_any (base g off n c : Nat) (hn : n ≤ 1048576) : ∀ N, SymOK base g off n c N
 | 0 => fun P A B S w0 w a m b hN _ _ _ hA _ => by omega
 | N + 1 => fun P A B S w0 w a m b hN ha hm hb hA0 hB0 hA hB hu h => by
  by_cases h1 : A.length = 1
  ·obtain ⟨x, rfl⟩ : ∃ x, A = [x] := List.length_eq_one_iff.1 h1
   exact symFirst_any base g off n c P B S x w0 w a m b ha hm hb hB0 h (by simpa using hu) hB hn
  ·by_cases h2 : B.length = 1
   ·obtain ⟨y, rfl⟩ : ∃ y, B = [y] := List.length_eq_one_iff.1 h2
    exact symLast_any base g off n c P A S y w0 w a m b ha hm hb h1 hA0 h hu hA hn
   ·exact symMerge_step base g off n c N hn (symMerge_any base g off n c hn N) P A B S w0 w a m b hN ha hm hb (by omega) (by omega) hA hB hu h
end Go.Proofs.YtkegkelaffohjaaGreatDoor
