/- slices.stableCmpFunc, SortStableFunc at colors.Use: the walks. -/
import Derived.Test.YtlpcmeodbigpjaaDoorSymMerge
namespace Go.Proofs.YtlpcmeodbigpjaaDoor
open Go Go.RowKit
open Stab Col

/-- A list sorted, stably. -/
def StableTo (base g off n c : Nat) (l : List (Px × Nat)) (w0 wx : World) : Prop := ∃ l', SoR base g off n c w0 l' wx ∧ Same useKey l l' ∧ Srt useKey l'
def PhOne (base g off n c : Nat) (l : List (Px × Nat)) (w0 : World) (s7 s8 : Value) (wr : World) : Prop :=
  ∃ (i a : Nat) (D R : List (Px × Nat)), a = i * 20 ∧ s7 = .int .i64 a ∧ s8 = .int .i64 ((a : Int) + 20) ∧ D.length = a ∧ a ≤ n ∧ SoR base g off n c w0 (D ++ R) wr ∧ Same useKey l (D ++ R) ∧ Blks useKey 20 D
def PhTwo (base g off n c : Nat) (l : List (Px × Nat)) (w0 : World) (s6 : Value) (wr : World) : Prop :=
  ∃ (bs : Nat) (l1 : List (Px × Nat)), s6 = .int .i64 bs ∧ 20 ≤ bs ∧ bs ≤ 2097152 ∧ SoR base g off n c w0 l1 wr ∧ Same useKey l l1 ∧ Blks useKey bs l1
def PhIn (base g off n c bs : Nat) (l : List (Px × Nat)) (w0 : World) (s7 s8 : Value) (wr : World) : Prop :=
  ∃ (i a : Nat) (D R : List (Px × Nat)), a = i * (2 * bs) ∧ s7 = .int .i64 a ∧ s8 = .int .i64 ((a : Int) + 2 * bs) ∧ D.length = a ∧ a ≤ n ∧ SoR base g off n c w0 (D ++ R) wr ∧ Same useKey l (D ++ R) ∧ Blks useKey (2 * bs) D ∧ Blks useKey bs R
theorem symMerge_as (base g off n c : Nat) (hn : n ≤ 1048576) (P A B S : List (Px × Nat)) (w0 w : World) (a m b : Nat) (m' b' : Int) (hm' : m' = m) (hb' : b' = b) (ha : a = P.length) (hm : m = a + A.length) (hb : b = m + B.length) (hA0 : 0 < A.length) (hB0 : 0 < B.length) (hA : Srt useKey A) (hB : Srt useKey B) (hu : SmallU (A ++ B))
    (h : SoR base g off n c w0 (P ++ A ++ B ++ S) w) : Calls Tryd.prog 36 #[.slice (some ⟨g, off, none⟩) n c, .int .i64 a, .int .i64 m', .int .i64 b', .func (.func 18) #[] #[]] w fun e w' => e = .returned (.tuple #[]) ∧ SortedTo base g off n c P (A ++ B) S w0 w' := by
  subst hm' hb'
  exact symMerge_any base g off n c hn _ P A B S w0 w a m b (Nat.le_refl _) ha hm hb hA0 hB0 hA hB hu h
set_option maxRecDepth 100000 in
set_option maxHeartbeats 4000000 in
theorem stable_any (base g off n c : Nat) (l : List (Px × Nat)) (w0 w : World) (h : SoR base g off n c w0 l w) (hu : SmallU l) (hn : n ≤ 1048576) :
    Calls Tryd.prog 27 #[.slice (some ⟨g, off, none⟩) n c, .int .i64 n, cmpV] w fun e w' => e = .returned (.tuple #[]) ∧ StableTo base g off n c l w0 w' := by
  have HU := Lib.hid hu
  have H0 := Lib.hid (show PhOne base g off n c l w0 (.int .i64 0) (.int .i64 20) w from ⟨0, 0, [], l, by omega, rfl, rfl, rfl, Nat.zero_le _, h, Same.refl _, blks_nil _⟩)
  clear h hu
  unfold cmpV
  go_enter Tryd.func27, Tryd.ntmps27
  go_wp2
  go_loopw [7, 8] (fun s7 s8 wr => PhOne base g off n c l w0 s7 s8 wr) (fun _ s8 _ => n + 20 - (intOf s8).toNat)
  case atStart => exact H0.out
  case round =>
    clear H0
    obtain ⟨i, a, D, R, hi, rfl, rfl, hD, han, hR, hS, hB⟩ := hrel
    have hDR : D.length + R.length = n := by rw [← hR.len, List.length_append]
    have HR := Lib.hid hR
    have HS := Lib.hid hS
    have HB := Lib.hid hB
    have HD := Lib.hid hD
    have HI := Lib.hid hi
    clear hR hS hB hi
    by_cases hlt : (a : Int) + 20 ≤ (n : Int)
    · obtain ⟨L, R', hLR, hL⟩ : ∃ L R', R = L ++ R' ∧ L.length = 20 := ⟨R.take 20, R.drop 20, (List.take_append_drop _ _).symm, by rw [List.length_take]; omega⟩
      have HLR := Lib.hid hLR
      have HL := Lib.hid hL
      have HR1 := Lib.hid (show SoR base g off n c w0 (D ++ L ++ R') wr by have h := HR.out; rw [hLR] at h; simpa using h)
      have HU1 := Lib.hid (show SmallU L from fun z hz => HU.out z (HS.out.symm.mem (by rw [hLR]; exact List.mem_append_right _ (List.mem_append_left _ hz))))
      obtain ⟨b, hb⟩ : ∃ b, b = a + 20 := ⟨_, rfl⟩
      rw [show (a : Int) + 20 = (b : Int) by omega] at hlt ⊢
      have HBB := Lib.hid hb
      clear hLR hL hD hDR hb
      go_wp2_with fail
      refine (insSort_any base g off n c D L R' w0 wr a b HD.out.symm (by rw [HD.out, HL.out]; exact HBB.out) HR1.out HU1.out hn).mono ?_
      rintro e w1 ⟨rfl, L', hL', hs, ht⟩
      have hl' : L'.length = 20 := by
        have h1 := hL'.len
        have h2 := HR1.out.len
        have := HL.out
        simp only [List.length_append] at h1 h2
        omega
      have H1 := Lib.hid (show PhOne base g off n c l w0 (.int .i64 b) (.int .i64 ((b : Int) + 20)) w1 from
        ⟨i + 1, b, D ++ L', R', by have := HBB.out; have := HI.out; omega, rfl, rfl, by rw [List.length_append, HD.out, hl', HBB.out], by omega, hL', (by rw [HLR.out] at HS; have h := HS.out; rw [← List.append_assoc] at h; exact h.trans (((Same.refl D).append hs).append (Same.refl R'))), HB.out.snoc (m := i) (by rw [HD.out]; exact HI.out) ht (by omega)⟩)
      clear hL' hs ht hl'
      go_wp2
      go_roundw
      case rel => exact H1.out
      case measure => have := HBB.out; simp [intOf] <;> omega
    · have hDR2 := Lib.hid hDR
      have HU1 := Lib.hid (show SmallU R from fun z hz => HU.out z (HS.out.symm.mem (List.mem_append_right _ hz)))
      clear hD hDR
      obtain ⟨wo, rfl⟩ : ∃ wo : World, wo = wr := ⟨_, rfl⟩
      go_wp2_with fail
      refine (insSort_any base g off n c D R [] w0 wo a n HD.out.symm (by have := hDR2.out; omega) (by simpa using HR.out) HU1.out hn).mono ?_
      rintro e w1 ⟨rfl, L', hL', hs, ht⟩
      have H2 := Lib.hid (show PhTwo base g off n c l w0 (.int .i64 20) w1 by
        have hl' : D.length + L'.length = n := by have h1 := hL'.len; simpa using h1
        refine ⟨20, D ++ L', rfl, by omega, by omega, by simpa using hL', HS.out.trans ((Same.refl D).append hs), HB.out.snoc (m := i) (by rw [HD.out]; exact HI.out) ht (by have := HD.out; omega)⟩)
      clear hL' hs ht
      go_wp2
      go_loopw [6] (fun s6 wr => PhTwo base g off n c l w0 s6 wr) (fun s6 _ => n - (intOf s6).toNat)
      case atStart => exact H2.out
      case round =>
        clear H2
        obtain ⟨bs, l1, rfl, hbs, hbs2, hR, hS, hB⟩ := hrel
        have HR2 := Lib.hid hR
        have HS2 := Lib.hid hS
        have HB2 := Lib.hid hB
        clear hR hS hB
        by_cases hlt2 : bs < n
        · have H3 := Lib.hid (show PhIn base g off n c bs l w0 (.int .i64 0) (.int .i64 (2 * (bs : Int))) wr from ⟨0, 0, [], l1, by omega, rfl, by congr 1; omega, rfl, Nat.zero_le _, HR2.out, HS2.out, blks_nil _, HB2.out⟩)
          obtain ⟨wi, rfl⟩ : ∃ wi : World, wi = wr := ⟨_, rfl⟩
          go_wp2
          go_loopw [7, 8] (fun s7 s8 wr => PhIn base g off n c bs l w0 s7 s8 wr) (fun _ s8 _ => n + 2 * bs - (intOf s8).toNat)
          case atStart => exact H3.out
          case round =>
            clear H3
            obtain ⟨i2, a2, D2, R2, hi2, rfl, rfl, hD2, han2, hR2, hS2, hB3, hB4⟩ := hrel
            have hDR3 : D2.length + R2.length = n := by rw [← hR2.len, List.length_append]
            have HR3 := Lib.hid hR2
            have HS3 := Lib.hid hS2
            have HB3 := Lib.hid hB3
            have HB4 := Lib.hid hB4
            have HD2 := Lib.hid hD2
            have HI2 := Lib.hid hi2
            clear hR2 hS2 hB3 hB4 hi2
            by_cases hlt3 : (a2 : Int) + 2 * bs ≤ (n : Int)
            · obtain ⟨A, hA⟩ : ∃ A, A = R2.take bs := ⟨_, rfl⟩
              obtain ⟨B, hB⟩ : ∃ B, B = (R2.drop bs).take bs := ⟨_, rfl⟩
              obtain ⟨R', hR'⟩ : ∃ R', R' = (R2.drop bs).drop bs := ⟨_, rfl⟩
              have hAB : R2 = A ++ B ++ R' := by rw [hA, hB, hR', List.append_assoc, List.take_append_drop, List.take_append_drop]
              have hla : A.length = bs := by rw [hA, List.length_take]; omega
              have hlb : B.length = bs := by rw [hB, List.length_take, List.length_drop]; omega
              have HLL := Lib.hid (show A.length = bs ∧ B.length = bs from ⟨hla, hlb⟩)
              have HAB := Lib.hid hAB
              have HSA := Lib.hid (show Srt useKey A by rw [hA]; exact HB4.out.head)
              have HSB := Lib.hid (show Srt useKey B by rw [hB]; exact HB4.out.tail.head)
              have HSR := Lib.hid (show Blks useKey bs R' by rw [hR']; exact HB4.out.tail.tail)
              have HR4 := Lib.hid (show SoR base g off n c w0 (D2 ++ A ++ B ++ R') wr by have h := HR3.out; rw [hAB] at h; simpa using h)
              have HU4 := Lib.hid (show SmallU (A ++ B) from fun z hz => HU.out z (HS3.out.symm.mem (by rw [hAB]; exact List.mem_append_right _ (List.mem_append_left _ hz))))
              clear hA hB hR' hAB hla hlb hDR3 hD2
              go_wp2_with fail
              refine (symMerge_as base g off n c hn D2 A B R' w0 wr a2 (a2 + bs) (a2 + 2 * bs) _ _ (by omega) (by omega) HD2.out.symm (by rw [HLL.out.1]) (by rw [HLL.out.2]; omega) (by rw [HLL.out.1]; omega) (by rw [HLL.out.2]; omega) HSA.out HSB.out HU4.out HR4.out).mono ?_
              rintro e w1 ⟨rfl, C, hC, hs, ht⟩
              have hlc : C.length = 2 * bs := by
                have h1 := hC.len
                have h2 := HR4.out.len
                obtain ⟨e1, e2⟩ := HLL.out
                simp only [List.length_append] at h1 h2
                omega
              have H4 := Lib.hid (show PhIn base g off n c bs l w0 (.int .i64 ((a2 : Int) + 2 * bs)) (.int .i64 ((a2 : Int) + 2 * bs + 2 * bs)) w1 from
                ⟨i2 + 1, a2 + 2 * bs, D2 ++ C, R', by rw [HI2.out, Nat.add_mul, Nat.one_mul], by first | (congr 1; done) | (congr 1; omega), by first | (congr 1; done) | (congr 1; omega), by rw [List.length_append, HD2.out, hlc], by omega, hC, by
                  have h := HS3.out
                  rw [HAB.out, ← List.append_assoc] at h
                  exact h.trans (((Same.refl D2).append hs).append (Same.refl R')), HB3.out.snoc (m := i2) (by rw [HD2.out]; exact HI2.out) ht (by omega), HSR.out⟩)
              clear hC hs ht hlc
              go_wp2
              go_roundw
              case rel => exact H4.out
              case measure => simp [intOf] <;> omega
            · have HDR3 := Lib.hid hDR3
              have HEQ := Lib.hid (show ∀ (C : List (Px × Nat)) (wx : World), SoR base g off n c w0 (D2 ++ C) wx → Same useKey R2 C → Srt useKey C → PhTwo base g off n c l w0 (.int .i64 ((bs : Int) * 2)) wx from fun C wx h1 h2 h3 =>
                ⟨2 * bs, D2 ++ C, by congr 1; omega, by omega, by omega, h1, HS3.out.trans ((Same.refl D2).append h2), HB3.out.snoc (m := i2) (by rw [HD2.out]; exact HI2.out) h3 (by
                  have h4 := h1.len
                  rw [List.length_append] at h4
                  omega)⟩)
              clear hDR3 hD2
              obtain ⟨wj, rfl⟩ : ∃ wj : World, wj = wr := ⟨_, rfl⟩
              by_cases hm3 : (a2 : Int) + bs < (n : Int)
              · obtain ⟨A, hA⟩ : ∃ A, A = R2.take bs := ⟨_, rfl⟩
                obtain ⟨B, hB⟩ : ∃ B, B = R2.drop bs := ⟨_, rfl⟩
                have hAB : R2 = A ++ B := by rw [hA, hB, List.take_append_drop]
                have hla : A.length = bs := by have := HDR3.out; have := HD2.out; rw [hA, List.length_take]; omega
                have hlb : B.length = n - (a2 + bs) := by have := HDR3.out; have := HD2.out; rw [hB, List.length_drop]; omega
                have HLL := Lib.hid (show A.length = bs ∧ B.length = n - (a2 + bs) from ⟨hla, hlb⟩)
                have HSA := Lib.hid (show Srt useKey A by rw [hA]; exact HB4.out.head)
                have HSB := Lib.hid (show Srt useKey B by rw [hB]; exact HB4.out.tail.small (by rw [← hB]; omega))
                have HR4 := Lib.hid (show SoR base g off n c w0 (D2 ++ A ++ B ++ []) wj by have h := HR3.out; rw [hAB] at h; simpa using h)
                have HU4 := Lib.hid (show SmallU (A ++ B) from fun z hz => HU.out z (HS3.out.symm.mem (by rw [hAB]; exact List.mem_append_right _ hz)))
                have HAB := Lib.hid hAB
                clear hA hB hAB hla hlb
                go_wp2_with fail
                refine (symMerge_as base g off n c hn D2 A B [] w0 wj a2 (a2 + bs) n _ _ (by omega) (by omega) HD2.out.symm (by rw [HLL.out.1]) (by rw [HLL.out.2]; omega) (by rw [HLL.out.1]; omega) (by rw [HLL.out.2]; omega) HSA.out HSB.out HU4.out HR4.out).mono ?_
                rintro e w1 ⟨rfl, C, hC, hs, ht⟩
                have H5 := Lib.hid (HEQ.out C w1 (by simpa using hC) (by rw [HAB.out]; exact hs) ht)
                clear hC hs ht
                go_wp2
                go_roundw
                case rel => exact H5.out
                case measure => simp [intOf] <;> omega
              · have H5 := Lib.hid (HEQ.out R2 wj HR3.out (Same.refl _) (HB4.out.small (by have := HDR3.out; have := HD2.out; omega)))
                go_wp2
                go_roundw
                case rel => exact H5.out
                case measure => simp [intOf] <;> omega
        · have HEND := Lib.hid (show StableTo base g off n c l w0 wr from ⟨l1, HR2.out, HS2.out, HB2.out.small (by rw [HR2.out.len]; omega)⟩)
          go_wp2
          go_end0
          exact ⟨rfl, HEND.out⟩
theorem sortStable_any (base g off n c : Nat) (l : List (Px × Nat)) (w0 w : World) (h : SoR base g off n c w0 l w) (hu : SmallU l) (hn : n ≤ 1048576) :
    Calls Tryd.prog 17 #[.slice (some ⟨g, off, none⟩) n c, .func (.func 18) #[] #[]] w fun e w' => e = .returned (.tuple #[]) ∧ StableTo base g off n c l w0 w' := by
  go_enter Tryd.func17, Tryd.ntmps17
  go_wp2_with fail
  refine (stable_any base g off n c l w0 w h hu hn).mono ?_
  rintro e w1 ⟨rfl, hs⟩
  have HS := Lib.hid hs
  clear hs
  go_wp2
  go_end0
  exact ⟨rfl, HS.out⟩
end Go.Proofs.YtlpcmeodbigpjaaDoor
