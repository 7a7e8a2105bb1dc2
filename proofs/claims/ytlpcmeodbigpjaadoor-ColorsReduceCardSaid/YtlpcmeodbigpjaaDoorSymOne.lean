/- slices.symMergeCmpFunc at colors.Use, where one part is one element: the walks. Printed by mksym.py. -/
import Derived.Test.YtlpcmeodbigpjaaDoorInsSort
namespace Go.Proofs.YtlpcmeodbigpjaaDoor
open Go Go.RowKit
open Stab Col

/-- How far the search for one element's place has come: the first of those that are not less; the first of those that are greater. -/
def SeekA (B : List (Px × Nat)) (x : Px × Nat) (lo hi : Nat) : Prop := (lo = 0 ∨ ∃ h1 : lo - 1 < B.length, useKey B[lo - 1] ≤ useKey x - 1) ∧ (hi = B.length ∨ ∃ h1 : hi < B.length, useKey x ≤ useKey B[hi])
def SeekB (A : List (Px × Nat)) (y : Px × Nat) (lo hi : Nat) : Prop := (lo = 0 ∨ ∃ h1 : lo - 1 < A.length, useKey A[lo - 1] ≤ useKey y) ∧ (hi = A.length ∨ ∃ h1 : hi < A.length, useKey y + 1 ≤ useKey A[hi])
set_option maxRecDepth 100000 in
set_option maxHeartbeats 2000000 in
theorem symFirst_any (base g off n c : Nat) (P B S : List (Px × Nat)) (x : Px × Nat) (w0 w : World) (a m b : Nat) (ha : a = P.length) (hm : m = a + 1) (hb : b = m + B.length) (hB0 : 0 < B.length) (h : SoR base g off n c w0 (P ++ [x] ++ B ++ S) w) (hu : SmallU (x :: B)) (hB : Srt useKey B) (hn : n ≤ 1048576) :
    Calls Tryd.prog 36 #[.slice (some ⟨g, off, none⟩) n c, .int .i64 a, .int .i64 m, .int .i64 b, cmpV] w
      fun e w' => e = .returned (.tuple #[]) ∧ SortedTo base g off n c P ([x] ++ B) S w0 w' := by
  have hlen : P.length + 1 + B.length + S.length = n := by rw [← h.len]; simp only [List.length_append, List.length_singleton]
  have HS := Lib.hid (show SoR base g off n c w0 (mov P x B S 0) w by rw [mov_zero]; simpa using h)
  have HA := Lib.hid ha
  have HM := Lib.hid hm
  have HB := Lib.hid hb
  have HU := Lib.hid hu
  have HUXX := Lib.hid (hu x (List.mem_cons_self))
  have HSB := Lib.hid hB
  have hbn : b ≤ n := by omega
  have hmb : m < b := by omega
  have ham : a ≤ m := by omega
  have he : ((m : Int) - a == 1) = true := by simp; omega
  clear h hlen ha hm hb hu hB hB0
  unfold cmpV
  go_enter Tryd.func36, Tryd.ntmps36
  go_wp2
  go_loopw [10, 11] (fun i j wr => ∃ lo hi I J : Nat, i = .int .i64 I ∧ j = .int .i64 J ∧ I = m + lo ∧ J = m + hi ∧ lo ≤ hi ∧ hi ≤ B.length ∧ SeekA B x lo hi ∧ SoR base g off n c w0 (mov P x B S 0) wr) (fun i j _ => (intOf j).toNat - (intOf i).toNat)
  case atStart => exact ⟨0, B.length, m, b, rfl, rfl, rfl, HB.out, Nat.zero_le _, Nat.le_refl _, ⟨.inl rfl, .inl rfl⟩, HS.out⟩
  case round =>
    obtain ⟨lo, hi, I, J, rfl, rfl, hI, hJ, hlh, hhb, hsk, hR⟩ := hrel
    have HMC := Lib.hid hR
    have HSK := Lib.hid hsk
    have HI := Lib.hid hI
    have HJ := Lib.hid hJ
    clear hR hsk
    by_cases hlt : I < J
    · have b1 : J ≤ n := by have := HB.out; omega
      obtain ⟨H, hH⟩ : ∃ H, H = (I + J) / 2 := ⟨_, rfl⟩
      have hh : ((I : Int) + J) / 2 = (H : Int) := by omega
      have HH := Lib.hid hH
      have hH1 : I ≤ H ∧ H < J := by omega
      have HHI := Lib.hid hH1
      obtain ⟨t, ht⟩ : ∃ t, H = m + t := ⟨H - m, by omega⟩
      have HT := Lib.hid ht
      have htl : t < B.length := by omega
      obtain ⟨y, hye⟩ : ∃ y, y = B[t] := ⟨_, rfl⟩
      have HYE := Lib.hid hye
      have HUY := Lib.hid (show y.2 ≤ 1048576 from HU.out y (by rw [hye]; exact List.mem_cons_of_mem _ (List.getElem_mem htl)))
      obtain ⟨cx0, cx1, cx2, cx3, cx4⟩ := HMC.out.at a x (mov_fst P x B S 0 a (by omega) (by rw [HA.out]; rfl))
      obtain ⟨cy0, cy1, cy2, cy3, cy4⟩ := HMC.out.at H y (by
        rw [mov_zero, hye, ht, HM.out, HA.out, List.getElem?_append_right (by omega), show P.length + 1 + t - P.length = t + 1 by omega, List.getElem?_cons_succ, List.getElem?_append_left htl, List.getElem?_eq_getElem htl])
      have p0 : (0 : Int) ≤ (H : Int) := by omega
      have p1 : (H : Int) < (n : Int) := by omega
      have p2 : (0 : Int) ≤ (a : Int) := by omega
      have p3 : (a : Int) < (n : Int) := by omega
      clear hI hJ hH ht hye hH1
      go_wp2_with fail
      refine wp_region_held_drew (S := (fun w' => w'.cell? ⟨g, off + a * 5, none⟩ = some (.int .u8 x.1.r.toNat) ∧ w'.cell? ⟨g, off + a * 5 + 1, none⟩ = some (.int .u8 x.1.g.toNat) ∧ w'.cell? ⟨g, off + a * 5 + 2, none⟩ = some (.int .u8 x.1.b.toNat) ∧ w'.cell? ⟨g, off + a * 5 + 3, none⟩ = some (.int .u8 x.1.a.toNat) ∧ w'.cell? ⟨g, off + a * 5 + 4, none⟩ = some (.int .i64 x.2) ∧ w'.cell? ⟨g, off + H * 5, none⟩ = some (.int .u8 y.1.r.toNat) ∧ w'.cell? ⟨g, off + H * 5 + 1, none⟩ = some (.int .u8 y.1.g.toNat) ∧ w'.cell? ⟨g, off + H * 5 + 2, none⟩ = some (.int .u8 y.1.b.toNat) ∧ w'.cell? ⟨g, off + H * 5 + 3, none⟩ = some (.int .u8 y.1.a.toNat) ∧ w'.cell? ⟨g, off + H * 5 + 4, none⟩ = some (.int .i64 y.2))) (by kernel_rfl) ?_ (fun hHeld => ?_)
      · exact ⟨cx0, cx1, cx2, cx3, cx4, cy0, cy1, cy2, cy3, cy4⟩
      refine wpAnyH_take (i := 0) (v := ?_) rfl (by kernel_rfl) (by kernel_rfl) (by kernel_rfl) (fun _ _ _ h => h) (Or.inl ⟨by rfl, ?_⟩) (by assumption) ?_
      rotate_left
      · intro w hSw; (try dsimp only at hSw); go_simp <;> with_reducible rfl
      (try simp only [Act.put, List.getElem_toArray, List.getElem_cons_zero, List.setIfInBounds_toArray, List.set_cons_zero, List.set_cons_succ])
      refine wpAnyH_take (i := 1) (v := ?_) rfl (by kernel_rfl) (by kernel_rfl) (by kernel_rfl) (fun _ _ _ h => h) (Or.inl ⟨by rfl, ?_⟩) (by assumption) ?_
      rotate_left
      · intro w hSw; (try dsimp only at hSw); go_simp <;> with_reducible rfl
      (try simp only [Act.put, List.getElem_toArray, List.getElem_cons_zero, List.getElem_cons_succ, List.setIfInBounds_toArray, List.set_cons_zero, List.set_cons_succ])
      refine wpAnyH_take (i := 2) (v := ?_) rfl (by kernel_rfl) (by kernel_rfl) (by kernel_rfl) (fun _ _ _ h => h) (Or.inl ⟨by rfl, ?_⟩) (by assumption) ?_
      rotate_left
      · intro w hSw; (try dsimp only at hSw); go_simp <;> with_reducible rfl
      (try simp only [Act.put, List.getElem_toArray, List.getElem_cons_zero, List.getElem_cons_succ, List.setIfInBounds_toArray, List.set_cons_zero, List.set_cons_succ])
      refine wpAnyH_take (i := 3) (v := ?_) rfl (by kernel_rfl) (by kernel_rfl) (by kernel_rfl) (fun _ _ _ h => h) (Or.inl ⟨by rfl, ?_⟩) (by assumption) ?_
      rotate_left
      · intro w hSw; (try dsimp only at hSw); go_simp <;> with_reducible rfl
      (try simp only [Act.put, List.getElem_toArray, List.getElem_cons_zero, List.getElem_cons_succ, List.setIfInBounds_toArray, List.set_cons_zero, List.set_cons_succ])
      refine wpAnyH_take (i := 4) (v := ?_) rfl (by kernel_rfl) (by kernel_rfl) (by kernel_rfl) (fun _ _ _ h => h) (Or.inl ⟨by rfl, ?_⟩) (by assumption) ?_
      rotate_left
      · intro w hSw; (try dsimp only at hSw); go_simp <;> with_reducible rfl
      (try simp only [Act.put, List.getElem_toArray, List.getElem_cons_zero, List.getElem_cons_succ, List.setIfInBounds_toArray, List.set_cons_zero, List.set_cons_succ])
      refine wpAnyH_take (i := 5) (v := ?_) rfl (by kernel_rfl) (by kernel_rfl) (by kernel_rfl) (fun _ _ _ h => h) (Or.inl ⟨by rfl, ?_⟩) (by assumption) ?_
      rotate_left
      · intro w hSw; (try dsimp only at hSw); go_simp <;> with_reducible rfl
      (try simp only [Act.put, List.getElem_toArray, List.getElem_cons_zero, List.getElem_cons_succ, List.setIfInBounds_toArray, List.set_cons_zero, List.set_cons_succ])
      refine wpAnyH_take (i := 6) (v := ?_) rfl (by kernel_rfl) (by kernel_rfl) (by kernel_rfl) (fun _ _ _ h => h) (Or.inl ⟨by rfl, ?_⟩) (by assumption) ?_
      rotate_left
      · intro w hSw; (try dsimp only at hSw); go_simp <;> with_reducible rfl
      (try simp only [Act.put, List.getElem_toArray, List.getElem_cons_zero, List.getElem_cons_succ, List.setIfInBounds_toArray, List.set_cons_zero, List.set_cons_succ])
      refine wpAnyH_take (i := 7) (v := ?_) rfl (by kernel_rfl) (by kernel_rfl) (by kernel_rfl) (fun _ _ _ h => h) (Or.inl ⟨by rfl, ?_⟩) (by assumption) ?_
      rotate_left
      · intro w hSw; (try dsimp only at hSw); go_simp <;> with_reducible rfl
      (try simp only [Act.put, List.getElem_toArray, List.getElem_cons_zero, List.getElem_cons_succ, List.setIfInBounds_toArray, List.set_cons_zero, List.set_cons_succ])
      refine wpAnyH_take (i := 8) (v := ?_) rfl (by kernel_rfl) (by kernel_rfl) (by kernel_rfl) (fun _ _ _ h => h) (Or.inl ⟨by rfl, ?_⟩) (by assumption) ?_
      rotate_left
      · intro w hSw; (try dsimp only at hSw); go_simp <;> with_reducible rfl
      (try simp only [Act.put, List.getElem_toArray, List.getElem_cons_zero, List.getElem_cons_succ, List.setIfInBounds_toArray, List.set_cons_zero, List.set_cons_succ])
      refine wpAnyH_ready (rs := [9]) (by kernel_rfl) (by simp) ?_
      refine AllReadyH.cons rfl (fun K hK => ?_) AllReadyH.nil
      go_simp
      (go_at_call 18; refine (cmpUse_any y x wr.drew HUY.out HUXX.out).mono ?_; rintro e wC ⟨rfl, hbC⟩)
      refine hK.out _ _ ?_ (fun hHeld => ?_)
      · exact ⟨bkeep (Below.fromDrew hbC) cx0, bkeep (Below.fromDrew hbC) cx1, bkeep (Below.fromDrew hbC) cx2, bkeep (Below.fromDrew hbC) cx3, bkeep (Below.fromDrew hbC) cx4, bkeep (Below.fromDrew hbC) cy0, bkeep (Below.fromDrew hbC) cy1, bkeep (Below.fromDrew hbC) cy2, bkeep (Below.fromDrew hbC) cy3, bkeep (Below.fromDrew hbC) cy4⟩
      clear hK K
      (try simp only [Act.put, List.getElem_toArray, List.getElem_cons_zero, List.getElem_cons_succ, List.setIfInBounds_toArray, List.set_cons_zero, List.set_cons_succ])
      refine wpAnyH_take (i := 10) (v := ?_) rfl (by kernel_rfl) (by kernel_rfl) (by kernel_rfl) (fun _ _ _ h => h) (Or.inl ⟨by rfl, ?_⟩) (by assumption) ?_
      rotate_left
      · intro w hSw; (try dsimp only at hSw); go_simp <;> with_reducible rfl
      (try simp only [Act.put, List.getElem_toArray, List.getElem_cons_zero, List.getElem_cons_succ, List.setIfInBounds_toArray, List.set_cons_zero, List.set_cons_succ])
      refine wpAnyH_done (by kernel_rfl) ?_ _
      have HM2 := Lib.hid (HMC.out.below (Below.fromDrew hbC))
      clear cx0 cx1 cx2 cx3 cx4 cy0 cy1 cy2 cy3 cy4 hbC
      by_cases hc : (x.2 : Int) - y.2 < 0
      · go_wp2
        go_roundw
        case rel => exact ⟨t + 1, hi, H + 1, J, by congr 1, rfl, by rw [HT.out]; rfl, HJ.out, by have := HJ.out; have := HT.out; have := HHI.out; omega, hhb, ⟨.inr ⟨by omega, by show useKey B[t] ≤ _; rw [← HYE.out]; unfold useKey; omega⟩, HSK.out.2⟩, HM2.out⟩
        case measure => have := HHI.out; simp [intOf] <;> omega
      · go_wp2
        go_roundw
        case rel => exact ⟨lo, t, I, H, rfl, rfl, HI.out, HT.out, by have := HI.out; have := HT.out; have := HHI.out; omega, by omega, ⟨HSK.out.1, .inr ⟨htl, by rw [← HYE.out]; unfold useKey; omega⟩⟩, HM2.out⟩
        case measure => have := HHI.out; simp [intOf] <;> omega
    · obtain rfl : lo = hi := by omega
      have hIJ : I = J := by omega
      subst hIJ
      obtain ⟨I1, hI1⟩ : ∃ I1, I = I1 + 1 := ⟨I - 1, by have := HM.out; omega⟩
      have q9 : IntKind.i64.wrap ((I : Int) - 1) = (I1 : Int) := by rw [show (I : Int) - 1 = (I1 : Int) by omega]; exact IntWalk.i64_in _ (by have := HB.out; omega)
      have HI1 := Lib.hid hI1
      have q8 : (I : Int) - 1 = (I1 : Int) := by omega
      have bI : I ≤ n := by have := HB.out; omega
      clear hI hJ hI1
      obtain ⟨wo, rfl⟩ : ∃ wo : World, wo = wr := ⟨_, rfl⟩
      go_wp2
      go_loopw [13] (fun k wr => ∃ t K : Nat, k = .int .i64 K ∧ K = a + t ∧ t ≤ lo ∧ SoR base g off n c w0 (mov P x B S t) wr) (fun k _ => I - (intOf k).toNat)
      case atStart => exact ⟨0, a, rfl, rfl, Nat.zero_le _, HMC.out⟩
      case round =>
        obtain ⟨t, K, rfl, hK, htlo, hR⟩ := hrel
        clear HMC
        have HMC := Lib.hid hR
        have HKK := Lib.hid hK
        clear hR
        by_cases hlt2 : K < I1
        · have htl : t < B.length := by have := HI1.out; have := HI.out; have := HM.out; omega
          obtain ⟨y, hye⟩ : ∃ y, y = B[t] := ⟨_, rfl⟩
          have HYE := Lib.hid hye
          obtain ⟨K1, hK1⟩ : ∃ K1, K1 = K + 1 := ⟨_, rfl⟩
          have q1 : IntKind.i64.wrap ((K : Int) + 1) = (K1 : Int) := by rw [show (K : Int) + 1 = (K1 : Int) by omega]; exact IntWalk.i64_in _ (by have := HI1.out; omega)
          have hK1n : K1 < n := by have := HI1.out; omega
          obtain ⟨dx0, dx1, dx2, dx3, dx4⟩ := HMC.out.at K x (mov_fst P x B S t K (by omega) (by have := HA.out; have := HKK.out; omega))
          obtain ⟨dy0, dy1, dy2, dy3, dy4⟩ := HMC.out.at K1 y (by rw [HYE.out]; exact mov_snd P x B S t K1 htl (by have := HA.out; have := HKK.out; omega))
          obtain ⟨fx0, fx1, fx2, fx3, fx4⟩ := HMC.out.free K (by omega)
          obtain ⟨fy0, fy1, fy2, fy3, fy4⟩ := HMC.out.free K1 (by omega)
          have p0 : (0 : Int) ≤ (K : Int) := by omega
          have p1 : (K : Int) < (n : Int) := by omega
          have p2 : (0 : Int) ≤ (K1 : Int) := by omega
          have p3 : (K1 : Int) < (n : Int) := by omega
          have hne : K < K1 := by omega
          have htl2 : t + 1 ≤ lo := by have := HI1.out; have := HI.out; have := HM.out; omega
          have HK1 := Lib.hid hK1
          clear hye hK hK1
          go_wp2_with fail
          go_big_region
          have HSS := Lib.hid (HMC.out.swapC K K1 (by omega) (by omega) x y (mov P x B S (t + 1)) (by rw [HYE.out]; exact mov_step P x B S t K K1 htl (by rw [HKK.out, HA.out]) (by have := HA.out; have := HKK.out; have := HK1.out; omega))).drew
          clear dx0 dx1 dx2 dx3 dx4 dy0 dy1 dy2 dy3 dy4 fx0 fx1 fx2 fx3 fx4 fy0 fy1 fy2 fy3 fy4
          go_wp2
          go_roundw
          case rel => exact ⟨t + 1, K1, rfl, by rw [HK1.out, HKK.out]; rfl, htl2, HSS.out⟩
          case measure => have := HK1.out; have := HI1.out; simp [intOf] <;> omega
        · have htt : t = lo := by have := HI1.out; have := HI.out; have := HM.out; omega
          clear hK
          go_wp2
          refine bodyPost_ret (v := .tuple #[]) (by simp [results, Tryd.results36, go_sem]) rfl ?_
          obtain ⟨e1, e2⟩ := one_first HSB.out lo HSK.out.1 HSK.out.2
          refine ⟨rfl, B.take lo ++ x :: B.drop lo, ?_, e1, e2⟩
          have h := HMC.out
          rw [htt] at h
          unfold mov at h
          simpa using h
set_option maxRecDepth 100000 in
set_option maxHeartbeats 2000000 in
theorem symLast_any (base g off n c : Nat) (P A S : List (Px × Nat)) (y : Px × Nat) (w0 w : World) (a m b : Nat) (ha : a = P.length) (hm : m = a + A.length) (hb : b = m + 1) (hA1 : A.length ≠ 1) (hA0 : 0 < A.length) (h : SoR base g off n c w0 (P ++ A ++ [y] ++ S) w) (hu : SmallU (A ++ [y])) (hSA : Srt useKey A) (hn : n ≤ 1048576) :
    Calls Tryd.prog 36 #[.slice (some ⟨g, off, none⟩) n c, .int .i64 a, .int .i64 m, .int .i64 b, cmpV] w
      fun e w' => e = .returned (.tuple #[]) ∧ SortedTo base g off n c P (A ++ [y]) S w0 w' := by
  have hlen : P.length + A.length + 1 + S.length = n := by rw [← h.len]; simp only [List.length_append, List.length_singleton]
  have HS := Lib.hid (show SoR base g off n c w0 (mov P y A S A.length) w by rw [mov_all _ _ _ _ _ (Nat.le_refl _)]; simpa using h)
  have HA := Lib.hid ha
  have HM := Lib.hid hm
  have HB := Lib.hid hb
  have HU := Lib.hid hu
  have HUXX := Lib.hid (hu y (List.mem_append_right _ (List.mem_singleton.2 rfl)))
  have HSB := Lib.hid hSA
  have hbn : b ≤ n := by omega
  have hmb : m < b := by omega
  have ham : a < m := by omega
  have he0 : ((m : Int) - a == 1) = false := by simp; omega
  have he : ((b : Int) - m == 1) = true := by simp; omega
  clear h hlen ha hm hb hu hSA hA0 hA1
  unfold cmpV
  go_enter Tryd.func36, Tryd.ntmps36
  go_wp2
  go_loopw [14, 15] (fun i j wr => ∃ lo hi I J : Nat, i = .int .i64 I ∧ j = .int .i64 J ∧ I = a + lo ∧ J = a + hi ∧ lo ≤ hi ∧ hi ≤ A.length ∧ SeekB A y lo hi ∧ SoR base g off n c w0 (mov P y A S A.length) wr) (fun i j _ => (intOf j).toNat - (intOf i).toNat)
  case atStart => exact ⟨0, A.length, a, m, rfl, rfl, rfl, HM.out, Nat.zero_le _, Nat.le_refl _, ⟨.inl rfl, .inl rfl⟩, HS.out⟩
  case round =>
    obtain ⟨lo, hi, I, J, rfl, rfl, hI, hJ, hlh, hhb, hsk, hR⟩ := hrel
    have HMC := Lib.hid hR
    have HSK := Lib.hid hsk
    have HI := Lib.hid hI
    have HJ := Lib.hid hJ
    clear hR hsk
    by_cases hlt : I < J
    · have b1 : J ≤ n := by have := HM.out; omega
      obtain ⟨H, hH⟩ : ∃ H, H = (I + J) / 2 := ⟨_, rfl⟩
      have hh : ((I : Int) + J) / 2 = (H : Int) := by omega
      have hH1 : I ≤ H ∧ H < J := by omega
      have HHI := Lib.hid hH1
      obtain ⟨t, ht⟩ : ∃ t, H = a + t := ⟨H - a, by omega⟩
      have HT := Lib.hid ht
      have htl : t < A.length := by omega
      obtain ⟨x, hye⟩ : ∃ y, y = A[t] := ⟨_, rfl⟩
      have HYE := Lib.hid hye
      have HUY := Lib.hid (show x.2 ≤ 1048576 from HU.out x (by rw [hye]; exact List.mem_append_left _ (List.getElem_mem htl)))
      obtain ⟨cx0, cx1, cx2, cx3, cx4⟩ := HMC.out.at m y (mov_fst P y A S A.length m (Nat.le_refl _) (by rw [HM.out, HA.out]))
      obtain ⟨cy0, cy1, cy2, cy3, cy4⟩ := HMC.out.at H x (by
        rw [mov_all _ _ _ _ _ (Nat.le_refl _), hye, ht, HA.out, List.getElem?_append_left (by rw [List.length_append]; omega), List.getElem?_append_right (by omega), Nat.add_sub_cancel_left, List.getElem?_eq_getElem htl])
      have p0 : (0 : Int) ≤ (H : Int) := by omega
      have p1 : (H : Int) < (n : Int) := by omega
      have p2 : (0 : Int) ≤ (m : Int) := by omega
      have p3 : (m : Int) < (n : Int) := by omega
      clear hI hJ hH ht hye hH1
      go_wp2_with fail
      refine wp_region_held_drew (S := (fun w' => w'.cell? ⟨g, off + m * 5, none⟩ = some (.int .u8 y.1.r.toNat) ∧ w'.cell? ⟨g, off + m * 5 + 1, none⟩ = some (.int .u8 y.1.g.toNat) ∧ w'.cell? ⟨g, off + m * 5 + 2, none⟩ = some (.int .u8 y.1.b.toNat) ∧ w'.cell? ⟨g, off + m * 5 + 3, none⟩ = some (.int .u8 y.1.a.toNat) ∧ w'.cell? ⟨g, off + m * 5 + 4, none⟩ = some (.int .i64 y.2) ∧ w'.cell? ⟨g, off + H * 5, none⟩ = some (.int .u8 x.1.r.toNat) ∧ w'.cell? ⟨g, off + H * 5 + 1, none⟩ = some (.int .u8 x.1.g.toNat) ∧ w'.cell? ⟨g, off + H * 5 + 2, none⟩ = some (.int .u8 x.1.b.toNat) ∧ w'.cell? ⟨g, off + H * 5 + 3, none⟩ = some (.int .u8 x.1.a.toNat) ∧ w'.cell? ⟨g, off + H * 5 + 4, none⟩ = some (.int .i64 x.2))) (by kernel_rfl) ?_ (fun hHeld => ?_)
      · exact ⟨cx0, cx1, cx2, cx3, cx4, cy0, cy1, cy2, cy3, cy4⟩
      refine wpAnyH_take (i := 0) (v := ?_) rfl (by kernel_rfl) (by kernel_rfl) (by kernel_rfl) (fun _ _ _ h => h) (Or.inl ⟨by rfl, ?_⟩) (by assumption) ?_
      rotate_left
      · intro w hSw; (try dsimp only at hSw); go_simp <;> with_reducible rfl
      (try simp only [Act.put, List.getElem_toArray, List.getElem_cons_zero, List.setIfInBounds_toArray, List.set_cons_zero, List.set_cons_succ])
      refine wpAnyH_take (i := 1) (v := ?_) rfl (by kernel_rfl) (by kernel_rfl) (by kernel_rfl) (fun _ _ _ h => h) (Or.inl ⟨by rfl, ?_⟩) (by assumption) ?_
      rotate_left
      · intro w hSw; (try dsimp only at hSw); go_simp <;> with_reducible rfl
      (try simp only [Act.put, List.getElem_toArray, List.getElem_cons_zero, List.getElem_cons_succ, List.setIfInBounds_toArray, List.set_cons_zero, List.set_cons_succ])
      refine wpAnyH_take (i := 2) (v := ?_) rfl (by kernel_rfl) (by kernel_rfl) (by kernel_rfl) (fun _ _ _ h => h) (Or.inl ⟨by rfl, ?_⟩) (by assumption) ?_
      rotate_left
      · intro w hSw; (try dsimp only at hSw); go_simp <;> with_reducible rfl
      (try simp only [Act.put, List.getElem_toArray, List.getElem_cons_zero, List.getElem_cons_succ, List.setIfInBounds_toArray, List.set_cons_zero, List.set_cons_succ])
      refine wpAnyH_take (i := 3) (v := ?_) rfl (by kernel_rfl) (by kernel_rfl) (by kernel_rfl) (fun _ _ _ h => h) (Or.inl ⟨by rfl, ?_⟩) (by assumption) ?_
      rotate_left
      · intro w hSw; (try dsimp only at hSw); go_simp <;> with_reducible rfl
      (try simp only [Act.put, List.getElem_toArray, List.getElem_cons_zero, List.getElem_cons_succ, List.setIfInBounds_toArray, List.set_cons_zero, List.set_cons_succ])
      refine wpAnyH_take (i := 4) (v := ?_) rfl (by kernel_rfl) (by kernel_rfl) (by kernel_rfl) (fun _ _ _ h => h) (Or.inl ⟨by rfl, ?_⟩) (by assumption) ?_
      rotate_left
      · intro w hSw; (try dsimp only at hSw); go_simp <;> with_reducible rfl
      (try simp only [Act.put, List.getElem_toArray, List.getElem_cons_zero, List.getElem_cons_succ, List.setIfInBounds_toArray, List.set_cons_zero, List.set_cons_succ])
      refine wpAnyH_take (i := 5) (v := ?_) rfl (by kernel_rfl) (by kernel_rfl) (by kernel_rfl) (fun _ _ _ h => h) (Or.inl ⟨by rfl, ?_⟩) (by assumption) ?_
      rotate_left
      · intro w hSw; (try dsimp only at hSw); go_simp <;> with_reducible rfl
      (try simp only [Act.put, List.getElem_toArray, List.getElem_cons_zero, List.getElem_cons_succ, List.setIfInBounds_toArray, List.set_cons_zero, List.set_cons_succ])
      refine wpAnyH_take (i := 6) (v := ?_) rfl (by kernel_rfl) (by kernel_rfl) (by kernel_rfl) (fun _ _ _ h => h) (Or.inl ⟨by rfl, ?_⟩) (by assumption) ?_
      rotate_left
      · intro w hSw; (try dsimp only at hSw); go_simp <;> with_reducible rfl
      (try simp only [Act.put, List.getElem_toArray, List.getElem_cons_zero, List.getElem_cons_succ, List.setIfInBounds_toArray, List.set_cons_zero, List.set_cons_succ])
      refine wpAnyH_take (i := 7) (v := ?_) rfl (by kernel_rfl) (by kernel_rfl) (by kernel_rfl) (fun _ _ _ h => h) (Or.inl ⟨by rfl, ?_⟩) (by assumption) ?_
      rotate_left
      · intro w hSw; (try dsimp only at hSw); go_simp <;> with_reducible rfl
      (try simp only [Act.put, List.getElem_toArray, List.getElem_cons_zero, List.getElem_cons_succ, List.setIfInBounds_toArray, List.set_cons_zero, List.set_cons_succ])
      refine wpAnyH_take (i := 8) (v := ?_) rfl (by kernel_rfl) (by kernel_rfl) (by kernel_rfl) (fun _ _ _ h => h) (Or.inl ⟨by rfl, ?_⟩) (by assumption) ?_
      rotate_left
      · intro w hSw; (try dsimp only at hSw); go_simp <;> with_reducible rfl
      (try simp only [Act.put, List.getElem_toArray, List.getElem_cons_zero, List.getElem_cons_succ, List.setIfInBounds_toArray, List.set_cons_zero, List.set_cons_succ])
      refine wpAnyH_ready (rs := [9]) (by kernel_rfl) (by simp) ?_
      refine AllReadyH.cons rfl (fun K hK => ?_) AllReadyH.nil
      go_simp
      (go_at_call 18; refine (cmpUse_any y x wr.drew HUXX.out HUY.out).mono ?_; rintro e wC ⟨rfl, hbC⟩)
      refine hK.out _ _ ?_ (fun hHeld => ?_)
      · exact ⟨bkeep (Below.fromDrew hbC) cx0, bkeep (Below.fromDrew hbC) cx1, bkeep (Below.fromDrew hbC) cx2, bkeep (Below.fromDrew hbC) cx3, bkeep (Below.fromDrew hbC) cx4, bkeep (Below.fromDrew hbC) cy0, bkeep (Below.fromDrew hbC) cy1, bkeep (Below.fromDrew hbC) cy2, bkeep (Below.fromDrew hbC) cy3, bkeep (Below.fromDrew hbC) cy4⟩
      clear hK K
      (try simp only [Act.put, List.getElem_toArray, List.getElem_cons_zero, List.getElem_cons_succ, List.setIfInBounds_toArray, List.set_cons_zero, List.set_cons_succ])
      refine wpAnyH_take (i := 10) (v := ?_) rfl (by kernel_rfl) (by kernel_rfl) (by kernel_rfl) (fun _ _ _ h => h) (Or.inl ⟨by rfl, ?_⟩) (by assumption) ?_
      rotate_left
      · intro w hSw; (try dsimp only at hSw); go_simp <;> with_reducible rfl
      (try simp only [Act.put, List.getElem_toArray, List.getElem_cons_zero, List.getElem_cons_succ, List.setIfInBounds_toArray, List.set_cons_zero, List.set_cons_succ])
      refine wpAnyH_take (i := 11) (v := ?_) rfl (by kernel_rfl) (by kernel_rfl) (by kernel_rfl) (fun _ _ _ h => h) (Or.inl ⟨by rfl, ?_⟩) (by assumption) ?_
      rotate_left
      · intro w hSw; (try dsimp only at hSw); go_simp <;> with_reducible rfl
      (try simp only [Act.put, List.getElem_toArray, List.getElem_cons_zero, List.getElem_cons_succ, List.setIfInBounds_toArray, List.set_cons_zero, List.set_cons_succ])
      refine wpAnyH_done (by kernel_rfl) ?_ _
      have HM2 := Lib.hid (HMC.out.below (Below.fromDrew hbC))
      clear cx0 cx1 cx2 cx3 cx4 cy0 cy1 cy2 cy3 cy4 hbC
      by_cases hc : (x.2 : Int) - y.2 < 0
      · have hc2 : decide ((x.2 : Int) - y.2 < 0) = true := decide_eq_true hc
        have HC2 := Lib.hid hc2
        clear hc2
        go_wp2
        · have h : (!decide ((x.2 : Int) - y.2 < 0)) = true := by assumption
          rw [HC2.out] at h
          cases h
        go_roundw
        case rel => exact ⟨lo, t, I, H, rfl, rfl, HI.out, HT.out, by have := HI.out; have := HT.out; have := HHI.out; omega, by omega, ⟨HSK.out.1, .inr ⟨htl, by rw [← HYE.out]; unfold useKey; omega⟩⟩, HM2.out⟩
        case measure => have := HHI.out; simp [intOf] <;> omega
      · have hc2 : decide ((x.2 : Int) - y.2 < 0) = false := decide_eq_false hc
        have HC2 := Lib.hid hc2
        clear hc2
        go_wp2
        rotate_left
        · have h : (!decide ((x.2 : Int) - y.2 < 0)) = false := by assumption
          rw [HC2.out] at h
          cases h
        go_roundw
        case rel => exact ⟨t + 1, hi, H + 1, J, by congr 1, rfl, by rw [HT.out]; rfl, HJ.out, by have := HJ.out; have := HT.out; have := HHI.out; omega, hhb, ⟨.inr ⟨htl, by show useKey A[t] ≤ _; rw [← HYE.out]; unfold useKey; omega⟩, HSK.out.2⟩, HM2.out⟩
        case measure => have := HHI.out; simp [intOf] <;> omega
    · obtain rfl : lo = hi := by omega
      have hIJ : I = J := by omega
      subst hIJ
      have bI : I ≤ m := by have := HM.out; omega
      have bn : m ≤ n := by omega
      clear hI hJ
      obtain ⟨wo, rfl⟩ : ∃ wo : World, wo = wr := ⟨_, rfl⟩
      go_wp2
      go_loopw [17] (fun k wr => ∃ t K : Nat, k = .int .i64 K ∧ K = a + t ∧ lo ≤ t ∧ t ≤ A.length ∧ SoR base g off n c w0 (mov P y A S t) wr) (fun k _ => (intOf k).toNat)
      case atStart => exact ⟨A.length, m, rfl, HM.out, hhb, Nat.le_refl _, HMC.out⟩
      case round =>
        obtain ⟨t, K, rfl, hK, htlo, htA, hR⟩ := hrel
        clear HMC
        have HMC := Lib.hid hR
        have HKK := Lib.hid hK
        clear hR
        by_cases hlt2 : I < K
        · obtain ⟨t, rfl⟩ : ∃ t', t = t' + 1 := ⟨t - 1, by have := HI.out; omega⟩
          have htl : t < A.length := by omega
          obtain ⟨x, hye⟩ : ∃ y, y = A[t] := ⟨_, rfl⟩
          have HYE := Lib.hid hye
          obtain ⟨K1, hK1⟩ : ∃ K1, K = K1 + 1 := ⟨K - 1, by omega⟩
          have hKn : K < n := by have := HM.out; have := HB.out; omega
          have q1 : IntKind.i64.wrap ((K : Int) - 1) = (K1 : Int) := by rw [show (K : Int) - 1 = (K1 : Int) by omega]; exact IntWalk.i64_in _ (by omega)
          obtain ⟨dx0, dx1, dx2, dx3, dx4⟩ := HMC.out.at K y (mov_fst P y A S (t + 1) K (by omega) (by have := HA.out; have := HKK.out; omega))
          obtain ⟨dy0, dy1, dy2, dy3, dy4⟩ := HMC.out.at K1 x (by rw [HYE.out]; exact mov_pred P y A S t K1 htl (by have := HA.out; have := HKK.out; omega))
          obtain ⟨fx0, fx1, fx2, fx3, fx4⟩ := HMC.out.free K (by omega)
          obtain ⟨fy0, fy1, fy2, fy3, fy4⟩ := HMC.out.free K1 (by omega)
          have p0 : (0 : Int) ≤ (K : Int) := by omega
          have p1 : (K : Int) < (n : Int) := by omega
          have p2 : (0 : Int) ≤ (K1 : Int) := by omega
          have p3 : (K1 : Int) < (n : Int) := by omega
          have hne : K1 < K := by omega
          have htl2 : lo ≤ t := by have := HI.out; omega
          have HK1 := Lib.hid hK1
          clear hye hK hK1
          go_wp2_with fail
          go_big_region
          have HSS := Lib.hid (HMC.out.swapC K K1 (by omega) (by omega) y x (mov P y A S t) (by rw [HYE.out]; exact mov_back P y A S t K1 K htl (by have := HA.out; have := HKK.out; have := HK1.out; omega) (by have := HA.out; have := HKK.out; omega))).drew
          clear dx0 dx1 dx2 dx3 dx4 dy0 dy1 dy2 dy3 dy4 fx0 fx1 fx2 fx3 fx4 fy0 fy1 fy2 fy3 fy4
          go_wp2
          go_roundw
          case rel => exact ⟨t, K1, by have := HK1.out; first | rfl | (congr 1; omega), by have := HK1.out; have := HKK.out; omega, htl2, by omega, HSS.out⟩
          case measure => have := HK1.out; simp [intOf] <;> omega
        · have htt : t = lo := by have := HI.out; omega
          clear hK
          go_wp2
          refine bodyPost_ret (v := .tuple #[]) (by simp [results, Tryd.results36, go_sem]) rfl ?_
          obtain ⟨e1, e2⟩ := one_last HSB.out lo HSK.out.1 HSK.out.2
          refine ⟨rfl, A.take lo ++ y :: A.drop lo, ?_, e1, e2⟩
          have h := HMC.out
          rw [htt] at h
          unfold mov at h
          simpa using h
end Go.Proofs.YtlpcmeodbigpjaaDoor
