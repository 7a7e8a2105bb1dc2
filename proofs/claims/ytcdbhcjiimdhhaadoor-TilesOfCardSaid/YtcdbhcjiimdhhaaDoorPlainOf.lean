/- The reference's PlainOf; one: the walks. -/
import Derived.Test.YtcdbhcjiimdhhaaDoorCropOf
import Derived.Test.YtcdbhcjiimdhhaaDoorUnlike
import Derived.Test.YtcdbhcjiimdhhaaDoorGridAt
import Derived.Test.YtcdbhcjiimdhhaaDoorGridPic
import Derived.Test.YtcdbhcjiimdhhaaDoorSamePic
namespace Go.Proofs.YtcdbhcjiimdhhaaDoor
open Go Go.RowKit

/-- What stands through PlainOf's loop. -/
structure PoR (W H : Nat) (A : Option Addr) (n c : Nat) (w : World) (Ar : Option Addr) (N : Nat) (wr : World) : Prop where
  b1 : Blk wr w.heap.size 24 #[.int .i64 W, .int .i64 H, .slice A n c]
  rd : Reads wr wr.heap.size 4 Ar N (rcCells (Til.rects W H))
  bel : Below w.heap.size w wr
theorem PoR.step {W H : Nat} {A : Option Addr} {n c : Nat} {w wr w' : World} {Ar : Option Addr} {N : Nat} (h : PoR W H A n c w Ar N wr) (hb : Below wr.heap.size wr w') : PoR W H A n c w Ar N w' :=
  ⟨h.b1.below hb h.b1.lt, (h.rd.below hb (Nat.le_refl _)).more hb.size, h.bel.trans (hb.mono h.bel.size)⟩

set_option maxRecDepth 100000 in
set_option maxHeartbeats 2000000 in
theorem plainOf_any (W H : Nat) (A : Option Addr) (n c : Nat) (ps : List Px) (w : World) (hp : Reads w w.heap.size 4 A n (pxCells ps)) (hW : W ≤ 256) (hH : H ≤ 256) (hn : ps.length = H * W) :
    Calls Tryd.prog 14 #[.agg #[.int .i64 W, .int .i64 H, .slice A n c]] w fun e w' => e = .returned (.int .i64 (Til.plain (Til.tilesOf ps W H))) ∧ Below w.heap.size w w' := by
  have HP := Lib.hid hp
  have HN := Lib.hid hn
  have HPL := Lib.hid (Til.plain_eq ps W H)
  clear hp hn
  go_enter Tryd.func14, Tryd.ntmps14
  go_wp2_with fail
  refine (refRects_any W H _ hW hH).mono ?_
  rintro e w1 ⟨Ar, cr, rfl, hO, hb1⟩
  have hlr := Til.rects_length W H
  obtain ⟨N, hN⟩ : ∃ N, (Til.rects W H).length = N := ⟨_, rfl⟩
  have hN1 : N ≤ 1000 := by
    have h1 : Til.cols W ≤ 16 := by unfold Til.cols; omega
    have h2 : Til.cols H ≤ 16 := by unfold Til.cols; omega
    have := Nat.mul_le_mul h2 h1
    omega
  have HNN := Lib.hid hN
  rw [hN] at hO ⊢
  have F0 : PoR W H A n c w Ar N w1 := ⟨(Blk.new w 24 #[.int .i64 W, .int .i64 H, .slice A n c] rfl).below hb1 (by simp), hO.reads.2, Below.trans (by go_grown) (hb1.mono (by simp))⟩
  clear hO hlr hN hb1
  go_wp2_with fail
  go_loopw [3, 5] (fun z i wr => ∃ k p : Nat, k ≤ N ∧ p ≤ k ∧ i = .int .i64 k ∧ z = .int .i64 p ∧ PoR W H A n c w Ar N wr ∧ p = Til.plainUnl ps W ((Til.rects W H).take k)) (fun _ i _ => N - (intOf i).toNat)
  case atStart => exact ⟨0, 0, Nat.zero_le _, Nat.le_refl _, rfl, rfl, F0, rfl⟩
  case round =>
    clear F0
    obtain ⟨k, p, hk, hpk, rfl, rfl, F, hpp⟩ := hrel
    obtain ⟨wi, rfl⟩ : ∃ wi : World, wi = wr := ⟨_, rfl⟩
    have HPK := Lib.hid hpp
    clear hpp
    by_cases hlt : k < N
    · obtain ⟨br, orr, rfl, hbrr⟩ := F.rd.addr (by omega)
      have hkl : k < (Til.rects W H).length := by rw [HNN.out]; exact hlt
      obtain ⟨x0, x1, x2, x3⟩ := F.rd.rc k hkl
      have hrin := Til.rects_in (List.getElem_mem hkl)
      have HTK := Lib.hid (List.take_succ_eq_append_getElem hkl)
      obtain ⟨r, hr⟩ : ∃ r, (Til.rects W H)[k] = r := ⟨_, rfl⟩
      rw [hr] at x0 x1 x2 x3 hrin HTK
      have HS := Lib.hid (Til.plainUnl_snoc ps W ((Til.rects W H).take k) r)
      have h16 := Nat.mul_le_mul hrin.h16 hrin.w16
      have s0 : wi.cell? ⟨w.heap.size, 0, none⟩ = some (.int .i64 W) := (F.b1.cell 0).trans rfl
      have s1 : wi.cell? ⟨w.heap.size, 1, none⟩ = some (.int .i64 H) := (F.b1.cell 1).trans rfl
      have s2 : wi.cell? ⟨w.heap.size, 2, none⟩ = some (.slice A n c) := (F.b1.cell 2).trans rfl
      have HC := Lib.hid (cropOf_any W H A n c ps r wi.drew ((HP.out.below F.bel (Nat.le_refl _)).more F.bel.size) hW hH HN.out hrin)
      have k0 : (0 : Int) ≤ (k : Int) := by omega
      have k1 : (k : Int) < (N : Int) := by omega
      have HF := Lib.hid F
      clear hr hrin hkl F
      go_wp2_with fail
      go_region_held3 (fun w' => w'.cell? ⟨w.heap.size, 0, none⟩ = some (.int .i64 W) ∧ w'.cell? ⟨w.heap.size, 1, none⟩ = some (.int .i64 H) ∧ w'.cell? ⟨w.heap.size, 2, none⟩ = some (.slice A n c) ∧ w'.cell? ⟨br, orr + k * 4, none⟩ = some (.int .i64 r.x) ∧ w'.cell? ⟨br, orr + k * 4 + 1, none⟩ = some (.int .i64 r.y) ∧ w'.cell? ⟨br, orr + k * 4 + 2, none⟩ = some (.int .i64 r.w) ∧ w'.cell? ⟨br, orr + k * 4 + 3, none⟩ = some (.int .i64 r.h))
        ((go_split_ands
          refine ⟨?_, ?_, ?_, ?_, ?_, ?_, ?_⟩
          · ((repeat' (first | (with_reducible exact s0) | (with_reducible refine bkeep hbB ?_) | (with_reducible refine bkeep hbA ?_))) <;> exact s0)
          · ((repeat' (first | (with_reducible exact s1) | (with_reducible refine bkeep hbB ?_) | (with_reducible refine bkeep hbA ?_))) <;> exact s1)
          · ((repeat' (first | (with_reducible exact s2) | (with_reducible refine bkeep hbB ?_) | (with_reducible refine bkeep hbA ?_))) <;> exact s2)
          · ((repeat' (first | (with_reducible exact x0) | (with_reducible refine bkeep hbB ?_) | (with_reducible refine bkeep hbA ?_))) <;> exact x0)
          · ((repeat' (first | (with_reducible exact x1) | (with_reducible refine bkeep hbB ?_) | (with_reducible refine bkeep hbA ?_))) <;> exact x1)
          · ((repeat' (first | (with_reducible exact x2) | (with_reducible refine bkeep hbB ?_) | (with_reducible refine bkeep hbA ?_))) <;> exact x2)
          · ((repeat' (first | (with_reducible exact x3) | (with_reducible refine bkeep hbB ?_) | (with_reducible refine bkeep hbA ?_))) <;> exact x3)))
        (first
          | (go_at_call 36; with_reducible refine HC.out.mono ?_; rintro e wA ⟨A2, c2, rfl, hO2, hbA⟩; have hbI := Below.fromDrew hbA)
          | (go_at_call 35; refine (unlike_any r.w r.h A2 (r.h * r.w) c2 (Til.crop ps W r) wA hO2.reads.2 (by omega)).mono ?_; rintro e wB ⟨A3, c3, A4, c4, rfl, _, _, hbB⟩))
      have G := (HF.out.step (Below.fromDrew hbA)).step hbB
      have HG := Lib.hid G
      obtain ⟨u, hu⟩ : ∃ u, (Col.unl (Til.crop ps W r)).1.length = u := ⟨_, rfl⟩
      have HU := Lib.hid hu
      clear G hbA hbB hO2 hbI s0 s1 s2 x0 x1 x2 x3
      rw [hu]
      clear hu
      by_cases h1 : u = 1
      · subst h1
        have HE := Lib.hid (show p + 1 = Til.plainUnl ps W ((Til.rects W H).take (k + 1)) by rw [HTK.out, HS.out, ← HPK.out, HU.out, if_pos rfl])
        go_wp2_with fail
        go_roundw
        case rel => exact ⟨k + 1, p + 1, by omega, by omega, by go_num, by go_num, HG.out, HE.out⟩
        case measure => simp [intOf]; omega
      · have HE := Lib.hid (show p = Til.plainUnl ps W ((Til.rects W H).take (k + 1)) by rw [HTK.out, HS.out, ← HPK.out, HU.out, if_neg h1]; rfl)
        have h1' : ¬ (u : Int) = 1 := by omega
        clear h1
        go_wp2_with fail
        go_roundw
        case rel => exact ⟨k + 1, p, by omega, by omega, by go_num, rfl, HG.out, HE.out⟩
        case measure => simp [intOf]; omega
    · have e : k = N := by omega
      have HE := Lib.hid (show p = Til.plain (Til.tilesOf ps W H) by rw [HPL.out, HPK.out, e, ← HNN.out, List.take_length])
      have hbw := F.bel
      go_wp2_with fail
      go_ret
      exact ⟨(by rw [← HE.out]; rfl), hbw⟩
end Go.Proofs.YtcdbhcjiimdhhaaDoor
