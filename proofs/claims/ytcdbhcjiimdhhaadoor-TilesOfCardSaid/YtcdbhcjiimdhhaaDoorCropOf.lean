/- The reference's CropOf: the walk. -/
import Derived.Test.YtcdbhcjiimdhhaaDoorRects
import Derived.Test.YtcdbhcjiimdhhaaDoorBlank
import Derived.Test.YtcdbhcjiimdhhaaDoorAtRef
import Derived.Deep.RegionHeld3
import Derived.IntWalk
namespace Go.Proofs.YtcdbhcjiimdhhaaDoor
open Go Go.RowKit

/-- What stands through CropOf's loops. -/
structure CrR (W H : Int) (A : Option Addr) (n c : Nat) (r : Til.R) (w : World) (g5 ga oa m c' : Nat) (l : List Px) (wr : World) : Prop where
  b1 : Blk wr w.heap.size 24 #[.int .i64 W, .int .i64 H, .slice A n c]
  b2 : Blk wr (w.heap.size + 1) 49 #[.int .i64 r.x, .int .i64 r.y, .int .i64 r.w, .int .i64 r.h]
  b10 : Blk wr (w.heap.size + 1 + 1) 24 #[.int .i64 0, .int .i64 0, .slice none 0 0]
  b11 : Blk wr g5 24 #[.int .i64 r.w, .int .i64 r.h, .slice (some ⟨ga, oa, none⟩) m c']
  own : Own wr (w.heap.size + 3) 4 (.slice (some ⟨ga, oa, none⟩) m c') m (pxCells l)
  ne : ga ≠ g5
  g5h : w.heap.size + 3 ≤ g5
  bel : Below w.heap.size w wr
section
variable {W H : Int} {A : Option Addr} {n c : Nat} {r : Til.R} {w wr w' : World} {g5 ga oa m c' : Nat} {l : List Px}
theorem CrR.step (h : CrR W H A n c r w g5 ga oa m c' l wr) (hb : Below wr.heap.size wr w') : CrR W H A n c r w g5 ga oa m c' l w' :=
  ⟨h.b1.below hb h.b1.lt, h.b2.below hb h.b2.lt, h.b10.below hb h.b10.lt, h.b11.below hb h.b11.lt, h.own.below hb (Nat.le_refl _), h.ne, h.g5h, h.bel.trans (hb.mono (by have := h.b1.lt; omega))⟩
theorem CrR.put (h : CrR W H A n c r w g5 ga oa m c' l wr) (i : Nat) (hi : i < m) (q : Px) : CrR W H A n c r w g5 ga oa m c' (l.set i q) (wr.setCells ga (oa + i * 4) (pxCs q)) := by
  have hg := (h.own.lt ga rfl).1
  exact ⟨h.b1.setCells_ (by omega) _ _, h.b2.setCells_ (by omega) _ _, h.b10.setCells_ (by omega) _ _, h.b11.setCells_ (fun e => h.ne e.symm) _ _, h.own.setPx i hi q, h.ne, h.g5h, Below.setCells_ h.bel (by omega) _ _⟩
end

set_option maxRecDepth 100000 in
set_option maxHeartbeats 4000000 in
theorem cropOf_any (W H : Nat) (A : Option Addr) (n c : Nat) (ps : List Px) (r : Til.R) (w : World) (hp : Reads w w.heap.size 4 A n (pxCells ps)) (hW : W ≤ 256) (hH : H ≤ 256) (hn : ps.length = H * W) (hr : Til.In W H r) :
    Calls Tryd.prog 36 #[.agg #[.int .i64 W, .int .i64 H, .slice A n c], .agg #[.int .i64 r.x, .int .i64 r.y, .int .i64 r.w, .int .i64 r.h]] w
      fun e w' => ∃ A' c', e = .returned (.agg #[.int .i64 r.w, .int .i64 r.h, .slice A' (r.h * r.w) c']) ∧ Own w' w.heap.size 4 (.slice A' (r.h * r.w) c') (r.h * r.w) (pxCells (Til.crop ps W r)) ∧ Below w.heap.size w w' := by
  obtain rfl := hp.pxLen
  obtain ⟨rw1, rw16, rh1, rh16, rxw, ryh⟩ := hr
  obtain ⟨m, hm⟩ : ∃ m, r.h * r.w = m := ⟨_, rfl⟩
  have hmul : 1 * 1 ≤ r.h * r.w ∧ r.h * r.w ≤ 16 * 16 := ⟨Nat.mul_le_mul rh1 rw1, Nat.mul_le_mul rh16 rw16⟩
  rw [hm] at hmul ⊢
  obtain ⟨hm1, hm2⟩ := hmul
  have HWH := Lib.hid (show (r.w : Int) * (r.h : Int) = (m : Int) by rw [← hm, Int.natCast_mul, Int.mul_comm])
  obtain ⟨f, hf⟩ : ∃ f : Nat → Nat → Px, f = fun x y => ps.getD ((y + r.y) * W + (x + r.x)) default := ⟨_, rfl⟩
  have hfc : Til.crop ps W r = Lay.grid f r.w r.h := by rw [hf]; rfl
  rw [hfc]
  have HF := Lib.hid hf
  have HM := Lib.hid hm
  have HN := Lib.hid hn
  have HP := Lib.hid hp
  clear hm hf hfc hn hp
  go_enter Tryd.func36, Tryd.ntmps36
  go_wp2_with fail
  refine (blank_any r.w r.h m ⟨0, 0, 0, 0⟩ _ (by omega) (by omega) HWH.out (by omega)).mono ?_
  rintro e w1 ⟨A', c', rfl, hO, hb1⟩
  obtain ⟨ga, oa, rfl, hga1, hga2⟩ := hO.addr (by omega)
  go_wp2_with fail
  obtain ⟨g5, hg5⟩ : ∃ g5, g5 = w1.heap.size := ⟨_, rfl⟩
  obtain ⟨w2, hw2⟩ : ∃ w2, w2 = w1.alloc (.cells #[.int .i64 r.w, .int .i64 r.h, .slice (some ⟨ga, oa, none⟩) m c'] 24) := ⟨_, rfl⟩
  obtain ⟨zs, hzs⟩ : ∃ zs : List Px, List.replicate m ⟨0, 0, 0, 0⟩ = zs := ⟨_, rfl⟩
  have HZL := Lib.hid (show zs.length = r.h * r.w by rw [← hzs, List.length_replicate, HM.out])
  rw [hzs] at hO
  have F0 : CrR W H A ps.length c r w g5 ga oa m c' (Lay.mixTo f zs r.w 0 0) w2 := by
    rw [hw2, hg5, Lay.mixTo_start]
    have hb0 : Below w.heap.size w w1 := Below.trans (by go_grown) (hb1.mono (by simp; omega))
    have hz := hb1.size
    simp at hz
    refine ⟨?_, ?_, ?_, Blk.new _ _ _ rfl, ?_, ?_, ?_, hb0.alloc (by omega) _⟩
    · exact ((((Blk.new _ _ _ rfl).alloc _).alloc _).below hb1 (by simp; omega)).alloc _
    · exact (((Blk.new _ _ _ (by simp)).alloc _).below hb1 (by simp)).alloc _
    · exact ((Blk.new _ _ _ (by simp)).below hb1 (by simp)).alloc _
    · exact (hO.alloc _).mono (by simp)
    · omega
    · omega
  rw [← hw2, ← hg5]
  clear hw2 hg5 hO hb1 hga1 hga2 hzs
  go_loopw [6] (fun i wr => ∃ k, k ≤ r.h ∧ i = .int .i64 k ∧ CrR W H A ps.length c r w g5 ga oa m c' (Lay.mixTo f zs r.w k 0) wr) (fun i _ => r.h - (intOf i).toNat)
  case atStart => exact ⟨0, Nat.zero_le _, rfl, F0⟩
  case round =>
    clear F0
    obtain ⟨k, hk, rfl, F0⟩ := hrel
    obtain ⟨wo, rfl⟩ : ∃ wo : World, wo = wr := ⟨_, rfl⟩
    have c2 := F0.b2.cell
    have c11 := F0.b11.cell
    have c10 := F0.b10.cell
    have f10 := F0.b10.free
    by_cases hlt : k < r.h
    · go_wp2_with fail
      go_loopw [7] (fun i wr => ∃ j, j ≤ r.w ∧ i = .int .i64 j ∧ CrR W H A ps.length c r w g5 ga oa m c' (Lay.mixTo f zs r.w k j) wr) (fun i _ => r.w - (intOf i).toNat)
      case atStart => exact ⟨0, Nat.zero_le _, rfl, F0⟩
      case round =>
        clear F0 c2 c11 c10 f10
        obtain ⟨j, hj, rfl, F⟩ := hrel
        obtain ⟨wi, rfl⟩ : ∃ wi : World, wi = wr := ⟨_, rfl⟩
        have c2 := F.b2.cell
        by_cases hjl : j < r.w
        · have hil := Til.index_lt hjl hlt
          rw [HM.out] at hil
          obtain ⟨i, hi⟩ : ∃ i, k * r.w + j = i := ⟨_, rfl⟩
          rw [hi] at hil
          have hsl := Til.index_lt (show j + r.x < W by omega) (show k + r.y < H by omega)
          obtain ⟨si, hsi⟩ : ∃ si, (k + r.y) * W + (j + r.x) = si := ⟨_, rfl⟩
          rw [hsi, ← HN.out] at hsl
          obtain ⟨q, hq⟩ : ∃ q, ps[si]? = some q := ⟨_, List.getElem?_eq_getElem hsl⟩
          have HFQ := Lib.hid (show f j k = q by rw [HF.out]; simp only; rw [hsi, List.getD_eq_getElem?_getD, hq]; rfl)
          have hb := Nat.mul_le_mul (show k + r.y ≤ 256 by omega) hW
          have HZB := Lib.hid (show 0 ≤ ((k + r.y : Nat) : Int) * (W : Int) ∧ ((k + r.y : Nat) : Int) * (W : Int) ≤ 1048576 by rw [← Int.natCast_mul]; omega)
          have HZI := Lib.hid (show ((k + r.y : Nat) : Int) * (W : Int) + ((j + r.x : Nat) : Int) = (si : Int) by rw [← hsi, Int.natCast_add ((k + r.y) * W) (j + r.x), Int.natCast_mul (k + r.y) W])
          have HJX := Lib.hid (show 0 ≤ ((j + r.x : Nat) : Int) ∧ ((j + r.x : Nat) : Int) ≤ 1048576 by omega)
          have HI := Lib.hid hi
          have HQQ := Lib.hid hq
          obtain ⟨xx, hxx⟩ : ∃ xx : Int, ((j + r.x : Nat) : Int) = xx := ⟨_, rfl⟩
          obtain ⟨yy, hyy⟩ : ∃ yy : Int, ((k + r.y : Nat) : Int) = yy := ⟨_, rfl⟩
          rw [hxx] at HZI HJX
          rw [hyy] at HZI HZB
          have hx1 : (r.x : Int) + (j : Int) = xx := by rw [← hxx]; omega
          have hy1 : (r.y : Int) + (k : Int) = yy := by rw [← hyy]; omega
          have hx2 : IntKind.i64.wrap ((r.x : Int) + (j : Int)) = xx := by rw [hx1]; exact IntWalk.i64_in _ (by omega)
          have hy2 : IntKind.i64.wrap ((r.y : Int) + (k : Int)) = yy := by rw [hy1]; exact IntWalk.i64_in _ (by omega)
          have hx3 : IntKind.i64.wrap xx = xx := IntWalk.i64_in _ (by omega)
          have hy3 : IntKind.i64.wrap yy = yy := IntWalk.i64_in _ (by omega)
          obtain ⟨z, hz⟩ : ∃ z, k * r.w = z := ⟨_, rfl⟩
          have hzi : z + j = i := by rw [← hz]; exact hi
          have hz' : (k : Int) * (r.w : Int) = (z : Int) := by rw [← hz, Int.natCast_mul]
          have hw3 : IntKind.i64.wrap ((k : Int) * (r.w : Int)) = (z : Int) := by rw [hz']; exact IntWalk.i64_in _ (by omega)
          have hp4 : (z : Int) + (j : Int) = (i : Int) := by rw [← hzi, Int.natCast_add]
          have hw4 : IntKind.i64.wrap ((z : Int) + (j : Int)) = (i : Int) := by rw [hp4]; exact IntWalk.i64_in _ (by omega)
          have hw7 : IntKind.i64.wrap (z : Int) = (z : Int) := IntWalk.i64_in _ (by omega)
          have hw8 : IntKind.i64.wrap (i : Int) = (i : Int) := IntWalk.i64_in _ (by omega)
          have i0 : (0 : Int) ≤ (i : Int) := by omega
          have i1 : (i : Int) < (m : Int) := by omega
          have HP1 := Lib.hid ((HP.out.below F.bel (Nat.le_refl _)).more F.bel.size)
          have HA1 := Lib.hid (atRef_any W H A ps.length c ps xx yy si q wi.drew HP1.out HQQ.out HZB.out HJX.out HZI.out)
          have HLEN := Lib.hid (Lay.mixTo_length f zs r.w k j (by rw [HZL.out, HM.out, HI.out]; omega))
          have HZM := Lib.hid (show zs.length = m by rw [HZL.out, HM.out])
          have hge := (F.own.lt ga rfl).1
          have hz1 : w.heap.size < ga := by omega
          have hz2 : w.heap.size + 1 < ga := by omega
          have hz5 : ∀ (a o : Nat), (⟨ga, a, none⟩ : Addr) ≠ ⟨g5, o, none⟩ := fun a o e => F.ne (by injection e)
          have s0 : wi.cell? ⟨w.heap.size, 0, none⟩ = some (.int .i64 W) := (F.b1.cell 0).trans rfl
          have s1 : wi.cell? ⟨w.heap.size, 1, none⟩ = some (.int .i64 H) := (F.b1.cell 1).trans rfl
          have s2 : wi.cell? ⟨w.heap.size, 2, none⟩ = some (.slice A ps.length c) := (F.b1.cell 2).trans rfl
          have t0 : wi.cell? ⟨w.heap.size + 1, 0, none⟩ = some (.int .i64 r.x) := (F.b2.cell 0).trans rfl
          have t1 : wi.cell? ⟨w.heap.size + 1, 1, none⟩ = some (.int .i64 r.y) := (F.b2.cell 1).trans rfl
          have t2 : wi.cell? ⟨w.heap.size + 1, 2, none⟩ = some (.int .i64 r.w) := (F.b2.cell 2).trans rfl
          have o2 : wi.cell? ⟨g5, 2, none⟩ = some (.slice (some ⟨ga, oa, none⟩) m c') := (F.b11.cell 2).trans rfl
          clear hq hsi hi hzi hz hsl hb hxx hyy c2
          go_wp2_with fail
          go_region_held3 (fun w' => w'.cell? ⟨w.heap.size, 0, none⟩ = some (.int .i64 W) ∧ w'.cell? ⟨w.heap.size, 1, none⟩ = some (.int .i64 H) ∧ w'.cell? ⟨w.heap.size, 2, none⟩ = some (.slice A ps.length c) ∧ w'.cell? ⟨w.heap.size + 1, 0, none⟩ = some (.int .i64 r.x) ∧ w'.cell? ⟨w.heap.size + 1, 1, none⟩ = some (.int .i64 r.y) ∧ w'.cell? ⟨w.heap.size + 1, 2, none⟩ = some (.int .i64 r.w) ∧ w'.cell? ⟨g5, 2, none⟩ = some (.slice (some ⟨ga, oa, none⟩) m c'))
            ((go_split_ands
              refine ⟨?_, ?_, ?_, ?_, ?_, ?_, ?_⟩
              · ((repeat' (first | (with_reducible exact s0) | (with_reducible refine cell_set_other _ (ne_blk hz1 _ _) ?_) | (with_reducible refine bkeep hbA ?_))) <;> exact s0)
              · ((repeat' (first | (with_reducible exact s1) | (with_reducible refine cell_set_other _ (ne_blk hz1 _ _) ?_) | (with_reducible refine bkeep hbA ?_))) <;> exact s1)
              · ((repeat' (first | (with_reducible exact s2) | (with_reducible refine cell_set_other _ (ne_blk hz1 _ _) ?_) | (with_reducible refine bkeep hbA ?_))) <;> exact s2)
              · ((repeat' (first | (with_reducible exact t0) | (with_reducible refine cell_set_other _ (ne_blk hz2 _ _) ?_) | (with_reducible refine bkeep hbA ?_))) <;> exact t0)
              · ((repeat' (first | (with_reducible exact t1) | (with_reducible refine cell_set_other _ (ne_blk hz2 _ _) ?_) | (with_reducible refine bkeep hbA ?_))) <;> exact t1)
              · ((repeat' (first | (with_reducible exact t2) | (with_reducible refine cell_set_other _ (ne_blk hz2 _ _) ?_) | (with_reducible refine bkeep hbA ?_))) <;> exact t2)
              · ((repeat' (first | (with_reducible exact o2) | (with_reducible refine cell_set_other _ (hz5 _ _) ?_) | (with_reducible refine bkeep hbA ?_))) <;> exact o2)))
            ((go_at_call 40; with_reducible refine HA1.out.mono ?_; rintro e wA ⟨rfl, hbA⟩; have hbI := Below.fromDrew hbA; have GC := F.step hbI; have yy9 := GC.own.reads.2.px i (Nat.lt_of_lt_of_eq hil (HZM.out.symm.trans HLEN.out.symm)); obtain ⟨y0, y1, y2, y3⟩ := yy9; have hth := GC.own.there i hil; obtain ⟨f0, f1, f2, f3⟩ := there4 hth))
          have K := GC.put i hil q
          have HK := Lib.hid K
          clear K hbA s0 s1 s2 t0 t1 t2 o2 hw3 hw4 hw7 hw8 hp4 hz' hx1 hx2 hx3 hy1 hy2 hy3 y0 y1 y2 y3 f0 f1 f2 f3 hth
          go_wp2_with fail
          go_roundw
          case rel => exact ⟨j + 1, by omega, by go_num, by
            have h := HK.out
            rw [← HI.out, ← HFQ.out, Lay.mixTo_set f zs r.w k j (by rw [HZM.out, HI.out]; exact hil)] at h
            rw [HFQ.out, HI.out] at h
            exact h⟩
          case measure => simp [intOf]; omega
        · go_wp2_with fail
          have e : j = r.w := by omega
          subst e
          rw [Lay.mixTo_full] at F
          go_roundw
          case rel => exact ⟨k + 1, by omega, by go_num, F⟩
          case measure => simp [intOf]; omega
    · have e : k = r.h := by omega
      subst e
      rw [Lay.mixTo_end f zs r.w r.h HZL.out] at F0
      have ho := F0.own
      have n1 : (Value.slice (some ⟨ga, oa, none⟩) m c').ownBlock ≠ some (w.heap.size + 1 + 1) := by have := (ho.lt ga rfl).1; simp [Value.ownBlock]; omega
      have HO := Lib.hid ho
      have HN1 := Lib.hid n1
      clear ho n1
      go_wp2_with fail
      refine bodyPost_ret (v := .agg #[.int .i64 r.w, .int .i64 r.h, .slice (some ⟨ga, oa, none⟩) m c']) (by simp [results, Tryd.results36, go_sem, c10]) rfl ⟨some ⟨ga, oa, none⟩, c', rfl, ?_, ?_⟩
      · exact (((HO.out.setCell HN1.out _).setCell HN1.out _).setCell HN1.out _).mono (by omega)
      · have hz : w.heap.size ≤ w.heap.size + 1 + 1 := by omega
        exact (((F0.bel.setCell hz _).setCell hz _).setCell hz _)
end Go.Proofs.YtcdbhcjiimdhhaaDoor
