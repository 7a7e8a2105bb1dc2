/- slices.swapRangeCmpFunc, rotateCmpFunc at colors.Use: the walks. -/
import Derived.Test.YtlpcmeodbigpjaaDoorElem
import Derived.Test.YtlpcmeodbigpjaaDoorUses
import Derived.BigRegion
import Derived.IntWalk
import Derived.Lib.Hide
import Derived.WalkKit
namespace Go.Proofs.YtlpcmeodbigpjaaDoor
open Go Go.RowKit

theorem Keeps.setCells_ {S : Nat → Prop} {a w : World} (h : Keeps S a w) {b : Nat} (hb : S b) (o : Nat) (vs : List Value) : Keeps S a (w.setCells b o vs) :=
  ⟨(os_setCells b vs o w).trans h.os, (tape_setCells b vs o w).trans h.tape, (output_setCells b vs o w).trans h.output, by rw [size_setCells]; exact h.size, fun g hg hn => (heap_setCells b g (fun e => hn (e ▸ hb)) vs o w).trans (h.block g hg hn)⟩
/-- What stands while elements of a slice change places. -/
structure SoR (base g off n c : Nat) (w : World) (l : List (Px × Nat)) (wr : World) : Prop where
  own : Own wr base 5 (.slice (some ⟨g, off, none⟩) n c) n (l.flatMap useCs)
  len : l.length = n
  keep : Keeps (fun b => b = g) w wr
section
variable {base g off n c : Nat} {w wr w' : World} {l : List (Px × Nat)}
theorem SoR.drew (h : SoR base g off n c w l wr) : SoR base g off n c w l wr.drew := ⟨h.own.drew, h.len, h.keep.drew⟩
theorem SoR.below (h : SoR base g off n c w l wr) (hb : Below wr.heap.size wr w') : SoR base g off n c w l w' :=
  ⟨h.own.below hb (Nat.le_refl _), h.len, h.keep.trans (Keeps.of_below (S := fun _ => False) hb (fun _ hg _ => hg)) (fun _ _ h => h.elim)⟩
theorem SoR.trans {w0 : World} (h : SoR base g off n c w l wr) (hk : Keeps (fun b => b = g) w0 w) : SoR base g off n c w0 l wr := ⟨h.own, h.len, hk.trans h.keep (fun _ _ h => h)⟩
/-- An element's cells. -/
theorem SoR.at (h : SoR base g off n c w l wr) (i : Nat) (x : Px × Nat) (hx : l[i]? = some x) :
    wr.cell? ⟨g, off + i * 5, none⟩ = some (.int .u8 x.1.r.toNat) ∧ wr.cell? ⟨g, off + i * 5 + 1, none⟩ = some (.int .u8 x.1.g.toNat) ∧ wr.cell? ⟨g, off + i * 5 + 2, none⟩ = some (.int .u8 x.1.b.toNat) ∧ wr.cell? ⟨g, off + i * 5 + 3, none⟩ = some (.int .u8 x.1.a.toNat) ∧ wr.cell? ⟨g, off + i * 5 + 4, none⟩ = some (.int .i64 x.2) := by
  obtain ⟨hi, e⟩ := List.getElem?_eq_some_iff.1 hx
  have hr := h.own.reads.2
  have hln := h.len
  have key : ∀ j, j < 5 → wr.cell? ⟨g, off + i * 5 + j, none⟩ = (useCs x)[j]? := fun j hj => by
    have h1 := hr.cell rfl (i * 5 + j) (by omega)
    have h2 := flatCells_at useCs 5 (fun _ => rfl) l i hi j hj
    rw [e] at h2
    rw [Nat.add_assoc, h1, h2]
  exact ⟨key 0 (by omega), key 1 (by omega), key 2 (by omega), key 3 (by omega), key 4 (by omega)⟩
theorem SoR.free (h : SoR base g off n c w l wr) (i : Nat) (hi : i < n) :
    wr.frozen? ⟨g, off + i * 5, none⟩ = false ∧ wr.frozen? ⟨g, off + i * 5 + 1, none⟩ = false ∧ wr.frozen? ⟨g, off + i * 5 + 2, none⟩ = false ∧ wr.frozen? ⟨g, off + i * 5 + 3, none⟩ = false ∧ wr.frozen? ⟨g, off + i * 5 + 4, none⟩ = false := by
  have ht := h.own.there i hi
  exact ⟨(ht 0 (by omega)).2, (ht 1 (by omega)).2, (ht 2 (by omega)).2, (ht 3 (by omega)).2, (ht 4 (by omega)).2⟩
theorem SoR.swap (h : SoR base g off n c w l wr) (i j : Nat) (hi : i < n) (hj : j < n) (x y : Px × Nat) :
    SoR base g off n c w (Stab.swp l i j x y) ((wr.setCells g (off + i * 5) (useCs y)).setCells g (off + j * 5) (useCs x)) := by
  refine ⟨h.own.swap (fun _ => rfl) h.len i j hi hj x y, by rw [Stab.swp_length]; exact h.len, ?_⟩
  exact (h.keep.setCells_ rfl _ _).setCells_ rfl _ _
theorem SoR.swapC (h : SoR base g off n c w l wr) (i j : Nat) (hi : i < n) (hj : j < n) (x y : Px × Nat) (l' : List (Px × Nat)) (e : Stab.swp l i j x y = l') :
    SoR base g off n c w l' ((((((((((wr.setCell ⟨g, off + i * 5, none⟩ (.int .u8 y.1.r.toNat)).setCell ⟨g, off + i * 5 + 1, none⟩ (.int .u8 y.1.g.toNat)).setCell ⟨g, off + i * 5 + 2, none⟩ (.int .u8 y.1.b.toNat)).setCell ⟨g, off + i * 5 + 3, none⟩ (.int .u8 y.1.a.toNat)).setCell ⟨g, off + i * 5 + 4, none⟩ (.int .i64 y.2)).setCell ⟨g, off + j * 5, none⟩ (.int .u8 x.1.r.toNat)).setCell ⟨g, off + j * 5 + 1, none⟩ (.int .u8 x.1.g.toNat)).setCell ⟨g, off + j * 5 + 2, none⟩ (.int .u8 x.1.b.toNat)).setCell ⟨g, off + j * 5 + 3, none⟩ (.int .u8 x.1.a.toNat)).setCell ⟨g, off + j * 5 + 4, none⟩ (.int .i64 x.2)) := by
  subst e
  exact h.swap i j hi hj x y
end

set_option maxRecDepth 100000 in
set_option maxHeartbeats 2000000 in
theorem swapRange_any (base g off n c : Nat) (P X M Y S : List (Px × Nat)) (fv : Value) (w0 w : World) (h : SoR base g off n c w0 (P ++ X ++ M ++ Y ++ S) w) (hxy : X.length = Y.length) (hn : n ≤ 1048576) :
    Calls Tryd.prog 48 #[.slice (some ⟨g, off, none⟩) n c, .int .i64 P.length, .int .i64 (P.length + X.length + M.length), .int .i64 X.length, fv] w
      fun e w' => e = .returned (.tuple #[]) ∧ SoR base g off n c w0 (P ++ Y ++ M ++ X ++ S) w' := by
  have hlen : P.length + X.length + M.length + Y.length + S.length = n := by rw [← h.len]; simp only [List.length_append]
  have HS := Lib.hid h
  have HXY := Lib.hid hxy
  obtain ⟨a, ha⟩ : ∃ a, a = P.length := ⟨_, rfl⟩
  obtain ⟨b, hb⟩ : ∃ b : Nat, b = P.length + X.length + M.length := ⟨_, rfl⟩
  obtain ⟨m, hm⟩ : ∃ m, m = X.length := ⟨_, rfl⟩
  rw [show ((P.length : Int) + X.length + M.length) = (b : Int) by omega, ← ha, ← hm]
  have HA := Lib.hid ha
  have HB := Lib.hid hb
  have HM := Lib.hid hm
  have ham : a + m ≤ n := by omega
  have hbm : b + m ≤ n := by omega
  have hab : a + m ≤ b := by omega
  clear h hxy hlen ha hb hm
  go_enter Tryd.func48, Tryd.ntmps48
  go_wp2
  go_loopw [10] (fun i wr => ∃ t : Nat, i = .int .i64 t ∧ t ≤ m ∧ SoR base g off n c w0 (Stab.xch P X M Y S t) wr) (fun i _ => m - (intOf i).toNat)
  case atStart => exact ⟨0, rfl, Nat.zero_le _, by rw [Stab.xch_zero]; exact HS.out⟩
  case round =>
    obtain ⟨t, rfl, htm, hR⟩ := hrel
    have HR := Lib.hid hR
    clear hR
    by_cases hlt : t < m
    · have hx : t < X.length := by have := HM.out; omega
      have hy : t < Y.length := by have := HM.out; have := HXY.out; omega
      obtain ⟨x, hxe⟩ : ∃ x, x = X[t] := ⟨_, rfl⟩
      obtain ⟨y, hye⟩ : ∃ y, y = Y[t] := ⟨_, rfl⟩
      obtain ⟨i, hi⟩ : ∃ i, i = a + t := ⟨_, rfl⟩
      obtain ⟨j, hj⟩ : ∃ j, j = b + t := ⟨_, rfl⟩
      have q1 : IntKind.i64.wrap ((a : Int) + t) = (i : Int) := by rw [show (a : Int) + t = (i : Int) by omega]; exact IntWalk.i64_in _ (by omega)
      have q2 : IntKind.i64.wrap ((b : Int) + t) = (j : Int) := by rw [show (b : Int) + t = (j : Int) by omega]; exact IntWalk.i64_in _ (by omega)
      have HST := Lib.hid (show Stab.swp (Stab.xch P X M Y S t) i j x y = Stab.xch P X M Y S (t + 1) by rw [hxe, hye]; exact Stab.xch_step P X M Y S t i j hx hy (by rw [hi, HA.out]) (by rw [hj, HB.out]))
      have cx := HR.out.at i x (by rw [hxe]; exact Stab.xch_fst P X M Y S t i hx hy (by rw [hi, HA.out]))
      have cy := HR.out.at j y (by rw [hye]; exact Stab.xch_snd P X M Y S t j hx hy (by rw [hj, HB.out]))
      have p0 : (0 : Int) ≤ (i : Int) := by omega
      have p1 : (i : Int) < (n : Int) := by omega
      have p2 : (0 : Int) ≤ (j : Int) := by omega
      have p3 : (j : Int) < (n : Int) := by omega
      have hij : i < j := by omega
      have fx := HR.out.free i (by omega)
      have fy := HR.out.free j (by omega)
      obtain ⟨cx0, cx1, cx2, cx3, cx4⟩ := cx
      obtain ⟨cy0, cy1, cy2, cy3, cy4⟩ := cy
      obtain ⟨fx0, fx1, fx2, fx3, fx4⟩ := fx
      obtain ⟨fy0, fy1, fy2, fy3, fy4⟩ := fy
      clear hxe hye hi hj
      go_wp2_with fail
      go_big_region
      have hS := (HR.out.swapC i j (by omega) (by omega) x y _ HST.out).drew
      have HSS := Lib.hid hS
      clear hS cx0 cx1 cx2 cx3 cx4 cy0 cy1 cy2 cy3 cy4 fx0 fx1 fx2 fx3 fx4 fy0 fy1 fy2 fy3 fy4 q1 q2
      go_wp2
      go_roundw
      case rel => exact ⟨t + 1, by go_num, by omega, HSS.out⟩
      case measure => simp [intOf]; omega
    · obtain rfl : t = m := by omega
      go_wp2
      go_end0
      refine ⟨rfl, ?_⟩
      have h := HR.out
      rw [HM.out, Stab.xch_all P X M Y S HXY.out] at h
      exact h
end Go.Proofs.YtlpcmeodbigpjaaDoor
