/- colors.Reduce: a picture that is not right, a bound that is none, few colors: the walks. -/
import Derived.Test.YtlpcmeodbigpjaaDoorCount
import Derived.Test.YtlpcmeodbigpjaaDoorMany
import Derived.Test.YtlpcmeodbigpjaaDoorSwapRange
import Derived.Test.YtlpcmeodbigpjaaDoorReduceLaw
import Derived.Test.YtlpcmeodbigpjaaDoorCode
namespace Go.Proofs.YtlpcmeodbigpjaaDoor
open Go Go.RowKit

set_option maxRecDepth 100000 in
theorem reduce_shape (W H : Int) (A : Option Addr) (n c : Nat) (most : Int) (E : Nat → Addr) (w : World) (hE : ErrsAt w E) (hr : rightB W H n = false) :
    Calls Tryd.prog 6 #[.agg #[.int .i64 W, .int .i64 H, .slice A n c], .int .i64 most] w
      fun e w' => e = .returned (.tuple #[.slice none 0 0, errV (E 2)]) ∧ Below w.heap.size w w' := by
  have hE1 : ErrsAt (w.alloc (.cells #[.int .i64 W, .int .i64 H, .slice A n c] 24)) E := hE.below (by go_grown)
  go_enter Tryd.func6, Tryd.ntmps6
  go_wp2_with fail
  refine (count_bad W H A n c _ _ _ hE1.shape hr).mono ?_
  rintro e w1 ⟨rfl, hb1⟩
  have hbw : Below w.heap.size w w1 := Below.trans (by go_grown) (hb1.mono (by first | omega | (simp; done) | (simp; omega)))
  clear hb1 hE1
  go_wp2
  go_ret2
  exact ⟨rfl, hbw⟩
set_option maxRecDepth 100000 in
theorem reduce_bound (W H : Int) (A : Option Addr) (n c : Nat) (ps : List Px) (most : Int) (E : Nat → Addr) (w : World) (hp : Reads w w.heap.size 4 A n (pxCells ps)) (hE : ErrsAt w E) (hr : rightB W H n = true) (hm : sideB most = false) :
    Calls Tryd.prog 6 #[.agg #[.int .i64 W, .int .i64 H, .slice A n c], .int .i64 most] w
      fun e w' => e = .returned (.tuple #[.slice none 0 0, errV (E 1)]) ∧ Below w.heap.size w w' := by
  go_enter Tryd.func6, Tryd.ntmps6
  go_wp2_with fail
  refine (count_any W H A n c ps _ ((hp.alloc (Nat.le_refl _) _).more (by first | omega | (simp; done) | (simp; omega))) hr).mono ?_
  rintro e w1 ⟨A1, c1, rfl, ho1, hb1⟩
  have hbw : Below w.heap.size w w1 := Below.trans (by go_grown) (hb1.mono (by first | omega | (simp; done) | (simp; omega)))
  have eB := (hE.below hbw).bound
  have lB := cell_lt eB
  clear ho1 hb1
  go_wp2_with fail
  refine (many_any most _).mono ?_
  rintro e w2 ⟨rfl, rfl⟩
  rw [hm]
  go_wp2_with fail
  go_quiet (fail)
  go_wp2
  go_ret2
  exact ⟨rfl, below_drewN hbw _⟩
/-- The relation of the loops that take colors out of uses. -/
structure TkR (w1 : World) (us : List (Px × Nat)) (v i : Value) (wr : World) (k m : Nat) : Prop where
  hk : k ≤ m
  hi : i = .int .i64 k
  own : Own wr w1.heap.size 4 v k (pxCells ((us.take k).map (·.1)))
  bel : Below w1.heap.size w1 wr
set_option maxRecDepth 100000 in
set_option maxHeartbeats 1000000 in
theorem reduce_few (W H : Int) (A : Option Addr) (n c : Nat) (ps : List Px) (most : Int) (w : World) (hp : Reads w w.heap.size 4 A n (pxCells ps)) (hr : rightB W H n = true) (hm : sideB most = true) (hmany : (Col.uses ps).length ≤ most) :
    Calls Tryd.prog 6 #[.agg #[.int .i64 W, .int .i64 H, .slice A n c], .int .i64 most] w
      fun e w' => ∃ A1 c1, e = .returned (.tuple #[.slice A1 (Col.uses ps).length c1, .nilIface]) ∧ Own w' w.heap.size 4 (.slice A1 (Col.uses ps).length c1) (Col.uses ps).length (pxCells ((Col.uses ps).map (·.1))) ∧ Below w.heap.size w w' := by
  have hm1 := sideB_true hm
  obtain ⟨us, hus⟩ : ∃ us, us = Col.uses ps := ⟨_, rfl⟩
  rw [← hus] at hmany ⊢
  have HUS := Lib.hid hus
  clear hus
  go_enter Tryd.func6, Tryd.ntmps6
  go_wp2_with fail
  refine (count_any W H A n c ps _ ((hp.alloc (Nat.le_refl _) _).more (by first | omega | (simp; done) | (simp; omega))) hr).mono ?_
  rw [← HUS.out]
  rintro e w1 ⟨A1, c1, rfl, ho1, hb1⟩
  have hbw : Below w.heap.size w w1 := Below.trans (by go_grown) (hb1.mono (by first | omega | (simp; done) | (simp; omega)))
  have hr1 := ho1.reads.2
  clear ho1 hb1
  go_wp2_with fail
  refine (many_any most _).mono ?_
  rintro e w2 ⟨rfl, rfl⟩
  rw [hm]
  go_wp2_with fail
  go_loopw [8, 36] (fun v i wr => ∃ k, TkR w1 us v i wr k us.length) (fun _ i _ => us.length - (intOf i).toNat)
  case atStart => exact ⟨0, Nat.zero_le _, rfl, Own.nil _ _ _, Below.refl _ _⟩
  case round =>
    obtain ⟨k, hk, rfl, hown, hb⟩ := hrel
    obtain ⟨wo, rfl⟩ : ∃ wo : World, wo = wr := ⟨_, rfl⟩
    have hzb := hb.size
    by_cases hlt : k < us.length
    · obtain ⟨b, off, rfl, hbl⟩ := hr1.addr (by omega)
      have hrk := hr1.below hb (Nat.le_refl _)
      have q0 : wo.cell? ⟨b, off + k * 5, none⟩ = some (.int .u8 us[k].1.r.toNat) := by
        have := hrk.cell rfl (k * 5) (by omega)
        rw [this]; exact useCells_at us k hlt 0 (by omega)
      have q1 : wo.cell? ⟨b, off + k * 5 + 1, none⟩ = some (.int .u8 us[k].1.g.toNat) := by
        rw [Nat.add_assoc, hrk.cell rfl (k * 5 + 1) (by omega)]; exact useCells_at us k hlt 1 (by omega)
      have q2 : wo.cell? ⟨b, off + k * 5 + 2, none⟩ = some (.int .u8 us[k].1.b.toNat) := by
        rw [Nat.add_assoc, hrk.cell rfl (k * 5 + 2) (by omega)]; exact useCells_at us k hlt 2 (by omega)
      have q3 : wo.cell? ⟨b, off + k * 5 + 3, none⟩ = some (.int .u8 us[k].1.a.toNat) := by
        rw [Nat.add_assoc, hrk.cell rfl (k * 5 + 3) (by omega)]; exact useCells_at us k hlt 3 (by omega)
      have q4 : wo.cell? ⟨b, off + k * 5 + 4, none⟩ = some (.int .i64 us[k].2) := by
        rw [Nat.add_assoc, hrk.cell rfl (k * 5 + 4) (by omega)]; exact useCells_at us k hlt 4 (by omega)
      clear hrk
      obtain ⟨Ao, co, rfl, hco, hro⟩ := hown.form
      have hblk : ∀ g, (Value.slice Ao k co).ownBlock = some g → w1.heap.size ≤ g ∧ g < wo.heap.size := fun g hg => hown.lt g hg
      have HT := Lib.hid (show pxCells ((us.take (k + 1)).map (·.1)) = pxCells ((us.take k).map (·.1)) ++ pxCs us[k].1 by
        rw [List.take_succ_eq_append_getElem hlt, List.map_append, pxCells_append]; simp [pxCells])
      obtain ⟨x, hx⟩ : ∃ x, x = us[k].1 := ⟨_, rfl⟩
      rw [← hx] at q0 q1 q2 q3 HT
      clear hx
      have hlm : us.length ≤ 256 := by omega
      obtain ⟨i0, hi, hz0, hz1, hz2⟩ := info_parts pxInfo
      go_wp2_with (at_builtin; refine wpList_append_S rfl (.tmp 40) (.tmp 43) 22 22 rfl (w1.heap.size) 46 i0 _ 4 4 Tryd.underlying22 hi hz0 hz1 hz2 rfl (by decide) (.slice Ao k co) (k) (pxCells ((us.take k).map (·.1))) rfl ((hown.alloc _).alloc _) (pxCells_one _) (1) ([.int .u8 x.r.toNat, .int .u8 x.g.toNat, .int .u8 x.b.toNat, .int .u8 x.a.toNat]) (Src.made Tryd.underlying22 (by first | rfl | simp) rfl (by intro u hu; exact pxCells_one [x] u hu)) (k + 1) (by omega) (pxCells ((us.take (k + 1)).map (·.1))) (by rw [HT.out]; rfl) (by unfold maxLen; omega) (by omega) (by first | omega | (simp; done) | (simp; omega)) ?_; intro A' c' w4 hown4 hg4 hat4)
      go_roundw
      case rel => exact ⟨k + 1, by omega, by go_num, hown4, Below.grown (Below.alloc (Below.alloc hb (by omega) _) (by simp; omega) _) hg4 (by simp; omega) (fun g hg => (hblk g hg).1)⟩
      case measure => simp [intOf]; omega
    · have e : k = us.length := by omega
      subst e
      obtain ⟨Ao, co, rfl, hco, hro⟩ := hown.form
      rw [List.take_length] at hown
      go_wp2
      go_ret2
      exact ⟨Ao, co, rfl, hown.mono hbw.size, hbw.trans (hb.mono hbw.size)⟩
end Go.Proofs.YtlpcmeodbigpjaaDoor
