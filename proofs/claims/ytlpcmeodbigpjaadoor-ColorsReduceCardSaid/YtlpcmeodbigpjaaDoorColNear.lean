/- The nearest color: the walk. -/
import Derived.Test.YtlpcmeodbigpjaaDoorColFar
import Derived.Lib.Hide
namespace Go.Proofs.YtlpcmeodbigpjaaDoor
open Go Go.RowKit

set_option maxHeartbeats 400000 in
theorem nearest_any (xr xg xb xa : UInt8) (A : Option Addr) (n c : Nat) (pal : List Px) (w : World) (h : Reads w w.heap.size 4 A n (pxCells pal)) (hn : n ≤ 35184372088832) :
    Calls Tryd.prog 28 #[.agg #[.int .u8 xr.toNat, .int .u8 xg.toNat, .int .u8 xb.toNat, .int .u8 xa.toNat], .slice A n c] w
      fun e w' => e = .returned (.tuple #[.int .i64 (Col.near ⟨xr, xg, xb, xa⟩ pal).1, .int .i64 (Col.near ⟨xr, xg, xb, xa⟩ pal).2]) ∧ Below w.heap.size w w' := by
  obtain rfl := h.pxLen
  go_enter Tryd.func28, Tryd.ntmps28
  go_wp2
  go_loopw [4, 5, 11] (fun at_ least i wr => ∃ k : Nat, k ≤ pal.length ∧ i = .int .i64 k ∧ at_ = .int .i64 (Col.near ⟨xr, xg, xb, xa⟩ (pal.take k)).1 ∧ least = .int .i64 (Col.near ⟨xr, xg, xb, xa⟩ (pal.take k)).2 ∧
      Below (w.heap.size + 1) (w.alloc (.cells #[.int .u8 xr.toNat, .int .u8 xg.toNat, .int .u8 xb.toNat, .int .u8 xa.toNat] 46)) wr)
    (fun _ _ i _ => pal.length - (intOf i).toNat)
  case atStart => exact ⟨0, Nat.zero_le _, rfl, rfl, rfl, Below.refl _ _⟩
  case round =>
    obtain ⟨k, hk, rfl, rfl, rfl, hb⟩ := hrel
    have hbox : ∀ j, wr.cell? ⟨w.heap.size, j, none⟩ = (w.alloc (.cells #[.int .u8 xr.toNat, .int .u8 xg.toNat, .int .u8 xb.toNat, .int .u8 xa.toNat] 46)).cell? ⟨w.heap.size, j, none⟩ := fun j => hb.cell (by simp)
    have x0 := hbox 0
    have x1 := hbox 1
    have x2 := hbox 2
    have x3 := hbox 3
    clear hbox
    simp at x0 x1 x2 x3
    by_cases hlt : k < pal.length
    · obtain ⟨b, off, rfl, hbl⟩ := h.addr (by omega)
      have hr := (h.alloc (Nat.le_refl _) (.cells #[.int .u8 xr.toNat, .int .u8 xg.toNat, .int .u8 xb.toNat, .int .u8 xa.toNat] 46)).below hb (by omega)
      obtain ⟨c0, c1, c2, c3⟩ := hr.px k (by omega)
      clear hr
      have hz : w.heap.size < wr.heap.size := by have := hb.size; simp at this; omega
      have HS : Hid (Col.near ⟨xr, xg, xb, xa⟩ (pal.take (k + 1)) = Col.nstep ⟨xr, xg, xb, xa⟩ (Col.near ⟨xr, xg, xb, xa⟩ (pal.take k)) k ⟨pal[k].r, pal[k].g, pal[k].b, pal[k].a⟩) := Col.near_take ⟨xr, xg, xb, xa⟩ pal k hlt
      go_wp2_with (go_at_call 37; refine (far_any _ _ _ _ _ _ _ _ _).mono ?_; rintro e w1 ⟨rfl, hb1⟩)
      all_goals
        go_roundw
        case rel =>
          refine ⟨k + 1, by omega, by go_num, ?_, ?_, (hb.alloc (by omega) _).trans (hb1.mono (by simp; omega))⟩
          · rw [HS.out]; unfold Col.nstep; first | rw [if_pos (by omega)] | rw [if_neg (by omega)]
          · rw [HS.out]; unfold Col.nstep; first | rw [if_pos (by omega)] | rw [if_neg (by omega)]
        case measure => simp [intOf]; omega
    · have e : k = pal.length := by omega
      subst e
      rw [List.take_length] at *
      go_wp2
      go_ret2
      exact ⟨rfl, ((Below.refl _ _).alloc (Nat.le_refl _) _).trans (hb.mono (by omega))⟩
end Go.Proofs.YtlpcmeodbigpjaaDoor
