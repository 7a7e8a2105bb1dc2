/- pixel.Over: the walks, a mode each. -/
import Derived.Test.YtfadnkfceggjaaaDoorPix3
import Derived.Deep.RegionHeld3
import Derived.BigRegion
namespace Go.Proofs.YtfadnkfceggjaaaDoor
open Go Go.RowKit

theorem run_store_func {P : Program} (w : World) (a : Addr) (m : Mode) (fn : Fn) (x y : Array Value) : (store a (.func fn x y) m).run P w = stored P w a (.func fn x y) m := run_store P w a _ m rfl

def blendV : Value := .agg #[.func (.func 101) #[] #[], .func (.func 102) #[] #[], .func (.func 103) #[] #[], .func (.func 104) #[] #[], .func (.func 105) #[] #[], .func (.func 106) #[] #[]]
theorem blends_any (w : World) : Calls Tryd.prog 87 #[] w fun e w' => e = .returned blendV ∧ Below w.heap.size w w' := by
  unfold blendV
  have hst := @run_store_func Tryd.prog
  go_enter Tryd.func87, Tryd.ntmps87
  go_wp2
  exact bodyPost_ret (v := .agg #[.func (.func 101) #[] #[], .func (.func 102) #[] #[], .func (.func 103) #[] #[], .func (.func 104) #[] #[], .func (.func 105) #[] #[], .func (.func 106) #[] #[]]) (by simp [results, Tryd.results87, go_sem]) rfl ⟨rfl, by go_grown⟩

set_option maxRecDepth 100000 in
theorem over_none (k : Int) (t u : Px) (w : World) (hk : modeB k = true) (hc : Pix.covers t.a.toNat u.a.toNat = 0) :
    Calls Tryd.prog 65 #[.int .i64 k, pxV t, pxV u] w fun e w' => e = .returned (.tuple #[pxV (Pix.over k t u), .nilIface]) ∧ Below w.heap.size w w' := by
  have HO := Lib.hid (show Pix.over k t u = Pix.nil by rw [Pix.over, if_pos hc])
  obtain ⟨a1, a2⟩ := Pix.a_nonneg t.a
  obtain ⟨b1, b2⟩ := Pix.a_nonneg u.a
  obtain ⟨x3, x4⟩ := mul_bounds b1 b2 (show 0 ≤ 255 - (t.a.toNat : Int) by omega) (show 255 - (t.a.toNat : Int) ≤ 255 by omega)
  unfold Pix.covers at hc
  unfold pxV
  go_enter Tryd.func65, Tryd.ntmps65
  go_wp2_with fail
  refine (mode_any k _).mono ?_
  rintro e w1 ⟨rfl, rfl⟩
  rw [hk]
  go_wp2_with fail
  go_region
  all_goals
    go_wp2
    refine bodyPost_ret (v := .tuple #[.agg #[.int .u8 0, .int .u8 0, .int .u8 0, .int .u8 0], .nilIface]) (by simp [results, Tryd.results65, go_sem]) rfl ⟨by rw [HO.out]; rfl, ?_⟩
    go_grown
end Go.Proofs.YtfadnkfceggjaaaDoor
