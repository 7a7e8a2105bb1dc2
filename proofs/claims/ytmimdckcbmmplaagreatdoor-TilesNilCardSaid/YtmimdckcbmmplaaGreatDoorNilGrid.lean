/- A grid that is nil; two grids of other sizes: the walks. -/
import Derived.Test.YtmimdckcbmmplaaGreatDoorTChanged
import Derived.Test.YtmimdckcbmmplaaGreatDoorCode
namespace Go.Proofs.YtmimdckcbmmplaaGreatDoor
open Go Go.RowKit

section
variable (E : Nat → Addr) (w : World)
set_option maxRecDepth 100000 in
theorem nfill_any (X Y Wr Hr : Int) (p : Px) (hE : ErrsAt w E) :
    Calls Tryz.prog 8 #[.pointer none, .agg #[.int .i64 X, .int .i64 Y, .int .i64 Wr, .int .i64 Hr], .agg #[.int .u8 p.r.toNat, .int .u8 p.g.toNat, .int .u8 p.b.toNat, .int .u8 p.a.toNat]] w fun e w' => e = .returned (.tuple #[.pointer none, errV (E 2)]) ∧ Below w.heap.size w w' := by
  have HE := Lib.hid hE
  have dS := hE.shape
  have d2 := fun o o2 => cell_past (w := w.alloc o) o2 (cell_past (w := w) o dS)
  clear hE
  go_enter Tryz.func8, Tryz.ntmps8
  go_wp2_with fail
  go_quiet (fail)
  go_wp2_with fail
  go_ret2
  exact ⟨rfl, below_drewN (by go_grown) _⟩
set_option maxRecDepth 100000 in
theorem nstamp_any (Wq Hq : Int) (Aq : Option Addr) (nq cq : Nat) (x y m : Int) (hE : ErrsAt w E) :
    Calls Tryz.prog 9 #[.pointer none, .agg #[.int .i64 Wq, .int .i64 Hq, .slice Aq nq cq], .int .i64 x, .int .i64 y, .int .i64 m] w fun e w' => e = .returned (.tuple #[.pointer none, errV (E 2)]) ∧ Below w.heap.size w w' := by
  have dS := hE.shape
  have d2 := fun o => cell_past (w := w) o dS
  clear hE
  go_enter Tryz.func9, Tryz.ntmps9
  go_wp2_with fail
  go_quiet (fail)
  go_wp2_with fail
  go_ret2
  exact ⟨rfl, below_drewN (by go_grown) _⟩
set_option maxRecDepth 100000 in
theorem nat_any (x y : Int) (hE : ErrsAt w E) :
    Calls Tryz.prog 10 #[.pointer none, .int .i64 x, .int .i64 y] w fun e w' => e = .returned (.tuple #[.agg #[.int .u8 0, .int .u8 0, .int .u8 0, .int .u8 0], errV (E 2)]) ∧ Below w.heap.size w w' := by
  have dS := hE.shape
  have d2 := fun o => cell_past (w := w) o dS
  have lS := cell_lt dS
  simp only at lS
  clear hE
  go_enter Tryz.func10, Tryz.ntmps10
  go_wp2_with fail
  go_region
  all_goals
    go_wp2_with fail
    refine bodyPost_ret (v := .tuple #[.agg #[.int .u8 0, .int .u8 0, .int .u8 0, .int .u8 0], errV (E 2)]) (by simp [results, Tryz.results10, go_sem, errV]) rfl ⟨rfl, by first | go_grown | go_show⟩
theorem nsize_any : Calls Tryz.prog 11 #[.pointer none] w fun e w' => e = .returned (.tuple #[.int .i64 0, .int .i64 0]) ∧ w = w' := by
  go_enter Tryz.func11, Tryz.ntmps11
  go_wp2_with fail
  go_ret2
  exact ⟨rfl, rfl⟩
theorem nplain_any : Calls Tryz.prog 14 #[.pointer none] w fun e w' => e = .returned (.int .i64 0) ∧ w = w' := by
  go_enter Tryz.func14, Tryz.ntmps14
  go_wp2_with fail
  go_ret
  exact ⟨rfl, rfl⟩
theorem npicture_any : Calls Tryz.prog 17 #[.pointer none] w fun e w' => e = .returned (.agg #[.int .i64 0, .int .i64 0, .slice none 0 0]) ∧ Below w.heap.size w w' := by
  go_enter Tryz.func17, Tryz.ntmps17
  go_wp2_with fail
  refine bodyPost_ret (v := .agg #[.int .i64 0, .int .i64 0, .slice none 0 0]) (by simp [results, Tryz.results17, go_sem]) rfl ⟨rfl, by first | go_grown | go_show⟩
set_option maxRecDepth 100000 in
theorem nchanged_any (g : Nat) (hE : ErrsAt w E) :
    Calls Tryz.prog 12 #[.pointer (some ⟨g, 0, none⟩), .pointer none] w fun e w' => e = .returned (.tuple #[.slice none 0 0, errV (E 2)]) ∧ Below w.heap.size w w' := by
  have dS := hE.shape
  clear hE
  go_enter Tryz.func12, Tryz.ntmps12
  go_wp2_with fail
  go_quiet (fail)
  go_wp2_with fail
  go_quiet (fail)
  go_wp2_with fail
  go_ret2
  exact ⟨rfl, below_drewN (below_drewN (Below.refl _ _) _) _⟩
set_option maxRecDepth 100000 in
theorem ochanged_any (g1 g2 W H W2 H2 : Nat) (ts us : List TM) (hg1 : Gd w g1 W H ts) (hg2 : Gd w g2 W2 H2 us) (hE : ErrsAt w E) (hne : ¬ W = W2 ∨ ¬ H = H2) :
    Calls Tryz.prog 12 #[.pointer (some ⟨g1, 0, none⟩), .pointer (some ⟨g2, 0, none⟩)] w fun e w' => e = .returned (.tuple #[.slice none 0 0, errV (E 2)]) ∧ Below w.heap.size w w' := by
  obtain ⟨A1, c1, hb1, _⟩ := hg1.ex
  obtain ⟨A2, c2, hb2, _⟩ := hg2.ex
  have s0 : w.cell? ⟨g1, 0, none⟩ = some (.int .i64 W) := (hb1.cell 0).trans rfl
  have s1 : w.cell? ⟨g1, 1, none⟩ = some (.int .i64 H) := (hb1.cell 1).trans rfl
  have t0 : w.cell? ⟨g2, 0, none⟩ = some (.int .i64 W2) := (hb2.cell 0).trans rfl
  have t1 : w.cell? ⟨g2, 1, none⟩ = some (.int .i64 H2) := (hb2.cell 1).trans rfl
  have dS := hE.shape
  clear hE hg1 hg2 hb1 hb2
  rcases (show ¬ W = W2 ∨ (W = W2 ∧ ¬ H = H2) by omega) with h | ⟨h, h2⟩
  · have h1 : ¬ (W : Int) = (W2 : Int) := by omega
    clear h hne
    go_enter Tryz.func12, Tryz.ntmps12
    go_wp2_with fail
    go_quiet (fail)
    go_wp2_with fail
    go_quiet (fail)
    go_wp2_with fail
    go_ret2
    exact ⟨rfl, below_drewN (below_drewN (Below.refl _ _) _) _⟩
  · subst h
    have h1 : ¬ (H : Int) = (H2 : Int) := by omega
    clear h2 hne
    go_enter Tryz.func12, Tryz.ntmps12
    go_wp2_with fail
    go_quiet (fail)
    go_wp2_with fail
    go_quiet (fail)
    go_wp2_with fail
    go_ret2
    exact ⟨rfl, below_drewN (below_drewN (Below.refl _ _) _) _⟩
end
end Go.Proofs.YtmimdckcbmmplaaGreatDoor
