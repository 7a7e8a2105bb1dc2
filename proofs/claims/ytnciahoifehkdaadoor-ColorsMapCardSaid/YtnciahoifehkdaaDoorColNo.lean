/- colors.Map; what Map, Far, Better answer where they must not. -/
import Derived.Test.YtnciahoifehkdaaDoorColApi
import Derived.Test.YtnciahoifehkdaaDoorCode
namespace Go.Proofs.YtnciahoifehkdaaDoor
open Go Go.RowKit

set_option maxRecDepth 100000 in
theorem Map_any (W H : Int) (A : Option Addr) (n c : Nat) (ps : List Px) (A2 : Option Addr) (n2 c2 : Nat) (pal : List Px) (E : Nat → Addr) (w : World) (hE : ErrsAt w E)
    (hp : Reads w w.heap.size 4 A n (pxCells ps)) (hq : Reads w w.heap.size 4 A2 n2 (pxCells pal)) (hr : rightB W H n = true) (hn2 : sideB n2 = true) :
    Calls Tryd.prog 46 #[.agg #[.int .i64 W, .int .i64 H, .slice A n c], .slice A2 n2 c2] w
      fun e w' => ∃ A' c', e = .returned (.tuple #[.slice A' n c', .nilIface]) ∧ Own w' w.heap.size 1 (.slice A' n c') n (ints (nums ps pal)) ∧ Below w.heap.size w w' := by
  have nl := rightB_le hr
  have n2l := sideB_le hn2
  have hv : ∀ x y, chkV W H n n2 x y = .nilIface := fun x y => by simp [chkV, hr, hn2]
  go_enter Tryd.func46, Tryd.ntmps46
  go_wp2_with fail
  refine (check_any W H A n c A2 n2 c2 _ _ _ _ _ (cell_past _ hE.shape) (cell_past _ hE.bound)).mono ?_
  rintro e w1 ⟨rfl, hb1⟩
  rw [hv]
  clear hv
  have B1 := (Blk.new w 24 #[.int .i64 W, .int .i64 H, .slice A n c] rfl).below hb1 (by first | omega | (simp; done) | (simp; omega))
  have c1 := B1.cell
  have hbw : Below w.heap.size w w1 := Below.trans (by go_grown) (hb1.mono (by first | omega | (simp; done) | (simp; omega)))
  have hp1 := (hp.below hbw (Nat.le_refl _)).more hbw.size
  have hq1 := (hq.below hbw (Nat.le_refl _)).more hbw.size
  go_wp2_with fail
  refine (mapped_any W H A n c ps A2 n2 c2 pal w1 hp1 hq1 (by omega) (by omega) n2l.1).mono ?_
  rintro e w2 ⟨v, rfl, hown2, hb2⟩
  obtain ⟨A', c', rfl, hc', _⟩ := hown2.form
  go_wp2_with fail
  go_ret2
  exact ⟨_, _, rfl, hown2.mono hbw.size, hbw.trans (hb2.mono hbw.size)⟩
set_option maxRecDepth 100000 in
theorem Map_no (W H : Int) (A : Option Addr) (n c : Nat) (A2 : Option Addr) (n2 c2 : Nat) (E : Nat → Addr) (i : Nat) (w : World) (hE : ErrsAt w E) (hv : chkV W H n n2 (errV (E 2)) (errV (E 1)) = errV (E i)) :
    Calls Tryd.prog 46 #[.agg #[.int .i64 W, .int .i64 H, .slice A n c], .slice A2 n2 c2] w
      fun e w' => e = .returned (.tuple #[.slice none 0 0, errV (E i)]) ∧ Below w.heap.size w w' := by
  go_enter Tryd.func46, Tryd.ntmps46
  go_wp2_with fail
  refine (check_any W H A n c A2 n2 c2 _ _ _ _ _ (cell_past _ hE.shape) (cell_past _ hE.bound)).mono ?_
  rintro e w1 ⟨rfl, hb1⟩
  unfold errV at hv
  rw [hv]
  clear hv
  go_wp2_with fail
  go_ret2
  exact ⟨rfl, Below.trans (by go_grown) (hb1.mono (by first | omega | (simp; done) | (simp; omega)))⟩
set_option maxRecDepth 100000 in
theorem Far_no (W H : Int) (A : Option Addr) (n c : Nat) (A2 : Option Addr) (n2 c2 : Nat) (E : Nat → Addr) (i : Nat) (w : World) (hE : ErrsAt w E) (hv : chkV W H n n2 (errV (E 2)) (errV (E 1)) = errV (E i)) :
    Calls Tryd.prog 19 #[.agg #[.int .i64 W, .int .i64 H, .slice A n c], .slice A2 n2 c2] w
      fun e w' => e = .returned (.tuple #[.int .i64 0, errV (E i)]) ∧ Below w.heap.size w w' := by
  go_enter Tryd.func19, Tryd.ntmps19
  go_wp2_with fail
  refine (check_any W H A n c A2 n2 c2 _ _ _ _ _ (cell_past _ hE.shape) (cell_past _ hE.bound)).mono ?_
  rintro e w1 ⟨rfl, hb1⟩
  unfold errV at hv
  rw [hv]
  clear hv
  go_wp2_with fail
  go_ret2
  exact ⟨rfl, Below.trans (by go_grown) (hb1.mono (by first | omega | (simp; done) | (simp; omega)))⟩
set_option maxRecDepth 100000 in
theorem Better_no (W H : Int) (A : Option Addr) (n c : Nat) (A2 : Option Addr) (n2 c2 : Nat) (E : Nat → Addr) (i : Nat) (w : World) (hE : ErrsAt w E) (hv : chkV W H n n2 (errV (E 2)) (errV (E 1)) = errV (E i)) :
    Calls Tryd.prog 22 #[.agg #[.int .i64 W, .int .i64 H, .slice A n c], .slice A2 n2 c2] w
      fun e w' => e = .returned (.tuple #[.slice none 0 0, errV (E i)]) ∧ Below w.heap.size w w' := by
  go_enter Tryd.func22, Tryd.ntmps22
  go_wp2_with fail
  refine (check_any W H A n c A2 n2 c2 _ _ _ _ _ (cell_past _ hE.shape) (cell_past _ hE.bound)).mono ?_
  rintro e w1 ⟨rfl, hb1⟩
  unfold errV at hv
  rw [hv]
  clear hv
  go_wp2_with fail
  go_ret2
  exact ⟨rfl, Below.trans (by go_grown) (hb1.mono (by first | omega | (simp; done) | (simp; omega)))⟩
end Go.Proofs.YtnciahoifehkdaaDoor
