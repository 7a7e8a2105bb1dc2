/- colors.check, Far, Better. -/
import Derived.Test.YtnciahoifehkdaaDoorColBetter
namespace Go.Proofs.YtnciahoifehkdaaDoor
open Go Go.RowKit

theorem sideB_le {n : Nat} (h : sideB n = true) : 0 < n ∧ n ≤ 256 := by have := sideB_true h; omega
theorem rightB_le {W H : Int} {n : Nat} (h : rightB W H n = true) : n ≤ 65536 := (rightB_true h).2.2.2

/-- What check answers. -/
def chkV (W H : Int) (n n2 : Nat) (eS eB : Value) : Value := if rightB W H n = true then if sideB n2 = true then .nilIface else eB else eS

theorem check_any (W H : Int) (A : Option Addr) (n c : Nat) (A2 : Option Addr) (n2 c2 : Nat) (tS tB : TypeId) (xS xB : Value) (w : World)
    (hS : w.cell? ⟨1, 0, none⟩ = some (.iface tS xS)) (hB : w.cell? ⟨0, 0, none⟩ = some (.iface tB xB)) :
    Calls Tryd.prog 84 #[.agg #[.int .i64 W, .int .i64 H, .slice A n c], .slice A2 n2 c2] w
      fun e w' => e = .returned (chkV W H n n2 (.iface tS xS) (.iface tB xB)) ∧ Below w.heap.size w w' := by
  have lS := cell_lt hS
  have lB := cell_lt hB
  cases hr : rightB W H n with
  | false =>
    have HV := Lib.hid (show chkV W H n n2 (.iface tS xS) (.iface tB xB) = .iface tS xS by simp [chkV, hr])
    go_enter Tryd.func84, Tryd.ntmps84
    go_wp2_with fail
    refine (rright_any W H A n c _).mono ?_
    rintro e w1 ⟨rfl, hb1⟩
    rw [hr]
    have eS := bcell_ hb1 (by first | omega | (simp; done) | (simp; omega)) (cell_past _ hS)
    go_wp2_with fail
    go_ret
    exact ⟨by rw [HV.out]; rfl, Below.trans (by go_grown) (hb1.mono (by first | omega | (simp; done) | (simp; omega)))⟩
  | true =>
    cases hn : sideB n2 with
    | false =>
      have HV := Lib.hid (show chkV W H n n2 (.iface tS xS) (.iface tB xB) = .iface tB xB by simp [chkV, hr, hn])
      go_enter Tryd.func84, Tryd.ntmps84
      go_wp2_with fail
      refine (rright_any W H A n c _).mono ?_
      rintro e w1 ⟨rfl, hb1⟩
      rw [hr]
      have eB := bcell_ hb1 (by first | omega | (simp; done) | (simp; omega)) (cell_past _ hB)
      go_wp2_with fail
      refine (many_any n2 _).mono ?_
      rintro e w2 ⟨rfl, rfl⟩
      rw [hn]
      go_wp2_with fail
      go_ret
      exact ⟨by rw [HV.out]; rfl, Below.trans (by go_grown) (hb1.mono (by first | omega | (simp; done) | (simp; omega)))⟩
    | true =>
      have HV := Lib.hid (show chkV W H n n2 (.iface tS xS) (.iface tB xB) = .nilIface by simp [chkV, hr, hn])
      go_enter Tryd.func84, Tryd.ntmps84
      go_wp2_with fail
      refine (rright_any W H A n c _).mono ?_
      rintro e w1 ⟨rfl, hb1⟩
      rw [hr]
      go_wp2_with fail
      refine (many_any n2 _).mono ?_
      rintro e w2 ⟨rfl, rfl⟩
      rw [hn]
      go_wp2_with fail
      go_ret
      exact ⟨by rw [HV.out]; rfl, Below.trans (by go_grown) (hb1.mono (by first | omega | (simp; done) | (simp; omega)))⟩

set_option maxRecDepth 100000 in
theorem Far_bad (W H : Int) (A : Option Addr) (n c : Nat) (A2 : Option Addr) (n2 c2 : Nat) (tS tB : TypeId) (xS xB : Value) (w : World)
    (hS : w.cell? ⟨1, 0, none⟩ = some (.iface tS xS)) (hB : w.cell? ⟨0, 0, none⟩ = some (.iface tB xB)) (hno : ¬ (rightB W H n = true ∧ sideB n2 = true)) :
    Calls Tryd.prog 19 #[.agg #[.int .i64 W, .int .i64 H, .slice A n c], .slice A2 n2 c2] w
      fun e w' => (∃ t x, chkV W H n n2 (.iface tS xS) (.iface tB xB) = .iface t x ∧ e = .returned (.tuple #[.int .i64 0, .iface t x])) ∧ Below w.heap.size w w' := by
  have lS := cell_lt hS
  have lB := cell_lt hB
  obtain ⟨t, x, hv⟩ : ∃ t x, chkV W H n n2 (.iface tS xS) (.iface tB xB) = .iface t x := by
    unfold chkV
    split
    · rename_i h1
      rw [if_neg (fun h2 => hno ⟨h1, h2⟩)]
      exact ⟨_, _, rfl⟩
    · exact ⟨_, _, rfl⟩
  have HV := Lib.hid hv
  go_enter Tryd.func19, Tryd.ntmps19
  go_wp2_with fail
  refine (check_any W H A n c A2 n2 c2 tS tB xS xB _ (cell_past _ hS) (cell_past _ hB)).mono ?_
  rintro e w1 ⟨rfl, hb1⟩
  rw [hv]
  clear hv
  go_wp2_with fail
  go_ret2
  exact ⟨⟨t, x, HV.out, rfl⟩, Below.trans (by go_grown) (hb1.mono (by first | omega | (simp; done) | (simp; omega)))⟩

set_option maxRecDepth 100000 in
theorem Far_any (W H : Int) (A : Option Addr) (n c : Nat) (ps : List Px) (A2 : Option Addr) (n2 c2 : Nat) (pal : List Px) (tS tB : TypeId) (xS xB : Value) (w : World)
    (hS : w.cell? ⟨1, 0, none⟩ = some (.iface tS xS)) (hB : w.cell? ⟨0, 0, none⟩ = some (.iface tB xB))
    (hp : Reads w w.heap.size 4 A n (pxCells ps)) (hq : Reads w w.heap.size 4 A2 n2 (pxCells pal)) (hr : rightB W H n = true) (hn2 : sideB n2 = true) :
    Calls Tryd.prog 19 #[.agg #[.int .i64 W, .int .i64 H, .slice A n c], .slice A2 n2 c2] w
      fun e w' => e = .returned (.tuple #[.int .i64 (Col.farSum ps pal), .nilIface]) ∧ Below w.heap.size w w' := by
  have lS := cell_lt hS
  have lB := cell_lt hB
  have nl := rightB_le hr
  have n2l := sideB_le hn2
  have hv : chkV W H n n2 (.iface tS xS) (.iface tB xB) = .nilIface := by simp [chkV, hr, hn2]
  go_enter Tryd.func19, Tryd.ntmps19
  go_wp2_with fail
  refine (check_any W H A n c A2 n2 c2 tS tB xS xB _ (cell_past _ hS) (cell_past _ hB)).mono ?_
  rintro e w1 ⟨rfl, hb1⟩
  rw [hv]
  clear hv
  have B1 := (Blk.new w 24 #[.int .i64 W, .int .i64 H, .slice A n c] rfl).below hb1 (by first | omega | (simp; done) | (simp; omega))
  have c1 := B1.cell
  have hbw : Below w.heap.size w w1 := Below.trans (by go_grown) (hb1.mono (by first | omega | (simp; done) | (simp; omega)))
  have hp1 := (hp.below hbw (Nat.le_refl _)).more hbw.size
  have hq1 := (hq.below hbw (Nat.le_refl _)).more hbw.size
  go_wp2_with fail
  refine (mapped_any W H A n c ps A2 n2 c2 pal w1 hp1 hq1 (by omega) (by omega) n2l.1).mono ?_
  rintro e w2 ⟨v, rfl, hown2, hb2⟩
  go_wp2_with fail
  go_ret2
  exact ⟨rfl, hbw.trans (hb2.mono hbw.size)⟩

set_option maxRecDepth 100000 in
theorem Better_any (W H : Int) (A : Option Addr) (n c : Nat) (ps : List Px) (A2 : Option Addr) (n2 c2 : Nat) (pal : List Px) (tS tB : TypeId) (xS xB : Value) (w : World)
    (hS : w.cell? ⟨1, 0, none⟩ = some (.iface tS xS)) (hB : w.cell? ⟨0, 0, none⟩ = some (.iface tB xB))
    (hp : Reads w w.heap.size 4 A n (pxCells ps)) (hq : Reads w w.heap.size 4 A2 n2 (pxCells pal)) (hr : rightB W H n = true) (hn2 : sideB n2 = true) :
    Calls Tryd.prog 22 #[.agg #[.int .i64 W, .int .i64 H, .slice A n c], .slice A2 n2 c2] w
      fun e w' => ∃ A' c', e = .returned (.tuple #[.slice A' n2 c', .nilIface]) ∧ Own w' w.heap.size 4 (.slice A' n2 c') n2 (pxCells (Col.better ps pal)) ∧ Below w.heap.size w w' := by
  have lS := cell_lt hS
  have lB := cell_lt hB
  have nl := rightB_le hr
  have n2l := sideB_le hn2
  have hv : chkV W H n n2 (.iface tS xS) (.iface tB xB) = .nilIface := by simp [chkV, hr, hn2]
  obtain ⟨b, o, rfl, hbo⟩ := hq.addr (by omega)
  go_enter Tryd.func22, Tryd.ntmps22
  go_wp2_with fail
  refine (check_any W H A n c (some ⟨b, o, none⟩) n2 c2 tS tB xS xB _ (cell_past _ hS) (cell_past _ hB)).mono ?_
  rintro e w1 ⟨rfl, hb1⟩
  rw [hv]
  clear hv
  have B1 := (Blk.new w 24 #[.int .i64 W, .int .i64 H, .slice A n c] rfl).below hb1 (by first | omega | (simp; done) | (simp; omega))
  have c1 := B1.cell
  have hbw : Below w.heap.size w w1 := Below.trans (by go_grown) (hb1.mono (by first | omega | (simp; done) | (simp; omega)))
  have hp1 := (hp.below hbw (Nat.le_refl _)).more hbw.size
  have hq1 := (hq.below hbw (Nat.le_refl _)).more hbw.size
  go_wp2_with fail
  refine (better_any W H A n c ps b o n2 c2 pal w1 hp1 hq1 (by omega) (by omega) n2l.1).mono ?_
  rintro e w2 ⟨A', c', rfl, hown2, hb2⟩
  go_wp2_with fail
  go_ret2
  exact ⟨_, _, rfl, hown2.mono hbw.size, hbw.trans (hb2.mono hbw.size)⟩
end Go.Proofs.YtnciahoifehkdaaDoor
