/- past.Past[int]: New, Now, Kept, Undo, Redo, Do: the walks. -/
import Derived.Test.YtnciahoifehkdaaDoorSwap
import Derived.Test.YtnciahoifehkdaaDoorPg
import Derived.Test.YtnciahoifehkdaaDoorCode
import Derived.BigQuiet
import Derived.Deep.QuietTactic
namespace Go.Proofs.YtnciahoifehkdaaDoor
open Go Go.RowKit

theorem pnew_any (x most : Int) (w : World) (h0 : 0 ≤ most) (h1 : most ≤ 20) :
    Calls Tryd.prog 32 #[.int .i64 x, .int .i64 most] w fun e w' => e = .returned (.tuple #[.pointer (some ⟨w.heap.size, 0, none⟩), .nilIface]) ∧ w' = w.alloc (.cells #[.int .i64 x, .int .i64 most, .slice none 0 0, .slice none 0 0] 157) := by
  go_enter Tryd.func32, Tryd.ntmps32
  go_wp2_with fail
  go_ret2
  exact ⟨rfl, rfl⟩
theorem pnew_no (x most : Int) (E : Nat → Addr) (w : World) (hE : ErrsAt w E) (h : most < 0 ∨ 20 < most) :
    Calls Tryd.prog 32 #[.int .i64 x, .int .i64 most] w fun e w' => e = .returned (.tuple #[.pointer none, errV (E 1)]) ∧ Below w.heap.size w w' := by
  have hb := hE.bound
  rcases h with h | h
  all_goals
    go_enter Tryd.func32, Tryd.ntmps32
    go_wp2_with fail
    go_quiet (fail)
    go_wp2
    go_ret2
    exact ⟨rfl, below_drewN (Below.refl _ _) _⟩
theorem pnow_any (gp : Nat) (now most : Int) (vb vf : Value) (w : World) (hb : Blk w gp 157 #[.int .i64 now, .int .i64 most, vb, vf]) :
    Calls Tryd.prog 38 #[.pointer (some ⟨gp, 0, none⟩)] w fun e w' => e = .returned (.int .i64 now) ∧ w' = w := by
  have d0 : w.cell? ⟨gp, 0, none⟩ = some (.int .i64 now) := by rw [hb.cell]; rfl
  go_enter Tryd.func38, Tryd.ntmps38
  go_wp2_with fail
  go_ret
  exact ⟨rfl, rfl⟩
theorem pkept_any (gp : Nat) (now most : Int) (A1 A2 : Option Addr) (n1 c1 n2 c2 : Nat) (w : World) (hb : Blk w gp 157 #[.int .i64 now, .int .i64 most, .slice A1 n1 c1, .slice A2 n2 c2]) :
    Calls Tryd.prog 37 #[.pointer (some ⟨gp, 0, none⟩)] w fun e w' => e = .returned (.tuple #[.int .i64 n1, .int .i64 n2]) ∧ ∃ q, w' = w.drewN q := by
  have d2 : w.cell? ⟨gp, 2, none⟩ = some (.slice A1 n1 c1) := by rw [hb.cell]; rfl
  have d3 : w.cell? ⟨gp, 3, none⟩ = some (.slice A2 n2 c2) := by rw [hb.cell]; rfl
  go_enter Tryd.func37, Tryd.ntmps37
  go_wp2_with fail
  go_quiet (fail)
  go_wp2
  go_ret2
  exact ⟨rfl, _, rfl⟩

set_option maxRecDepth 100000 in
theorem undo_no (B gp : Nat) (now most : Int) (vb vf : Value) (ts : List Int) (w : World) (hP : Pst w B gp now most vb [] vf ts) :
    Calls Tryd.prog 35 #[.pointer (some ⟨gp, 0, none⟩)] w fun e w' => e = .returned (.bool false) ∧ ∃ q, w' = w.drewN q := by
  have hb := hP.blk
  have ho := hP.ob
  go_enter Tryd.func35, Tryd.ntmps35
  go_wp2_with fail
  go_quiet ((go_at_call 100; exact Calls.quiet_of_same (swap_no gp 2 3 _ vb B _ hb rfl ho)))
  go_wp2_with fail
  go_ret
  exact ⟨rfl, _, rfl⟩
set_option maxRecDepth 100000 in
theorem undo_yes (B gp : Nat) (now most x : Int) (vb vf : Value) (fs ts : List Int) (w : World) (hP : Pst w B gp now most vb (fs ++ [x]) vf ts) (hn : fs.length ≤ 1048576) (hm : ts.length ≤ 1048576) (hB : B ≤ w.heap.size) :
    Calls Tryd.prog 35 #[.pointer (some ⟨gp, 0, none⟩)] w fun e w' => e = .returned (.bool true) ∧ ∃ vb' vf', Pst w' B gp x most vb' fs vf' (ts ++ [now]) ∧ Fresh w vb vb' ∧ Fresh w vf vf' ∧
      Keeps (fun g => g = gp ∨ vf.ownBlock = some g) w w' := by
  have hb := hP.blk
  have hF : Own w B 1 vb (fs.length + 1) (ints (fs ++ [x])) := by have := hP.ob; rwa [List.length_append] at this
  have hT := hP.of_
  have hsF := hP.sb
  have hsT := hP.sf
  go_enter Tryd.func35, Tryd.ntmps35
  go_wp2_with fail
  go_region_with ((go_at_call 100; refine (swap_yes gp 2 3 _ vb vf now x fs ts fs.length ts.length B _ (hb.drew) rfl rfl rfl (by decide) (by decide) (by decide) hF.drew hT.drew hsF hsT hP.ne hn hm hB).mono ?_; rintro e w1 ⟨rfl, vF', vT', hblk, h1, h2, h3, h4, h5, h6, h7, h8⟩))
  go_wp2_with fail
  go_ret
  refine ⟨rfl, vF', vT', ⟨hblk, hP.low, ?_, ?_, ?_, ?_, ?_⟩, h3, h4, ⟨h8.os, h8.tape, h8.output, h8.size, h8.block⟩⟩
  · exact h1
  · rw [List.length_append]; exact h2
  · exact h5
  · exact h6
  · exact h7

set_option maxRecDepth 100000 in
theorem redo_no (B gp : Nat) (now most : Int) (vb vf : Value) (ts : List Int) (w : World) (hP : Pst w B gp now most vb ts vf []) :
    Calls Tryd.prog 36 #[.pointer (some ⟨gp, 0, none⟩)] w fun e w' => e = .returned (.bool false) ∧ ∃ q, w' = w.drewN q := by
  have hb := hP.blk
  have ho := hP.of_
  go_enter Tryd.func36, Tryd.ntmps36
  go_wp2_with fail
  go_quiet ((go_at_call 100; exact Calls.quiet_of_same (swap_no gp 3 2 _ vf B _ hb rfl ho)))
  go_wp2_with fail
  go_ret
  exact ⟨rfl, _, rfl⟩
set_option maxRecDepth 100000 in
theorem redo_yes (B gp : Nat) (now most x : Int) (vb vf : Value) (fs ts : List Int) (w : World) (hP : Pst w B gp now most vb ts vf (fs ++ [x])) (hn : fs.length ≤ 1048576) (hm : ts.length ≤ 1048576) (hB : B ≤ w.heap.size) :
    Calls Tryd.prog 36 #[.pointer (some ⟨gp, 0, none⟩)] w fun e w' => e = .returned (.bool true) ∧ ∃ vb' vf', Pst w' B gp x most vb' (ts ++ [now]) vf' fs ∧ Fresh w vb vb' ∧ Fresh w vf vf' ∧
      Keeps (fun g => g = gp ∨ vb.ownBlock = some g) w w' := by
  have hb := hP.blk
  have hF : Own w B 1 vf (fs.length + 1) (ints (fs ++ [x])) := by have := hP.of_; rwa [List.length_append] at this
  have hT := hP.ob
  have hsF := hP.sf
  have hsT := hP.sb
  go_enter Tryd.func36, Tryd.ntmps36
  go_wp2_with fail
  go_region_with ((go_at_call 100; refine (swap_yes gp 3 2 _ vf vb now x fs ts fs.length ts.length B _ (hb.drew) rfl rfl rfl (by decide) (by decide) (by decide) hF.drew hT.drew hsF hsT (fun g h1 h2 => hP.ne g h2 h1) hn hm hB).mono ?_; rintro e w1 ⟨rfl, vF', vT', hblk, h1, h2, h3, h4, h5, h6, h7, h8⟩))
  go_wp2_with fail
  go_ret
  refine ⟨rfl, vT', vF', ⟨hblk, hP.low, ?_, ?_, ?_, ?_, ?_⟩, h4, h3, ⟨h8.os, h8.tape, h8.output, h8.size, h8.block⟩⟩
  · rw [List.length_append]; exact h2
  · exact h1
  · exact h6
  · exact h5
  · exact fun g x y => h7 g y x
end Go.Proofs.YtnciahoifehkdaaDoor
