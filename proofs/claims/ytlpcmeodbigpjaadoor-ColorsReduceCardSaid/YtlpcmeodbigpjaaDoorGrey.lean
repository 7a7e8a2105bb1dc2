/- grey: a closed fact. -/
import Derived.Test.YtlpcmeodbigpjaaDoorBase
import Derived.Test.YtlpcmeodbigpjaaDoorCount
namespace Go.Proofs.YtlpcmeodbigpjaaDoor
open Go Go.RowKit

theorem greyRight : rightB 2 2 4 = true := by decide
theorem greyUses : Col.uses (List.replicate 4 ⟨0, 7, 0, 0⟩) = [(⟨0, 7, 0, 0⟩, 4)] := by decide
set_option maxRecDepth 100000 in
theorem grey_any (w : World) : Calls Tryd.prog 4 #[] w fun e w' => e = .returned (.bool true) ∧ Below w.heap.size w w' := by
  go_enter Tryd.func4, Tryd.ntmps4
  go_wp2_with fail
  refine (blank_any 2 2 4 ⟨0, 7, 0, 0⟩ _ (by omega) (by omega) (by omega) (by omega)).mono ?_
  rintro e w1 ⟨A1, c1, rfl, hown1, hb1⟩
  go_wp2_with fail
  refine (count_any 2 2 A1 4 c1 (List.replicate 4 ⟨0, 7, 0, 0⟩) _ hown1.reads.2 greyRight).mono ?_
  rw [greyUses]
  rintro e w2 ⟨A2, c2, rfl, hown2, hb2⟩
  obtain ⟨g, o, rfl, hg1, hg2⟩ := hown2.addr (by simp)
  have hr := hown2.reads.2
  have x0 : w2.cell? ⟨g, o, none⟩ = some (.int .u8 0) := hr.cell rfl 0 (by simp)
  have x1 : w2.cell? ⟨g, o + 1, none⟩ = some (.int .u8 7) := hr.cell rfl 1 (by simp)
  have x2 : w2.cell? ⟨g, o + 2, none⟩ = some (.int .u8 0) := hr.cell rfl 2 (by simp)
  have x3 : w2.cell? ⟨g, o + 3, none⟩ = some (.int .u8 0) := hr.cell rfl 3 (by simp)
  have x4 : w2.cell? ⟨g, o + 4, none⟩ = some (.int .i64 4) := hr.cell rfl 4 (by simp)
  go_wp2_with fail
  go_ret
  exact ⟨rfl, hb1.trans (hb2.mono hb1.size)⟩
end Go.Proofs.YtlpcmeodbigpjaaDoor
