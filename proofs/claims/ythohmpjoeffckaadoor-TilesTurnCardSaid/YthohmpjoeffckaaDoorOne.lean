/- one: the walk. -/
import Derived.Test.YthohmpjoeffckaaDoorTileLaw
import Derived.Test.YthohmpjoeffckaaDoorPxKey
import Derived.Test.YthohmpjoeffckaaDoorMem
import Derived.Test.YthohmpjoeffckaaDoorBase
import Derived.BigQuiet
import Derived.Deep.QuietTactic
import Derived.Test.YthohmpjoeffckaaDoorTChanged
import Derived.Test.YthohmpjoeffckaaDoorGridPix
namespace Go.Proofs.YthohmpjoeffckaaDoor
open Go Go.RowKit

theorem onePlain : Til.plain (Til.tilesOf (List.replicate 4 ⟨5, 0, 0, 0⟩) 2 2) = 1 := by decide
set_option maxRecDepth 100000 in
set_option maxHeartbeats 1000000 in
theorem lawOne_any (w : World) : Calls Tryd.prog 4 #[] w fun e w' => e = .returned (.bool true) ∧ Below w.heap.size w w' := by
  go_enter Tryd.func4, Tryd.ntmps4
  go_wp2_with fail
  refine (blank_any 2 2 4 ⟨5, 0, 0, 0⟩ _ (by omega) (by omega) (by omega) (by omega)).mono ?_
  rintro e w1 ⟨A1, c1, rfl, hO1, hb1⟩
  go_wp2_with fail
  refine (of_good 2 2 A1 4 c1 (List.replicate 4 ⟨5, 0, 0, 0⟩) _ hO1.reads.2 (by omega) (by omega) (by simp)).mono ?_
  rintro e w2 ⟨gG, ts, rfl, hG, hT, hb2⟩
  have hbw := hb1.trans (hb2.mono hb1.size)
  have hl : ts.length ≤ 1000 := by rw [hT.len]; decide
  have HG := Lib.hid hG
  have HT := Lib.hid hT
  clear hO1 hb1 hb2 hG hT
  go_wp2_with fail
  refine (gplain_any gG 2 2 ts (List.replicate 4 ⟨5, 0, 0, 0⟩) _ HG.out HT.out hl).mono ?_
  rw [onePlain]
  rintro e w3 ⟨rfl, rfl⟩
  go_wp2_with fail
  refine (gpicture_any gG 2 2 ts (List.replicate 4 ⟨5, 0, 0, 0⟩) _ HG.out HT.out (by simp) (by omega) (by omega)).mono ?_
  rintro e w4 ⟨A4, c4, rfl, hO4, hb4⟩
  rw [List.length_replicate] at hO4 ⊢
  have hbw4 := hbw.trans (hb4.mono hbw.size)
  have R4 := hO4.reads.2
  clear hO4 hb4 hbw
  go_wp2_with fail
  refine (blank_any 2 2 4 ⟨5, 0, 0, 0⟩ _ (by omega) (by omega) (by omega) (by omega)).mono ?_
  rintro e w5 ⟨A5, c5, rfl, hO5, hb5⟩
  have R5 := hO5.reads.2
  have R45 := (R4.below hb5 (Nat.le_refl _)).more hb5.size
  have hbw5 := hbw4.trans (hb5.mono hbw4.size)
  clear hO5 hb5 R4 hbw4
  go_wp2_with fail
  refine (samePicture_same 2 2 A4 4 c4 A5 c5 (List.replicate 4 ⟨5, 0, 0, 0⟩) _ R45 R5 (by omega)).mono ?_
  rintro e w6 ⟨rfl, hb6⟩
  have hbw6 := hbw5.trans (hb6.mono hbw5.size)
  go_wp2_with fail
  go_ret
  exact ⟨rfl, hbw6⟩
end Go.Proofs.YthohmpjoeffckaaDoor
