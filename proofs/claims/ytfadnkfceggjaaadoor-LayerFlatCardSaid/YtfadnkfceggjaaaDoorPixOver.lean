/- pixel.Over at every mode. -/
import Derived.Test.YtfadnkfceggjaaaDoorPixO0
import Derived.Test.YtfadnkfceggjaaaDoorPixO1
import Derived.Test.YtfadnkfceggjaaaDoorPixO2
import Derived.Test.YtfadnkfceggjaaaDoorPixO3
import Derived.Test.YtfadnkfceggjaaaDoorPixO4
import Derived.Test.YtfadnkfceggjaaaDoorPixO5
namespace Go.Proofs.YtfadnkfceggjaaaDoor
open Go Go.RowKit

theorem over_any (k : Int) (t u : Px) (w : World) (hk : modeB k = true) :
    Calls Tryd.prog 65 #[.int .i64 k, pxV t, pxV u] w fun e w' => e = .returned (.tuple #[pxV (Pix.over k t u), .nilIface]) ∧ Below w.heap.size w w' := by
  by_cases hc : Pix.covers t.a.toNat u.a.toNat = 0
  · exact over_none k t u w hk hc
  · obtain ⟨a1, a2⟩ := Pix.a_nonneg t.a
    obtain ⟨b1, b2⟩ := Pix.a_nonneg u.a
    obtain ⟨c1, _, _⟩ := Pix.covers_bound a1 a2 b1 b2
    have hp : 0 < Pix.covers t.a.toNat u.a.toNat := by omega
    obtain ⟨m0, m1⟩ := modeB_true hk
    have h6 : k = 0 ∨ k = 1 ∨ k = 2 ∨ k = 3 ∨ k = 4 ∨ k = 5 := by omega
    rcases h6 with rfl | rfl | rfl | rfl | rfl | rfl
    · exact over0_any t u w hp
    · exact over1_any t u w hp
    · exact over2_any t u w hp
    · exact over3_any t u w hp
    · exact over4_any t u w hp
    · exact over5_any t u w hp
end Go.Proofs.YtfadnkfceggjaaaDoor
