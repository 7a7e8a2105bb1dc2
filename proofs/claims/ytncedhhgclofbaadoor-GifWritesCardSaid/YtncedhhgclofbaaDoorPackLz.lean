/- lzw.Pack: the walk. -/
import Derived.Test.YtncedhhgclofbaaDoorPacker
import Derived.Test.YtncedhhgclofbaaDoorText
namespace Go.Proofs.YtncedhhgclofbaaDoor
open Go Go.RowKit

theorem text_any (B g : Nat) (T : TypeId) (r : List Value) (v : Value) (bs : List Bool) (w : World) (h : BW w B g T r v bs) :
    Calls Tryd.prog 59 #[.pointer (some ⟨g, 0, none⟩)] w fun e w' => e = .returned (.string ⟨(Bit.pack bs).toArray⟩) ∧ w' = w := by
  obtain ⟨A, c, rfl, hc, hr⟩ := h.own.form
  have d0 : w.cell? ⟨g, 0, none⟩ = some (.slice A (Bit.pack bs).length c) := by rw [h.blk.cell]; simp
  have hcv := conv_reads w A (Bit.pack bs).length c _ _ hr
  go_enter Tryd.func59, Tryd.ntmps59
  go_wp2_with fail
  go_ret
  exact ⟨rfl, rfl⟩
theorem bad_no (W : Nat) (h2 : 2 ≤ W) (h8 : W ≤ 8) (w : World) :
    Calls Tryd.prog 55 #[.int .i64 W] w fun e w' => e = .returned (.bool false) ∧ w' = w := by
  go_enter Tryd.func55, Tryd.ntmps55
  go_wp2
  go_ret
  exact ⟨by simp; omega, rfl⟩
end Go.Proofs.YtncedhhgclofbaaDoor
