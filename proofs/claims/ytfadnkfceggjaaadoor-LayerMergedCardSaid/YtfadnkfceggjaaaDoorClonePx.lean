/- slices.Clone at []api.Pixel. -/
import Derived.Test.YtfadnkfceggjaaaDoorBase
namespace Go.Proofs.YtfadnkfceggjaaaDoor
open Go Go.RowKit

theorem Own.emptyRow (w : World) (e : TypeId) (size : Nat) (base g : Nat) (hb : base ≤ w.heap.size) (hg : g = w.heap.size) : Own (w.alloc (.cells #[] e)) base size (.slice (some ⟨g, 0, none⟩) 0 0) 0 [] := by
  subst hg
  exact ⟨by simp, .inr ⟨w.heap.size, 0, 0, rfl, hb, by simp, Nat.le_refl _, Nat.zero_le _, fun j hj => by simp at hj, fun j hj => by simp at hj⟩⟩

set_option maxRecDepth 100000 in
theorem clonePx_any (b off n c : Nat) (l : List Px) (w : World) (h : Reads w w.heap.size 4 (some ⟨b, off, none⟩) n (pxCells l)) (hn : n ≤ 1048576) :
    Calls Tryd.prog 82 #[.slice (some ⟨b, off, none⟩) n c] w fun e w' => ∃ A' c', e = .returned (.slice A' n c') ∧ Own w' w.heap.size 4 (.slice A' n c') n (pxCells l) ∧ Below w.heap.size w w' := by
  obtain ⟨i0, hi, hz0, hz1, hz2⟩ := info_parts pxInfo
  have hnil := @Lib.run_eql_slice_nil Tryd.prog
  go_enter Tryd.func82, Tryd.ntmps82
  go_wp2_with (at_builtin; refine wpList_append_S rfl (.tmp 5) (.tmp 6) 35 35 rfl (w.heap.size) 49 i0 _ 4 4 Tryd.underlying35 hi hz0 hz1 hz2 rfl (by decide) (.slice (some ⟨w.heap.size, 0, none⟩) 0 0) (0) (pxCells ([])) rfl (Own.emptyRow _ _ _ _ _ (Nat.le_refl _) rfl) (pxCells_one _) (n) (pxCells l) ((h.alloc (Nat.le_refl _) _).src Tryd.underlying35 (by decide) (pxCells_one _) _) (n) (by omega) (pxCells (l)) (rfl) (by unfold maxLen; omega) (by omega) (by first | omega | (simp; done) | (simp; omega)) ?_; intro A' c' w1 hown1 hg1 hat1)
  go_outline
  go_show
  go_ret
  refine ⟨A', c', rfl, hown1, Below.grown (by go_grown) hg1 (by first | omega | (simp; done) | (simp; omega)) (fun g hg => by simp [Value.ownBlock] at hg; omega)⟩
end Go.Proofs.YtfadnkfceggjaaaDoor
