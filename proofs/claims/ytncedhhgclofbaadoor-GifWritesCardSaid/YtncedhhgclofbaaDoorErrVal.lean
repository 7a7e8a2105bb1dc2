/- An error as a value: of what number, of what place. -/
import Derived.Test.YtncedhhgclofbaaDoorCode
namespace Go.Proofs.YtncedhhgclofbaaDoor
open Go Go.RowKit

/-- An error of that number and that place. -/
def ErrIs (E : Nat → Addr) (w : World) (v : Value) (f : Nat × Int) : Prop :=
  if f.1 = 0 then v = .nilIface else if f.2 < 0 then v = errV (E (f.1 - 1)) else ∃ b, v = .iface 65 (.pointer (some ⟨b, 0, none⟩)) ∧ Blk w b 67 #[.int .i64 f.2, errV (E (f.1 - 1))]
theorem ErrIs.below {E : Nat → Addr} {w w' : World} {v : Value} {f : Nat × Int} (h : ErrIs E w v f) (hb : Below w.heap.size w w') : ErrIs E w' v f := by
  unfold ErrIs at h ⊢
  split
  · rename_i h0; rw [if_pos h0] at h; exact h
  · rename_i h0
    rw [if_neg h0] at h
    split
    · rename_i h1; rw [if_pos h1] at h; exact h
    · rename_i h1
      rw [if_neg h1] at h
      obtain ⟨b, e, hB⟩ := h
      exact ⟨b, e, hB.below hb hB.lt⟩
theorem errIs_nil (E : Nat → Addr) (w : World) : ErrIs E w .nilIface (0, -1) := by unfold ErrIs; rw [if_pos rfl]
theorem errIs_bare (E : Nat → Addr) (w : World) (c : Nat) : ErrIs E w (errV (E c)) (c + 1, -1) := by unfold ErrIs; rw [if_neg (by simp), if_pos (by simp)]; simp
theorem errIs_at (E : Nat → Addr) (w : World) (c k b : Nat) (h : Blk w b 67 #[.int .i64 k, errV (E c)]) : ErrIs E w (.iface 65 (.pointer (some ⟨b, 0, none⟩))) (c + 1, (k : Int)) := by
  unfold ErrIs
  rw [if_neg (by simp), if_neg (by simp)]
  exact ⟨b, rfl, by simpa using h⟩
end Go.Proofs.YtncedhhgclofbaaDoor
