/- Some cells of a slice of one's own, stored anew. -/
import Derived.Test.YtlpcmeodbigpjaaDoorMem
namespace Go.Proofs.YtlpcmeodbigpjaaDoor
open Go Go.RowKit

theorem Own.thereAt {w : World} {base size n c g off : Nat} {xs : List Value} (h : Own w base size (.slice (some ⟨g, off, none⟩) n c) n xs) (i len : Nat) (hi : i + len ≤ n * size) : w.there g (off + i) len := by
  rcases h.2 with ⟨e, _⟩ | ⟨g', off', cap, e, hb, hg, hn, hm, hx, hf⟩
  · cases e
  · injection e with e1 e2 e3
    injection e1 with e1
    injection e1 with e1 e4
    subst e1; subst e4; subst e3
    have hle : n * size ≤ c * size := Nat.mul_le_mul_right _ hn
    intro j hj
    rw [Nat.add_assoc]
    exact hf _ (by omega)
theorem Own.setPart {w : World} {base size n c g off : Nat} {xs : List Value} (h : Own w base size (.slice (some ⟨g, off, none⟩) n c) n xs) (i : Nat) (ys zs : List Value) (hi : i + ys.length ≤ n * size)
    (hz : zs.length = n * size) (hin : ∀ j, j < ys.length → zs[i + j]? = ys[j]?) (hout : ∀ j, (j < i ∨ i + ys.length ≤ j) → zs[j]? = xs[j]?) :
    Own (w.setCells g (off + i) ys) base size (.slice (some ⟨g, off, none⟩) n c) n zs := by
  have hth := h.thereAt i ys.length hi
  refine ⟨hz, ?_⟩
  rcases h.2 with ⟨e, _⟩ | ⟨g', off', cap, e, hb, hg, hn, hm, hx, hf⟩
  · cases e
  · injection e with e1 e2 e3
    injection e1 with e1
    injection e1 with e1 e4
    subst e1; subst e4; subst e3
    refine .inr ⟨g, off, c, rfl, hb, by rw [size_setCells]; exact hg, hn, hm, fun j hj => ?_, fun j hj => ⟨World.isSome_setCells _ _ _ _ _ (hf j hj).1, by rw [World.frozen?_setCells]; exact (hf j hj).2⟩⟩
    by_cases hin' : i ≤ j ∧ j < i + ys.length
    · obtain ⟨t, rfl⟩ : ∃ t, j = i + t := ⟨j - i, by omega⟩
      have ht : t < ys.length := by omega
      rw [← Nat.add_assoc, World.cell?_setCells_in g ys (off + i) w (fun t ht => (hth t ht).1) t ht, hin t ht, List.getElem?_eq_getElem]
    · rw [World.cell?_setCells_out g ys (off + i) w _ (fun _ _ => ?_), hx j hj]
      · exact (hout j (by omega)).symm
      · show off + j < off + i ∨ off + i + ys.length ≤ off + j
        omega
end Go.Proofs.YtlpcmeodbigpjaaDoor
