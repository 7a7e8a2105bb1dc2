/- A row of numbers of the call's own, told by a function. -/
import Derived.Test.YtcdbhcjiimdhhaaDoorMem2
namespace Go.Proofs.YtcdbhcjiimdhhaaDoor
open Go Go.RowKit

/-- Block g holds N numbers, S t at place t; all may be written. -/
structure IArr (w : World) (g N : Nat) (S : Nat → Int) : Prop where
  lt : g < w.heap.size
  cell : ∀ t, t < N → w.cell? ⟨g, t, none⟩ = some (.int .i64 (S t))
  free : ∀ t, t < N → w.frozen? ⟨g, t, none⟩ = false
section
variable {w w' : World} {g N : Nat} {S S' : Nat → Int}
theorem IArr.keep (h : IArr w g N S) (hs : w.heap.size ≤ w'.heap.size) (e : w'.heap[g]? = w.heap[g]?) : IArr w' g N S :=
  ⟨by have := h.lt; omega, fun t ht => (World.cell?_of_block (a := ⟨g, t, none⟩) e).trans (h.cell t ht), fun t ht => (World.frozen?_of_block (a := ⟨g, t, none⟩) e).trans (h.free t ht)⟩
theorem IArr.drew (h : IArr w g N S) : IArr w.drew g N S := ⟨h.lt, h.cell, h.free⟩
theorem IArr.drewN (h : IArr w g N S) (n : Nat) : IArr (w.drewN n) g N S := ⟨h.lt, h.cell, h.free⟩
theorem IArr.alloc (h : IArr w g N S) (o : Obj) : IArr (w.alloc o) g N S := h.keep (by simp) (heap_alloc_old w o g h.lt)
theorem IArr.far (h : IArr w g N S) {p : Addr} (hp : g ≠ p.block) (u : Value) : IArr (w.setCell p u) g N S := h.keep (by simp [World.setCell]) (Below.heap_setCell w p u g hp)
theorem IArr.below {B : Nat} (h : IArr w g N S) (hb : Below B w w') (hg : g < B) : IArr w' g N S := h.keep hb.size (hb.block g hg)
theorem IArr.grown {row : Option Nat} (h : IArr w g N S) (hb : w.grownBy w' row) (hg : some g ≠ row) : IArr w' g N S := h.keep hb.size (hb.block g h.lt hg)
theorem IArr.congr (h : IArr w g N S) (e : ∀ t, t < N → S' t = S t) : IArr w g N S' := ⟨h.lt, fun t ht => by rw [e t ht]; exact h.cell t ht, h.free⟩
theorem IArr.set_ (h : IArr w g N S) (i : Nat) (v : Int) (e : ∀ t, t < N → S' t = if t = i then v else S t) : IArr (w.setCell ⟨g, i, none⟩ (.int .i64 v)) g N S' := by
  refine ⟨by simpa [World.setCell] using h.lt, fun t ht => ?_, fun t ht => ?_⟩
  · rw [e t ht]
    by_cases hti : t = i
    · subst hti
      rw [if_pos rfl]
      exact World.cell?_setCell_same w _ _ (h.cell t ht)
    · rw [if_neg hti, World.cell?_setCell_other w ⟨g, i, none⟩ ⟨g, t, none⟩ _ (by simp; exact fun e => hti e.symm)]
      exact h.cell t ht
  · rw [World.frozen?_setCell]
    exact h.free t ht
theorem IArr.of_own {base size n c : Nat} {xs : List Value} (h : Own w base size (.slice (some ⟨g, 0, none⟩) n c) n xs) (hx : ∀ t, t < n * size → xs[t]? = some (.int .i64 (S t))) : IArr w g (n * size) S := by
  rcases h.2 with ⟨e, _⟩ | ⟨g', off, cap, e, hb, hg, hn, hm, hc, hf⟩
  · cases e
  · injection e with e1 e2 e3
    injection e1 with e1
    injection e1 with e1 e4
    subst e1; subst e4; subst e3
    refine ⟨hg, fun t ht => ?_, fun t ht => ?_⟩
    · have := hc t ht
      rw [Nat.zero_add] at this
      rw [this, hx t ht]
    · have hle : n * size ≤ c * size := Nat.mul_le_mul_right _ hn
      have := (hf t (by omega)).2
      rwa [Nat.zero_add] at this
end

/-- What 'make' lays: the zero value's cells, again and again. -/
theorem made_at (z : Array Value) (n t : Nat) (ht : t < n) : (madeCells z n).toList[t]? = some (z[t % z.size]!) := by
  simp [madeCells, ht]
theorem made_same (z : Array Value) (u : Value) (hz : 0 < z.size) (hu : ∀ j, j < z.size → z[j]! = u) (n : Nat) : (madeCells z n).toList = List.replicate n u := by
  apply List.ext_getElem?
  intro t
  by_cases ht : t < n
  · rw [made_at z n t ht, hu _ (Nat.mod_lt _ hz)]
    simp [ht]
  · rw [List.getElem?_eq_none (by simp [madeCells]; omega), List.getElem?_eq_none (by simp; omega)]
end Go.Proofs.YtcdbhcjiimdhhaaDoor
