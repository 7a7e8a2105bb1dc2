/- Layers of the call's own: a slice of nine cells each, that may be written; their pixels elsewhere. clear, of elements of several cells. -/
import Derived.Test.YtmknacnmdlcieaaGreatDoorLayMem
import Derived.Test.YtmknacnmdlcieaaGreatDoorMem
import Derived.Test.YtmknacnmdlcieaaGreatDoorPixLaw
namespace Go.Proofs.YtmknacnmdlcieaaGreatDoor
open Go Go.RowKit

/-- A slice that lies in no block of S. -/
def OffAt (A : Option Addr) (n : Nat) (v : Value) : Prop := ∀ b off, A = some ⟨b, off, none⟩ → 0 < n → v.ownBlock ≠ some b
structure LaysO (w : World) (base : Nat) (v : Value) (ms : List LM) : Prop where
  own : Own w base 9 v ms.length (layCells ms)
  px : ∀ m ∈ ms, Reads w w.heap.size 4 m.A m.n (pxCells m.l.ps)
  off : ∀ m ∈ ms, OffAt m.A m.n v
theorem layCells_append (a b : List LM) : layCells (a ++ b) = layCells a ++ layCells b := by simp [layCells]
theorem layCells_single (m : LM) : layCells [m] = layCs m := by simp [layCells]
section
variable {w w' : World} {base : Nat} {v v' : Value} {ms : List LM}
theorem LaysO.nil (w : World) (base : Nat) : LaysO w base (.slice none 0 0) [] := ⟨Own.nil _ _ _, (fun m h => by cases h), (fun m h => by cases h)⟩
theorem LaysO.lays {A : Option Addr} {n c : Nat} (h : LaysO w base (.slice A n c) ms) : Lays w w.heap.size A n ms := by
  obtain ⟨e, hr⟩ := h.own.reads
  subst e
  exact ⟨hr, h.px⟩
theorem LaysO.below {B : Nat} (h : LaysO w base v ms) (hb : Below B w w') (hB : w.heap.size ≤ B) : LaysO w' base v ms :=
  ⟨h.own.below hb hB, fun m hm => ((h.px m hm).below hb hB).more hb.size, h.off⟩
theorem LaysO.drewN (h : LaysO w base v ms) (k : Nat) : LaysO (w.drewN k) base v ms := ⟨h.own.drewN k, fun m hm => (h.px m hm).drewN k, h.off⟩
theorem LaysO.alloc (h : LaysO w base v ms) (o : Obj) : LaysO (w.alloc o) base v ms := h.below ((Below.refl _ _).alloc (Nat.le_refl _) o) (Nat.le_refl _)
/-- A layer more. -/
theorem LaysO.snoc (h : LaysO w base v ms) {m : LM} (ho : Own w' base 9 v' (ms.length + 1) (layCells ms ++ layCs m)) (hg : w.grownBy w' v.ownBlock) (hat : v'.ownBlock = v.ownBlock ∨ v'.ownBlock = some w.heap.size)
    (hm : Reads w w.heap.size 4 m.A m.n (pxCells m.l.ps)) (hoff : OffAt m.A m.n v) : LaysO w' base v' (ms ++ [m]) := by
  have key : ∀ x : LM, Reads w w.heap.size 4 x.A x.n (pxCells x.l.ps) → OffAt x.A x.n v → Reads w' w'.heap.size 4 x.A x.n (pxCells x.l.ps) ∧ OffAt x.A x.n v' := by
    intro x hx hxo
    refine ⟨hx.keepAt hg.size fun b off e hb hn => hg.block b hb (fun e2 => hxo b off e (by omega) e2.symm), fun b off e hn e2 => ?_⟩
    rcases hat with h1 | h1
    · exact hxo b off e hn (by rw [← h1]; exact e2)
    · obtain ⟨b', off', e', hb', _⟩ := hx.2 (by omega)
      rw [e] at e'
      injection e' with e'
      injection e' with e' _
      rw [h1] at e2
      injection e2 with e2
      omega
  refine ⟨by rw [layCells_append, layCells_single, List.length_append]; exact ho, fun x hx => ?_, fun x hx => ?_⟩
  all_goals
    rcases List.mem_append.1 hx with h1 | h1
  · exact (key x (h.px x h1) (h.off x h1)).1
  · rw [List.mem_singleton.1 h1]; exact (key m hm hoff).1
  · exact (key x (h.px x h1) (h.off x h1)).2
  · rw [List.mem_singleton.1 h1]; exact (key m hm hoff).2
theorem layCells_set_in (ms : List LM) (k : Nat) (hk : k < ms.length) (m : LM) (j : Nat) (hj : j < 9) : (layCells (ms.set k m))[k * 9 + j]? = (layCs m)[j]? := by
  rw [layCells_at _ k (by simpa using hk) j hj]
  simp
theorem layCells_set_out (ms : List LM) (k : Nat) (m : LM) (j : Nat) (hj : j < k * 9 ∨ (k + 1) * 9 ≤ j) : (layCells (ms.set k m))[j]? = (layCells ms)[j]? := by
  by_cases hl : j / 9 < ms.length
  · have e : j = j / 9 * 9 + j % 9 := by omega
    rw [e, layCells_at _ (j / 9) (by simpa using hl) _ (Nat.mod_lt _ (by omega)), layCells_at _ (j / 9) hl _ (Nat.mod_lt _ (by omega))]
    rw [List.getElem_set_ne (by omega)]
  · rw [List.getElem?_eq_none (by rw [layCells_length, List.length_set]; omega), List.getElem?_eq_none (by rw [layCells_length]; omega)]
/-- What may be written, cell by cell. -/
theorem LaysO.cell {g off n c : Nat} (h : LaysO w base (.slice (some ⟨g, off, none⟩) n c) ms) (k : Nat) (hk : k < ms.length) (j : Nat) (hj : j < 9) :
    w.cell? ⟨g, off + k * 9 + j, none⟩ = (layCs ms[k])[j]? ∧ w.frozen? ⟨g, off + k * 9 + j, none⟩ = false := by
  have hl := h.lays
  refine ⟨hl.at k hk j hj, ?_⟩
  have hn := hl.len
  rcases h.own.2 with ⟨e, _⟩ | ⟨g', off', cap, e, hb, hg, hn', hm, hx, hf⟩
  · cases e
  · injection e with e1 e2 e3
    injection e1 with e1
    injection e1 with e1 e4
    subst e1; subst e4; subst e3
    have := (hf (k * 9 + j) (by omega)).2
    rwa [← Nat.add_assoc] at this
/-- One cell of a layer set. -/
theorem LaysO.set_ {g off n c : Nat} (h : LaysO w base (.slice (some ⟨g, off, none⟩) n c) ms) (k : Nat) (hk : k < ms.length) (i : Nat) (hi : i < 9) (u : Value) (m : LM) (hu : layCs m = (layCs ms[k]).set i u)
    (hm : Reads w w.heap.size 4 m.A m.n (pxCells m.l.ps)) (hoff : OffAt m.A m.n (.slice (some ⟨g, off, none⟩) n c)) : LaysO (w.setCell ⟨g, off + k * 9 + i, none⟩ u) base (.slice (some ⟨g, off, none⟩) n c) (ms.set k m) := by
  have hsize : (w.setCell ⟨g, off + k * 9 + i, none⟩ u).heap.size = w.heap.size := by simp [World.setCell]
  have hl := h.lays.len
  have key : ∀ x : LM, Reads w w.heap.size 4 x.A x.n (pxCells x.l.ps) → OffAt x.A x.n (.slice (some ⟨g, off, none⟩) n c) → Reads (w.setCell ⟨g, off + k * 9 + i, none⟩ u) (w.setCell ⟨g, off + k * 9 + i, none⟩ u).heap.size 4 x.A x.n (pxCells x.l.ps) := by
    intro x hx hxo
    refine hx.keepAt (by omega) fun b o e hb hn => Below.heap_setCell w _ u b (fun e2 => ?_)
    exact hxo b o e (by omega) (by simp [Value.ownBlock]; exact e2.symm)
  have h1 : (w.setCell ⟨g, off + k * 9 + i, none⟩ u) = w.setCell ⟨g, off + (k * 9 + i), none⟩ u := by rw [Nat.add_assoc]
  have hmem : ∀ x ∈ ms.set k m, x = m ∨ x ∈ ms := fun x hx => by
    rcases List.mem_or_eq_of_mem_set hx with h2 | h2
    · exact .inr h2
    · exact .inl h2
  refine ⟨?_, fun x hx => ?_, fun x hx => ?_⟩
  · rw [List.length_set]
    have hone := h.own
    refine ⟨by rw [layCells_length, List.length_set], ?_⟩
    rcases hone.2 with ⟨e, _⟩ | ⟨g', off', cap, e, hb, hg, hn', hmx, hx, hf⟩
    · cases e
    · injection e with e1 e2 e3
      injection e1 with e1
      injection e1 with e1 e4
      subst e1; subst e4; subst e3
      refine .inr ⟨g, off, c, by rw [hl], hb, by rw [hsize]; exact hg, hn', hmx, fun j hj => ?_, fun j hj => ⟨?_, by rw [World.frozen?_setCell]; exact (hf j hj).2⟩⟩
      · by_cases hji : j = k * 9 + i
        · subst hji
          have hin := hx (k * 9 + i) (by omega)
          have hsome := layCells_at ms k hk i hi
          have hlt : i < (layCs ms[k]).length := by simpa [layCs] using hi
          rw [h1, World.cell?_setCell_same w _ u (u := (layCs ms[k])[i]) (by rw [hin, hsome, List.getElem?_eq_getElem hlt]), layCells_set_in ms k hk m i hi, hu]
          simp [hlt]
        · rw [h1, World.cell?_setCell_other w _ _ u (by intro e; injection e with _ e _; omega), hx j hj]
          by_cases hin : k * 9 ≤ j ∧ j < (k + 1) * 9
          · obtain ⟨t, rfl⟩ : ∃ t, j = k * 9 + t := ⟨j - k * 9, by omega⟩
            rw [layCells_at ms k hk t (by omega), layCells_set_in ms k hk m t (by omega), hu, List.getElem?_set_ne (by omega)]
          · rw [layCells_set_out ms k m j (by omega)]
      · have := (hf j hj).1
        by_cases hji : off + j = off + k * 9 + i
        · rw [hji]
          obtain ⟨x, hx'⟩ := Option.isSome_iff_exists.1 (hji ▸ this)
          rw [World.cell?_setCell_same w _ u hx']
          rfl
        · rw [World.cell?_setCell_other w _ _ u (by intro e; injection e with _ e _; omega)]
          exact this
  · rcases hmem x hx with rfl | h2
    · exact key _ hm hoff
    · exact key x (h.px x h2) (h.off x h2)
  · rcases hmem x hx with rfl | h2
    · exact hoff
    · exact h.off x h2
/-- Some of the layers, in whatever order, in the same memory. -/
theorem LaysO.sub {ns : List LM} (h : LaysO w base v ms) (ho : Own w' base 9 v' ns.length (layCells ns)) (hg : w.grownBy w' v.ownBlock) (hv : v'.ownBlock = v.ownBlock) (hs : ∀ m ∈ ns, m ∈ ms) : LaysO w' base v' ns :=
  ⟨ho, fun m hm => (h.px m (hs m hm)).keepAt hg.size fun b off e hb hn => hg.block b hb (fun e2 => h.off m (hs m hm) b off e (by omega) e2.symm), fun m hm b off e hn => by rw [hv]; exact h.off m (hs m hm) b off e hn⟩
end

/-- 'clear(s)', s a slice of n > 0 elements of however many cells. -/
theorem run_clear_cells {P : Program} (w : World) (t e ty : TypeId) (z : Value) (ht : P.underlying t = some (.slice e)) (hv : ∀ w, (zeroValue e).run P w = .ok z w) (h1 : ∀ u ∈ (Builtin.zeroCells z.cells 1).toList, u.oneCell' = true)
    (hz : 0 < z.cells.size) (b o n c : Nat) (hn : 0 < n) (hc : ∀ j, j < n * z.cells.size → (w.cell? ⟨b, o + j, none⟩).isSome = true) (hf : ∀ j, j < n * z.cells.size → w.frozen? ⟨b, o + j, none⟩ = false) :
    (Builtin.clear_ #[t] ty #[.slice (some ⟨b, o, none⟩) n c]).run P w = .ok (.tuple #[]) (w.setCells b o (Builtin.zeroCells z.cells n).toList) := by
  have hlen : (Builtin.zeroCells z.cells n).toList.length = n * z.cells.size := by simp [size_zeroCells]
  have hone : ∀ u ∈ (Builtin.zeroCells z.cells n).toList, u.oneCell' = true := by
    intro u hu
    refine h1 u ?_
    simp only [Builtin.zeroCells, Array.toList_map, Array.toList_range, List.mem_map, List.mem_range] at hu ⊢
    obtain ⟨i, _, rfl⟩ := hu
    exact ⟨i % z.cells.size, by rw [Nat.one_mul]; exact Nat.mod_lt _ hz, by rw [Nat.mod_mod]⟩
  have hst := run_storeCells_cells (P := P) b o (Builtin.zeroCells z.cells n).toList 0 w (by rw [hlen]; simpa using hc) (by rw [hlen]; simpa using hf) hone
  simp only [Nat.add_zero] at hst
  obtain ⟨m, rfl⟩ : ∃ m, n = m + 1 := ⟨n - 1, by omega⟩
  simp [Builtin.clear_, run_underlying ht, hv, hst]
/-- What lies ahead of the cleared places. -/
theorem Own.clearTail {w : World} {base size n c g off : Nat} {xs ys : List Value} (h : Own w base size (.slice (some ⟨g, off, none⟩) n c) n xs) (k : Nat) (_hk : n + k ≤ c) (_hy : ys.length ≤ k * size) :
    Own (w.setCells g (off + n * size) ys) base size (.slice (some ⟨g, off, none⟩) n c) n xs := by
  refine ⟨h.1, ?_⟩
  rcases h.2 with ⟨e, _⟩ | ⟨g', off', cap, e, hb, hg, hn, hm, hx, hf⟩
  · cases e
  · injection e with e1 e2 e3
    injection e1 with e1
    injection e1 with e1 e4
    subst e1; subst e4; subst e3
    refine .inr ⟨g, off, c, rfl, hb, by rw [size_setCells]; exact hg, hn, hm, fun j hj => ?_, fun j hj => ⟨World.isSome_setCells _ _ _ _ _ (hf j hj).1, by rw [World.frozen?_setCells]; exact (hf j hj).2⟩⟩
    rw [World.cell?_setCells_out g ys (off + n * size) w _ (fun _ _ => .inl (by show off + j < off + n * size; omega)), hx j hj]
end Go.Proofs.YtmknacnmdlcieaaGreatDoor
