/- Stores of several cells. -/
import Derived.Test.YtcdbhcjiimdhhaaDoorMem3
namespace Go.Proofs.YtcdbhcjiimdhhaaDoor
open Go Go.RowKit

theorem heap_setCells (b g : Nat) (hne : g ≠ b) : ∀ (vs : List Value) (o : Nat) (w : World), (w.setCells b o vs).heap[g]? = w.heap[g]?
  | [], _, _ => rfl
  | v :: r, o, w => by rw [World.setCells, heap_setCells b g hne r]; exact Below.heap_setCell w _ v g hne
theorem os_setCells (b : Nat) : ∀ (vs : List Value) (o : Nat) (w : World), (w.setCells b o vs).os = w.os
  | [], _, _ => rfl
  | v :: r, o, w => by rw [World.setCells, os_setCells b r]; rfl
theorem output_setCells (b : Nat) : ∀ (vs : List Value) (o : Nat) (w : World), (w.setCells b o vs).output = w.output
  | [], _, _ => rfl
  | v :: r, o, w => by rw [World.setCells, output_setCells b r]; rfl
theorem Below.setCells_ {B : Nat} {a w : World} (h : Below B a w) {b : Nat} (hb : B ≤ b) (o : Nat) (vs : List Value) : Below B a (w.setCells b o vs) := by
  refine h.trans ⟨os_setCells b vs o w, tape_setCells b vs o w, output_setCells b vs o w, Nat.le_of_eq (size_setCells b vs o w).symm, fun g hg => heap_setCells b g (by omega) vs o w⟩
theorem Blk.setCells_ {w : World} {g : Nat} {t : TypeId} {cs : Array Value} (h : Blk w g t cs) {b : Nat} (hb : g ≠ b) (o : Nat) (vs : List Value) : Blk (w.setCells b o vs) g t cs := h.keep (heap_setCells b g hb vs o w)
theorem IArr.setCells_ {w : World} {g N : Nat} {S : Nat → Int} (h : IArr w g N S) {b : Nat} (hb : g ≠ b) (o : Nat) (vs : List Value) : IArr (w.setCells b o vs) g N S := h.keep (Nat.le_of_eq (size_setCells b vs o w).symm) (heap_setCells b g hb vs o w)
theorem Reads.setCells_ {w : World} {B size n : Nat} {A : Option Addr} {xs : List Value} (h : Reads w B size A n xs) {b : Nat} (hB : B ≤ b) (o : Nat) (vs : List Value) : Reads (w.setCells b o vs) B size A n xs :=
  h.keep fun _ hp => World.cell?_of_block (heap_setCells b _ (by omega) vs o w)

theorem Own.addr {w : World} {base size n c : Nat} {A : Option Addr} {xs : List Value} (h : Own w base size (.slice A n c) n xs) (hn : 0 < n) : ∃ g off, A = some ⟨g, off, none⟩ ∧ base ≤ g ∧ g < w.heap.size := by
  rcases h.2 with ⟨_, h0⟩ | ⟨g, off, cap, e, hb, hg, _⟩
  · omega
  · injection e with e1 e2 e3
    exact ⟨g, off, e1, hb, hg⟩
/-- What may be written. -/
theorem Own.there {w : World} {base size n c g off : Nat} {xs : List Value} (h : Own w base size (.slice (some ⟨g, off, none⟩) n c) n xs) (k : Nat) (hk : k < n) : w.there g (off + k * size) size := by
  rcases h.2 with ⟨e, _⟩ | ⟨g', off', cap, e, hb, hg, hn, hm, hx, hf⟩
  · cases e
  · injection e with e1 e2 e3
    injection e1 with e1
    injection e1 with e1 e4
    subst e1; subst e4; subst e3
    intro j hj
    rw [Nat.add_assoc]
    refine hf _ ?_
    have : (k + 1) * size ≤ c * size := Nat.mul_le_mul_right _ (by omega)
    rw [Nat.succ_mul] at this
    omega
/-- One element set. -/
theorem Own.setOne {w : World} {base size n c g off : Nat} {xs : List Value} (h : Own w base size (.slice (some ⟨g, off, none⟩) n c) n xs) (k : Nat) (hk : k < n) (ys zs : List Value) (hy : ys.length = size)
    (hz : zs.length = n * size) (hin : ∀ j, j < size → zs[k * size + j]? = ys[j]?) (hout : ∀ j, (j < k * size ∨ (k + 1) * size ≤ j) → zs[j]? = xs[j]?) :
    Own (w.setCells g (off + k * size) ys) base size (.slice (some ⟨g, off, none⟩) n c) n zs := by
  have hth := h.there k hk
  refine ⟨hz, ?_⟩
  rcases h.2 with ⟨e, _⟩ | ⟨g', off', cap, e, hb, hg, hn, hm, hx, hf⟩
  · cases e
  · injection e with e1 e2 e3
    injection e1 with e1
    injection e1 with e1 e4
    subst e1; subst e4; subst e3
    refine .inr ⟨g, off, c, rfl, hb, by rw [size_setCells]; exact hg, hn, hm, fun j hj => ?_, fun j hj => ⟨World.isSome_setCells _ _ _ _ _ (hf j hj).1, by rw [World.frozen?_setCells]; exact (hf j hj).2⟩⟩
    by_cases hin' : k * size ≤ j ∧ j < (k + 1) * size
    · obtain ⟨i, rfl⟩ : ∃ i, j = k * size + i := ⟨j - k * size, by omega⟩
      have hi : i < size := by have := hin'.2; rw [Nat.succ_mul] at this; omega
      rw [← Nat.add_assoc, World.cell?_setCells_in g ys (off + k * size) w (fun t ht => (hth t (by omega)).1) i (by omega), hin i hi, List.getElem?_eq_getElem]
    · rw [World.cell?_setCells_out g ys (off + k * size) w _ (fun _ _ => ?_), hx j hj]
      · exact (hout j (by omega)).symm
      · rw [Nat.succ_mul] at hin'
        show off + j < off + k * size ∨ off + k * size + ys.length ≤ off + j
        omega

theorem pxCs_all (p : Px) : (pxCs p).toArray.all (·.oneCell') = true := all_oneCell_toArray (fun v hv => pxCells_one [p] v (by simpa [pxCells] using hv))
/-- The store of a pixel. -/
theorem wpList_store_px {P : Program} {ops : Array Oper} {rest : List Oper} {op : Oper} {a : Act} {w : World} {Q : Exit → Act → World → Prop} (hgd : op.guard = none) (e : TypeId) (hi : (P.info? e).map (·.size) = some 4) (x y : Operand) (ho : op.op = .store e x y)
    (b o : Nat) (p : Px) (hx : a.eval x = .pointer (some ⟨b, o, none⟩)) (hy : a.eval y = pxV p) (ht : w.there b o 4)
    (h : wpList P ops Q rest (a.put op.dst undef) (w.setCells b o (pxCs p))) : wpList P ops Q (op :: rest) a w :=
  wpList_store_mid hgd e x y ho b o (pxCs p).toArray hx hy ht hi (pxCs_all p) h
theorem there_drewN {w : World} {b o n : Nat} (h : w.there b o n) (k : Nat) : (w.drewN k).there b o n := h
theorem pxCells_set_in (l : List Px) (k : Nat) (hk : k < l.length) (p : Px) (j : Nat) (hj : j < 4) : (pxCells (l.set k p))[k * 4 + j]? = (pxCs p)[j]? := by
  rw [pxCells_at _ k (by simpa using hk) j hj]
  simp
theorem pxCells_set_out (l : List Px) (k : Nat) (p : Px) (j : Nat) (hj : j < k * 4 ∨ (k + 1) * 4 ≤ j) : (pxCells (l.set k p))[j]? = (pxCells l)[j]? := by
  by_cases hl : j / 4 < l.length
  · have e : j = j / 4 * 4 + j % 4 := by omega
    rw [e, pxCells_at _ (j / 4) (by simpa using hl) _ (Nat.mod_lt _ (by omega)), pxCells_at _ (j / 4) hl _ (Nat.mod_lt _ (by omega))]
    rw [List.getElem_set_ne (by omega)]
  · rw [List.getElem?_eq_none (by rw [pxCells_length, List.length_set]; omega), List.getElem?_eq_none (by rw [pxCells_length]; omega)]
theorem Own.setPx {w : World} {base n c g off : Nat} {l : List Px} (h : Own w base 4 (.slice (some ⟨g, off, none⟩) n c) n (pxCells l)) (k : Nat) (hk : k < n) (p : Px) :
    Own (w.setCells g (off + k * 4) (pxCs p)) base 4 (.slice (some ⟨g, off, none⟩) n c) n (pxCells (l.set k p)) := by
  have hl : n = l.length := by have := h.1; rw [pxCells_length] at this; omega
  exact h.setOne k hk _ _ rfl (by rw [pxCells_length, List.length_set, hl]) (fun j hj => pxCells_set_in l k (by omega) p j hj) (fun j hj => pxCells_set_out l k p j hj)
theorem ne_blk {b g : Nat} (h : b < g) (i o : Nat) : (⟨g, i, none⟩ : Addr) ≠ ⟨b, o, none⟩ := by intro e; injection e with e _ _; omega
theorem Reads.keepAt {w w' : World} {B B' size n : Nat} {A : Option Addr} {xs : List Value} (h : Reads w B size A n xs) (hB : B ≤ B') (hk : ∀ b off, A = some ⟨b, off, none⟩ → b < B → 0 < n * size → w'.heap[b]? = w.heap[b]?) : Reads w' B' size A n xs :=
  ⟨h.1, fun hn => by
    obtain ⟨b, off, e, hb, hc⟩ := h.2 hn
    exact ⟨b, off, e, by omega, fun j u hu => (World.cell?_of_block (a := ⟨b, off + j, none⟩) (hk b off e hb hn)).trans (hc j u hu)⟩⟩
end Go.Proofs.YtcdbhcjiimdhhaaDoor
