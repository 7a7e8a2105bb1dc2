/- What a writing call leaves as it was. -/
import Derived.Test.YtcdbhcjiimdhhaaDoorMem4
namespace Go.Proofs.YtcdbhcjiimdhhaaDoor
open Go Go.RowKit

/-- Nothing of what was there is turned but some blocks. -/
structure Keeps (S : Nat → Prop) (a w : World) : Prop where
  os : w.os = a.os
  tape : w.tape = a.tape
  output : w.output = a.output
  size : a.heap.size ≤ w.heap.size
  block : ∀ g, g < a.heap.size → ¬ S g → w.heap[g]? = a.heap[g]?
section
variable {S T : Nat → Prop} {a w x : World}
theorem Keeps.refl (S : Nat → Prop) (w : World) : Keeps S w w := ⟨rfl, rfl, rfl, Nat.le_refl _, fun _ _ _ => rfl⟩
theorem Keeps.trans (h : Keeps S a w) (k : Keeps T w x) (hT : ∀ g, g < a.heap.size → T g → S g) : Keeps S a x :=
  ⟨k.os.trans h.os, k.tape.trans h.tape, k.output.trans h.output, Nat.le_trans h.size k.size, fun g hg hS =>
    (k.block g (Nat.lt_of_lt_of_le hg h.size) (fun ht => hS (hT g hg ht))).trans (h.block g hg hS)⟩
theorem Keeps.mono (h : Keeps S a w) (hT : ∀ g, g < a.heap.size → S g → T g) : Keeps T a w := ⟨h.os, h.tape, h.output, h.size, fun g hg hn => h.block g hg (fun hs => hn (hT g hg hs))⟩
theorem Keeps.of_below {B : Nat} (h : Below B a w) (hB : ∀ g, g < a.heap.size → ¬ S g → g < B) : Keeps S a w := ⟨h.os, h.tape, h.output, h.size, fun g hg hn => h.block g (hB g hg hn)⟩
theorem Keeps.below {B : Nat} (h : Keeps S a w) (hB : ∀ g, S g → B ≤ g) (hs : B ≤ a.heap.size) : Below B a w := ⟨h.os, h.tape, h.output, h.size, fun g hg => h.block g (by omega) (fun hg' => by have := hB g hg'; omega)⟩
theorem Keeps.drewN (h : Keeps S a w) (n : Nat) : Keeps S a (w.drewN n) := ⟨h.os, h.tape, h.output, h.size, h.block⟩
theorem Keeps.drew (h : Keeps S a w) : Keeps S a w.drew := ⟨h.os, h.tape, h.output, h.size, h.block⟩
theorem Keeps.alloc (h : Keeps S a w) (o : Obj) : Keeps S a (w.alloc o) :=
  ⟨h.os, h.tape, h.output, by have := h.size; simp; omega, fun g hg hn => (heap_alloc_old w o g (Nat.lt_of_lt_of_le hg h.size)).trans (h.block g hg hn)⟩
theorem Keeps.setCell (h : Keeps S a w) {p : Addr} (hp : p.block < a.heap.size → S p.block) (u : Value) : Keeps S a (w.setCell p u) :=
  ⟨h.os, h.tape, h.output, by have := h.size; simp [World.setCell]; omega, fun g hg hn => (Below.heap_setCell w p u g (fun e => hn (by rw [e]; exact hp (by omega)))).trans (h.block g hg hn)⟩
theorem Keeps.grown {row : Option Nat} (h : Keeps S a w) (hg : w.grownBy x row) (hr : ∀ g, row = some g → g < a.heap.size → S g) : Keeps S a x :=
  ⟨hg.os.trans h.os, hg.tape.trans h.tape, hg.output.trans h.output, Nat.le_trans h.size hg.size, fun g hg' hn =>
    (hg.block g (Nat.lt_of_lt_of_le hg' h.size) (fun e => hn (hr g e.symm hg'))).trans (h.block g hg' hn)⟩
theorem Own.keeps {base size n : Nat} {v : Value} {xs : List Value} (h : Own a base size v n xs) (k : Keeps S a w) (hn : ∀ g, v.ownBlock = some g → ¬ S g) : Own w base size v n xs :=
  h.keep k.size fun g hv => k.block g (h.lt g hv).2 (hn g hv)
theorem Blk.keeps {g : Nat} {t : TypeId} {cs : Array Value} (h : Blk a g t cs) (k : Keeps S a w) (hn : ¬ S g) : Blk w g t cs := h.keep (k.block g h.lt hn)
theorem Reads.keeps {B size n : Nat} {A : Option Addr} {xs : List Value} (h : Reads a B size A n xs) (k : Keeps S a w) (hB : B ≤ a.heap.size) (hn : ∀ g, g < B → ¬ S g) : Reads w B size A n xs :=
  h.keep fun _ hp => World.cell?_of_block (k.block _ (by omega) (hn _ hp))
/-- A slice of one's own that is cut at its end keeps its block. -/
theorem ownBlock_cut (A : Option Addr) (n m c : Nat) : (Value.slice A n c).ownBlock = (Value.slice A m c).ownBlock := by cases A <;> rfl
/-- A block that came with a slice: the one that was, or a new one. -/
def Fresh (w : World) (v v' : Value) : Prop := ∀ g, v'.ownBlock = some g → v.ownBlock = some g ∨ w.heap.size ≤ g
theorem Fresh.refl (w : World) (v : Value) : Fresh w v v := fun _ h => .inl h
/-- What a block of one's own gives to an append. -/
theorem Src.blk {P : Program} {tx e' : TypeId} (hk : P.underlying tx = some (.slice e')) {W : World} {g : Nat} {t : TypeId} {cs : List Value} (hB : Blk W g t cs.toArray) {size m c : Nat} (hl : cs.length = m * size) (h1 : ∀ u ∈ cs, u.oneCell' = true) :
    Src P size tx (.slice (some ⟨g, 0, none⟩) m c) m cs W :=
  Src.ofSlice W hk ⟨g, 0, none⟩ m c cs hl (fun j u hu => by
    rw [add_lit, Nat.zero_add, hB.cell]
    simpa using hu) h1
end
end Go.Proofs.YtcdbhcjiimdhhaaDoor
