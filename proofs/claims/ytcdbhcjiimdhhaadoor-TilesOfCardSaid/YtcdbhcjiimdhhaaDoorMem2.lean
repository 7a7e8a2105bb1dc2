/- More on sources of an append. -/
import Derived.Test.YtcdbhcjiimdhhaaDoorMem
namespace Go.Proofs.YtcdbhcjiimdhhaaDoor
open Go Go.RowKit

/-- A slice that was made just now (its block's number however it is written). -/
theorem Src.made {P : Program} {tx e' : TypeId} (hk : P.underlying tx = some (.slice e')) {w : World} {cs : List Value} {t : TypeId} {size m c g : Nat} (hg : g = w.heap.size) (hl : cs.length = m * size) (h1 : ∀ u ∈ cs, u.oneCell' = true) :
    Src P size tx (.slice (some ⟨g, 0, none⟩) m c) m cs (w.alloc (.cells cs.toArray t)) := by
  subst hg
  exact Src.new hk w cs t size m c hl h1

theorem cell_made (w : World) (cs : Array Value) (t : TypeId) {g j : Nat} {u : Value} (hg : g = w.heap.size) (hu : cs[j]? = some u) : (w.alloc (.cells cs t)).cell? ⟨g, j, none⟩ = some u := by
  subst hg
  rw [cell_of_row _ w.heap.size j cs t (0, 0) (heap_alloc_new w _), hu]
theorem cell_past {w : World} (o : Obj) {a : Addr} {u : Value} (h : w.cell? a = some u) : (w.alloc o).cell? a = some u := by
  rw [World.cell?_alloc_lt w o a (cell_lt h), h]
theorem free_made (w : World) (cs : Array Value) (t : TypeId) {g j : Nat} (hg : g = w.heap.size) : (w.alloc (.cells cs t)).frozen? ⟨g, j, none⟩ = false := by
  subst hg
  simp only [World.frozen?]
  rw [heap_alloc_new w _]
  simp
theorem free_past {w : World} (o : Obj) {a : Addr} (hl : a.block < w.heap.size) (h : w.frozen? a = false) : (w.alloc o).frozen? a = false := by
  rw [World.frozen?_alloc_old w o a (Nat.ne_of_lt hl), h]

theorem cell_set_same {w : World} {a : Addr} {u : Value} (v : Value) (h : w.cell? a = some u) : (w.setCell a v).cell? a = some v := World.cell?_setCell_same w a v h
theorem cell_set_other {w : World} {a b : Addr} (v : Value) {u : Value} (hne : a ≠ b) (h : w.cell? b = some u) : (w.setCell a v).cell? b = some u := by
  rw [World.cell?_setCell_other w a b v hne, h]
theorem bcell_ {B : Nat} {w w' : World} (h : Below B w w') {p : Addr} {u : Value} (hp : p.block < B) (hc : w.cell? p = some u) : w'.cell? p = some u := (h.cell hp).trans hc
theorem bfree_ {B : Nat} {w w' : World} (h : Below B w w') {p : Addr} (hp : p.block < B) (hc : w.frozen? p = false) : w'.frozen? p = false := (h.frozen hp).trans hc
theorem bkeep {w w' : World} (h : Below w.heap.size w w') {p : Addr} {u : Value} (hc : w.cell? p = some u) : w'.cell? p = some u := bcell_ h (cell_lt hc) hc

/-- append onto a slice of the call's own; what comes out is written as a slice. -/
theorem wpList_append_S {P : Program} {w : World} {ops : Array Oper} {rest : List Oper} {o : Oper} {a : Act} {Q : Exit → Act → World → Prop} (hgd : o.guard = none) (s x : Operand) (t tx : TypeId)
    (ho : o.op = .call { callee := .builtin .append, args := #[s, x], argTypes := #[t, tx] })
    (base : Nat) (e : TypeId) (i : TypeInfo) (z : Value) (size bytes : Nat) (ht : P.underlying t = some (.slice e)) (hi : P.info? e = some i) (hz : i.zero = some z)
    (hsize : i.size = size) (hby : i.bytes = bytes) (hzs : z.cells.size = size) (hsz : 0 < size)
    (v : Value) (n : Nat) (xs : List Value) (hs : a.eval s = v) (hown : Own w base size v n xs) (h1x : ∀ u ∈ xs, u.oneCell' = true)
    (m : Nat) (news : List Value) (hr : Src P size tx (a.eval x) m news w) (k : Nat) (hk : n + m = k) (ys : List Value) (hy : xs ++ news = ys)
    (h63 : n + m ≤ maxLen) (hbytes : (n + m) * bytes ≤ 140737488355328) (hbase : base ≤ w.heap.size)
    (h : ∀ A' c' w', Own w' base size (.slice A' k c') k ys → w.grownBy w' v.ownBlock → ((Value.slice A' k c').ownBlock = v.ownBlock ∨ (Value.slice A' k c').ownBlock = some w.heap.size) → wpList P ops Q rest (a.put o.dst (.slice A' k c')) w') : wpList P ops Q (o :: rest) a w := by
  subst hk; subst hy
  refine wpList_append_Own w hgd s x t tx ho base e i z size bytes ht hi hz hsize hby hzs hsz v n xs hs hown h1x m news hr h63 hbytes hbase fun v' w' h2 h3 h4 => ?_
  obtain ⟨A', c', rfl, _, _⟩ := h2.form
  exact h A' c' w' h2 h3 h4

/-! ### A block that is known whole -/
def Blk (w : World) (g : Nat) (t : TypeId) (cs : Array Value) : Prop := w.heap[g]? = some (.cells cs t (0, 0))
section
variable {w w' : World} {g : Nat} {t : TypeId} {cs : Array Value}
theorem Blk.lt (h : Blk w g t cs) : g < w.heap.size := (Array.getElem?_eq_some_iff.1 h).1
theorem Blk.cell (h : Blk w g t cs) (i : Nat) : w.cell? ⟨g, i, none⟩ = cs[i]? := cell_of_row w g i cs t (0, 0) h
theorem Blk.free (h : Blk w g t cs) (i : Nat) : w.frozen? ⟨g, i, none⟩ = false := by
  unfold Blk at h
  simp only [World.frozen?]
  rw [h]
  simp
theorem Blk.new (w : World) (t : TypeId) (cs : Array Value) {g : Nat} (hg : g = w.heap.size) : Blk (w.alloc (.cells cs t)) g t cs := by
  subst hg
  exact heap_alloc_new w _
theorem Blk.keep (h : Blk w g t cs) (e : w'.heap[g]? = w.heap[g]?) : Blk w' g t cs := e.trans h
theorem Blk.drew (h : Blk w g t cs) : Blk w.drew g t cs := h
theorem Blk.drewN (h : Blk w g t cs) (n : Nat) : Blk (w.drewN n) g t cs := h
theorem Blk.alloc (h : Blk w g t cs) (o : Obj) : Blk (w.alloc o) g t cs := h.keep (heap_alloc_old w o g h.lt)
theorem Blk.set_ (h : Blk w g t cs) (i : Nat) (u : Value) : Blk (w.setCell ⟨g, i, none⟩ u) g t (cs.setIfInBounds i u) := by
  unfold Blk at h ⊢
  simp [World.setCell, Array.getElem?_modify, h]
theorem Blk.far (h : Blk w g t cs) {p : Addr} (hp : g ≠ p.block) (u : Value) : Blk (w.setCell p u) g t cs := h.keep (Below.heap_setCell w p u g hp)
theorem Blk.below {B : Nat} (h : Blk w g t cs) (hb : Below B w w') (hg : g < B) : Blk w' g t cs := h.keep (hb.block g hg)
theorem Blk.grown {row : Option Nat} (h : Blk w g t cs) (hb : w.grownBy w' row) (hg : some g ≠ row) : Blk w' g t cs := h.keep (hb.block g h.lt hg)
end
theorem Below.here (w : World) : Below w.heap.size w w.drew := (Below.refl _ _).drew
theorem Below.fromDrew {w w' : World} (h : Below w.drew.heap.size w.drew w') : Below w.heap.size w w' := (Below.here w).trans h
end Go.Proofs.YtcdbhcjiimdhhaaDoor
