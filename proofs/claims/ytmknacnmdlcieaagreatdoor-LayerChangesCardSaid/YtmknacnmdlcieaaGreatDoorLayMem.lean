/- Layers in memory; an argument that is a list of layers. -/
import Derived.Test.YtmknacnmdlcieaaGreatDoorPixLaw
import Derived.Test.YtmknacnmdlcieaaGreatDoorRow
import Derived.Test.YtmknacnmdlcieaaGreatDoorProg
import Derived.KernelRfl
namespace Go.Proofs.YtmknacnmdlcieaaGreatDoor
open Go Go.RowKit Go.ChangeShapes Go.WideShapes Go.Deep Go.Joins

/-- A layer and where its pixels lie. -/
structure LM where
  l : Lay.Layer
  A : Option Addr
  n : Nat
  c : Nat
instance : Inhabited LM := ⟨⟨default, none, 0, 0⟩⟩
def layCs (m : LM) : List Value := [.string m.l.name, .int .i64 m.l.x, .int .i64 m.l.y, .bool m.l.hidden, .int .i64 m.l.opacity, .int .i64 m.l.mode, .int .i64 m.l.wide, .int .i64 m.l.high, .slice m.A m.n m.c]
def layCells (ms : List LM) : List Value := ms.flatMap layCs
theorem layCells_length (ms : List LM) : (layCells ms).length = ms.length * 9 := flatCells_length layCs 9 (fun _ => rfl) ms
theorem layCells_at (ms : List LM) (k : Nat) (hk : k < ms.length) (j : Nat) (hj : j < 9) : (layCells ms)[k * 9 + j]? = (layCs ms[k])[j]? := flatCells_at layCs 9 (fun _ => rfl) ms k hk j hj
theorem layCells_one (ms : List LM) : ∀ u ∈ layCells ms, u.oneCell' = true := by
  intro u hu
  obtain ⟨m, _, hm⟩ := List.mem_flatMap.1 hu
  simp only [layCs, List.mem_cons, List.not_mem_nil, or_false] at hm
  rcases hm with rfl | rfl | rfl | rfl | rfl | rfl | rfl | rfl | rfl <;> rfl
/-- Layers that read so, with their pixels. -/
def Lays (w : World) (B : Nat) (A : Option Addr) (n : Nat) (ms : List LM) : Prop :=
  Reads w B 9 A n (layCells ms) ∧ ∀ m ∈ ms, Reads w B 4 m.A m.n (pxCells m.l.ps)
section
variable {w w' : World} {B B' n : Nat} {A : Option Addr} {ms : List LM}
theorem Lays.len (h : Lays w B A n ms) : n = ms.length := by
  have := h.1.1
  rw [layCells_length] at this
  omega
theorem Lays.below (h : Lays w B A n ms) {C : Nat} (hb : Below C w w') (hC : B ≤ C) : Lays w' B A n ms := ⟨h.1.below hb hC, fun m hm => (h.2 m hm).below hb hC⟩
theorem Lays.more (h : Lays w B A n ms) (hB : B ≤ B') : Lays w B' A n ms := ⟨h.1.more hB, fun m hm => (h.2 m hm).more hB⟩
theorem Lays.step (h : Lays w w.heap.size A n ms) (hb : Below w.heap.size w w') : Lays w' w'.heap.size A n ms := (h.below hb (Nat.le_refl _)).more hb.size
/-- One layer's nine cells. -/
theorem Lays.at {b off : Nat} (h : Lays w B (some ⟨b, off, none⟩) n ms) (k : Nat) (hk : k < ms.length) (j : Nat) (hj : j < 9) : w.cell? ⟨b, off + k * 9 + j, none⟩ = (layCs ms[k])[j]? := by
  have hn := h.len
  rw [Nat.add_assoc, h.1.cell rfl _ (by omega), layCells_at ms k hk j hj]
theorem Lays.px (h : Lays w B A n ms) (k : Nat) (hk : k < ms.length) : Reads w B 4 ms[k].A ms[k].n (pxCells ms[k].l.ps) := h.2 _ (List.getElem_mem hk)
end
end Go.Proofs.YtmknacnmdlcieaaGreatDoor
