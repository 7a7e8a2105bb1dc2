/- Frames in memory: a picture and a delay each; frames of the call's own. -/
import Derived.Test.YtncedhhgclofbaaDoorRow
import Derived.Test.YtncedhhgclofbaaDoorMem
import Derived.Test.YtncedhhgclofbaaDoorBase
namespace Go.Proofs.YtncedhhgclofbaaDoor
open Go Go.RowKit

/-- A frame, plainly. -/
structure Fr where
  wide : Int
  high : Int
  ps : List Px
  delay : Int
/-- A frame and where its pixels lie. -/
structure FM where
  f : Fr
  A : Option Addr
  n : Nat
  c : Nat
instance : Inhabited FM := ⟨⟨⟨0, 0, [], 0⟩, none, 0, 0⟩⟩
def frCs (m : FM) : List Value := [.int .i64 m.f.wide, .int .i64 m.f.high, .slice m.A m.n m.c, .int .i64 m.f.delay]
def frCells (ms : List FM) : List Value := ms.flatMap frCs
theorem frCells_length (ms : List FM) : (frCells ms).length = ms.length * 4 := flatCells_length frCs 4 (fun _ => rfl) ms
theorem frCells_at (ms : List FM) (k : Nat) (hk : k < ms.length) (j : Nat) (hj : j < 4) : (frCells ms)[k * 4 + j]? = (frCs ms[k])[j]? := flatCells_at frCs 4 (fun _ => rfl) ms k hk j hj
theorem frCells_one (ms : List FM) : ∀ u ∈ frCells ms, u.oneCell' = true := by
  intro u hu
  obtain ⟨m, _, hm⟩ := List.mem_flatMap.1 hu
  simp only [frCs, List.mem_cons, List.not_mem_nil, or_false] at hm
  rcases hm with rfl | rfl | rfl | rfl <;> rfl
theorem frCells_append (a b : List FM) : frCells (a ++ b) = frCells a ++ frCells b := by simp [frCells]
theorem frCells_single (m : FM) : frCells [m] = frCs m := by simp [frCells]
/-- Frames that read so, with their pixels. -/
def Frs (w : World) (B : Nat) (A : Option Addr) (n : Nat) (ms : List FM) : Prop :=
  Reads w B 4 A n (frCells ms) ∧ ∀ m ∈ ms, Reads w B 4 m.A m.n (pxCells m.f.ps)
section
variable {w w' : World} {B B' n : Nat} {A : Option Addr} {ms : List FM}
theorem Frs.len (h : Frs w B A n ms) : n = ms.length := by
  have := h.1.1
  rw [frCells_length] at this
  omega
theorem Frs.below (h : Frs w B A n ms) {C : Nat} (hb : Below C w w') (hC : B ≤ C) : Frs w' B A n ms := ⟨h.1.below hb hC, fun m hm => (h.2 m hm).below hb hC⟩
theorem Frs.more (h : Frs w B A n ms) (hB : B ≤ B') : Frs w B' A n ms := ⟨h.1.more hB, fun m hm => (h.2 m hm).more hB⟩
theorem Frs.step (h : Frs w w.heap.size A n ms) (hb : Below w.heap.size w w') : Frs w' w'.heap.size A n ms := (h.below hb (Nat.le_refl _)).more hb.size
/-- One frame's four cells. -/
theorem Frs.at {b off : Nat} (h : Frs w B (some ⟨b, off, none⟩) n ms) (k : Nat) (hk : k < ms.length) (j : Nat) (hj : j < 4) : w.cell? ⟨b, off + k * 4 + j, none⟩ = (frCs ms[k])[j]? := by
  have hn := h.len
  rw [Nat.add_assoc, h.1.cell rfl _ (by omega), frCells_at ms k hk j hj]
theorem Frs.px (h : Frs w B A n ms) (k : Nat) (hk : k < ms.length) : Reads w B 4 ms[k].A ms[k].n (pxCells ms[k].f.ps) := h.2 _ (List.getElem_mem hk)
end
/-- A slice that lies in no block of S. -/
def OffFr (A : Option Addr) (n : Nat) (v : Value) : Prop := ∀ b off, A = some ⟨b, off, none⟩ → 0 < n → v.ownBlock ≠ some b
structure FrsO (w : World) (base : Nat) (v : Value) (ms : List FM) : Prop where
  own : Own w base 4 v ms.length (frCells ms)
  px : ∀ m ∈ ms, Reads w w.heap.size 4 m.A m.n (pxCells m.f.ps)
  off : ∀ m ∈ ms, OffFr m.A m.n v
section
variable {w w' : World} {base : Nat} {v v' : Value} {ms : List FM}
theorem FrsO.nil (w : World) (base : Nat) : FrsO w base (.slice none 0 0) [] := ⟨Own.nil _ _ _, (fun m h => by cases h), (fun m h => by cases h)⟩
theorem FrsO.frs {A : Option Addr} {n c : Nat} (h : FrsO w base (.slice A n c) ms) : Frs w w.heap.size A n ms := by
  obtain ⟨e, hr⟩ := h.own.reads
  subst e
  exact ⟨hr, h.px⟩
theorem FrsO.below {B : Nat} (h : FrsO w base v ms) (hb : Below B w w') (hB : w.heap.size ≤ B) : FrsO w' base v ms :=
  ⟨h.own.below hb hB, fun m hm => ((h.px m hm).below hb hB).more hb.size, h.off⟩
theorem FrsO.alloc (h : FrsO w base v ms) (o : Obj) : FrsO (w.alloc o) base v ms := h.below ((Below.refl _ _).alloc (Nat.le_refl _) o) (Nat.le_refl _)
/-- A frame more. -/
theorem FrsO.snoc (h : FrsO w base v ms) {m : FM} (ho : Own w' base 4 v' (ms.length + 1) (frCells ms ++ frCs m)) (hg : w.grownBy w' v.ownBlock) (hat : v'.ownBlock = v.ownBlock ∨ v'.ownBlock = some w.heap.size)
    (hm : Reads w w.heap.size 4 m.A m.n (pxCells m.f.ps)) (hoff : OffFr m.A m.n v) : FrsO w' base v' (ms ++ [m]) := by
  have key : ∀ x : FM, Reads w w.heap.size 4 x.A x.n (pxCells x.f.ps) → OffFr x.A x.n v → Reads w' w'.heap.size 4 x.A x.n (pxCells x.f.ps) ∧ OffFr x.A x.n v' := by
    intro x hx hxo
    refine ⟨hx.keepAt hg.size fun b off e hb hn => hg.block b hb (fun e2 => hxo b off e (by omega) e2.symm), fun b off e hn e2 => ?_⟩
    rcases hat with h1 | h1
    · exact hxo b off e hn (by rw [← h1]; exact e2)
    · obtain ⟨b', off', e', hb', _⟩ := hx.2 (by omega)
      rw [e] at e'
      injection e' with e'
      injection e' with e' _
      rw [h1] at e2
      injection e2 with e2
      omega
  refine ⟨by rw [frCells_append, frCells_single, List.length_append]; exact ho, fun x hx => ?_, fun x hx => ?_⟩
  all_goals
    rcases List.mem_append.1 hx with h1 | h1
  · exact (key x (h.px x h1) (h.off x h1)).1
  · rw [List.mem_singleton.1 h1]; exact (key m hm hoff).1
  · exact (key x (h.px x h1) (h.off x h1)).2
  · rw [List.mem_singleton.1 h1]; exact (key m hm hoff).2
end
end Go.Proofs.YtncedhhgclofbaaDoor
