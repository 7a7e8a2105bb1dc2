/- Er4, ErrVal: put together. -/
import Derived.Test.YtkegkelaffohjaaGreatDoorProg
import Derived.WalkKit
import Derived.LaidEql
import Derived.Stop.Asserts
import Derived.RowKitTokens
import Derived.KernelRfl
import Derived.Test.YtkegkelaffohjaaGreatDoorKCFilmTwice0
import Derived.Test.YtkegkelaffohjaaGreatDoorKCFilmTwice3
/- errors.Is by its contracts, where the target is a sentinel: nil; the same; another; an api.Fault round one. errors.As by its contracts, at a target of an api.Fault: nil; a sentinel (false); a fault (true, the target is set). Turned from the kit's worked example. errors.As at a sentinel: false. plain.Code: nil; a sentinel. coded: nil; a sentinel. plain.Code at a fault. Four error variables. -/
namespace Go.Proofs.YtkegkelaffohjaaGreatDoor
open Go Go.RowKit Go.Extern.Stop Go.Stop Go.Extern
/-! ### closed facts on reflectlite's entries -/
end Go.Proofs.YtkegkelaffohjaaGreatDoor
namespace Go.Proofs.YtkegkelaffohjaaGreatDoor
open Go Go.RowKit
structure ErrsAt (w : World) (E : Nat → Addr) : Prop where
 typ : w.cell? ⟨9, 0, none⟩ = some (.iface 196 (.agg #[.pointer (some ⟨15, 25, none⟩)]))
 text : w.cell? ⟨0, 0, none⟩ = some (.iface 290 (.pointer (some (E 0))))
 bound : w.cell? ⟨1, 0, none⟩ = some (.iface 290 (.pointer (some (E 1))))
 shape : w.cell? ⟨3, 0, none⟩ = some (.iface 290 (.pointer (some (E 2))))
 sum : w.cell? ⟨2, 0, none⟩ = some (.iface 290 (.pointer (some (E 3))))
 name : w.cell? ⟨4, 0, none⟩ = some (.iface 290 (.pointer (some (E 4))))
 none_ : w.cell? ⟨5, 0, none⟩ = some (.iface 290 (.pointer (some (E 5))))
 colors : w.cell? ⟨6, 0, none⟩ = some (.iface 290 (.pointer (some (E 6))))
 full : w.cell? ⟨7, 0, none⟩ = some (.iface 290 (.pointer (some (E 7))))
 power : w.cell? ⟨8, 0, none⟩ = some (.iface 290 (.pointer (some (E 8))))
 blk : ∀ i, i < 9 → ∃ c t, w.heap[(E i).block]? = some (.cells c t (0, 0))
 ne : ∀ i j, i < 9 → j < 9 → i ≠ j → E i ≠ E j
theorem ErrsAt.below {w w' : World} {E : Nat → Addr} (h : ErrsAt w E) (hb : Below w.heap.size w w') : ErrsAt w' E :=
 ⟨bcell_ hb (cell_lt h.typ) h.typ, bcell_ hb (cell_lt h.text) h.text, bcell_ hb (cell_lt h.bound) h.bound, bcell_ hb (cell_lt h.shape) h.shape, bcell_ hb (cell_lt h.sum) h.sum, bcell_ hb (cell_lt h.name) h.name,
  bcell_ hb (cell_lt h.none_) h.none_, bcell_ hb (cell_lt h.colors) h.colors, bcell_ hb (cell_lt h.full) h.full, bcell_ hb (cell_lt h.power) h.power,
  fun i hi => by
   obtain ⟨c, t, e⟩ := h.blk i hi
   exact ⟨c, t, by rw [hb.block _ (Array.getElem?_eq_some_iff.1 e).1]; exact e⟩, h.ne⟩
def errV (a : Addr) : Value := .iface 290 (.pointer (some a))
end Go.Proofs.YtkegkelaffohjaaGreatDoor
namespace Go.Proofs.YtkegkelaffohjaaGreatDoor
open Go Go.RowKit
structure Er4 (w : World) (E : Nat → Addr) : Prop where
 text : w.cell? ⟨0, 0, none⟩ = some (.iface 290 (.pointer (some (E 0))))
 bound : w.cell? ⟨1, 0, none⟩ = some (.iface 290 (.pointer (some (E 1))))
 shape : w.cell? ⟨3, 0, none⟩ = some (.iface 290 (.pointer (some (E 2))))
 sum : w.cell? ⟨2, 0, none⟩ = some (.iface 290 (.pointer (some (E 3))))
structure ErS (w : World) (E : Nat → Addr) : Prop where
 shape : w.cell? ⟨3, 0, none⟩ = some (.iface 290 (.pointer (some (E 2))))
theorem ErS.below {w w' : World} {E : Nat → Addr} (h : ErS w E) (hb : Below w.heap.size w w') : ErS w' E := ⟨bcell_ hb (cell_lt h.shape) h.shape⟩
theorem Er4.ers {w : World} {E : Nat → Addr} (h : Er4 w E) : ErS w E := ⟨h.shape⟩
theorem ErrsAt.er4 {w : World} {E : Nat → Addr} (h : ErrsAt w E) : Er4 w E := ⟨h.text, h.bound, h.shape, h.sum⟩
theorem Er4.below {w w' : World} {E : Nat → Addr} (h : Er4 w E) (hb : Below w.heap.size w w') : Er4 w' E :=
 ⟨bcell_ hb (cell_lt h.text) h.text, bcell_ hb (cell_lt h.bound) h.bound, bcell_ hb (cell_lt h.shape) h.shape, bcell_ hb (cell_lt h.sum) h.sum⟩
end Go.Proofs.YtkegkelaffohjaaGreatDoor
/- An error as a value: of what number, of what place. -/
namespace Go.Proofs.YtkegkelaffohjaaGreatDoor
open Go Go.RowKit
def ErrIs (E : Nat → Addr) (w : World) (v : Value) (f : Nat × Int) : Prop :=
 if f.1 = 0 then v = .nilIface else if f.2 < 0 then v = errV (E (f.1 - 1)) else ∃ b, v = .iface 88 (.pointer (some ⟨b, 0, none⟩)) ∧ Blk w b 90 #[.int .i64 f.2, errV (E (f.1 - 1))]
theorem errIs_bare (E : Nat → Addr) (w : World) (c : Nat) : ErrIs E w (errV (E c)) (c + 1, -1) := by unfold ErrIs; rw [if_neg (by simp), if_pos (by simp)]; simp
theorem errIs_at (E : Nat → Addr) (w : World) (c k b : Nat) (h : Blk w b 90 #[.int .i64 k, errV (E c)]) : ErrIs E w (.iface 88 (.pointer (some ⟨b, 0, none⟩))) (c + 1, (k : Int)) := by
 unfold ErrIs
 rw [if_neg (by simp), if_neg (by simp)]
 exact ⟨b, rfl, by simpa using h⟩
end Go.Proofs.YtkegkelaffohjaaGreatDoor
