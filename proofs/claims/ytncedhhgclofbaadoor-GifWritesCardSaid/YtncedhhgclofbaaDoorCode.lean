/- plain.Code: nil; a sentinel. coded: nil; a sentinel. plain.Code at a fault. -/
import Derived.Test.YtncedhhgclofbaaDoorErrAs
import Derived.Test.YtncedhhgclofbaaDoorMem
import Derived.Test.YtncedhhgclofbaaDoorBase
namespace Go.Proofs.YtncedhhgclofbaaDoor
open Go Go.RowKit

/-- The error variables: each holds a pointer to a block of its own; no two the same. -/
structure ErrsAt (w : World) (E : Nat → Addr) : Prop where
  typ : w.cell? ⟨9, 0, none⟩ = some (.iface 148 (.agg #[.pointer (some ⟨10, 26, none⟩)]))
  text : w.cell? ⟨2, 0, none⟩ = some (.iface 167 (.pointer (some (E 0))))
  bound : w.cell? ⟨1, 0, none⟩ = some (.iface 167 (.pointer (some (E 1))))
  shape : w.cell? ⟨3, 0, none⟩ = some (.iface 167 (.pointer (some (E 2))))
  sum : w.cell? ⟨4, 0, none⟩ = some (.iface 167 (.pointer (some (E 3))))
  name : w.cell? ⟨5, 0, none⟩ = some (.iface 167 (.pointer (some (E 4))))
  none_ : w.cell? ⟨6, 0, none⟩ = some (.iface 167 (.pointer (some (E 5))))
  colors : w.cell? ⟨0, 0, none⟩ = some (.iface 167 (.pointer (some (E 6))))
  full : w.cell? ⟨7, 0, none⟩ = some (.iface 167 (.pointer (some (E 7))))
  power : w.cell? ⟨8, 0, none⟩ = some (.iface 167 (.pointer (some (E 8))))
  blk : ∀ i, i < 9 → ∃ c t, w.heap[(E i).block]? = some (.cells c t (0, 0))
  ne : ∀ i j, i < 9 → j < 9 → i ≠ j → E i ≠ E j
theorem ErrsAt.below {w w' : World} {E : Nat → Addr} (h : ErrsAt w E) (hb : Below w.heap.size w w') : ErrsAt w' E :=
  ⟨bcell_ hb (cell_lt h.typ) h.typ, bcell_ hb (cell_lt h.text) h.text, bcell_ hb (cell_lt h.bound) h.bound, bcell_ hb (cell_lt h.shape) h.shape, bcell_ hb (cell_lt h.sum) h.sum, bcell_ hb (cell_lt h.name) h.name,
    bcell_ hb (cell_lt h.none_) h.none_, bcell_ hb (cell_lt h.colors) h.colors, bcell_ hb (cell_lt h.full) h.full, bcell_ hb (cell_lt h.power) h.power,
    fun i hi => by
      obtain ⟨c, t, e⟩ := h.blk i hi
      exact ⟨c, t, by rw [hb.block _ (Array.getElem?_eq_some_iff.1 e).1]; exact e⟩, h.ne⟩

theorem code_nil (w : World) : Calls Tryd.prog 37 #[.nilIface] w fun e w' => e = .returned (.tuple #[.int .i64 0, .int .i64 (-1)]) ∧ w' = w := by
  go_enter Tryd.func37, Tryd.ntmps37
  go_wp2
  go_ret2
  exact ⟨rfl, rfl⟩

def errV (a : Addr) : Value := .iface 167 (.pointer (some a))
/-- The relation of Code's loop. -/
structure CoR (w : World) (E : Nat → Addr) (i g : Nat) (at_ : Int) (a v : Value) (wr : World) (k : Nat) : Prop where
  hk : k ≤ i
  ha : a = .int .i64 at_
  hv : v = .int .i64 k
  list : Blk wr g 26 #[errV (E 0), errV (E 1), errV (E 2), errV (E 3), errV (E 4), errV (E 5), errV (E 6), errV (E 7), errV (E 8)]
  bel : Below w.heap.size w wr

set_option maxRecDepth 100000 in
set_option maxHeartbeats 1000000 in
theorem code_sent (E : Nat → Addr) (i : Nat) (hi9 : i < 9) (w : World) (hE : ErrsAt w E) :
    Calls Tryd.prog 37 #[.iface 167 (.pointer (some (E i)))] w fun e w' => e = .returned (.tuple #[.int .i64 (i + 1 : Nat), .int .i64 (-1)]) ∧ Below w.heap.size w w' := by
  go_enter Tryd.func37, Tryd.ntmps37
  go_wp2_with fail
  have lt := cell_lt hE.typ
  refine (as_miss (E i) ⟨w.heap.size, 0, none⟩ (.pointer none) _ (cell_past _ hE.typ) (cell_made _ _ _ rfl rfl)).mono ?_
  rintro e w1 ⟨rfl, hw1⟩
  have hb1 : Below w.heap.size w w1 := by rw [hw1]; go_grown
  clear hw1
  have hE1 := hE.below hb1
  have d0 := hE1.text
  have d1 := hE1.bound
  have d2 := hE1.shape
  have d3 := hE1.sum
  have d4 := hE1.name
  have d5 := hE1.none_
  have d6 := hE1.colors
  have d7 := hE1.full
  have d8 := hE1.power
  go_wp2_with fail
  go_loopw [3, 27] (fun a v wr => ∃ k, CoR w E i w1.heap.size (-1) a v wr k) (fun _ v _ => 9 - (intOf v).toNat)
  case atStart => exact ⟨0, Nat.zero_le _, rfl, rfl, Blk.new _ _ _ rfl, Below.alloc hb1 hb1.size _⟩
  case round =>
    obtain ⟨k, hk, rfl, rfl, hlist, hb⟩ := hrel
    obtain ⟨wo, rfl⟩ : ∃ wo : World, wo = wr := ⟨_, rfl⟩
    have hEo := hE.below hb
    have dk : wo.cell? ⟨w1.heap.size, k, none⟩ = some (.iface 167 (.pointer (some (E k)))) := by
      rw [hlist.cell]
      have hk9 : k < 9 := by omega
      match k, hk9 with
      | 0, _ => rfl
      | 1, _ => rfl
      | 2, _ => rfl
      | 3, _ => rfl
      | 4, _ => rfl
      | 5, _ => rfl
      | 6, _ => rfl
      | 7, _ => rfl
      | 8, _ => rfl
    by_cases hki : k = i
    · subst hki
      go_wp2_with fail
      refine (is_same (E k) wo).mono ?_
      rintro e w3 ⟨rfl, rfl⟩
      go_wp2_with fail
      go_ret2
      exact ⟨rfl, hb⟩
    · obtain ⟨ci, ti, hbi⟩ := hEo.blk i hi9
      obtain ⟨ck, tk, hbk⟩ := hEo.blk k (by omega)
      have hne := hEo.ne i k hi9 (by omega) (fun e => hki e.symm)
      go_wp2_with fail
      refine (is_other (E i) (E k) ci ck ti tk wo hne hbi hbk).mono ?_
      rintro e w3 ⟨rfl, rfl⟩
      go_wp2_with fail
      go_roundw
      case rel => exact ⟨k + 1, by omega, rfl, by go_num, hlist, hb⟩
      case measure => simp [intOf]; omega
end Go.Proofs.YtncedhhgclofbaaDoor
