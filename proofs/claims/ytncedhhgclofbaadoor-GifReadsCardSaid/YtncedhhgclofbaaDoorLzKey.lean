/- Keys of package lzw: the word ahead and the last number; a tree of words as a Go map. -/
import Derived.Test.YtncedhhgclofbaaDoorPxKey
import Derived.Test.YtncedhhgclofbaaDoorBitW
import Derived.Test.YtncedhhgclofbaaDoorLzwLaw
namespace Go.Proofs.YtncedhhgclofbaaDoor
open Go Go.RowKit

def lzV (k : Nat × UInt8) : Value := .agg #[.int .i64 k.1, .int .u8 k.2.toNat]
theorem lzEqIn (w : World) (p q : Nat × UInt8) : (Op.equalIn 10000 117 (lzV p) (lzV q)).run Tryd.prog w = .ok (decide (p = q)) w := by
  have hS : Tryd.prog.underlying 117 = some (.struct (Tryd.prog.fieldsOf 117)) := by kernel_rfl
  have hp : Tryd.prog.stoodInHeld 117 = false := by kernel_rfl
  have u5 := Tryd.underlying5
  have a5 : ∀ w, (isAgg 5).run Tryd.prog w = .ok false w := fun _ => by kernel_rfl
  have z5 : ∀ w, (sizeOf 5).run Tryd.prog w = .ok 1 w := fun _ => by kernel_rfl
  have u3 := Tryd.underlying3
  have a3 : ∀ w, (isAgg 3).run Tryd.prog w = .ok false w := fun _ => by kernel_rfl
  have z3 : ∀ w, (sizeOf 3).run Tryd.prog w = .ok 1 w := fun _ => by kernel_rfl
  simp only [lzV]
  rw [show (10000 : Nat) = 9999 + 1 from rfl, run_equalIn_agg w 9999 117 _ _ hS hp]
  simp only [Program.fieldsOf, Tryd.underlying117]
  go_simp
  obtain ⟨a, b⟩ := p
  obtain ⟨a', b'⟩ := q
  have e : ((a, b) = (a', b')) ↔ ((a : Int) = a' ∧ (b.toNat : Int) = b'.toNat) := by
    constructor
    · intro h; injection h with h1 h2; subst h1; subst h2; simp
    · rintro ⟨h1, h2⟩
      exact Prod.ext (by dsimp only; omega) (UInt8.toNat_inj.1 (by dsimp only; omega))
  simp only [e]
  by_cases h1 : (a : Int) = a' <;> by_cases h2 : (b.toNat : Int) = b'.toNat <;> simp [h1, h2]
theorem intCheck (n : Nat) (w : World) (b : Bool) (x : Int) : (Instr.checkKey b (n + 1) 3 (.int .i64 x)).run Tryd.prog w = .ok () w := by
  simp [Instr.checkKey, run_underlying Tryd.underlying3]
theorem lzCheck (w : World) (b : Bool) (p : Nat × UInt8) : (Instr.checkKey b 10000 117 (lzV p)).run Tryd.prog w = .ok () w := by
  have a5 : ∀ w, (isAgg 5).run Tryd.prog w = .ok false w := fun _ => by kernel_rfl
  have a3 : ∀ w, (isAgg 3).run Tryd.prog w = .ok false w := fun _ => by kernel_rfl
  have key : ∀ n, (Instr.checkKey b (n + 1 + 1) 117 (lzV p)).run Tryd.prog w = .ok () w := by
    intro n
    unfold Instr.checkKey
    simp [run_underlying Tryd.underlying117, lzV, part, a5, a3, u8Check, intCheck]
  exact key 9998
theorem lzKey : KeyLaw Tryd.prog 117 lzV := by
  refine ⟨fun w p q => lzEqIn w p q, lzCheck, ⟨_, Tryd.underlying117, fun p q r h => by cases h⟩, fun p => ?_⟩
  simp [Instr.sameBits, lzV]
end Go.Proofs.YtncedhhgclofbaaDoor
