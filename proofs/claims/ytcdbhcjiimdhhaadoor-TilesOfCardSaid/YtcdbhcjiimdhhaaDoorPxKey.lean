/- Pixels as keys; pixels compared. -/
import Derived.Test.YtcdbhcjiimdhhaaDoorProg
import Derived.Test.YtcdbhcjiimdhhaaDoorMaps
import Derived.WalkSpells
import Derived.WalkLawsBesides
import Derived.Handy
namespace Go.Proofs.YtcdbhcjiimdhhaaDoor
open Go Go.RowKit

theorem pxEqIn (w : World) (p q : Px) : (Op.equalIn 10000 41 (pxV p) (pxV q)).run Tryd.prog w = .ok (decide (p = q)) w := by
  have hS : Tryd.prog.underlying 41 = some (.struct (Tryd.prog.fieldsOf 41)) := by kernel_rfl
  have hp : Tryd.prog.stoodInHeld 41 = false := by kernel_rfl
  have u5 := Tryd.underlying5
  have a5 : ∀ w, (isAgg 5).run Tryd.prog w = .ok false w := fun _ => by kernel_rfl
  have z5 : ∀ w, (sizeOf 5).run Tryd.prog w = .ok 1 w := fun _ => by kernel_rfl
  simp only [pxV]
  rw [show (10000 : Nat) = 9999 + 1 from rfl, run_equalIn_agg w 9999 41 _ _ hS hp]
  simp only [Program.fieldsOf, Tryd.underlying41]
  go_simp
  obtain ⟨r, g, b, a⟩ := p
  obtain ⟨r', g', b', a'⟩ := q
  have e : (Px.mk r g b a = Px.mk r' g' b' a') ↔ ((r.toNat : Int) = r'.toNat ∧ (g.toNat : Int) = g'.toNat ∧ (b.toNat : Int) = b'.toNat ∧ (a.toNat : Int) = a'.toNat) := by
    constructor
    · intro h; injection h with h1 h2 h3 h4; subst h1; subst h2; subst h3; subst h4; simp
    · rintro ⟨h1, h2, h3, h4⟩
      exact Px.ext' (UInt8.toNat_inj.1 (by dsimp only; omega)) (UInt8.toNat_inj.1 (by dsimp only; omega)) (UInt8.toNat_inj.1 (by dsimp only; omega)) (UInt8.toNat_inj.1 (by dsimp only; omega))
  simp only [e]
  by_cases h1 : (r.toNat : Int) = r'.toNat <;> by_cases h2 : (g.toNat : Int) = g'.toNat <;> by_cases h3 : (b.toNat : Int) = b'.toNat <;> by_cases h4 : (a.toNat : Int) = a'.toNat <;> simp [h1, h2, h3, h4]

theorem u8Check (n : Nat) (w : World) (b : Bool) (x : Int) : (Instr.checkKey b (n + 1) 5 (.int .u8 x)).run Tryd.prog w = .ok () w := by
  simp [Instr.checkKey, run_underlying Tryd.underlying5]
theorem pxCheck (w : World) (b : Bool) (p : Px) : (Instr.checkKey b 10000 41 (pxV p)).run Tryd.prog w = .ok () w := by
  have a5 : ∀ w, (isAgg 5).run Tryd.prog w = .ok false w := fun _ => by kernel_rfl
  have key : ∀ n, (Instr.checkKey b (n + 1 + 1) 41 (pxV p)).run Tryd.prog w = .ok () w := by
    intro n
    unfold Instr.checkKey
    simp [run_underlying Tryd.underlying41, pxV, part, a5, u8Check]
  exact key 9998

theorem pxKey : KeyLaw Tryd.prog 41 pxV := by
  refine ⟨fun w p q => pxEqIn w p q, pxCheck, ⟨_, Tryd.underlying41, fun p q r h => by cases h⟩, fun p => ?_⟩
  simp [Instr.sameBits, pxV]
end Go.Proofs.YtcdbhcjiimdhhaaDoor
