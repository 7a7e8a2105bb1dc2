/- The reference's In, at: the walks. -/
import Derived.Test.YtcdbhcjiimdhhaaDoorFlatLaw
import Derived.Test.YtcdbhcjiimdhhaaDoorMem4
import Derived.Test.YtcdbhcjiimdhhaaDoorBase
import Derived.IntWalk
namespace Go.Proofs.YtcdbhcjiimdhhaaDoor
open Go Go.RowKit

theorem there4 {w : World} {b o : Nat} (h : w.there b o 4) : w.frozen? ⟨b, o, none⟩ = false ∧ w.frozen? ⟨b, o + 1, none⟩ = false ∧ w.frozen? ⟨b, o + 2, none⟩ = false ∧ w.frozen? ⟨b, o + 3, none⟩ = false :=
  ⟨(h 0 (by omega)).2, (h 1 (by omega)).2, (h 2 (by omega)).2, (h 3 (by omega)).2⟩
set_option maxRecDepth 100000 in
theorem inRef_any (W H x y : Int) (A : Option Addr) (n c : Nat) (w : World) :
    Calls Tryd.prog 17 #[.agg #[.int .i64 W, .int .i64 H, .slice A n c], .int .i64 x, .int .i64 y] w fun e w' => e = .returned (.bool (Lay.inP W H x y)) ∧ Below w.heap.size w w' := by
  rcases (show x < 0 ∨ (0 ≤ x ∧ y < 0) ∨ (0 ≤ x ∧ 0 ≤ y ∧ W ≤ x) ∨ (0 ≤ x ∧ 0 ≤ y ∧ x < W ∧ H ≤ y) ∨ (0 ≤ x ∧ 0 ≤ y ∧ x < W ∧ y < H) by omega) with h1 | ⟨h1, h2⟩ | ⟨h1, h2, h3⟩ | ⟨h1, h2, h3, h4⟩ | ⟨h1, h2, h3, h4⟩
  all_goals
    go_enter Tryd.func17, Tryd.ntmps17
    go_wp2_with fail
    go_ret
  all_goals exact ⟨by first | (simp [Lay.inP]; done) | (simp [Lay.inP]; omega), by go_grown⟩

set_option maxRecDepth 100000 in
set_option maxHeartbeats 1000000 in
theorem atRef_any (W H : Int) (A : Option Addr) (n c : Nat) (l : List Px) (x y : Int) (k : Nat) (p : Px) (w : World) (h : Reads w w.heap.size 4 A n (pxCells l)) (hp : l[k]? = some p) (hy : 0 ≤ y * W ∧ y * W ≤ 1048576) (hx : 0 ≤ x ∧ x ≤ 1048576) (hk : y * W + x = k) :
    Calls Tryd.prog 40 #[.agg #[.int .i64 W, .int .i64 H, .slice A n c], .int .i64 x, .int .i64 y] w
      fun e w' => e = .returned (.agg #[.int .u8 p.r.toNat, .int .u8 p.g.toNat, .int .u8 p.b.toNat, .int .u8 p.a.toNat]) ∧ Below w.heap.size w w' := by
  obtain ⟨hl, hlp⟩ := List.getElem?_eq_some_iff.1 hp
  obtain rfl := h.pxLen
  obtain ⟨b, off, rfl, hb⟩ := h.addr (by omega)
  obtain ⟨y0, y1, y2, y3⟩ := ((h.alloc (Nat.le_refl _) (.cells #[.int .i64 W, .int .i64 H, .slice (some ⟨b, off, none⟩) l.length c] 24)).alloc (by simp) (.cells #[.int .u8 0, .int .u8 0, .int .u8 0, .int .u8 0] 41)).px k hl
  rw [hlp] at y0 y1 y2 y3
  obtain ⟨z, hz⟩ : ∃ z, y * W = z := ⟨_, rfl⟩
  rw [hz] at hy hk
  have hw1 : IntKind.i64.wrap (y * W) = z := by rw [hz]; exact IntWalk.i64_in _ (by omega)
  have hw2 : IntKind.i64.wrap (z + x) = (k : Int) := by rw [hk]; exact IntWalk.i64_in _ (by omega)
  have k0 : (0 : Int) ≤ (k : Int) := by omega
  have k1 : (k : Int) < (l.length : Int) := by omega
  clear hlp hp
  go_enter Tryd.func40, Tryd.ntmps40
  go_wp2_with fail
  refine bodyPost_ret (v := .agg #[.int .u8 p.r.toNat, .int .u8 p.g.toNat, .int .u8 p.b.toNat, .int .u8 p.a.toNat]) (by simp [results, Tryd.results40, go_sem]) rfl ⟨rfl, by go_grown⟩
end Go.Proofs.YtcdbhcjiimdhhaaDoor
