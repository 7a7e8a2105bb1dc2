/- An argument that is frames, with what its row says of sizes. -/
import Derived.Test.YtncedhhgclofbaaDoorFrMem
import Derived.Test.YtncedhhgclofbaaDoorReachArg
namespace Go.Proofs.YtncedhhgclofbaaDoor
open Go Go.RowKit Go.ChangeShapes Go.WideShapes Go.Deep Go.Joins

namespace fra
theorem frRow : ∃ f0 f1, Tryd.prog.underlying 38 = some (.struct #[f0, f1]) ∧ (f0.offset = 0 ∧ f0.type = 35) ∧ (f1.offset = 3 ∧ Tryd.prog.cellsOf f1.type = 1 ∧ Tryd.prog.underlying f1.type = some (.int .i64)) :=
  ⟨_, _, Tryd.underlying38, ⟨by kernel_rfl, by kernel_rfl⟩, ⟨by kernel_rfl, by kernel_rfl, Tryd.underlying3⟩⟩
theorem frCellsN : Tryd.prog.cellsOf 38 = 4 := by kernel_rfl
end fra
section
variable {H : Type} {enc : TypeId × Value → H} {w : World} {base : Nat} {spare : Nat → Bool} {held : Bool}
set_option maxRecDepth 100000 in
theorem fr_cellsW {fuel : Nat} {cs : List Value} {x : DataW H × List MemPlace} (ht : DataW.trod enc Tryd.prog w base spare held fuel 38 cs = some x) (hw : InReach Tryd.prog 38 x.1) :
    ∃ m : FM, cs = frCs m ∧ Reads w w.heap.size 4 m.A m.n (pxCells m.f.ps) ∧ m.n ≤ reachBytes := by
  obtain ⟨f0, f1, hs, ⟨o0, t0⟩, ⟨o1, k1, t1⟩⟩ := fra.frRow
  obtain ⟨xs, n, _, hx, hl, hlen, hf⟩ := DataW.trod_struct hs ht
  rw [fra.frCellsN] at hl
  rw [hx] at hw
  match cs, hl with
  | [c0, c1, c2, c3], _ =>
    match xs, hlen with
    | [y0, y1], _ =>
      have h0 := hf 0 f0 rfl
      have h1 := hf 1 f1 rfl
      have hw0 := inReach_each (hw.struct_ hs) 0 f0.type y0.1 rfl rfl
      rw [o0, t0, daw.picT.cells] at h0
      rw [t0] at hw0
      rw [o1, k1] at h1
      obtain ⟨n1, e1, _, _⟩ := DataW.trod_int t1 h1
      obtain ⟨W, H', A, len, cap, l, e6, e7, e8, hr, hq⟩ := pic_cellsW h0 hw0
      simp at e1
      subst e1; subst e6; subst e7; subst e8
      exact ⟨⟨⟨W, H', l, n1⟩, A, len, cap⟩, rfl, hr, hq⟩
set_option maxRecDepth 100000 in
theorem frs_argW {r : Reach} {b0 : Nat} {v : Value} {d : DataW H} {p : List MemPlace} (hv : Value.okWide Tryd.prog w r b0 22 v) (ht : DataW.Trod enc Tryd.prog w base spare held 22 v d p) (hw : InReach Tryd.prog 22 d) :
    ∃ (A : Option Addr) (n c : Nat) (ms : List FM), v = .slice A n c ∧ Frs w w.heap.size A n ms ∧ n ≤ 9223372036854775807 ∧ ∀ m ∈ ms, m.n ≤ reachBytes := by
  obtain ⟨A, len, cap, rfl⟩ := okWide_slice Tryd.underlying22 hv
  obtain ⟨fuel, hf⟩ := ht
  have hf' : DataW.trod enc Tryd.prog w base spare held fuel 22 [.slice A len cap] = some (d, p) := by simpa [Value.cells] using hf
  obtain ⟨A', len', cap', l, e, hr, _, hq⟩ := slice_fieldW (κ := FM) Tryd.underlying22 4 frCs (fun _ => rfl) (by decide) fra.frCellsN (fun m => Reads w w.heap.size 4 m.A m.n (pxCells m.f.ps) ∧ m.n ≤ reachBytes) (fun _ _ _ h hw => fr_cellsW h hw) hf' hw
  injection e with e1 e2 e3
  subst e1; subst e2; subst e3
  exact ⟨A, len, cap, l, rfl, ⟨hr, fun m hm => (hq m hm).1⟩, slice_lenW Tryd.underlying22 hf', fun m hm => (hq m hm).2⟩
end
end Go.Proofs.YtncedhhgclofbaaDoor
