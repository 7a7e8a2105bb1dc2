/- An argument that is a list of steps. -/
import Derived.Test.YtnciahoifehkdaaDoorRow2
import Derived.Test.YtnciahoifehkdaaDoorProg
import Derived.KernelRfl
namespace Go.Proofs.YtnciahoifehkdaaDoor
open Go Go.RowKit Go.ChangeShapes Go.WideShapes Go.Deep Go.Joins

def stepCs (p : Int × Int) : List Value := [.int .i64 p.1, .int .i64 p.2]
theorem stepOne : ∃ f0 f1, Tryd.prog.underlying 65 = some (.struct #[f0, f1]) ∧ oneCellFields Tryd.prog #[f0, f1] = true ∧ Tryd.prog.underlying f0.type = some (.int .i64) ∧ Tryd.prog.underlying f1.type = some (.int .i64) :=
  ⟨_, _, Tryd.underlying65, by kernel_rfl, Tryd.underlying3, Tryd.underlying3⟩
theorem stepCells : Tryd.prog.cellsOf 65 = 2 := by kernel_rfl
set_option maxRecDepth 100000 in
theorem steps_arg {H : Type} {enc : TypeId × Value → H} {w : World} {base : Nat} {spare : Nat → Bool} {held : Bool} {r : Reach} {b0 : Nat} {v : Value} {d : DataW H} {p : List MemPlace}
    (hv : Value.okWide Tryd.prog w r b0 58 v) (ht : DataW.Trod enc Tryd.prog w base spare held 58 v d p) :
    ∃ (A : Option Addr) (len cap : Nat) (l : List (Int × Int)), v = .slice A len cap ∧ Reads w w.heap.size 2 A len (l.flatMap stepCs) := by
  obtain ⟨A, len, cap, rfl⟩ := okWide_slice Tryd.underlying58 hv
  obtain ⟨fuel, hf⟩ := ht
  obtain ⟨f0, f1, hs, hone, t0, t1⟩ := stepOne
  have hopen : ∀ (fuel : Nat) (cs : List Value) (x : DataW H × List MemPlace), DataW.trod enc Tryd.prog w base spare held fuel 65 cs = some x → ∃ p, cs = stepCs p ∧ True := by
    intro fuel cs x h
    obtain ⟨y0, y1, n, _, hl, h0, h1⟩ := trod_struct2 hs h
    rw [stepCells] at hl
    obtain ⟨o0, k0⟩ := hone_of hone 0 f0 rfl
    obtain ⟨o1, k1⟩ := hone_of hone 1 f1 rfl
    match cs, hl with
    | [c0, c1], _ =>
      rw [o0, k0] at h0
      rw [o1, k1] at h1
      obtain ⟨n0, e0, _, w0⟩ := DataW.trod_int t0 h0
      obtain ⟨n1, e1, _, w1⟩ := DataW.trod_int t1 h1
      simp at e0 e1
      exact ⟨(n0, n1), by rw [e0, e1]; rfl, trivial⟩
  obtain ⟨A', len', cap', l, e, hr, _, _⟩ := slice_field (κ := Int × Int) Tryd.underlying58 2 stepCs (fun _ => rfl) (by decide) stepCells (fun _ => True) hopen (by simpa [Value.cells] using hf)
  injection e with e1 e2 e3
  subst e1; subst e2; subst e3
  exact ⟨_, _, _, l, rfl, hr⟩
theorem stepCells_length (l : List (Int × Int)) : (l.flatMap stepCs).length = l.length * 2 := flatCells_length stepCs 2 (fun _ => rfl) l
/-- One step. -/
theorem Reads.step {w : World} {B n b off : Nat} {l : List (Int × Int)} (h : Reads w B 2 (some ⟨b, off, none⟩) n (l.flatMap stepCs)) (k : Nat) (hk : k < l.length) :
    w.cell? ⟨b, off + k * 2, none⟩ = some (.int .i64 l[k].1) ∧ w.cell? ⟨b, off + k * 2 + 1, none⟩ = some (.int .i64 l[k].2) := by
  have hn : n * 2 = l.length * 2 := by rw [← h.1, stepCells_length]
  constructor
  · rw [h.cell rfl (k * 2) (by omega)]
    exact flatCells_at stepCs 2 (fun _ => rfl) l k hk 0 (by omega)
  · rw [Nat.add_assoc, h.cell rfl (k * 2 + 1) (by omega)]
    exact flatCells_at stepCs 2 (fun _ => rfl) l k hk 1 (by omega)
theorem Reads.stepLen {w : World} {B n : Nat} {A : Option Addr} {l : List (Int × Int)} (h : Reads w B 2 A n (l.flatMap stepCs)) : n = l.length := by
  have := h.1
  rw [stepCells_length] at this
  omega
end Go.Proofs.YtnciahoifehkdaaDoor
