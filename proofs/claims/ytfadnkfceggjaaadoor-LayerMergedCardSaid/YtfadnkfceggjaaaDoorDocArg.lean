/- An argument that is a document. -/
import Derived.Test.YtfadnkfceggjaaaDoorLayMem
namespace Go.Proofs.YtfadnkfceggjaaaDoor
open Go Go.RowKit Go.ChangeShapes Go.WideShapes Go.Deep Go.Joins

namespace da
theorem pxT : PxT Tryd.prog 49 := ⟨⟨_, _, _, _, Tryd.underlying49, by kernel_rfl, Tryd.underlying5, Tryd.underlying5, Tryd.underlying5, Tryd.underlying5⟩, by kernel_rfl⟩
theorem picT : PicT Tryd.prog 37 49 := ⟨⟨_, _, _, Tryd.underlying37, by kernel_rfl, Tryd.underlying3, Tryd.underlying3, Tryd.underlying35⟩, by kernel_rfl, pxT⟩
theorem layRow : ∃ f0 f1 f2 f3 f4 f5 f6, Tryd.prog.underlying 58 = some (.struct #[f0, f1, f2, f3, f4, f5, f6]) ∧
    (f0.offset = 0 ∧ Tryd.prog.cellsOf f0.type = 1 ∧ Tryd.prog.underlying f0.type = some .string) ∧ (f1.offset = 1 ∧ Tryd.prog.cellsOf f1.type = 1 ∧ Tryd.prog.underlying f1.type = some (.int .i64)) ∧
    (f2.offset = 2 ∧ Tryd.prog.cellsOf f2.type = 1 ∧ Tryd.prog.underlying f2.type = some (.int .i64)) ∧ (f3.offset = 3 ∧ Tryd.prog.cellsOf f3.type = 1 ∧ Tryd.prog.underlying f3.type = some .bool) ∧
    (f4.offset = 4 ∧ Tryd.prog.cellsOf f4.type = 1 ∧ Tryd.prog.underlying f4.type = some (.int .i64)) ∧ (f5.offset = 5 ∧ Tryd.prog.cellsOf f5.type = 1 ∧ Tryd.prog.underlying f5.type = some (.int .i64)) ∧
    f6.offset = 6 ∧ f6.type = 37 :=
  ⟨_, _, _, _, _, _, _, Tryd.underlying58, ⟨by kernel_rfl, by kernel_rfl, Tryd.underlying9⟩, ⟨by kernel_rfl, by kernel_rfl, Tryd.underlying3⟩, ⟨by kernel_rfl, by kernel_rfl, Tryd.underlying3⟩,
    ⟨by kernel_rfl, by kernel_rfl, Tryd.underlying4⟩, ⟨by kernel_rfl, by kernel_rfl, Tryd.underlying3⟩, ⟨by kernel_rfl, by kernel_rfl, Tryd.underlying3⟩, by kernel_rfl, by kernel_rfl⟩
theorem layCellsN : Tryd.prog.cellsOf 58 = 9 := by kernel_rfl
theorem docOne : ∃ f0 f1 f2, Tryd.prog.underlying 24 = some (.struct #[f0, f1, f2]) ∧ oneCellFields Tryd.prog #[f0, f1, f2] = true ∧ Tryd.prog.underlying f0.type = some (.int .i64) ∧ Tryd.prog.underlying f1.type = some (.int .i64) ∧ f2.type = 22 :=
  ⟨_, _, _, Tryd.underlying24, by kernel_rfl, Tryd.underlying3, Tryd.underlying3, by kernel_rfl⟩
theorem docCells : Tryd.prog.cellsOf 24 = 3 := by kernel_rfl
end da

section
variable {H : Type} {enc : TypeId × Value → H} {w : World} {base : Nat} {spare : Nat → Bool} {held : Bool}
/-- Three cells that are a picture. -/
theorem pic_cells {fuel : Nat} {c0 c1 c2 : Value} {x : DataW H × List MemPlace} (ht : DataW.trod enc Tryd.prog w base spare held fuel 37 [c0, c1, c2] = some x) :
    ∃ (W H' : Int) (A : Option Addr) (len cap : Nat) (l : List Px), c0 = .int .i64 W ∧ c1 = .int .i64 H' ∧ c2 = .slice A len cap ∧ Reads w w.heap.size 4 A len (pxCells l) := by
  obtain ⟨f0, f1, f2, hs, hone, t0, t1, t2⟩ := da.picT.row
  obtain ⟨y0, y1, y2, n, _, _, h0, h1, h2⟩ := trod_struct3 hs ht
  obtain ⟨o0, k0⟩ := hone_of hone 0 f0 rfl
  obtain ⟨o1, k1⟩ := hone_of hone 1 f1 rfl
  obtain ⟨o2, k2⟩ := hone_of hone 2 f2 rfl
  rw [o0, k0] at h0
  rw [o1, k1] at h1
  rw [o2, k2] at h2
  obtain ⟨n0, e0, _, _⟩ := DataW.trod_int t0 h0
  obtain ⟨n1, e1, _, _⟩ := DataW.trod_int t1 h1
  obtain ⟨A, len, cap, l, e2, hr⟩ := pxs_field da.pxT t2 (c := c2) (by simpa using h2)
  simp at e0 e1
  exact ⟨n0, n1, A, len, cap, l, e0, e1, e2, hr⟩
set_option maxRecDepth 100000 in
theorem lay_cells {fuel : Nat} {cs : List Value} {x : DataW H × List MemPlace} (ht : DataW.trod enc Tryd.prog w base spare held fuel 58 cs = some x) : ∃ m : LM, cs = layCs m ∧ Reads w w.heap.size 4 m.A m.n (pxCells m.l.ps) := by
  obtain ⟨f0, f1, f2, f3, f4, f5, f6, hs, ⟨o0, k0, t0⟩, ⟨o1, k1, t1⟩, ⟨o2, k2, t2⟩, ⟨o3, k3, t3⟩, ⟨o4, k4, t4⟩, ⟨o5, k5, t5⟩, o6, t6⟩ := da.layRow
  obtain ⟨xs, n, _, _, hl, hlen, hf⟩ := DataW.trod_struct hs ht
  rw [da.layCellsN] at hl
  match cs, hl with
  | [c0, c1, c2, c3, c4, c5, c6, c7, c8], _ =>
    match xs, hlen with
    | [y0, y1, y2, y3, y4, y5, y6], _ =>
      have h0 := hf 0 f0 rfl
      have h1 := hf 1 f1 rfl
      have h2 := hf 2 f2 rfl
      have h3 := hf 3 f3 rfl
      have h4 := hf 4 f4 rfl
      have h5 := hf 5 f5 rfl
      have h6 := hf 6 f6 rfl
      rw [o0, k0] at h0
      rw [o1, k1] at h1
      rw [o2, k2] at h2
      rw [o3, k3] at h3
      rw [o4, k4] at h4
      rw [o5, k5] at h5
      rw [o6, t6, da.picT.cells] at h6
      obtain ⟨s0, e0, _, _⟩ := DataW.trod_string t0 h0
      obtain ⟨n1, e1, _, _⟩ := DataW.trod_int t1 h1
      obtain ⟨n2, e2, _, _⟩ := DataW.trod_int t2 h2
      obtain ⟨b3, e3, _⟩ := DataW.trod_bool t3 h3
      obtain ⟨n4, e4, _, _⟩ := DataW.trod_int t4 h4
      obtain ⟨n5, e5, _, _⟩ := DataW.trod_int t5 h5
      obtain ⟨W, H', A, len, cap, l, e6, e7, e8, hr⟩ := pic_cells h6
      simp at e0 e1 e2 e3 e4 e5
      subst e0; subst e1; subst e2; subst e3; subst e4; subst e5; subst e6; subst e7; subst e8
      exact ⟨⟨⟨s0, n1, n2, b3, n4, n5, W, H', l⟩, A, len, cap⟩, rfl, hr⟩
theorem slice_len {te ts : TypeId} {P : Program} (hs : P.underlying ts = some (.slice te)) {fuel : Nat} {A : Option Addr} {len cap : Nat} {x : DataW H × List MemPlace} (ht : DataW.trod enc P w base spare held fuel ts [.slice A len cap] = some x) : len ≤ 9223372036854775807 := by
  rcases open_slice hs ht with ⟨hc, _⟩ | ⟨a, len', cap', m, n, D, Pl, hc, _, hlc, hcm, _⟩
  · injection hc with hc
    injection hc with _ h _
    omega
  · injection hc with hc
    injection hc with _ h _
    unfold maxLen at hcm
    omega
set_option maxRecDepth 100000 in
/-- The document: its sizes, its layers. -/
theorem doc_arg {r : Reach} {b0 : Nat} {v : Value} {d : DataW H} {p : List MemPlace} (hv : Value.okWide Tryd.prog w r b0 24 v) (ht : DataW.Trod enc Tryd.prog w base spare held 24 v d p) :
    ∃ (W H' : Int) (A : Option Addr) (n c : Nat) (ms : List LM), v = .agg #[.int .i64 W, .int .i64 H', .slice A n c] ∧ Lays w w.heap.size A n ms ∧ n ≤ 9223372036854775807 := by
  obtain ⟨f0, f1, f2, hs, hone, t0, t1, t2⟩ := da.docOne
  obtain ⟨v0, v1, v2, y0, y1, y2, n, rfl, _, _, h0, h1, h2⟩ := open_agg3 hs hone da.docCells hv ht
  obtain ⟨n0, e0, _, _⟩ := DataW.trod_int t0 h0
  obtain ⟨n1, e1, _, _⟩ := DataW.trod_int t1 h1
  injection e0 with e0
  injection e1 with e1
  subst e0; subst e1
  rw [t2] at h2
  obtain ⟨A, len, cap, l, rfl, hr, hl, hq⟩ := slice_field (κ := LM) Tryd.underlying22 9 layCs (fun _ => rfl) (by decide) da.layCellsN (fun m => Reads w w.heap.size 4 m.A m.n (pxCells m.l.ps)) (fun _ _ _ h => lay_cells h) h2
  exact ⟨n0, n1, A, len, cap, l, rfl, ⟨hr, hq⟩, slice_len Tryd.underlying22 h2⟩
end
end Go.Proofs.YtfadnkfceggjaaaDoor
