/- The error variables, out of a row's list. The error variables and reflectlite's own, out of a row's list. A world for the witness of a row that lists the ten variables of errors. -/
import Derived.Test.YthohmpjoeffckaaGreatDoorEr4
import Derived.Test.YthohmpjoeffckaaGreatDoorRows
import Derived.Stop.LaidTwo
import Derived.LaidSub
import Derived.LaidHandle
import Derived.ProofKit
import Derived.Deep.DeepHandedRow
namespace Go.Proofs.YthohmpjoeffckaaGreatDoor
open Go Go.RowKit Go.ChangeShapes

namespace en
theorem cellsE : Tryz.prog.cellsOf 249 = 1 := by kernel_rfl
theorem cellsS : Tryz.prog.cellsOf 9 = 1 := by kernel_rfl
theorem star : "*" ++ "errors.errorString" = "*errors.errorString" := by decide
theorem rowE (u : TypeId) (h : Tryz.prog.typeName? 3 u = some "*errors.errorString") : u = 230 :=
  typeName_ptr_named (nm := "errors.errorString") (by rw [star]; kernel_rfl) (by kernel_rfl) (by decide) u (by rw [star]; exact h)
theorem gErrText : Tryz.prog.globalNamed "layercake/api.ErrText" = some 2 := by kernel_rfl
theorem tErrText : (Tryz.prog.globals[2]?).map (·.type) = some 29 := by kernel_rfl
theorem gErrBound : Tryz.prog.globalNamed "layercake/api.ErrBound" = some 1 := by kernel_rfl
theorem tErrBound : (Tryz.prog.globals[1]?).map (·.type) = some 29 := by kernel_rfl
theorem gErrShape : Tryz.prog.globalNamed "layercake/api.ErrShape" = some 0 := by kernel_rfl
theorem tErrShape : (Tryz.prog.globals[0]?).map (·.type) = some 29 := by kernel_rfl
theorem gErrSum : Tryz.prog.globalNamed "layercake/api.ErrSum" = some 3 := by kernel_rfl
theorem tErrSum : (Tryz.prog.globals[3]?).map (·.type) = some 29 := by kernel_rfl
theorem gErrName : Tryz.prog.globalNamed "layercake/api.ErrName" = some 4 := by kernel_rfl
theorem tErrName : (Tryz.prog.globals[4]?).map (·.type) = some 29 := by kernel_rfl
theorem gErrNone : Tryz.prog.globalNamed "layercake/api.ErrNone" = some 5 := by kernel_rfl
theorem tErrNone : (Tryz.prog.globals[5]?).map (·.type) = some 29 := by kernel_rfl
theorem gErrColors : Tryz.prog.globalNamed "layercake/api.ErrColors" = some 6 := by kernel_rfl
theorem tErrColors : (Tryz.prog.globals[6]?).map (·.type) = some 29 := by kernel_rfl
theorem gErrFull : Tryz.prog.globalNamed "layercake/api.ErrFull" = some 7 := by kernel_rfl
theorem tErrFull : (Tryz.prog.globals[7]?).map (·.type) = some 29 := by kernel_rfl
theorem gErrPower : Tryz.prog.globalNamed "layercake/api.ErrPower" = some 8 := by kernel_rfl
theorem tErrPower : (Tryz.prog.globals[8]?).map (·.type) = some 29 := by kernel_rfl
end en
abbrev sentD (t : List UInt8) : DataW Unit := .iface "*errors.errorString" (.ptr (.agg [.lit (.string t)]))
theorem sent_pair {W : World} {l : List (String × DataW Unit)} (h : laidMetH Tryz.prog l W) (n0 n1 : String) (x0 x1 : List UInt8) {g0 g1 : Nat} (hf : l.filter (fun x => x.1 == n0 || x.1 == n1) = [(n0, sentD x0), (n1, sentD x1)])
    (hg0 : Tryz.prog.globalNamed n0 = some g0) (ht0 : (Tryz.prog.globals[g0]?).map (·.type) = some 29) (hg1 : Tryz.prog.globalNamed n1 = some g1) (ht1 : (Tryz.prog.globals[g1]?).map (·.type) = some 29) :
    ∃ a0 a1, W.cell? ⟨g0, 0, none⟩ = some (errV a0) ∧ W.cell? ⟨g1, 0, none⟩ = some (errV a1) ∧ a0 ≠ a1 ∧ (∃ c t, W.heap[a0.block]? = some (.cells c t (0, 0))) ∧ (∃ c t, W.heap[a1.block]? = some (.cells c t (0, 0))) := by
  have h2 := h.filter (fun x => x.1 == n0 || x.1 == n1)
  rw [hf] at h2
  obtain ⟨a0, a1, s0, s1, c0, c1, t0, t1, hv0, hv1, _, _, _, _, _, _, hne, hb0, hb1⟩ := laid_sentinels2 h2 hg0 ht0 hg1 ht1 Tryz.underlying29 en.rowE Tryz.underlying230 Tryz.underlying249 rfl rfl Tryz.underlying9 en.cellsE en.cellsS
  exact ⟨a0, a1, by simpa [errV] using World.var?_cell hg0 hv0 0, by simpa [errV] using World.var?_cell hg1 hv1 0, hne, ⟨c0, t0, hb0⟩, ⟨c1, t1, hb1⟩⟩

theorem errV_inj {a b : Addr} (h : (some (errV a) : Option Value) = some (errV b)) : a = b := by
  simpa [errV] using h
/-- The sentinels' part, told by a function. -/
structure Sents (W : World) (E : Nat → Addr) : Prop where
  c0 : W.cell? ⟨2, 0, none⟩ = some (errV (E 0))
  c1 : W.cell? ⟨1, 0, none⟩ = some (errV (E 1))
  c2 : W.cell? ⟨0, 0, none⟩ = some (errV (E 2))
  c3 : W.cell? ⟨3, 0, none⟩ = some (errV (E 3))
  c4 : W.cell? ⟨4, 0, none⟩ = some (errV (E 4))
  c5 : W.cell? ⟨5, 0, none⟩ = some (errV (E 5))
  c6 : W.cell? ⟨6, 0, none⟩ = some (errV (E 6))
  c7 : W.cell? ⟨7, 0, none⟩ = some (errV (E 7))
  c8 : W.cell? ⟨8, 0, none⟩ = some (errV (E 8))
  blk : ∀ i, i < 9 → ∃ c t, W.heap[(E i).block]? = some (.cells c t (0, 0))
  ne : ∀ i j, i < 9 → j < 9 → i ≠ j → E i ≠ E j
set_option maxRecDepth 100000 in
theorem sents_of {W : World} (h : laidMetH Tryz.prog Rows.tilesPackRow.laid W) : ∃ E, Sents W E := by
  obtain ⟨a0_1, b0_1, p0_1, q0_1, n0_1, k0_1, m0_1⟩ := sent_pair h "layercake/api.ErrText" "layercake/api.ErrBound" [108, 97, 121, 101, 114, 99, 97, 107, 101, 58, 32, 116, 101, 120, 116] [108, 97, 121, 101, 114, 99, 97, 107, 101, 58, 32, 98, 111, 117, 110, 100] (by kernel_rfl) en.gErrText en.tErrText en.gErrBound en.tErrBound
  obtain ⟨a0_2, b0_2, p0_2, q0_2, n0_2, k0_2, m0_2⟩ := sent_pair h "layercake/api.ErrText" "layercake/api.ErrShape" [108, 97, 121, 101, 114, 99, 97, 107, 101, 58, 32, 116, 101, 120, 116] [108, 97, 121, 101, 114, 99, 97, 107, 101, 58, 32, 115, 104, 97, 112, 101] (by kernel_rfl) en.gErrText en.tErrText en.gErrShape en.tErrShape
  obtain ⟨a0_3, b0_3, p0_3, q0_3, n0_3, k0_3, m0_3⟩ := sent_pair h "layercake/api.ErrText" "layercake/api.ErrSum" [108, 97, 121, 101, 114, 99, 97, 107, 101, 58, 32, 116, 101, 120, 116] [108, 97, 121, 101, 114, 99, 97, 107, 101, 58, 32, 115, 117, 109] (by kernel_rfl) en.gErrText en.tErrText en.gErrSum en.tErrSum
  obtain ⟨a0_4, b0_4, p0_4, q0_4, n0_4, k0_4, m0_4⟩ := sent_pair h "layercake/api.ErrText" "layercake/api.ErrName" [108, 97, 121, 101, 114, 99, 97, 107, 101, 58, 32, 116, 101, 120, 116] [108, 97, 121, 101, 114, 99, 97, 107, 101, 58, 32, 110, 97, 109, 101] (by kernel_rfl) en.gErrText en.tErrText en.gErrName en.tErrName
  obtain ⟨a0_5, b0_5, p0_5, q0_5, n0_5, k0_5, m0_5⟩ := sent_pair h "layercake/api.ErrText" "layercake/api.ErrNone" [108, 97, 121, 101, 114, 99, 97, 107, 101, 58, 32, 116, 101, 120, 116] [108, 97, 121, 101, 114, 99, 97, 107, 101, 58, 32, 110, 111, 110, 101] (by kernel_rfl) en.gErrText en.tErrText en.gErrNone en.tErrNone
  obtain ⟨a0_6, b0_6, p0_6, q0_6, n0_6, k0_6, m0_6⟩ := sent_pair h "layercake/api.ErrText" "layercake/api.ErrColors" [108, 97, 121, 101, 114, 99, 97, 107, 101, 58, 32, 116, 101, 120, 116] [108, 97, 121, 101, 114, 99, 97, 107, 101, 58, 32, 99, 111, 108, 111, 114, 115] (by kernel_rfl) en.gErrText en.tErrText en.gErrColors en.tErrColors
  obtain ⟨a0_7, b0_7, p0_7, q0_7, n0_7, k0_7, m0_7⟩ := sent_pair h "layercake/api.ErrText" "layercake/api.ErrFull" [108, 97, 121, 101, 114, 99, 97, 107, 101, 58, 32, 116, 101, 120, 116] [108, 97, 121, 101, 114, 99, 97, 107, 101, 58, 32, 102, 117, 108, 108] (by kernel_rfl) en.gErrText en.tErrText en.gErrFull en.tErrFull
  obtain ⟨a0_8, b0_8, p0_8, q0_8, n0_8, k0_8, m0_8⟩ := sent_pair h "layercake/api.ErrText" "layercake/api.ErrPower" [108, 97, 121, 101, 114, 99, 97, 107, 101, 58, 32, 116, 101, 120, 116] [108, 97, 121, 101, 114, 99, 97, 107, 101, 58, 32, 112, 111, 119, 101, 114] (by kernel_rfl) en.gErrText en.tErrText en.gErrPower en.tErrPower
  obtain ⟨a1_2, b1_2, p1_2, q1_2, n1_2, k1_2, m1_2⟩ := sent_pair h "layercake/api.ErrBound" "layercake/api.ErrShape" [108, 97, 121, 101, 114, 99, 97, 107, 101, 58, 32, 98, 111, 117, 110, 100] [108, 97, 121, 101, 114, 99, 97, 107, 101, 58, 32, 115, 104, 97, 112, 101] (by kernel_rfl) en.gErrBound en.tErrBound en.gErrShape en.tErrShape
  obtain ⟨a1_3, b1_3, p1_3, q1_3, n1_3, k1_3, m1_3⟩ := sent_pair h "layercake/api.ErrBound" "layercake/api.ErrSum" [108, 97, 121, 101, 114, 99, 97, 107, 101, 58, 32, 98, 111, 117, 110, 100] [108, 97, 121, 101, 114, 99, 97, 107, 101, 58, 32, 115, 117, 109] (by kernel_rfl) en.gErrBound en.tErrBound en.gErrSum en.tErrSum
  obtain ⟨a1_4, b1_4, p1_4, q1_4, n1_4, k1_4, m1_4⟩ := sent_pair h "layercake/api.ErrBound" "layercake/api.ErrName" [108, 97, 121, 101, 114, 99, 97, 107, 101, 58, 32, 98, 111, 117, 110, 100] [108, 97, 121, 101, 114, 99, 97, 107, 101, 58, 32, 110, 97, 109, 101] (by kernel_rfl) en.gErrBound en.tErrBound en.gErrName en.tErrName
  obtain ⟨a1_5, b1_5, p1_5, q1_5, n1_5, k1_5, m1_5⟩ := sent_pair h "layercake/api.ErrBound" "layercake/api.ErrNone" [108, 97, 121, 101, 114, 99, 97, 107, 101, 58, 32, 98, 111, 117, 110, 100] [108, 97, 121, 101, 114, 99, 97, 107, 101, 58, 32, 110, 111, 110, 101] (by kernel_rfl) en.gErrBound en.tErrBound en.gErrNone en.tErrNone
  obtain ⟨a1_6, b1_6, p1_6, q1_6, n1_6, k1_6, m1_6⟩ := sent_pair h "layercake/api.ErrBound" "layercake/api.ErrColors" [108, 97, 121, 101, 114, 99, 97, 107, 101, 58, 32, 98, 111, 117, 110, 100] [108, 97, 121, 101, 114, 99, 97, 107, 101, 58, 32, 99, 111, 108, 111, 114, 115] (by kernel_rfl) en.gErrBound en.tErrBound en.gErrColors en.tErrColors
  obtain ⟨a1_7, b1_7, p1_7, q1_7, n1_7, k1_7, m1_7⟩ := sent_pair h "layercake/api.ErrBound" "layercake/api.ErrFull" [108, 97, 121, 101, 114, 99, 97, 107, 101, 58, 32, 98, 111, 117, 110, 100] [108, 97, 121, 101, 114, 99, 97, 107, 101, 58, 32, 102, 117, 108, 108] (by kernel_rfl) en.gErrBound en.tErrBound en.gErrFull en.tErrFull
  obtain ⟨a1_8, b1_8, p1_8, q1_8, n1_8, k1_8, m1_8⟩ := sent_pair h "layercake/api.ErrBound" "layercake/api.ErrPower" [108, 97, 121, 101, 114, 99, 97, 107, 101, 58, 32, 98, 111, 117, 110, 100] [108, 97, 121, 101, 114, 99, 97, 107, 101, 58, 32, 112, 111, 119, 101, 114] (by kernel_rfl) en.gErrBound en.tErrBound en.gErrPower en.tErrPower
  obtain ⟨a2_3, b2_3, p2_3, q2_3, n2_3, k2_3, m2_3⟩ := sent_pair h "layercake/api.ErrShape" "layercake/api.ErrSum" [108, 97, 121, 101, 114, 99, 97, 107, 101, 58, 32, 115, 104, 97, 112, 101] [108, 97, 121, 101, 114, 99, 97, 107, 101, 58, 32, 115, 117, 109] (by kernel_rfl) en.gErrShape en.tErrShape en.gErrSum en.tErrSum
  obtain ⟨a2_4, b2_4, p2_4, q2_4, n2_4, k2_4, m2_4⟩ := sent_pair h "layercake/api.ErrShape" "layercake/api.ErrName" [108, 97, 121, 101, 114, 99, 97, 107, 101, 58, 32, 115, 104, 97, 112, 101] [108, 97, 121, 101, 114, 99, 97, 107, 101, 58, 32, 110, 97, 109, 101] (by kernel_rfl) en.gErrShape en.tErrShape en.gErrName en.tErrName
  obtain ⟨a2_5, b2_5, p2_5, q2_5, n2_5, k2_5, m2_5⟩ := sent_pair h "layercake/api.ErrShape" "layercake/api.ErrNone" [108, 97, 121, 101, 114, 99, 97, 107, 101, 58, 32, 115, 104, 97, 112, 101] [108, 97, 121, 101, 114, 99, 97, 107, 101, 58, 32, 110, 111, 110, 101] (by kernel_rfl) en.gErrShape en.tErrShape en.gErrNone en.tErrNone
  obtain ⟨a2_6, b2_6, p2_6, q2_6, n2_6, k2_6, m2_6⟩ := sent_pair h "layercake/api.ErrShape" "layercake/api.ErrColors" [108, 97, 121, 101, 114, 99, 97, 107, 101, 58, 32, 115, 104, 97, 112, 101] [108, 97, 121, 101, 114, 99, 97, 107, 101, 58, 32, 99, 111, 108, 111, 114, 115] (by kernel_rfl) en.gErrShape en.tErrShape en.gErrColors en.tErrColors
  obtain ⟨a2_7, b2_7, p2_7, q2_7, n2_7, k2_7, m2_7⟩ := sent_pair h "layercake/api.ErrShape" "layercake/api.ErrFull" [108, 97, 121, 101, 114, 99, 97, 107, 101, 58, 32, 115, 104, 97, 112, 101] [108, 97, 121, 101, 114, 99, 97, 107, 101, 58, 32, 102, 117, 108, 108] (by kernel_rfl) en.gErrShape en.tErrShape en.gErrFull en.tErrFull
  obtain ⟨a2_8, b2_8, p2_8, q2_8, n2_8, k2_8, m2_8⟩ := sent_pair h "layercake/api.ErrShape" "layercake/api.ErrPower" [108, 97, 121, 101, 114, 99, 97, 107, 101, 58, 32, 115, 104, 97, 112, 101] [108, 97, 121, 101, 114, 99, 97, 107, 101, 58, 32, 112, 111, 119, 101, 114] (by kernel_rfl) en.gErrShape en.tErrShape en.gErrPower en.tErrPower
  obtain ⟨a3_4, b3_4, p3_4, q3_4, n3_4, k3_4, m3_4⟩ := sent_pair h "layercake/api.ErrSum" "layercake/api.ErrName" [108, 97, 121, 101, 114, 99, 97, 107, 101, 58, 32, 115, 117, 109] [108, 97, 121, 101, 114, 99, 97, 107, 101, 58, 32, 110, 97, 109, 101] (by kernel_rfl) en.gErrSum en.tErrSum en.gErrName en.tErrName
  obtain ⟨a3_5, b3_5, p3_5, q3_5, n3_5, k3_5, m3_5⟩ := sent_pair h "layercake/api.ErrSum" "layercake/api.ErrNone" [108, 97, 121, 101, 114, 99, 97, 107, 101, 58, 32, 115, 117, 109] [108, 97, 121, 101, 114, 99, 97, 107, 101, 58, 32, 110, 111, 110, 101] (by kernel_rfl) en.gErrSum en.tErrSum en.gErrNone en.tErrNone
  obtain ⟨a3_6, b3_6, p3_6, q3_6, n3_6, k3_6, m3_6⟩ := sent_pair h "layercake/api.ErrSum" "layercake/api.ErrColors" [108, 97, 121, 101, 114, 99, 97, 107, 101, 58, 32, 115, 117, 109] [108, 97, 121, 101, 114, 99, 97, 107, 101, 58, 32, 99, 111, 108, 111, 114, 115] (by kernel_rfl) en.gErrSum en.tErrSum en.gErrColors en.tErrColors
  obtain ⟨a3_7, b3_7, p3_7, q3_7, n3_7, k3_7, m3_7⟩ := sent_pair h "layercake/api.ErrSum" "layercake/api.ErrFull" [108, 97, 121, 101, 114, 99, 97, 107, 101, 58, 32, 115, 117, 109] [108, 97, 121, 101, 114, 99, 97, 107, 101, 58, 32, 102, 117, 108, 108] (by kernel_rfl) en.gErrSum en.tErrSum en.gErrFull en.tErrFull
  obtain ⟨a3_8, b3_8, p3_8, q3_8, n3_8, k3_8, m3_8⟩ := sent_pair h "layercake/api.ErrSum" "layercake/api.ErrPower" [108, 97, 121, 101, 114, 99, 97, 107, 101, 58, 32, 115, 117, 109] [108, 97, 121, 101, 114, 99, 97, 107, 101, 58, 32, 112, 111, 119, 101, 114] (by kernel_rfl) en.gErrSum en.tErrSum en.gErrPower en.tErrPower
  obtain ⟨a4_5, b4_5, p4_5, q4_5, n4_5, k4_5, m4_5⟩ := sent_pair h "layercake/api.ErrName" "layercake/api.ErrNone" [108, 97, 121, 101, 114, 99, 97, 107, 101, 58, 32, 110, 97, 109, 101] [108, 97, 121, 101, 114, 99, 97, 107, 101, 58, 32, 110, 111, 110, 101] (by kernel_rfl) en.gErrName en.tErrName en.gErrNone en.tErrNone
  obtain ⟨a4_6, b4_6, p4_6, q4_6, n4_6, k4_6, m4_6⟩ := sent_pair h "layercake/api.ErrName" "layercake/api.ErrColors" [108, 97, 121, 101, 114, 99, 97, 107, 101, 58, 32, 110, 97, 109, 101] [108, 97, 121, 101, 114, 99, 97, 107, 101, 58, 32, 99, 111, 108, 111, 114, 115] (by kernel_rfl) en.gErrName en.tErrName en.gErrColors en.tErrColors
  obtain ⟨a4_7, b4_7, p4_7, q4_7, n4_7, k4_7, m4_7⟩ := sent_pair h "layercake/api.ErrName" "layercake/api.ErrFull" [108, 97, 121, 101, 114, 99, 97, 107, 101, 58, 32, 110, 97, 109, 101] [108, 97, 121, 101, 114, 99, 97, 107, 101, 58, 32, 102, 117, 108, 108] (by kernel_rfl) en.gErrName en.tErrName en.gErrFull en.tErrFull
  obtain ⟨a4_8, b4_8, p4_8, q4_8, n4_8, k4_8, m4_8⟩ := sent_pair h "layercake/api.ErrName" "layercake/api.ErrPower" [108, 97, 121, 101, 114, 99, 97, 107, 101, 58, 32, 110, 97, 109, 101] [108, 97, 121, 101, 114, 99, 97, 107, 101, 58, 32, 112, 111, 119, 101, 114] (by kernel_rfl) en.gErrName en.tErrName en.gErrPower en.tErrPower
  obtain ⟨a5_6, b5_6, p5_6, q5_6, n5_6, k5_6, m5_6⟩ := sent_pair h "layercake/api.ErrNone" "layercake/api.ErrColors" [108, 97, 121, 101, 114, 99, 97, 107, 101, 58, 32, 110, 111, 110, 101] [108, 97, 121, 101, 114, 99, 97, 107, 101, 58, 32, 99, 111, 108, 111, 114, 115] (by kernel_rfl) en.gErrNone en.tErrNone en.gErrColors en.tErrColors
  obtain ⟨a5_7, b5_7, p5_7, q5_7, n5_7, k5_7, m5_7⟩ := sent_pair h "layercake/api.ErrNone" "layercake/api.ErrFull" [108, 97, 121, 101, 114, 99, 97, 107, 101, 58, 32, 110, 111, 110, 101] [108, 97, 121, 101, 114, 99, 97, 107, 101, 58, 32, 102, 117, 108, 108] (by kernel_rfl) en.gErrNone en.tErrNone en.gErrFull en.tErrFull
  obtain ⟨a5_8, b5_8, p5_8, q5_8, n5_8, k5_8, m5_8⟩ := sent_pair h "layercake/api.ErrNone" "layercake/api.ErrPower" [108, 97, 121, 101, 114, 99, 97, 107, 101, 58, 32, 110, 111, 110, 101] [108, 97, 121, 101, 114, 99, 97, 107, 101, 58, 32, 112, 111, 119, 101, 114] (by kernel_rfl) en.gErrNone en.tErrNone en.gErrPower en.tErrPower
  obtain ⟨a6_7, b6_7, p6_7, q6_7, n6_7, k6_7, m6_7⟩ := sent_pair h "layercake/api.ErrColors" "layercake/api.ErrFull" [108, 97, 121, 101, 114, 99, 97, 107, 101, 58, 32, 99, 111, 108, 111, 114, 115] [108, 97, 121, 101, 114, 99, 97, 107, 101, 58, 32, 102, 117, 108, 108] (by kernel_rfl) en.gErrColors en.tErrColors en.gErrFull en.tErrFull
  obtain ⟨a6_8, b6_8, p6_8, q6_8, n6_8, k6_8, m6_8⟩ := sent_pair h "layercake/api.ErrColors" "layercake/api.ErrPower" [108, 97, 121, 101, 114, 99, 97, 107, 101, 58, 32, 99, 111, 108, 111, 114, 115] [108, 97, 121, 101, 114, 99, 97, 107, 101, 58, 32, 112, 111, 119, 101, 114] (by kernel_rfl) en.gErrColors en.tErrColors en.gErrPower en.tErrPower
  obtain ⟨a7_8, b7_8, p7_8, q7_8, n7_8, k7_8, m7_8⟩ := sent_pair h "layercake/api.ErrFull" "layercake/api.ErrPower" [108, 97, 121, 101, 114, 99, 97, 107, 101, 58, 32, 102, 117, 108, 108] [108, 97, 121, 101, 114, 99, 97, 107, 101, 58, 32, 112, 111, 119, 101, 114] (by kernel_rfl) en.gErrFull en.tErrFull en.gErrPower en.tErrPower
  obtain rfl : a0_1 = a0_2 := errV_inj (p0_1.symm.trans p0_2)
  obtain rfl : a0_1 = a0_3 := errV_inj (p0_1.symm.trans p0_3)
  obtain rfl : a0_1 = a0_4 := errV_inj (p0_1.symm.trans p0_4)
  obtain rfl : a0_1 = a0_5 := errV_inj (p0_1.symm.trans p0_5)
  obtain rfl : a0_1 = a0_6 := errV_inj (p0_1.symm.trans p0_6)
  obtain rfl : a0_1 = a0_7 := errV_inj (p0_1.symm.trans p0_7)
  obtain rfl : a0_1 = a0_8 := errV_inj (p0_1.symm.trans p0_8)
  obtain rfl : b0_1 = a1_2 := errV_inj (q0_1.symm.trans p1_2)
  obtain rfl : b0_2 = b1_2 := errV_inj (q0_2.symm.trans q1_2)
  obtain rfl : b0_1 = a1_3 := errV_inj (q0_1.symm.trans p1_3)
  obtain rfl : b0_3 = b1_3 := errV_inj (q0_3.symm.trans q1_3)
  obtain rfl : b0_1 = a1_4 := errV_inj (q0_1.symm.trans p1_4)
  obtain rfl : b0_4 = b1_4 := errV_inj (q0_4.symm.trans q1_4)
  obtain rfl : b0_1 = a1_5 := errV_inj (q0_1.symm.trans p1_5)
  obtain rfl : b0_5 = b1_5 := errV_inj (q0_5.symm.trans q1_5)
  obtain rfl : b0_1 = a1_6 := errV_inj (q0_1.symm.trans p1_6)
  obtain rfl : b0_6 = b1_6 := errV_inj (q0_6.symm.trans q1_6)
  obtain rfl : b0_1 = a1_7 := errV_inj (q0_1.symm.trans p1_7)
  obtain rfl : b0_7 = b1_7 := errV_inj (q0_7.symm.trans q1_7)
  obtain rfl : b0_1 = a1_8 := errV_inj (q0_1.symm.trans p1_8)
  obtain rfl : b0_8 = b1_8 := errV_inj (q0_8.symm.trans q1_8)
  obtain rfl : b0_2 = a2_3 := errV_inj (q0_2.symm.trans p2_3)
  obtain rfl : b0_3 = b2_3 := errV_inj (q0_3.symm.trans q2_3)
  obtain rfl : b0_2 = a2_4 := errV_inj (q0_2.symm.trans p2_4)
  obtain rfl : b0_4 = b2_4 := errV_inj (q0_4.symm.trans q2_4)
  obtain rfl : b0_2 = a2_5 := errV_inj (q0_2.symm.trans p2_5)
  obtain rfl : b0_5 = b2_5 := errV_inj (q0_5.symm.trans q2_5)
  obtain rfl : b0_2 = a2_6 := errV_inj (q0_2.symm.trans p2_6)
  obtain rfl : b0_6 = b2_6 := errV_inj (q0_6.symm.trans q2_6)
  obtain rfl : b0_2 = a2_7 := errV_inj (q0_2.symm.trans p2_7)
  obtain rfl : b0_7 = b2_7 := errV_inj (q0_7.symm.trans q2_7)
  obtain rfl : b0_2 = a2_8 := errV_inj (q0_2.symm.trans p2_8)
  obtain rfl : b0_8 = b2_8 := errV_inj (q0_8.symm.trans q2_8)
  obtain rfl : b0_3 = a3_4 := errV_inj (q0_3.symm.trans p3_4)
  obtain rfl : b0_4 = b3_4 := errV_inj (q0_4.symm.trans q3_4)
  obtain rfl : b0_3 = a3_5 := errV_inj (q0_3.symm.trans p3_5)
  obtain rfl : b0_5 = b3_5 := errV_inj (q0_5.symm.trans q3_5)
  obtain rfl : b0_3 = a3_6 := errV_inj (q0_3.symm.trans p3_6)
  obtain rfl : b0_6 = b3_6 := errV_inj (q0_6.symm.trans q3_6)
  obtain rfl : b0_3 = a3_7 := errV_inj (q0_3.symm.trans p3_7)
  obtain rfl : b0_7 = b3_7 := errV_inj (q0_7.symm.trans q3_7)
  obtain rfl : b0_3 = a3_8 := errV_inj (q0_3.symm.trans p3_8)
  obtain rfl : b0_8 = b3_8 := errV_inj (q0_8.symm.trans q3_8)
  obtain rfl : b0_4 = a4_5 := errV_inj (q0_4.symm.trans p4_5)
  obtain rfl : b0_5 = b4_5 := errV_inj (q0_5.symm.trans q4_5)
  obtain rfl : b0_4 = a4_6 := errV_inj (q0_4.symm.trans p4_6)
  obtain rfl : b0_6 = b4_6 := errV_inj (q0_6.symm.trans q4_6)
  obtain rfl : b0_4 = a4_7 := errV_inj (q0_4.symm.trans p4_7)
  obtain rfl : b0_7 = b4_7 := errV_inj (q0_7.symm.trans q4_7)
  obtain rfl : b0_4 = a4_8 := errV_inj (q0_4.symm.trans p4_8)
  obtain rfl : b0_8 = b4_8 := errV_inj (q0_8.symm.trans q4_8)
  obtain rfl : b0_5 = a5_6 := errV_inj (q0_5.symm.trans p5_6)
  obtain rfl : b0_6 = b5_6 := errV_inj (q0_6.symm.trans q5_6)
  obtain rfl : b0_5 = a5_7 := errV_inj (q0_5.symm.trans p5_7)
  obtain rfl : b0_7 = b5_7 := errV_inj (q0_7.symm.trans q5_7)
  obtain rfl : b0_5 = a5_8 := errV_inj (q0_5.symm.trans p5_8)
  obtain rfl : b0_8 = b5_8 := errV_inj (q0_8.symm.trans q5_8)
  obtain rfl : b0_6 = a6_7 := errV_inj (q0_6.symm.trans p6_7)
  obtain rfl : b0_7 = b6_7 := errV_inj (q0_7.symm.trans q6_7)
  obtain rfl : b0_6 = a6_8 := errV_inj (q0_6.symm.trans p6_8)
  obtain rfl : b0_8 = b6_8 := errV_inj (q0_8.symm.trans q6_8)
  obtain rfl : b0_7 = a7_8 := errV_inj (q0_7.symm.trans p7_8)
  obtain rfl : b0_8 = b7_8 := errV_inj (q0_8.symm.trans q7_8)
  refine ⟨fun i => match i with | 0 => a0_1 | 1 => b0_1 | 2 => b0_2 | 3 => b0_3 | 4 => b0_4 | 5 => b0_5 | 6 => b0_6 | 7 => b0_7 | _ => b0_8, p0_1, q0_1, q0_2, q0_3, q0_4, q0_5, q0_6, q0_7, q0_8, fun i hi => ?_, fun i j hi hj hij => ?_⟩
  · match i, hi with
    | 0, _ => exact k0_1
    | 1, _ => exact m0_1
    | 2, _ => exact m0_2
    | 3, _ => exact m0_3
    | 4, _ => exact m0_4
    | 5, _ => exact m0_5
    | 6, _ => exact m0_6
    | 7, _ => exact m0_7
    | 8, _ => exact m0_8
  · match i, j, hi, hj, hij with
    | 0, 0, _, _, hh => exact absurd rfl hh
    | 0, 1, _, _, _ => exact n0_1
    | 0, 2, _, _, _ => exact n0_2
    | 0, 3, _, _, _ => exact n0_3
    | 0, 4, _, _, _ => exact n0_4
    | 0, 5, _, _, _ => exact n0_5
    | 0, 6, _, _, _ => exact n0_6
    | 0, 7, _, _, _ => exact n0_7
    | 0, 8, _, _, _ => exact n0_8
    | 1, 0, _, _, _ => exact n0_1.symm
    | 1, 1, _, _, hh => exact absurd rfl hh
    | 1, 2, _, _, _ => exact n1_2
    | 1, 3, _, _, _ => exact n1_3
    | 1, 4, _, _, _ => exact n1_4
    | 1, 5, _, _, _ => exact n1_5
    | 1, 6, _, _, _ => exact n1_6
    | 1, 7, _, _, _ => exact n1_7
    | 1, 8, _, _, _ => exact n1_8
    | 2, 0, _, _, _ => exact n0_2.symm
    | 2, 1, _, _, _ => exact n1_2.symm
    | 2, 2, _, _, hh => exact absurd rfl hh
    | 2, 3, _, _, _ => exact n2_3
    | 2, 4, _, _, _ => exact n2_4
    | 2, 5, _, _, _ => exact n2_5
    | 2, 6, _, _, _ => exact n2_6
    | 2, 7, _, _, _ => exact n2_7
    | 2, 8, _, _, _ => exact n2_8
    | 3, 0, _, _, _ => exact n0_3.symm
    | 3, 1, _, _, _ => exact n1_3.symm
    | 3, 2, _, _, _ => exact n2_3.symm
    | 3, 3, _, _, hh => exact absurd rfl hh
    | 3, 4, _, _, _ => exact n3_4
    | 3, 5, _, _, _ => exact n3_5
    | 3, 6, _, _, _ => exact n3_6
    | 3, 7, _, _, _ => exact n3_7
    | 3, 8, _, _, _ => exact n3_8
    | 4, 0, _, _, _ => exact n0_4.symm
    | 4, 1, _, _, _ => exact n1_4.symm
    | 4, 2, _, _, _ => exact n2_4.symm
    | 4, 3, _, _, _ => exact n3_4.symm
    | 4, 4, _, _, hh => exact absurd rfl hh
    | 4, 5, _, _, _ => exact n4_5
    | 4, 6, _, _, _ => exact n4_6
    | 4, 7, _, _, _ => exact n4_7
    | 4, 8, _, _, _ => exact n4_8
    | 5, 0, _, _, _ => exact n0_5.symm
    | 5, 1, _, _, _ => exact n1_5.symm
    | 5, 2, _, _, _ => exact n2_5.symm
    | 5, 3, _, _, _ => exact n3_5.symm
    | 5, 4, _, _, _ => exact n4_5.symm
    | 5, 5, _, _, hh => exact absurd rfl hh
    | 5, 6, _, _, _ => exact n5_6
    | 5, 7, _, _, _ => exact n5_7
    | 5, 8, _, _, _ => exact n5_8
    | 6, 0, _, _, _ => exact n0_6.symm
    | 6, 1, _, _, _ => exact n1_6.symm
    | 6, 2, _, _, _ => exact n2_6.symm
    | 6, 3, _, _, _ => exact n3_6.symm
    | 6, 4, _, _, _ => exact n4_6.symm
    | 6, 5, _, _, _ => exact n5_6.symm
    | 6, 6, _, _, hh => exact absurd rfl hh
    | 6, 7, _, _, _ => exact n6_7
    | 6, 8, _, _, _ => exact n6_8
    | 7, 0, _, _, _ => exact n0_7.symm
    | 7, 1, _, _, _ => exact n1_7.symm
    | 7, 2, _, _, _ => exact n2_7.symm
    | 7, 3, _, _, _ => exact n3_7.symm
    | 7, 4, _, _, _ => exact n4_7.symm
    | 7, 5, _, _, _ => exact n5_7.symm
    | 7, 6, _, _, _ => exact n6_7.symm
    | 7, 7, _, _, hh => exact absurd rfl hh
    | 7, 8, _, _, _ => exact n7_8
    | 8, 0, _, _, _ => exact n0_8.symm
    | 8, 1, _, _, _ => exact n1_8.symm
    | 8, 2, _, _, _ => exact n2_8.symm
    | 8, 3, _, _, _ => exact n3_8.symm
    | 8, 4, _, _, _ => exact n4_8.symm
    | 8, 5, _, _, _ => exact n5_8.symm
    | 8, 6, _, _, _ => exact n6_8.symm
    | 8, 7, _, _, _ => exact n7_8.symm
    | 8, 8, _, _, hh => exact absurd rfl hh
end Go.Proofs.YthohmpjoeffckaaGreatDoor
namespace Go.Proofs.YthohmpjoeffckaaGreatDoor
open Go Go.RowKit Go.ChangeShapes

namespace en
theorem et : Tryz.prog.globalNamed "errors.errorType" = some 10 := by kernel_rfl
theorem rt : (Tryz.prog.cutTypes.find? (·.1 == "internal/reflectlite.rtype")).map (·.2) = some 192 := by kernel_rfl
theorem oneRow : ((List.range 261).filter fun t => Tryz.prog.rowNamed t [101, 114, 114, 111, 114]) = [29] := by kernel_rfl
theorem size : Tryz.prog.types.size = 261 := by kernel_rfl
end en
theorem handle_of {W : World} {l : List (String × DataW Unit)} (h : laidMetH Tryz.prog l W) (hf : l.filter (fun x => x.1 == "errors.errorType") = [("errors.errorType", Rows.laid_errors_errorType)]) :
    W.cell? ⟨10, 0, none⟩ = some (.iface 192 (.agg #[.pointer (some ⟨15, 29, none⟩)])) := by
  have h2 := h.filter (fun x => x.1 == "errors.errorType")
  rw [hf] at h2
  have h' : laidMet Tryz.prog [] W ∧ handlesMet Tryz.prog [("errors.errorType", Rows.laid_errors_errorType)] W := h2
  obtain ⟨name, u, ty, e1, e2, e3, e4, e5⟩ := h'.2 _ (List.mem_singleton.2 rfl)
  have en' : name = [101, 114, 114, 111, 114] := (Option.some.inj e1).symm
  subst en'
  obtain rfl := Option.some.inj (en.rt.symm.trans e2)
  have hm : ty ∈ (List.range 261).filter fun t => Tryz.prog.rowNamed t [101, 114, 114, 111, 114] := List.mem_filter.2 ⟨List.mem_range.2 (by rw [← en.size]; exact e3), e4⟩
  rw [en.oneRow] at hm
  obtain rfl := List.mem_singleton.1 hm
  have hh : typeHandle Tryz.prog 29 = .pointer (some ⟨15, 29, none⟩) := by kernel_rfl
  rw [hh] at e5
  simpa using World.var?_cell en.et e5 0
/-- Out of a row that lists all ten. -/
theorem errs_of {W : World} (h : laidMetH Tryz.prog Rows.tilesPackRow.laid W) : ∃ E, ErrsAt W E := by
  obtain ⟨E, hE⟩ := sents_of h
  exact ⟨E, handle_of h (by kernel_rfl), hE.c0, hE.c1, hE.c2, hE.c3, hE.c4, hE.c5, hE.c6, hE.c7, hE.c8, hE.blk, hE.ne⟩
end Go.Proofs.YthohmpjoeffckaaGreatDoor
