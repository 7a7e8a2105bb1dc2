/- ColorsNearer: the row's contract and its closed facts. -/
import Derived.Test.YtnciahoifehkdaaDoorCards
import Derived.Test.YtnciahoifehkdaaDoorTie
import Derived.WalkKit
import Derived.ProofKit
import Derived.OpenShut
import Derived.Deep.DeepHandedRow
import Derived.Stop.LaidTwo
import Derived.Lib.LaidTab
import Derived.Test.YtnciahoifehkdaaDoorRow
import Derived.Test.YtnciahoifehkdaaDoorLNearer
import Derived.Test.YtnciahoifehkdaaDoorFact
namespace Go.Proofs.YtnciahoifehkdaaDoor.nearer
open Go Go.ChangeShapes Go.WideShapes Go.ChangeAt Go.RowKit

theorem gB : Tryd.prog.globalNamed "layercake/api.ErrBound" = some 0 := by kernel_rfl
theorem gS : Tryd.prog.globalNamed "layercake/api.ErrShape" = some 1 := by kernel_rfl
theorem gBType : (Tryd.prog.globals[0]?).map (·.type) = some 30 := by kernel_rfl
theorem gSType : (Tryd.prog.globals[1]?).map (·.type) = some 30 := by kernel_rfl
theorem cellsE : Tryd.prog.cellsOf 417 = 1 := by kernel_rfl
theorem cellsS : Tryd.prog.cellsOf 9 = 1 := by kernel_rfl
theorem star : "*" ++ "errors.errorString" = "*errors.errorString" := by decide
theorem rowE (u : TypeId) (h : Tryd.prog.typeName? 3 u = some "*errors.errorString") : u = 399 :=
  typeName_ptr_named (nm := "errors.errorString") (by rw [star]; kernel_rfl) (by kernel_rfl) (by decide) u (by rw [star]; exact h)

theorem pxT : PxT Tryd.prog 26 := ⟨⟨_, _, _, _, Tryd.underlying26, by kernel_rfl, Tryd.underlying5, Tryd.underlying5, Tryd.underlying5, Tryd.underlying5⟩, by kernel_rfl⟩
theorem picT : PicT Tryd.prog 24 26 := ⟨⟨_, _, _, Tryd.underlying24, by kernel_rfl, Tryd.underlying3, Tryd.underlying3, Tryd.underlying22⟩, by kernel_rfl, pxT⟩
theorem paramsReadable : ∀ t ∈ Tryd.f3.params.toList, Tryd.prog.readableRec t = true ∧ t < Tryd.prog.types.size := by
  rw [Tryd.params3]
  intro t ht
  simp at ht
  rcases ht with rfl | rfl | rfl
  · exact ⟨by kernel_rfl, of_decide_eq_true (by kernel_rfl)⟩
  · exact ⟨by kernel_rfl, of_decide_eq_true (by kernel_rfl)⟩
  · exact ⟨by kernel_rfl, of_decide_eq_true (by kernel_rfl)⟩

set_option maxRecDepth 100000 in
theorem contract (H : Type) (enc : TypeId × Value → H) (W : World) (base : Nat) (args : Array Value) (ds gs : List (DataW H)) (before : List MemPlace)
    (hval : ∀ (j : Nat) t v, Tryd.f3.params[j]? = some t → args[j]? = some v → Value.okWide Tryd.prog W .any base t v)
    (hW : DataW.Whole enc Tryd.prog Tryd.f3.params.toList Rows.colorsNearerSpec.vars false W args.toList ds gs before) (hL : laidMetH Tryd.prog Rows.colorsNearerRow.laid W) :
    Calls Tryd.prog 3 args W fun e W' => ∃ v, e = .returned v ∧ Rows.colorsNearerSpec.post enc Tryd.prog Tryd.f3 false true false false W args v W' := by
  have hW' := hW
  obtain ⟨p, q, hA0, hV, rfl, hfz, hnd⟩ := hW
  have hA : DataW.TrodAll enc Tryd.prog W 0 (fun _ => true) true Tryd.f3.params.toList args.toList ds p := hA0
  rw [Tryd.params3] at hA hval
  obtain ⟨v0, vs0, d0, ds0, p0, q0, hargs, rfl, rfl, h0, r0⟩ := trodAll_cons hA
  obtain ⟨v1, vs1, d1, ds1, p1, q1, hargs1, rfl, rfl, h1, r1⟩ := trodAll_cons r0
  obtain ⟨v2, vs2, d2, ds2, p2, q2, hargs2, rfl, rfl, h2, r2⟩ := trodAll_cons r1
  obtain ⟨hargs3, rfl, rfl⟩ := trodAll_nil r2
  obtain rfl : args = #[v0, v1, v2] := by cases args; simp_all
  obtain ⟨W0, H0, A, n, c, ps, rfl, hp, _, _⟩ := pic_arg picT (hval 0 _ v0 rfl rfl) h0
  obtain ⟨A2, n2, c2, pal, rfl, hq⟩ := pxs_arg pxT Tryd.underlying22 (hval 1 _ v1 rfl rfl) h1
  obtain ⟨m, rfl⟩ := px_arg pxT (hval 2 _ v2 rfl rfl) h2
  obtain ⟨a0, a1, s0, s1, c0, c1, t0, t1, hv0, hv1, _⟩ := laid_sentinels2 hL gB gBType gS gSType Tryd.underlying30 rowE Tryd.underlying399 Tryd.underlying417 rfl rfl Tryd.underlying9 cellsE cellsS
  have hB : W.cell? ⟨0, 0, none⟩ = some (.iface 399 (.pointer (some a0))) := by simpa using World.var?_cell gB hv0 0
  have hS : W.cell? ⟨1, 0, none⟩ = some (.iface 399 (.pointer (some a1))) := by simpa using World.var?_cell gS hv1 0
  refine (nearer_any W0 H0 A n c ps A2 n2 c2 pal m _ _ _ _ W hp hq hS hB).mono fun e W' ⟨he, hb⟩ => ?_
  subst he
  refine ⟨_, rfl, post_true fact.laidOut paramsReadable (by kernel_rfl) Tryd.underlying4 rfl (fun ds hds => ?_) hW' hb⟩
  rw [show Tryd.f3.params.size = 3 by rw [Tryd.params3]; rfl] at hds
  match ds, hds with
  | [_, _, _], _ => rfl

noncomputable def low : Nat := (World.holding Tryd.prog default ⟨#[], #[], []⟩).heap.size
/-- A world for the witness. -/
noncomputable def laidWorld (os : Os) : World :=
  let w0 := World.holding Tryd.prog os ⟨#[.cells #[.string { data := #[108, 97, 121, 101, 114, 99, 97, 107, 101, 58, 32, 98, 111, 117, 110, 100] }] 417, .cells #[.string { data := #[108, 97, 121, 101, 114, 99, 97, 107, 101, 58, 32, 115, 104, 97, 112, 101] }] 417], #[], []⟩
  { w0 with heap := (w0.heap.modify 0 fun
      | .cells _ t frozen => .cells #[.iface 399 (.pointer (some ⟨low, 0, none⟩))] t frozen
      | o => o).modify 1 fun
      | .cells _ t frozen => .cells #[.iface 399 (.pointer (some ⟨low + 1, 0, none⟩))] t frozen
      | o => o }
def wArgs : Array Value := #[.agg #[.int .i64 0, .int .i64 0, .slice none 0 0], .slice none 0 0, .agg #[.int .u8 0, .int .u8 0, .int .u8 0, .int .u8 0]]
theorem laid_met (os : Os) : laidMet Tryd.prog Rows.colorsNearerRow.laid ((laidWorld os).forCall (fun _ _ => 0) ⟨#[], wArgs, []⟩).memory :=
  laidMet_of_run (ps := [.cell 0 0, .cell low 0, .cell 1 0, .cell (low + 1) 0]) 8 (by kernel_rfl) (by kernel_rfl) (by kernel_rfl)
theorem reads (os : Os) {H : Type} (enc : TypeId × Value → H) : ∃ places, DataW.whole enc Tryd.prog ((laidWorld os).forCall (fun _ _ => 0) ⟨#[], wArgs, []⟩).memory Tryd.f3.params.toList Rows.colorsNearerSpec.vars false wArgs.toList 8 =
    some ([.agg [.lit (.int .i64 0), .lit (.int .i64 0), .nil], .nil, .agg [.lit (.int .u8 0), .lit (.int .u8 0), .lit (.int .u8 0), .lit (.int .u8 0)]], [], places) :=
  ⟨[], by kernel_rfl⟩

set_option maxRecDepth 100000 in
theorem lifted (os : Os) (started : os.Started) (H : Type) (enc : TypeId × Value → H) (F : Stop.Interp) :
    ReturnsInHanded {} Tryd.checked os 3 .any ((OpenSpec.ofChange Rows.colorsNearerSpec).preRow enc Tryd.prog Tryd.f3 Rows.colorsNearerRow.domain false Rows.colorsNearerRow.laid) (((OpenSpec.ofChange Rows.colorsNearerSpec).at F).post enc Tryd.prog Tryd.f3 false true false false) := by
  obtain ⟨places, hx⟩ := reads os enc
  refine returnsInHanded_of_row (C := Tryd.checked) (s := OpenSpec.ofChange Rows.colorsNearerSpec) fact.own started (by kernel_rfl) Tryd.func3
    (witness_row_at (enc := enc) (C := Tryd.checked) false (laidWorld os) wArgs rfl (by kernel_rfl) (by kernel_rfl) (by kernel_rfl)
      (OpenSpec.preRow_of_cond 8 hx (by kernel_rfl) (fun k hk => by cases hk) (by kernel_rfl) (laid_met os))) ?_
  intro W base args ds gs before hval hW _ _ _ hL _ _
  exact contract H enc W base args ds gs before hval hW hL

theorem named : Tryd.prog.funcNamed "layercake/layercakelaw3.ColorsNearer" = some 3 := by kernel_rfl
theorem k3 : (Rows.colorsNearerRow.inPlace == Tryd.prog.inPlace 3) = true := by kernel_rfl
theorem k4 : (Rows.colorsNearerRow.unfollowed == Tryd.prog.unfollowed 3) = true := by kernel_rfl
theorem k5 : (Rows.colorsNearerRow.recurses == Tryd.prog.recurses 3) = true := by kernel_rfl
theorem k6 : (Rows.colorsNearerRow.named == Tryd.prog.varsNamed 3) = true := by kernel_rfl
theorem k7 : (Rows.colorsNearerRow.plainKeys == Tryd.prog.plainKeys) = true := by rw [fact.plainKeys]; rfl
theorem joined : joinedFacts Tryd.prog 3 Tryd.f3 Rows.colorsNearerSpec Rows.colorsNearerRow = true :=
  joined_split fact.laidOut fact.rowed k3 k4 k5 k6 k7 fact.stopsHeard fact.mayEnter fact.lifts (by kernel_rfl) (by kernel_rfl) (by kernel_rfl) (by kernel_rfl) (by kernel_rfl) (by kernel_rfl) (by kernel_rfl) (by kernel_rfl)
theorem inst : Tryd.f3.isInstance Tryd.prog Rows.colorsNearerRow.origin Rows.colorsNearerRow.targs := of_decide_eq_true (by kernel_rfl)
theorem wrap : Tryd.f3.isWrapper Tryd.prog Rows.colorsNearerRow.wrapper Rows.colorsNearerRow.mainSum := by
  unfold Func.isWrapper
  first | (rw [if_pos (by decide +kernel)]; kernel_rfl) | (rw [if_neg (by decide +kernel)]; exact ⟨rfl, rfl⟩)
end Go.Proofs.YtnciahoifehkdaaDoor.nearer
