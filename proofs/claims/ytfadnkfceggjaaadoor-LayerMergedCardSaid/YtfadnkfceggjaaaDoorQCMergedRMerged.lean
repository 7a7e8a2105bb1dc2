/- LayerMerged: the row's contract and its closed facts. -/
import Derived.Test.YtfadnkfceggjaaaDoorCards
import Derived.Test.YtfadnkfceggjaaaDoorTie
import Derived.WalkKit
import Derived.ProofKit
import Derived.OpenShut
import Derived.Deep.DeepHandedRow
import Derived.Stop.LaidTwo
import Derived.Lib.LaidTab
import Derived.Test.YtfadnkfceggjaaaDoorRow
import Derived.Test.YtfadnkfceggjaaaDoorDocArg
import Derived.Test.YtfadnkfceggjaaaDoorKCMerged0
import Derived.Test.YtfadnkfceggjaaaDoorFact
namespace Go.Proofs.YtfadnkfceggjaaaDoor.layerMerged
open Go Go.ChangeShapes Go.WideShapes Go.ChangeAt Go.RowKit

theorem pxT : PxT Tryd.prog 49 := ⟨⟨_, _, _, _, Tryd.underlying49, by kernel_rfl, Tryd.underlying5, Tryd.underlying5, Tryd.underlying5, Tryd.underlying5⟩, by kernel_rfl⟩
theorem picT : PicT Tryd.prog 37 49 := ⟨⟨_, _, _, Tryd.underlying37, by kernel_rfl, Tryd.underlying3, Tryd.underlying3, Tryd.underlying35⟩, by kernel_rfl, pxT⟩
theorem paramsReadable : ∀ t ∈ Tryd.f5.params.toList, Tryd.prog.readableRec t = true ∧ t < Tryd.prog.types.size := by
  rw [Tryd.params5]
  intro t ht
  simp at ht
  rcases ht with rfl
  all_goals exact ⟨by kernel_rfl, of_decide_eq_true (by kernel_rfl)⟩

set_option maxRecDepth 100000 in
theorem contract (H : Type) (enc : TypeId × Value → H) (W : World) (base : Nat) (args : Array Value) (ds gs : List (DataW H)) (before : List MemPlace)
    (hval : ∀ (j : Nat) t v, Tryd.f5.params[j]? = some t → args[j]? = some v → Value.okWide Tryd.prog W .any base t v)
    (hW : DataW.Whole enc Tryd.prog Tryd.f5.params.toList Rows.layerMergedSpec.vars false W args.toList ds gs before) (_hL : laidMetH Tryd.prog Rows.layerMergedRow.laid W) :
    Calls Tryd.prog 5 args W fun e W' => ∃ v, e = .returned v ∧ Rows.layerMergedSpec.post enc Tryd.prog Tryd.f5 false true false false W args v W' := by
  have hW' := hW
  obtain ⟨p, q, hA0, hV, rfl, hfz, hnd⟩ := hW
  have hA : DataW.TrodAll enc Tryd.prog W 0 (fun _ => true) true Tryd.f5.params.toList args.toList ds p := hA0
  rw [Tryd.params5] at hA hval
  obtain ⟨v0, vs0, d0, ds0, p0, q0, hargs0, rfl, rfl, h0, r0⟩ := trodAll_cons hA
  obtain ⟨hargsE, rfl, rfl⟩ := trodAll_nil r0
  obtain rfl : args = #[v0] := by cases args; simp_all
  obtain ⟨W0, H0, A0, n0, c0, ps0, rfl, hp0, hn0⟩ := doc_arg (hval 0 _ v0 rfl rfl) h0
  refine (layerMerged_any W0 H0 A0 n0 c0 ps0 W hp0 hn0).mono fun e W' ⟨he, hb⟩ => ?_
  subst he
  refine ⟨_, rfl, post_true fact.laidOut paramsReadable (by kernel_rfl) Tryd.underlying4 rfl (fun ds hds => ?_) hW' hb⟩
  rw [show Tryd.f5.params.size = 1 by rw [Tryd.params5]; rfl] at hds
  match ds, hds with
  | [_], _ => rfl

noncomputable def low : Nat := (World.holding Tryd.prog default ⟨#[], #[], []⟩).heap.size
/-- A world for the witness. -/
noncomputable def errWorld (os : Os) : World :=
  let w0 := World.holding Tryd.prog os ⟨#[.cells #[.string { data := #[108, 97, 121, 101, 114, 99, 97, 107, 101, 58, 32, 98, 111, 117, 110, 100] }] 195, .cells #[.string { data := #[108, 97, 121, 101, 114, 99, 97, 107, 101, 58, 32, 115, 104, 97, 112, 101] }] 195, .cells #[.string { data := #[108, 97, 121, 101, 114, 99, 97, 107, 101, 58, 32, 110, 97, 109, 101] }] 195, .cells #[.string { data := #[108, 97, 121, 101, 114, 99, 97, 107, 101, 58, 32, 110, 111, 110, 101] }] 195], #[], []⟩
  let put := fun (h : Array Obj) (g : Nat) (v : Value) => h.modify g fun
    | .cells _ t frozen => .cells #[v] t frozen
    | o => o
  { w0 with heap := put (put (put (put (w0.heap) 0 (.iface 173 (.pointer (some ⟨low + 0, 0, none⟩)))) 2 (.iface 173 (.pointer (some ⟨low + 1, 0, none⟩)))) 1 (.iface 173 (.pointer (some ⟨low + 2, 0, none⟩)))) 3 (.iface 173 (.pointer (some ⟨low + 3, 0, none⟩))) }
def wArgs : Array Value := #[.agg #[.int .i64 0, .int .i64 0, .slice none 0 0]]
theorem laid_met (os : Os) : laidMet Tryd.prog Rows.layerMergedRow.laid ((errWorld os).forCall (fun _ _ => 0) ⟨#[], wArgs, []⟩).memory :=
  laidMet_of_run (ps := [.cell 0 0, .cell (low + 0) 0, .cell 2 0, .cell (low + 1) 0, .cell 1 0, .cell (low + 2) 0, .cell 3 0, .cell (low + 3) 0]) 8 (by kernel_rfl) (by kernel_rfl) (by kernel_rfl)
theorem reads (os : Os) {H : Type} (enc : TypeId × Value → H) : ∃ places, DataW.whole enc Tryd.prog ((errWorld os).forCall (fun _ _ => 0) ⟨#[], wArgs, []⟩).memory Tryd.f5.params.toList Rows.layerMergedSpec.vars false wArgs.toList 8 =
    some ([.agg [.lit (.int .i64 0), .lit (.int .i64 0), .nil]], [], places) :=
  ⟨[], by kernel_rfl⟩

set_option maxRecDepth 100000 in
theorem lifted (os : Os) (started : os.Started) (H : Type) (enc : TypeId × Value → H) (F : Stop.Interp) :
    ReturnsInHanded {} Tryd.checked os 5 .any ((OpenSpec.ofChange Rows.layerMergedSpec).preRow enc Tryd.prog Tryd.f5 Rows.layerMergedRow.domain false Rows.layerMergedRow.laid) (((OpenSpec.ofChange Rows.layerMergedSpec).at F).post enc Tryd.prog Tryd.f5 false true false false) := by
  obtain ⟨places, hx⟩ := reads os enc
  refine returnsInHanded_of_row (C := Tryd.checked) (s := OpenSpec.ofChange Rows.layerMergedSpec) fact.own started (by kernel_rfl) Tryd.func5
    (witness_row_at (enc := enc) (C := Tryd.checked) false (errWorld os) wArgs rfl (by kernel_rfl) (by kernel_rfl) (by kernel_rfl)
      (OpenSpec.preRow_of_cond 8 hx (by kernel_rfl) (fun k hk => by cases hk) (by kernel_rfl) (laid_met os))) ?_
  intro W base args ds gs before hval hW _ _ _ hL _ _
  exact contract H enc W base args ds gs before hval hW hL

theorem named : Tryd.prog.funcNamed "layercake/layercakelaw3.LayerMerged" = some 5 := by kernel_rfl
theorem k3 : (Rows.layerMergedRow.inPlace == Tryd.prog.inPlace 5) = true := by kernel_rfl
theorem k4 : (Rows.layerMergedRow.unfollowed == Tryd.prog.unfollowed 5) = true := by kernel_rfl
theorem k5 : (Rows.layerMergedRow.recurses == Tryd.prog.recurses 5) = true := by kernel_rfl
theorem k6 : (Rows.layerMergedRow.named == Tryd.prog.varsNamed 5) = true := by kernel_rfl
theorem k7 : (Rows.layerMergedRow.plainKeys == Tryd.prog.plainKeys) = true := by rw [fact.plainKeys]; rfl
theorem joined : joinedFacts Tryd.prog 5 Tryd.f5 Rows.layerMergedSpec Rows.layerMergedRow = true :=
  joined_split fact.laidOut fact.rowed k3 k4 k5 k6 k7 fact.stopsHeard fact.mayEnter fact.lifts (by kernel_rfl) (by kernel_rfl) (by kernel_rfl) (by kernel_rfl) (by kernel_rfl) (by kernel_rfl) (by kernel_rfl) (by kernel_rfl)
theorem inst : Tryd.f5.isInstance Tryd.prog Rows.layerMergedRow.origin Rows.layerMergedRow.targs := of_decide_eq_true (by kernel_rfl)
theorem wrap : Tryd.f5.isWrapper Tryd.prog Rows.layerMergedRow.wrapper Rows.layerMergedRow.mainSum := by
  unfold Func.isWrapper
  first | (rw [if_pos (by decide +kernel)]; kernel_rfl) | (rw [if_neg (by decide +kernel)]; exact ⟨rfl, rfl⟩)
end Go.Proofs.YtfadnkfceggjaaaDoor.layerMerged
