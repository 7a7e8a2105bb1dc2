/- TilesRead: the row's contract and its closed facts. -/
import Derived.Test.YthohmpjoeffckaaGreatDoorCards
import Derived.Test.YthohmpjoeffckaaGreatDoorTie
import Derived.WalkKit
import Derived.ProofKit
import Derived.OpenShut
import Derived.Deep.DeepHandedRow
import Derived.Stop.LaidTwo
import Derived.Lib.LaidTab
import Derived.Test.YthohmpjoeffckaaGreatDoorRow
import Derived.Test.YthohmpjoeffckaaGreatDoorErrTab
import Derived.Test.YthohmpjoeffckaaGreatDoorTabEnv
import Derived.Test.YthohmpjoeffckaaGreatDoorKCTilesRead0
import Derived.Test.YthohmpjoeffckaaGreatDoorFact
namespace Go.Proofs.YthohmpjoeffckaaGreatDoor.tilesRead
open Go Go.ChangeShapes Go.WideShapes Go.ChangeAt Go.RowKit

theorem pxT : PxT Tryz.prog 47 := ⟨⟨_, _, _, _, Tryz.underlying47, by kernel_rfl, Tryz.underlying5, Tryz.underlying5, Tryz.underlying5, Tryz.underlying5⟩, by kernel_rfl⟩
theorem picT : PicT Tryz.prog 24 47 := ⟨⟨_, _, _, Tryz.underlying24, by kernel_rfl, Tryz.underlying3, Tryz.underlying3, Tryz.underlying22⟩, by kernel_rfl, pxT⟩
theorem paramsReadable : ∀ t ∈ Tryz.f4.params.toList, Tryz.prog.readableRec t = true ∧ t < Tryz.prog.types.size := by
  rw [Tryz.params4]
  intro t ht
  simp at ht
  rcases ht with rfl
  all_goals exact ⟨by kernel_rfl, of_decide_eq_true (by kernel_rfl)⟩

set_option maxRecDepth 100000 in
theorem contract (H : Type) (enc : TypeId × Value → H) (W : World) (base : Nat) (args : Array Value) (ds gs : List (DataW H)) (before : List MemPlace)
    (hval : ∀ (j : Nat) t v, Tryz.f4.params[j]? = some t → args[j]? = some v → Value.okWide Tryz.prog W .any base t v)
    (hW : DataW.Whole enc Tryz.prog Tryz.f4.params.toList Rows.tilesReadSpec.vars false W args.toList ds gs before) (hL : laidMetH Tryz.prog Rows.tilesReadRow.laid W) :
    Calls Tryz.prog 4 args W fun e W' => ∃ v, e = .returned v ∧ Rows.tilesReadSpec.post enc Tryz.prog Tryz.f4 false true false false W args v W' := by
  have hW' := hW
  obtain ⟨p, q, hA0, hV, rfl, hfz, hnd⟩ := hW
  have hA : DataW.TrodAll enc Tryz.prog W 0 (fun _ => true) true Tryz.f4.params.toList args.toList ds p := hA0
  rw [Tryz.params4] at hA hval
  obtain ⟨v0, vs0, d0, ds0, p0, q0, hargs0, rfl, rfl, h0, r0⟩ := trodAll_cons hA
  obtain ⟨hargsE, rfl, rfl⟩ := trodAll_nil r0
  obtain rfl : args = #[v0] := by cases args; simp_all
  obtain ⟨s0, rfl⟩ := okWide_string Tryz.underlying9 (hval 0 _ v0 rfl rfl)
  obtain ⟨E, hE⟩ := errs_of hL
  refine (tilesRead_any s0 E W  hE (tabs_of hL)).mono fun e W' ⟨he, hb⟩ => ?_
  subst he
  refine ⟨_, rfl, post_true fact.laidOut paramsReadable (by kernel_rfl) Tryz.underlying4 rfl (fun ds hds => ?_) hW' hb⟩
  rw [show Tryz.f4.params.size = 1 by rw [Tryz.params4]; rfl] at hds
  match ds, hds with
  | [_], _ => rfl

def wArgs : Array Value := #[.string ⟨#[]⟩]
theorem reads (os : Os) {H : Type} (enc : TypeId × Value → H) : ∃ places, DataW.whole enc Tryz.prog ((errWorld os).forCall (fun _ _ => 0) ⟨#[], wArgs, []⟩).memory Tryz.f4.params.toList Rows.tilesReadSpec.vars false wArgs.toList 8 =
    some ([.lit (.string [])], [], places) :=
  ⟨[], by kernel_rfl⟩

set_option maxRecDepth 100000 in
theorem lifted (os : Os) (started : os.Started) (H : Type) (enc : TypeId × Value → H) (F : Stop.Interp) :
    ReturnsInHanded {} Tryz.checked os 4 .any ((OpenSpec.ofChange Rows.tilesReadSpec).preRow enc Tryz.prog Tryz.f4 Rows.tilesReadRow.domain false Rows.tilesReadRow.laid) (((OpenSpec.ofChange Rows.tilesReadSpec).at F).post enc Tryz.prog Tryz.f4 false true false false) := by
  obtain ⟨places, hx⟩ := reads os enc
  refine returnsInHanded_of_row (C := Tryz.checked) (s := OpenSpec.ofChange Rows.tilesReadSpec) fact.own started (by kernel_rfl) Tryz.func4
    (witness_row_at (enc := enc) (C := Tryz.checked) false (errWorld os) wArgs rfl (by kernel_rfl) (by kernel_rfl) (by kernel_rfl)
      (OpenSpec.preRow_of_cond 8 hx (by kernel_rfl) (fun k hk => by cases hk) (by kernel_rfl) (errWorld_met os _))) ?_
  intro W base args ds gs before hval hW _ _ _ hL _ _
  exact contract H enc W base args ds gs before hval hW hL

theorem named : Tryz.prog.funcNamed "layercake/layercakelaw3.TilesRead" = some 4 := by kernel_rfl
theorem k3 : (Rows.tilesReadRow.inPlace == Tryz.prog.inPlace 4) = true := by kernel_rfl
theorem k4 : (Rows.tilesReadRow.unfollowed == Tryz.prog.unfollowed 4) = true := by kernel_rfl
theorem k5 : (Rows.tilesReadRow.recurses == Tryz.prog.recurses 4) = true := by kernel_rfl
theorem k6 : (Rows.tilesReadRow.named == Tryz.prog.varsNamed 4) = true := by kernel_rfl
theorem k7 : (Rows.tilesReadRow.plainKeys == Tryz.prog.plainKeys) = true := by rw [fact.plainKeys]; rfl
theorem joined : joinedFacts Tryz.prog 4 Tryz.f4 Rows.tilesReadSpec Rows.tilesReadRow = true :=
  joined_split fact.laidOut fact.rowed k3 k4 k5 k6 k7 fact.stopsHeard fact.mayEnter fact.lifts (by kernel_rfl) (by kernel_rfl) (by kernel_rfl) (by kernel_rfl) (by kernel_rfl) (by kernel_rfl) (by kernel_rfl) (by kernel_rfl)
theorem inst : Tryz.f4.isInstance Tryz.prog Rows.tilesReadRow.origin Rows.tilesReadRow.targs := of_decide_eq_true (by kernel_rfl)
theorem wrap : Tryz.f4.isWrapper Tryz.prog Rows.tilesReadRow.wrapper Rows.tilesReadRow.mainSum := by
  unfold Func.isWrapper
  first | (rw [if_pos (by decide +kernel)]; kernel_rfl) | (rw [if_neg (by decide +kernel)]; exact ⟨rfl, rfl⟩)
end Go.Proofs.YthohmpjoeffckaaGreatDoor.tilesRead
