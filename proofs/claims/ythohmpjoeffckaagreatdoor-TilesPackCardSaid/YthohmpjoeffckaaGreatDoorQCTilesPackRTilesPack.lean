/- TilesPack: the row's contract and its closed facts. -/
import Derived.Test.YthohmpjoeffckaaGreatDoorCards
import Derived.Test.YthohmpjoeffckaaGreatDoorTie
import Derived.WalkKit
import Derived.ProofKit
import Derived.OpenShut
import Derived.Deep.DeepHandedRow
import Derived.Stop.LaidTwo
import Derived.Lib.LaidTab
import Derived.Test.YthohmpjoeffckaaGreatDoorRow
import Derived.Test.YthohmpjoeffckaaGreatDoorErrTab
import Derived.Test.YthohmpjoeffckaaGreatDoorTabEnv
import Derived.Test.YthohmpjoeffckaaGreatDoorKCTilesPack0
import Derived.Test.YthohmpjoeffckaaGreatDoorFact
namespace Go.Proofs.YthohmpjoeffckaaGreatDoor.tilesPack
open Go Go.ChangeShapes Go.WideShapes Go.ChangeAt Go.RowKit

theorem pxT : PxT Tryz.prog 47 := ⟨⟨_, _, _, _, Tryz.underlying47, by kernel_rfl, Tryz.underlying5, Tryz.underlying5, Tryz.underlying5, Tryz.underlying5⟩, by kernel_rfl⟩
theorem picT : PicT Tryz.prog 24 47 := ⟨⟨_, _, _, Tryz.underlying24, by kernel_rfl, Tryz.underlying3, Tryz.underlying3, Tryz.underlying22⟩, by kernel_rfl, pxT⟩
theorem paramsReadable : ∀ t ∈ Tryz.f3.params.toList, Tryz.prog.readableRec t = true ∧ t < Tryz.prog.types.size := by
  rw [Tryz.params3]
  intro t ht
  simp at ht
  rcases ht with rfl | rfl
  all_goals exact ⟨by kernel_rfl, of_decide_eq_true (by kernel_rfl)⟩

set_option maxRecDepth 100000 in
theorem contract (H : Type) (enc : TypeId × Value → H) (W : World) (base : Nat) (args : Array Value) (ds gs : List (DataW H)) (before : List MemPlace)
    (hval : ∀ (j : Nat) t v, Tryz.f3.params[j]? = some t → args[j]? = some v → Value.okWide Tryz.prog W .any base t v)
    (hW : DataW.Whole enc Tryz.prog Tryz.f3.params.toList Rows.tilesPackSpec.vars false W args.toList ds gs before) (hL : laidMetH Tryz.prog Rows.tilesPackRow.laid W) :
    Calls Tryz.prog 3 args W fun e W' => ∃ v, e = .returned v ∧ Rows.tilesPackSpec.post enc Tryz.prog Tryz.f3 false true false false W args v W' := by
  have hW' := hW
  obtain ⟨p, q, hA0, hV, rfl, hfz, hnd⟩ := hW
  have hA : DataW.TrodAll enc Tryz.prog W 0 (fun _ => true) true Tryz.f3.params.toList args.toList ds p := hA0
  rw [Tryz.params3] at hA hval
  obtain ⟨v0, vs0, d0, ds0, p0, q0, hargs0, rfl, rfl, h0, r0⟩ := trodAll_cons hA
  obtain ⟨v1, vs1, d1, ds1, p1, q1, hargs1, rfl, rfl, h1, r1⟩ := trodAll_cons r0
  obtain ⟨v2, vs2, d2, ds2, p2, q2, hargs2, rfl, rfl, h2, r2⟩ := trodAll_cons r1
  obtain ⟨hargsE, rfl, rfl⟩ := trodAll_nil r2
  obtain rfl : args = #[v0, v1, v2] := by cases args; simp_all
  obtain ⟨W0, H0, A0, n0, c0, ps0, rfl, hp0, hw0, hh0⟩ := pic_arg picT (hval 0 _ v0 rfl rfl) h0
  obtain ⟨z1, rfl⟩ := okWide_int Tryz.underlying3 (hval 1 _ v1 rfl rfl)
  obtain ⟨z2, rfl⟩ := okWide_int Tryz.underlying3 (hval 2 _ v2 rfl rfl)
  obtain ⟨E, hE⟩ := errs_of hL
  refine (tilesPack_any W0 H0 A0 n0 c0 ps0 z1 z2 E W hp0 hE (tabs_of hL)).mono fun e W' ⟨he, hb⟩ => ?_
  subst he
  refine ⟨_, rfl, post_true fact.laidOut paramsReadable (by kernel_rfl) Tryz.underlying4 rfl (fun ds hds => ?_) hW' hb⟩
  rw [show Tryz.f3.params.size = 3 by rw [Tryz.params3]; rfl] at hds
  match ds, hds with
  | [_, _, _], _ => rfl

def wArgs : Array Value := #[.agg #[.int .i64 0, .int .i64 0, .slice none 0 0], .int .i64 0, .int .i64 0]
theorem reads (os : Os) {H : Type} (enc : TypeId × Value → H) : ∃ places, DataW.whole enc Tryz.prog ((errWorld os).forCall (fun _ _ => 0) ⟨#[], wArgs, []⟩).memory Tryz.f3.params.toList Rows.tilesPackSpec.vars false wArgs.toList 8 =
    some ([.agg [.lit (.int .i64 0), .lit (.int .i64 0), .nil], .lit (.int .i64 0), .lit (.int .i64 0)], [], places) :=
  ⟨[], by kernel_rfl⟩

set_option maxRecDepth 100000 in
theorem lifted (os : Os) (started : os.Started) (H : Type) (enc : TypeId × Value → H) (F : Stop.Interp) :
    ReturnsInHanded {} Tryz.checked os 3 .any ((OpenSpec.ofChange Rows.tilesPackSpec).preRow enc Tryz.prog Tryz.f3 Rows.tilesPackRow.domain false Rows.tilesPackRow.laid) (((OpenSpec.ofChange Rows.tilesPackSpec).at F).post enc Tryz.prog Tryz.f3 false true false false) := by
  obtain ⟨places, hx⟩ := reads os enc
  refine returnsInHanded_of_row (C := Tryz.checked) (s := OpenSpec.ofChange Rows.tilesPackSpec) fact.own started (by kernel_rfl) Tryz.func3
    (witness_row_at (enc := enc) (C := Tryz.checked) false (errWorld os) wArgs rfl (by kernel_rfl) (by kernel_rfl) (by kernel_rfl)
      (OpenSpec.preRow_of_cond 8 hx (by kernel_rfl) (fun k hk => by cases hk) (by kernel_rfl) (errWorld_met os _))) ?_
  intro W base args ds gs before hval hW _ _ _ hL _ _
  exact contract H enc W base args ds gs before hval hW hL

theorem named : Tryz.prog.funcNamed "layercake/layercakelaw3.TilesPack" = some 3 := by kernel_rfl
theorem k3 : (Rows.tilesPackRow.inPlace == Tryz.prog.inPlace 3) = true := by kernel_rfl
theorem k4 : (Rows.tilesPackRow.unfollowed == Tryz.prog.unfollowed 3) = true := by kernel_rfl
theorem k5 : (Rows.tilesPackRow.recurses == Tryz.prog.recurses 3) = true := by kernel_rfl
theorem k6 : (Rows.tilesPackRow.named == Tryz.prog.varsNamed 3) = true := by kernel_rfl
theorem k7 : (Rows.tilesPackRow.plainKeys == Tryz.prog.plainKeys) = true := by rw [fact.plainKeys]; rfl
theorem joined : joinedFacts Tryz.prog 3 Tryz.f3 Rows.tilesPackSpec Rows.tilesPackRow = true :=
  joined_split fact.laidOut fact.rowed k3 k4 k5 k6 k7 fact.stopsHeard fact.mayEnter fact.lifts (by kernel_rfl) (by kernel_rfl) (by kernel_rfl) (by kernel_rfl) (by kernel_rfl) (by kernel_rfl) (by kernel_rfl) (by kernel_rfl)
theorem inst : Tryz.f3.isInstance Tryz.prog Rows.tilesPackRow.origin Rows.tilesPackRow.targs := of_decide_eq_true (by kernel_rfl)
theorem wrap : Tryz.f3.isWrapper Tryz.prog Rows.tilesPackRow.wrapper Rows.tilesPackRow.mainSum := by
  unfold Func.isWrapper
  first | (rw [if_pos (by decide +kernel)]; kernel_rfl) | (rw [if_neg (by decide +kernel)]; exact ⟨rfl, rfl⟩)
end Go.Proofs.YthohmpjoeffckaaGreatDoor.tilesPack
