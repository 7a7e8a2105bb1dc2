/- GifWrites: the row's contract and its closed facts. -/
import Derived.Test.YtncedhhgclofbaaDoorCards
import Derived.Test.YtncedhhgclofbaaDoorTie
import Derived.WalkKit
import Derived.ProofKit
import Derived.OpenShut
import Derived.Deep.DeepHandedRow
import Derived.Stop.LaidTwo
import Derived.Lib.LaidTab
import Derived.Test.YtncedhhgclofbaaDoorRow
import Derived.Test.YtncedhhgclofbaaDoorKCWrites4
import Derived.Test.YtncedhhgclofbaaDoorKCWrites2
import Derived.Test.YtncedhhgclofbaaDoorKCWrites0
import Derived.Test.YtncedhhgclofbaaDoorKCWrites1
namespace Go.Proofs.YtncedhhgclofbaaDoor.gifWrites
open Go Go.ChangeShapes Go.WideShapes Go.ChangeAt Go.RowKit

theorem pxT : PxT Tryd.prog 52 := ⟨⟨_, _, _, _, Tryd.underlying52, by kernel_rfl, Tryd.underlying5, Tryd.underlying5, Tryd.underlying5, Tryd.underlying5⟩, by kernel_rfl⟩
theorem picT : PicT Tryd.prog 35 52 := ⟨⟨_, _, _, Tryd.underlying35, by kernel_rfl, Tryd.underlying3, Tryd.underlying3, Tryd.underlying33⟩, by kernel_rfl, pxT⟩
theorem paramsReadable : ∀ t ∈ Tryd.f4.params.toList, Tryd.prog.readableRec t = true ∧ t < Tryd.prog.types.size := by
  rw [Tryd.params4]
  intro t ht
  simp at ht
  rcases ht with rfl | rfl
  all_goals exact ⟨by kernel_rfl, of_decide_eq_true (by kernel_rfl)⟩

set_option maxRecDepth 100000 in
theorem contract (H : Type) (enc : TypeId × Value → H) (W : World) (base : Nat) (args : Array Value) (ds gs : List (DataW H)) (before : List MemPlace)
    (hval : ∀ (j : Nat) t v, Tryd.f4.params[j]? = some t → args[j]? = some v → Value.okWide Tryd.prog W .any base t v)
    (hW : DataW.Whole enc Tryd.prog Tryd.f4.params.toList Rows.gifWritesSpec.vars false W args.toList ds gs before) (hz : (DataW.weightsEach Tryd.prog (Tryd.f4.params.toList ++ (OpenSpec.ofChange Rows.gifWritesSpec).bare.plain.varTypes Tryd.prog) (ds ++ gs)).all (· ≤ reachBytes) = true) (hL : laidMetH Tryd.prog Rows.gifWritesRow.laid W) :
    Calls Tryd.prog 4 args W fun e W' => ∃ v, e = .returned v ∧ Rows.gifWritesSpec.post enc Tryd.prog Tryd.f4 false true false false W args v W' := by
  have hW' := hW
  obtain ⟨p, q, hA0, hV, rfl, hfz, hnd⟩ := hW
  have hA : DataW.TrodAll enc Tryd.prog W 0 (fun _ => true) true Tryd.f4.params.toList args.toList ds p := hA0
  rw [Tryd.params4] at hA hval
  obtain ⟨v0, vs0, d0, ds0, p0, q0, hargs0, rfl, rfl, h0, r0⟩ := trodAll_cons hA
  obtain ⟨v1, vs1, d1, ds1, p1, q1, hargs1, rfl, rfl, h1, r1⟩ := trodAll_cons r0
  obtain ⟨hargsE, rfl, rfl⟩ := trodAll_nil r1
  obtain rfl : args = #[v0, v1] := by cases args; simp_all
  obtain ⟨A0, n0, c0, ps0, rfl, hp0, hn0, hr0⟩ := frs_argW (hval 0 _ v0 rfl rfl) h0 (inReach_each hz 0 _ _ (by rw [Tryd.params4]; rfl) rfl)
  obtain ⟨z1, rfl⟩ := okWide_int Tryd.underlying3 (hval 1 _ v1 rfl rfl)
  obtain ⟨E, hE⟩ := errs_of hL
  refine (gifWrites_any A0 n0 c0 ps0 z1 E W hp0 hr0 hn0 hE).mono fun e W' ⟨he, hb⟩ => ?_
  subst he
  refine ⟨_, rfl, post_true fact.laidOut paramsReadable (by kernel_rfl) Tryd.underlying4 rfl (fun ds hds => ?_) hW' hb⟩
  rw [show Tryd.f4.params.size = 2 by rw [Tryd.params4]; rfl] at hds
  match ds, hds with
  | [_, _], _ => rfl

def wArgs : Array Value := #[.slice none 0 0, .int .i64 0]
theorem reads (os : Os) {H : Type} (enc : TypeId × Value → H) : ∃ places, DataW.whole enc Tryd.prog ((errWorld os).forCall (fun _ _ => 0) ⟨#[], wArgs, []⟩).memory Tryd.f4.params.toList Rows.gifWritesSpec.vars false wArgs.toList 8 =
    some ([.nil, .lit (.int .i64 0)], [], places) :=
  ⟨[], by kernel_rfl⟩

set_option maxRecDepth 100000 in
theorem lifted (os : Os) (started : os.Started) (H : Type) (enc : TypeId × Value → H) (F : Stop.Interp) :
    ReturnsInHanded {} Tryd.checked os 4 .any ((OpenSpec.ofChange Rows.gifWritesSpec).preRow enc Tryd.prog Tryd.f4 Rows.gifWritesRow.domain false Rows.gifWritesRow.laid) (((OpenSpec.ofChange Rows.gifWritesSpec).at F).post enc Tryd.prog Tryd.f4 false true false false) := by
  obtain ⟨places, hx⟩ := reads os enc
  refine returnsInHanded_of_row (C := Tryd.checked) (s := OpenSpec.ofChange Rows.gifWritesSpec) fact.own started (by kernel_rfl) Tryd.func4
    (witness_row_at (enc := enc) (C := Tryd.checked) false (errWorld os) wArgs rfl (by kernel_rfl) (by kernel_rfl) (by kernel_rfl)
      (OpenSpec.preRow_of_cond 8 hx (by kernel_rfl) (fun k hk => by cases hk) (by kernel_rfl) (errWorld_met os _))) ?_
  intro W base args ds gs before hval hW _ _ hz hL _ _
  exact contract H enc W base args ds gs before hval hW hz hL

theorem named : Tryd.prog.funcNamed "layercake/layercakelaw3.GifWrites" = some 4 := by kernel_rfl
theorem k3 : (Rows.gifWritesRow.inPlace == Tryd.prog.inPlace 4) = true := by kernel_rfl
theorem k4 : (Rows.gifWritesRow.unfollowed == Tryd.prog.unfollowed 4) = true := by kernel_rfl
theorem k5 : (Rows.gifWritesRow.recurses == Tryd.prog.recurses 4) = true := by kernel_rfl
theorem k6 : (Rows.gifWritesRow.named == Tryd.prog.varsNamed 4) = true := by kernel_rfl
theorem k7 : (Rows.gifWritesRow.plainKeys == Tryd.prog.plainKeys) = true := by rw [fact.plainKeys]; rfl
theorem joined : joinedFacts Tryd.prog 4 Tryd.f4 Rows.gifWritesSpec Rows.gifWritesRow = true :=
  joined_split fact.laidOut fact.rowed k3 k4 k5 k6 k7 fact.stopsHeard fact.mayEnter fact.lifts (by kernel_rfl) (by kernel_rfl) (by kernel_rfl) (by kernel_rfl) (by kernel_rfl) (by kernel_rfl) (by kernel_rfl) (by kernel_rfl)
theorem inst : Tryd.f4.isInstance Tryd.prog Rows.gifWritesRow.origin Rows.gifWritesRow.targs := of_decide_eq_true (by kernel_rfl)
theorem wrap : Tryd.f4.isWrapper Tryd.prog Rows.gifWritesRow.wrapper Rows.gifWritesRow.mainSum := by
  unfold Func.isWrapper
  first | (rw [if_pos (by decide +kernel)]; kernel_rfl) | (rw [if_neg (by decide +kernel)]; exact ⟨rfl, rfl⟩)
end Go.Proofs.YtncedhhgclofbaaDoor.gifWrites
