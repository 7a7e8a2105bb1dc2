/- GifReads: the row's contract and its closed facts. -/
import Derived.Test.YtncedhhgclofbaaDoorCards
import Derived.Test.YtncedhhgclofbaaDoorTie
import Derived.WalkKit
import Derived.ProofKit
import Derived.OpenShut
import Derived.Deep.DeepHandedRow
import Derived.Stop.LaidTwo
import Derived.Lib.LaidTab
import Derived.Test.YtncedhhgclofbaaDoorRow
import Derived.Test.YtncedhhgclofbaaDoorErrWorld
import Derived.Test.YtncedhhgclofbaaDoorKCReads0
import Derived.Test.YtncedhhgclofbaaDoorKCReads1
namespace Go.Proofs.YtncedhhgclofbaaDoor.gifReads
open Go Go.ChangeShapes Go.WideShapes Go.ChangeAt Go.RowKit

theorem pxT : PxT Tryd.prog 52 := ⟨⟨_, _, _, _, Tryd.underlying52, by kernel_rfl, Tryd.underlying5, Tryd.underlying5, Tryd.underlying5, Tryd.underlying5⟩, by kernel_rfl⟩
theorem picT : PicT Tryd.prog 35 52 := ⟨⟨_, _, _, Tryd.underlying35, by kernel_rfl, Tryd.underlying3, Tryd.underlying3, Tryd.underlying33⟩, by kernel_rfl, pxT⟩
theorem paramsReadable : ∀ t ∈ Tryd.f5.params.toList, Tryd.prog.readableRec t = true ∧ t < Tryd.prog.types.size := by
  rw [Tryd.params5]
  intro t ht
  simp at ht
  rcases ht with rfl
  all_goals exact ⟨by kernel_rfl, of_decide_eq_true (by kernel_rfl)⟩

set_option maxRecDepth 100000 in
theorem contract (H : Type) (enc : TypeId × Value → H) (W : World) (base : Nat) (args : Array Value) (ds gs : List (DataW H)) (before : List MemPlace)
    (hval : ∀ (j : Nat) t v, Tryd.f5.params[j]? = some t → args[j]? = some v → Value.okWide Tryd.prog W .any base t v)
    (hW : DataW.Whole enc Tryd.prog Tryd.f5.params.toList Rows.gifReadsSpec.vars false W args.toList ds gs before) (hL : laidMetH Tryd.prog Rows.gifReadsRow.laid W) :
    Calls Tryd.prog 5 args W fun e W' => ∃ v, e = .returned v ∧ Rows.gifReadsSpec.post enc Tryd.prog Tryd.f5 false true false false W args v W' := by
  have hW' := hW
  obtain ⟨p, q, hA0, hV, rfl, hfz, hnd⟩ := hW
  have hA : DataW.TrodAll enc Tryd.prog W 0 (fun _ => true) true Tryd.f5.params.toList args.toList ds p := hA0
  rw [Tryd.params5] at hA hval
  obtain ⟨v0, vs0, d0, ds0, p0, q0, hargs0, rfl, rfl, h0, r0⟩ := trodAll_cons hA
  obtain ⟨hargsE, rfl, rfl⟩ := trodAll_nil r0
  obtain rfl : args = #[v0] := by cases args; simp_all
  obtain ⟨s0, rfl⟩ := okWide_string Tryd.underlying9 (hval 0 _ v0 rfl rfl)
  obtain ⟨E, hE⟩ := errs_of hL
  refine (gifReads_any s0 E W  hE).mono fun e W' ⟨he, hb⟩ => ?_
  subst he
  refine ⟨_, rfl, post_true fact.laidOut paramsReadable (by kernel_rfl) Tryd.underlying4 rfl (fun ds hds => ?_) hW' hb⟩
  rw [show Tryd.f5.params.size = 1 by rw [Tryd.params5]; rfl] at hds
  match ds, hds with
  | [_], _ => rfl

def wArgs : Array Value := #[.string ⟨#[]⟩]
theorem reads (os : Os) {H : Type} (enc : TypeId × Value → H) : ∃ places, DataW.whole enc Tryd.prog ((errWorld os).forCall (fun _ _ => 0) ⟨#[], wArgs, []⟩).memory Tryd.f5.params.toList Rows.gifReadsSpec.vars false wArgs.toList 8 =
    some ([.lit (.string [])], [], places) :=
  ⟨[], by kernel_rfl⟩

set_option maxRecDepth 100000 in
theorem lifted (os : Os) (started : os.Started) (H : Type) (enc : TypeId × Value → H) (F : Stop.Interp) :
    ReturnsInHanded {} Tryd.checked os 5 .any ((OpenSpec.ofChange Rows.gifReadsSpec).preRow enc Tryd.prog Tryd.f5 Rows.gifReadsRow.domain false Rows.gifReadsRow.laid) (((OpenSpec.ofChange Rows.gifReadsSpec).at F).post enc Tryd.prog Tryd.f5 false true false false) := by
  obtain ⟨places, hx⟩ := reads os enc
  refine returnsInHanded_of_row (C := Tryd.checked) (s := OpenSpec.ofChange Rows.gifReadsSpec) fact.own started (by kernel_rfl) Tryd.func5
    (witness_row_at (enc := enc) (C := Tryd.checked) false (errWorld os) wArgs rfl (by kernel_rfl) (by kernel_rfl) (by kernel_rfl)
      (OpenSpec.preRow_of_cond 8 hx (by kernel_rfl) (fun k hk => by cases hk) (by kernel_rfl) (errWorld_met os _))) ?_
  intro W base args ds gs before hval hW _ _ _ hL _ _
  exact contract H enc W base args ds gs before hval hW hL

theorem named : Tryd.prog.funcNamed "layercake/layercakelaw3.GifReads" = some 5 := by kernel_rfl
theorem k3 : (Rows.gifReadsRow.inPlace == Tryd.prog.inPlace 5) = true := by kernel_rfl
theorem k4 : (Rows.gifReadsRow.unfollowed == Tryd.prog.unfollowed 5) = true := by kernel_rfl
theorem k5 : (Rows.gifReadsRow.recurses == Tryd.prog.recurses 5) = true := by kernel_rfl
theorem k6 : (Rows.gifReadsRow.named == Tryd.prog.varsNamed 5) = true := by kernel_rfl
theorem k7 : (Rows.gifReadsRow.plainKeys == Tryd.prog.plainKeys) = true := by rw [fact.plainKeys]; rfl
theorem joined : joinedFacts Tryd.prog 5 Tryd.f5 Rows.gifReadsSpec Rows.gifReadsRow = true :=
  joined_split fact.laidOut fact.rowed k3 k4 k5 k6 k7 fact.stopsHeard fact.mayEnter fact.lifts (by kernel_rfl) (by kernel_rfl) (by kernel_rfl) (by kernel_rfl) (by kernel_rfl) (by kernel_rfl) (by kernel_rfl) (by kernel_rfl)
theorem inst : Tryd.f5.isInstance Tryd.prog Rows.gifReadsRow.origin Rows.gifReadsRow.targs := of_decide_eq_true (by kernel_rfl)
theorem wrap : Tryd.f5.isWrapper Tryd.prog Rows.gifReadsRow.wrapper Rows.gifReadsRow.mainSum := by
  unfold Func.isWrapper
  first | (rw [if_pos (by decide +kernel)]; kernel_rfl) | (rw [if_neg (by decide +kernel)]; exact ⟨rfl, rfl⟩)
end Go.Proofs.YtncedhhgclofbaaDoor.gifReads
