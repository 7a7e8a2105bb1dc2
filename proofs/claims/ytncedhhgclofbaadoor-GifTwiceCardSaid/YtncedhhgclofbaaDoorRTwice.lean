/- GifTwice: the row's contract and its closed facts. -/
import Derived.Test.YtncedhhgclofbaaDoorCards
import Derived.Test.YtncedhhgclofbaaDoorTie
import Derived.WalkKit
import Derived.ProofKit
import Derived.OpenShut
import Derived.Deep.DeepHandedRow
import Derived.Stop.LaidTwo
import Derived.Lib.LaidTab
import Derived.Test.YtncedhhgclofbaaDoorRow
import Derived.Test.YtncedhhgclofbaaDoorFrArg
import Derived.Test.YtncedhhgclofbaaDoorErrGif
import Derived.Test.YtncedhhgclofbaaDoorLTwice
import Derived.Test.YtncedhhgclofbaaDoorFact
namespace Go.Proofs.YtncedhhgclofbaaDoor.gifTwice
open Go Go.ChangeShapes Go.WideShapes Go.ChangeAt Go.RowKit

theorem pxT : PxT Tryd.prog 52 := ⟨⟨_, _, _, _, Tryd.underlying52, by kernel_rfl, Tryd.underlying5, Tryd.underlying5, Tryd.underlying5, Tryd.underlying5⟩, by kernel_rfl⟩
theorem picT : PicT Tryd.prog 35 52 := ⟨⟨_, _, _, Tryd.underlying35, by kernel_rfl, Tryd.underlying3, Tryd.underlying3, Tryd.underlying33⟩, by kernel_rfl, pxT⟩
theorem paramsReadable : ∀ t ∈ Tryd.f3.params.toList, Tryd.prog.readableRec t = true ∧ t < Tryd.prog.types.size := by
  rw [Tryd.params3]
  intro t ht
  simp at ht
  rcases ht with rfl | rfl
  all_goals exact ⟨by kernel_rfl, of_decide_eq_true (by kernel_rfl)⟩

set_option maxRecDepth 100000 in
theorem contract (H : Type) (enc : TypeId × Value → H) (W : World) (base : Nat) (args : Array Value) (ds gs : List (DataW H)) (before : List MemPlace)
    (hval : ∀ (j : Nat) t v, Tryd.f3.params[j]? = some t → args[j]? = some v → Value.okWide Tryd.prog W .any base t v)
    (hW : DataW.Whole enc Tryd.prog Tryd.f3.params.toList Rows.gifTwiceSpec.vars false W args.toList ds gs before) (hz : (DataW.weightsEach Tryd.prog (Tryd.f3.params.toList ++ (OpenSpec.ofChange Rows.gifTwiceSpec).bare.plain.varTypes Tryd.prog) (ds ++ gs)).all (· ≤ reachBytes) = true) (hL : laidMetH Tryd.prog Rows.gifTwiceRow.laid W) :
    Calls Tryd.prog 3 args W fun e W' => ∃ v, e = .returned v ∧ Rows.gifTwiceSpec.post enc Tryd.prog Tryd.f3 false true false false W args v W' := by
  have hW' := hW
  obtain ⟨p, q, hA0, hV, rfl, hfz, hnd⟩ := hW
  have hA : DataW.TrodAll enc Tryd.prog W 0 (fun _ => true) true Tryd.f3.params.toList args.toList ds p := hA0
  rw [Tryd.params3] at hA hval
  obtain ⟨v0, vs0, d0, ds0, p0, q0, hargs0, rfl, rfl, h0, r0⟩ := trodAll_cons hA
  obtain ⟨v1, vs1, d1, ds1, p1, q1, hargs1, rfl, rfl, h1, r1⟩ := trodAll_cons r0
  obtain ⟨hargsE, rfl, rfl⟩ := trodAll_nil r1
  obtain rfl : args = #[v0, v1] := by cases args; simp_all
  obtain ⟨A0, n0, c0, ps0, rfl, hp0, hn0, hr0⟩ := frs_argW (hval 0 _ v0 rfl rfl) h0 (inReach_each hz 0 _ _ (by rw [Tryd.params3]; rfl) rfl)
  obtain ⟨z1, rfl⟩ := okWide_int Tryd.underlying3 (hval 1 _ v1 rfl rfl)
  obtain ⟨E, hE⟩ := er4_of hL
  refine (gifTwice_any A0 n0 c0 ps0 z1 E W hp0 hr0 hn0 hE).mono fun e W' ⟨he, hb⟩ => ?_
  subst he
  refine ⟨_, rfl, post_true fact.laidOut paramsReadable (by kernel_rfl) Tryd.underlying4 rfl (fun ds hds => ?_) hW' hb⟩
  rw [show Tryd.f3.params.size = 2 by rw [Tryd.params3]; rfl] at hds
  match ds, hds with
  | [_, _], _ => rfl

noncomputable def low : Nat := (World.holding Tryd.prog default ⟨#[], #[], []⟩).heap.size
/-- A world for the witness. -/
noncomputable def errWorld (os : Os) : World :=
  let w0 := World.holding Tryd.prog os ⟨#[.cells #[.string { data := #[108, 97, 121, 101, 114, 99, 97, 107, 101, 58, 32, 116, 101, 120, 116] }] 185, .cells #[.string { data := #[108, 97, 121, 101, 114, 99, 97, 107, 101, 58, 32, 98, 111, 117, 110, 100] }] 185, .cells #[.string { data := #[108, 97, 121, 101, 114, 99, 97, 107, 101, 58, 32, 115, 104, 97, 112, 101] }] 185, .cells #[.string { data := #[108, 97, 121, 101, 114, 99, 97, 107, 101, 58, 32, 99, 111, 108, 111, 114, 115] }] 185], #[], []⟩
  let put := fun (h : Array Obj) (g : Nat) (v : Value) => h.modify g fun
    | .cells _ t frozen => .cells #[v] t frozen
    | o => o
  { w0 with heap := put (put (put (put (w0.heap) 2 (.iface 167 (.pointer (some ⟨low + 0, 0, none⟩)))) 1 (.iface 167 (.pointer (some ⟨low + 1, 0, none⟩)))) 3 (.iface 167 (.pointer (some ⟨low + 2, 0, none⟩)))) 0 (.iface 167 (.pointer (some ⟨low + 3, 0, none⟩))) }
def wArgs : Array Value := #[.slice none 0 0, .int .i64 0]
theorem laid_met (os : Os) : laidMet Tryd.prog Rows.gifTwiceRow.laid ((errWorld os).forCall (fun _ _ => 0) ⟨#[], wArgs, []⟩).memory :=
  laidMet_of_run (ps := [.cell 2 0, .cell (low + 0) 0, .cell 1 0, .cell (low + 1) 0, .cell 3 0, .cell (low + 2) 0, .cell 0 0, .cell (low + 3) 0]) 8 (by kernel_rfl) (by kernel_rfl) (by kernel_rfl)
theorem reads (os : Os) {H : Type} (enc : TypeId × Value → H) : ∃ places, DataW.whole enc Tryd.prog ((errWorld os).forCall (fun _ _ => 0) ⟨#[], wArgs, []⟩).memory Tryd.f3.params.toList Rows.gifTwiceSpec.vars false wArgs.toList 8 =
    some ([.nil, .lit (.int .i64 0)], [], places) :=
  ⟨[], by kernel_rfl⟩

set_option maxRecDepth 100000 in
theorem lifted (os : Os) (started : os.Started) (H : Type) (enc : TypeId × Value → H) (F : Stop.Interp) :
    ReturnsInHanded {} Tryd.checked os 3 .any ((OpenSpec.ofChange Rows.gifTwiceSpec).preRow enc Tryd.prog Tryd.f3 Rows.gifTwiceRow.domain false Rows.gifTwiceRow.laid) (((OpenSpec.ofChange Rows.gifTwiceSpec).at F).post enc Tryd.prog Tryd.f3 false true false false) := by
  obtain ⟨places, hx⟩ := reads os enc
  refine returnsInHanded_of_row (C := Tryd.checked) (s := OpenSpec.ofChange Rows.gifTwiceSpec) fact.own started (by kernel_rfl) Tryd.func3
    (witness_row_at (enc := enc) (C := Tryd.checked) false (errWorld os) wArgs rfl (by kernel_rfl) (by kernel_rfl) (by kernel_rfl)
      (OpenSpec.preRow_of_cond 8 hx (by kernel_rfl) (fun k hk => by cases hk) (by kernel_rfl) (laid_met os))) ?_
  intro W base args ds gs before hval hW _ _ hz hL _ _
  exact contract H enc W base args ds gs before hval hW hz hL

theorem named : Tryd.prog.funcNamed "layercake/layercakelaw3.GifTwice" = some 3 := by kernel_rfl
theorem k3 : (Rows.gifTwiceRow.inPlace == Tryd.prog.inPlace 3) = true := by kernel_rfl
theorem k4 : (Rows.gifTwiceRow.unfollowed == Tryd.prog.unfollowed 3) = true := by kernel_rfl
theorem k5 : (Rows.gifTwiceRow.recurses == Tryd.prog.recurses 3) = true := by kernel_rfl
theorem k6 : (Rows.gifTwiceRow.named == Tryd.prog.varsNamed 3) = true := by kernel_rfl
theorem k7 : (Rows.gifTwiceRow.plainKeys == Tryd.prog.plainKeys) = true := by rw [fact.plainKeys]; rfl
theorem joined : joinedFacts Tryd.prog 3 Tryd.f3 Rows.gifTwiceSpec Rows.gifTwiceRow = true :=
  joined_split fact.laidOut fact.rowed k3 k4 k5 k6 k7 fact.stopsHeard fact.mayEnter fact.lifts (by kernel_rfl) (by kernel_rfl) (by kernel_rfl) (by kernel_rfl) (by kernel_rfl) (by kernel_rfl) (by kernel_rfl) (by kernel_rfl)
theorem inst : Tryd.f3.isInstance Tryd.prog Rows.gifTwiceRow.origin Rows.gifTwiceRow.targs := of_decide_eq_true (by kernel_rfl)
theorem wrap : Tryd.f3.isWrapper Tryd.prog Rows.gifTwiceRow.wrapper Rows.gifTwiceRow.mainSum := by
  unfold Func.isWrapper
  first | (rw [if_pos (by decide +kernel)]; kernel_rfl) | (rw [if_neg (by decide +kernel)]; exact ⟨rfl, rfl⟩)
end Go.Proofs.YtncedhhgclofbaaDoor.gifTwice
