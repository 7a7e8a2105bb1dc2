/- TilesTurn: the row's contract and its closed facts. -/
import Derived.Test.YthohmpjoeffckaaDoorCards
import Derived.Test.YthohmpjoeffckaaDoorTie
import Derived.WalkKit
import Derived.ProofKit
import Derived.OpenShut
import Derived.Deep.DeepHandedRow
import Derived.Stop.LaidTwo
import Derived.Lib.LaidTab
import Derived.Test.YthohmpjoeffckaaDoorRow
import Derived.Test.YthohmpjoeffckaaDoorTabEnv
import Derived.Test.YthohmpjoeffckaaDoorLTilesTurn
import Derived.Test.YthohmpjoeffckaaDoorFact
namespace Go.Proofs.YthohmpjoeffckaaDoor.tilesTurn
open Go Go.ChangeShapes Go.WideShapes Go.ChangeAt Go.RowKit

theorem pxT : PxT Tryd.prog 43 := ⟨⟨_, _, _, _, Tryd.underlying43, by kernel_rfl, Tryd.underlying5, Tryd.underlying5, Tryd.underlying5, Tryd.underlying5⟩, by kernel_rfl⟩
theorem picT : PicT Tryd.prog 24 43 := ⟨⟨_, _, _, Tryd.underlying24, by kernel_rfl, Tryd.underlying3, Tryd.underlying3, Tryd.underlying22⟩, by kernel_rfl, pxT⟩
theorem paramsReadable : ∀ t ∈ Tryd.f3.params.toList, Tryd.prog.readableRec t = true ∧ t < Tryd.prog.types.size := by
  rw [Tryd.params3]
  intro t ht
  simp at ht
  rcases ht with rfl
  all_goals exact ⟨by kernel_rfl, of_decide_eq_true (by kernel_rfl)⟩

set_option maxRecDepth 100000 in
theorem contract (H : Type) (enc : TypeId × Value → H) (W : World) (base : Nat) (args : Array Value) (ds gs : List (DataW H)) (before : List MemPlace)
    (hval : ∀ (j : Nat) t v, Tryd.f3.params[j]? = some t → args[j]? = some v → Value.okWide Tryd.prog W .any base t v)
    (hW : DataW.Whole enc Tryd.prog Tryd.f3.params.toList Rows.tilesTurnSpec.vars false W args.toList ds gs before) (hL : laidMetH Tryd.prog Rows.tilesTurnRow.laid W) :
    Calls Tryd.prog 3 args W fun e W' => ∃ v, e = .returned v ∧ Rows.tilesTurnSpec.post enc Tryd.prog Tryd.f3 false true false false W args v W' := by
  have hW' := hW
  obtain ⟨p, q, hA0, hV, rfl, hfz, hnd⟩ := hW
  have hA : DataW.TrodAll enc Tryd.prog W 0 (fun _ => true) true Tryd.f3.params.toList args.toList ds p := hA0
  rw [Tryd.params3] at hA hval
  obtain ⟨v0, vs0, d0, ds0, p0, q0, hargs0, rfl, rfl, h0, r0⟩ := trodAll_cons hA
  obtain ⟨hargsE, rfl, rfl⟩ := trodAll_nil r0
  obtain rfl : args = #[v0] := by cases args; simp_all
  obtain ⟨W0, H0, A0, n0, c0, ps0, rfl, hp0, hw0, hh0⟩ := pic_arg picT (hval 0 _ v0 rfl rfl) h0
  obtain ⟨E, hE⟩ := ers_of hL
  refine (tilesTurn_any W0 H0 A0 n0 c0 ps0 E W hp0 hE (tabs_of hL)).mono fun e W' ⟨he, hb⟩ => ?_
  subst he
  refine ⟨_, rfl, post_true fact.laidOut paramsReadable (by kernel_rfl) Tryd.underlying4 rfl (fun ds hds => ?_) hW' hb⟩
  rw [show Tryd.f3.params.size = 1 by rw [Tryd.params3]; rfl] at hds
  match ds, hds with
  | [_], _ => rfl

noncomputable def low : Nat := (World.holding Tryd.prog default ⟨#[], #[], []⟩).heap.size
/-- A world for the witness. -/
noncomputable def errWorld (os : Os) : World :=
  let w0 := World.holding Tryd.prog os ⟨#[.cells #[.string { data := #[108, 97, 121, 101, 114, 99, 97, 107, 101, 58, 32, 98, 111, 117, 110, 100] }] 178, .cells #[.string { data := #[108, 97, 121, 101, 114, 99, 97, 107, 101, 58, 32, 115, 104, 97, 112, 101] }] 178], #[], []⟩
  let put := fun (h : Array Obj) (g : Nat) (v : Value) => h.modify g fun
    | .cells _ t frozen => .cells #[v] t frozen
    | o => o
  let putA := fun (h : Array Obj) (g : Nat) (vs : Array Value) => h.modify g fun
    | .cells _ t frozen => .cells vs t frozen
    | o => o
  { w0 with heap := putA (putA (putA (putA (putA (put (put (w0.heap) 1 (.iface 164 (.pointer (some ⟨low + 0, 0, none⟩)))) 0 (.iface 164 (.pointer (some ⟨low + 1, 0, none⟩)))) 3 #[.int .i64 3, .int .i64 4, .int .i64 5, .int .i64 6, .int .i64 7, .int .i64 8, .int .i64 9, .int .i64 10, .int .i64 11, .int .i64 13, .int .i64 15, .int .i64 17, .int .i64 19, .int .i64 23, .int .i64 27, .int .i64 31, .int .i64 35, .int .i64 43, .int .i64 51, .int .i64 59, .int .i64 67, .int .i64 83, .int .i64 99, .int .i64 115, .int .i64 131, .int .i64 163, .int .i64 195, .int .i64 227, .int .i64 258]) 4 #[.int .i64 0, .int .i64 0, .int .i64 0, .int .i64 0, .int .i64 0, .int .i64 0, .int .i64 0, .int .i64 0, .int .i64 1, .int .i64 1, .int .i64 1, .int .i64 1, .int .i64 2, .int .i64 2, .int .i64 2, .int .i64 2, .int .i64 3, .int .i64 3, .int .i64 3, .int .i64 3, .int .i64 4, .int .i64 4, .int .i64 4, .int .i64 4, .int .i64 5, .int .i64 5, .int .i64 5, .int .i64 5, .int .i64 0]) 5 #[.int .i64 1, .int .i64 2, .int .i64 3, .int .i64 4, .int .i64 5, .int .i64 7, .int .i64 9, .int .i64 13, .int .i64 17, .int .i64 25, .int .i64 33, .int .i64 49, .int .i64 65, .int .i64 97, .int .i64 129, .int .i64 193, .int .i64 257, .int .i64 385, .int .i64 513, .int .i64 769, .int .i64 1025, .int .i64 1537, .int .i64 2049, .int .i64 3073, .int .i64 4097, .int .i64 6145, .int .i64 8193, .int .i64 12289, .int .i64 16385, .int .i64 24577]) 6 #[.int .i64 0, .int .i64 0, .int .i64 0, .int .i64 0, .int .i64 1, .int .i64 1, .int .i64 2, .int .i64 2, .int .i64 3, .int .i64 3, .int .i64 4, .int .i64 4, .int .i64 5, .int .i64 5, .int .i64 6, .int .i64 6, .int .i64 7, .int .i64 7, .int .i64 8, .int .i64 8, .int .i64 9, .int .i64 9, .int .i64 10, .int .i64 10, .int .i64 11, .int .i64 11, .int .i64 12, .int .i64 12, .int .i64 13, .int .i64 13]) 2 #[.int .i64 16, .int .i64 17, .int .i64 18, .int .i64 0, .int .i64 8, .int .i64 7, .int .i64 9, .int .i64 6, .int .i64 10, .int .i64 5, .int .i64 11, .int .i64 4, .int .i64 12, .int .i64 3, .int .i64 13, .int .i64 2, .int .i64 14, .int .i64 1, .int .i64 15] }
def wArgs : Array Value := #[.agg #[.int .i64 0, .int .i64 0, .slice none 0 0]]
theorem laid_met (os : Os) : laidMet Tryd.prog Rows.tilesTurnRow.laid ((errWorld os).forCall (fun _ _ => 0) ⟨#[], wArgs, []⟩).memory :=
  laidMet_of_run (ps := [.cell 1 0, .cell (low + 0) 0, .cell 0 0, .cell (low + 1) 0, .cell 3 0, .cell 3 1, .cell 3 2, .cell 3 3, .cell 3 4, .cell 3 5, .cell 3 6, .cell 3 7, .cell 3 8, .cell 3 9, .cell 3 10, .cell 3 11, .cell 3 12, .cell 3 13, .cell 3 14, .cell 3 15, .cell 3 16, .cell 3 17, .cell 3 18, .cell 3 19, .cell 3 20, .cell 3 21, .cell 3 22, .cell 3 23, .cell 3 24, .cell 3 25, .cell 3 26, .cell 3 27, .cell 3 28, .cell 4 0, .cell 4 1, .cell 4 2, .cell 4 3, .cell 4 4, .cell 4 5, .cell 4 6, .cell 4 7, .cell 4 8, .cell 4 9, .cell 4 10, .cell 4 11, .cell 4 12, .cell 4 13, .cell 4 14, .cell 4 15, .cell 4 16, .cell 4 17, .cell 4 18, .cell 4 19, .cell 4 20, .cell 4 21, .cell 4 22, .cell 4 23, .cell 4 24, .cell 4 25, .cell 4 26, .cell 4 27, .cell 4 28, .cell 5 0, .cell 5 1, .cell 5 2, .cell 5 3, .cell 5 4, .cell 5 5, .cell 5 6, .cell 5 7, .cell 5 8, .cell 5 9, .cell 5 10, .cell 5 11, .cell 5 12, .cell 5 13, .cell 5 14, .cell 5 15, .cell 5 16, .cell 5 17, .cell 5 18, .cell 5 19, .cell 5 20, .cell 5 21, .cell 5 22, .cell 5 23, .cell 5 24, .cell 5 25, .cell 5 26, .cell 5 27, .cell 5 28, .cell 5 29, .cell 6 0, .cell 6 1, .cell 6 2, .cell 6 3, .cell 6 4, .cell 6 5, .cell 6 6, .cell 6 7, .cell 6 8, .cell 6 9, .cell 6 10, .cell 6 11, .cell 6 12, .cell 6 13, .cell 6 14, .cell 6 15, .cell 6 16, .cell 6 17, .cell 6 18, .cell 6 19, .cell 6 20, .cell 6 21, .cell 6 22, .cell 6 23, .cell 6 24, .cell 6 25, .cell 6 26, .cell 6 27, .cell 6 28, .cell 6 29, .cell 2 0, .cell 2 1, .cell 2 2, .cell 2 3, .cell 2 4, .cell 2 5, .cell 2 6, .cell 2 7, .cell 2 8, .cell 2 9, .cell 2 10, .cell 2 11, .cell 2 12, .cell 2 13, .cell 2 14, .cell 2 15, .cell 2 16, .cell 2 17, .cell 2 18]) 8 (by kernel_rfl) (by kernel_rfl) (by kernel_rfl)
theorem reads (os : Os) {H : Type} (enc : TypeId × Value → H) : ∃ places, DataW.whole enc Tryd.prog ((errWorld os).forCall (fun _ _ => 0) ⟨#[], wArgs, []⟩).memory Tryd.f3.params.toList Rows.tilesTurnSpec.vars false wArgs.toList 8 =
    some ([.agg [.lit (.int .i64 0), .lit (.int .i64 0), .nil]], [], places) :=
  ⟨[], by kernel_rfl⟩

set_option maxRecDepth 100000 in
theorem lifted (os : Os) (started : os.Started) (H : Type) (enc : TypeId × Value → H) (F : Stop.Interp) :
    ReturnsInHanded {} Tryd.checked os 3 .any ((OpenSpec.ofChange Rows.tilesTurnSpec).preRow enc Tryd.prog Tryd.f3 Rows.tilesTurnRow.domain false Rows.tilesTurnRow.laid) (((OpenSpec.ofChange Rows.tilesTurnSpec).at F).post enc Tryd.prog Tryd.f3 false true false false) := by
  obtain ⟨places, hx⟩ := reads os enc
  refine returnsInHanded_of_row (C := Tryd.checked) (s := OpenSpec.ofChange Rows.tilesTurnSpec) fact.own started (by kernel_rfl) Tryd.func3
    (witness_row_at (enc := enc) (C := Tryd.checked) false (errWorld os) wArgs rfl (by kernel_rfl) (by kernel_rfl) (by kernel_rfl)
      (OpenSpec.preRow_of_cond 8 hx (by kernel_rfl) (fun k hk => by cases hk) (by kernel_rfl) (laid_met os))) ?_
  intro W base args ds gs before hval hW _ _ _ hL _ _
  exact contract H enc W base args ds gs before hval hW hL

theorem named : Tryd.prog.funcNamed "layercake/layercakelaw3.TilesTurn" = some 3 := by kernel_rfl
theorem k3 : (Rows.tilesTurnRow.inPlace == Tryd.prog.inPlace 3) = true := by kernel_rfl
theorem k4 : (Rows.tilesTurnRow.unfollowed == Tryd.prog.unfollowed 3) = true := by kernel_rfl
theorem k5 : (Rows.tilesTurnRow.recurses == Tryd.prog.recurses 3) = true := by kernel_rfl
theorem k6 : (Rows.tilesTurnRow.named == Tryd.prog.varsNamed 3) = true := by kernel_rfl
theorem k7 : (Rows.tilesTurnRow.plainKeys == Tryd.prog.plainKeys) = true := by rw [fact.plainKeys]; rfl
theorem joined : joinedFacts Tryd.prog 3 Tryd.f3 Rows.tilesTurnSpec Rows.tilesTurnRow = true :=
  joined_split fact.laidOut fact.rowed k3 k4 k5 k6 k7 fact.stopsHeard fact.mayEnter fact.lifts (by kernel_rfl) (by kernel_rfl) (by kernel_rfl) (by kernel_rfl) (by kernel_rfl) (by kernel_rfl) (by kernel_rfl) (by kernel_rfl)
theorem inst : Tryd.f3.isInstance Tryd.prog Rows.tilesTurnRow.origin Rows.tilesTurnRow.targs := of_decide_eq_true (by kernel_rfl)
theorem wrap : Tryd.f3.isWrapper Tryd.prog Rows.tilesTurnRow.wrapper Rows.tilesTurnRow.mainSum := by
  unfold Func.isWrapper
  first | (rw [if_pos (by decide +kernel)]; kernel_rfl) | (rw [if_neg (by decide +kernel)]; exact ⟨rfl, rfl⟩)
end Go.Proofs.YthohmpjoeffckaaDoor.tilesTurn
