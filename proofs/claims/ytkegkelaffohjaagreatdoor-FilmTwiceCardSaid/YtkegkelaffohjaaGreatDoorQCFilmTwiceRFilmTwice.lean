/- FilmTwice: the row's contract and its closed facts. -/
import Derived.Test.YtkegkelaffohjaaGreatDoorCards
import Derived.Test.YtkegkelaffohjaaGreatDoorTie
import Derived.WalkKit
import Derived.ProofKit
import Derived.OpenShut
import Derived.Deep.DeepHandedRow
import Derived.Stop.LaidTwo
import Derived.Lib.LaidTab
import Derived.Test.YtkegkelaffohjaaGreatDoorKCFilmTwice1
import Derived.Test.YtkegkelaffohjaaGreatDoorKCFilmTwice8
import Derived.Test.YtkegkelaffohjaaGreatDoorKCFilmTwice9
import Derived.Test.YtkegkelaffohjaaGreatDoorQCFilmTwiceLFilmTwice
import Derived.Test.YtkegkelaffohjaaGreatDoorFact
namespace Go.Proofs.YtkegkelaffohjaaGreatDoor.filmTwice
open Go Go.ChangeShapes Go.WideShapes Go.ChangeAt Go.RowKit
theorem pxT : PxT Tryz.prog 53 := ⟨⟨_, _, _, _, Tryz.underlying53, by kernel_rfl, Tryz.underlying5, Tryz.underlying5, Tryz.underlying5, Tryz.underlying5⟩, by kernel_rfl⟩
theorem picT : PicT Tryz.prog 44 53 := ⟨⟨_, _, _, Tryz.underlying44, by kernel_rfl, Tryz.underlying3, Tryz.underlying3, Tryz.underlying42⟩, by kernel_rfl, pxT⟩
theorem paramsReadable : ∀ t ∈ Tryz.f5.params.toList, Tryz.prog.readableRec t = true ∧ t < Tryz.prog.types.size := by
 rw [Tryz.params5]
 intro t ht
 simp at ht
 rcases ht with rfl | rfl
 all_goals exact ⟨by kernel_rfl, of_decide_eq_true (by kernel_rfl)⟩
set_option maxRecDepth 100000 in
theorem contract (H : Type) (enc : TypeId × Value → H) (W : World) (base : Nat) (args : Array Value) (ds gs : List (DataW H)) (before : List MemPlace)
  (hval : ∀ (j : Nat) t v, Tryz.f5.params[j]? = some t → args[j]? = some v → Value.okWide Tryz.prog W .any base t v)
  (hW : DataW.Whole enc Tryz.prog Tryz.f5.params.toList Rows.filmTwiceSpec.vars false W args.toList ds gs before) (hz : (DataW.weightsEach Tryz.prog (Tryz.f5.params.toList ++ (OpenSpec.ofChange Rows.filmTwiceSpec).bare.plain.varTypes Tryz.prog) (ds ++ gs)).all (· ≤ reachBytes) = true) (hL : laidMetH Tryz.prog Rows.filmTwiceRow.laid W) :
  Calls Tryz.prog 5 args W fun e W' => ∃ v, e = .returned v ∧ Rows.filmTwiceSpec.post enc Tryz.prog Tryz.f5 false true false false W args v W' := by
 have hW' := hW
 obtain ⟨p, q, hA0, hV, rfl, hfz, hnd⟩ := hW
 have hA : DataW.TrodAll enc Tryz.prog W 0 (fun _ => true) true Tryz.f5.params.toList args.toList ds p := hA0
 rw [Tryz.params5] at hA hval
 obtain ⟨v0, vs0, d0, ds0, p0, q0, hargs0, rfl, rfl, h0, r0⟩ := trodAll_cons hA
 obtain ⟨v1, vs1, d1, ds1, p1, q1, hargs1, rfl, rfl, h1, r1⟩ := trodAll_cons r0
 obtain ⟨hargsE, rfl, rfl⟩ := trodAll_nil r1
 obtain rfl : args = #[v0, v1] := by cases args; simp_all
 obtain ⟨A0, n0, c0, ps0, rfl, hp0, hn0, hr0⟩ := frs_argW (hval 0 _ v0 rfl rfl) h0 (inReach_each hz 0 _ _ (by rw [Tryz.params5]; rfl) rfl)
 obtain ⟨z1, rfl⟩ := okWide_int Tryz.underlying3 (hval 1 _ v1 rfl rfl)
 obtain ⟨E, hE⟩ := ft_er4 hL
 refine (filmTwice_any A0 n0 c0 ps0 z1 E W hp0 hr0 hn0 hE (ft_tabs hL)).mono fun e W' ⟨he, hb⟩ => ?_
 subst he
 refine ⟨_, rfl, post_true fact.laidOut paramsReadable (by kernel_rfl) Tryz.underlying4 rfl (fun ds hds => ?_) hW' hb⟩
 rw [show Tryz.f5.params.size = 2 by rw [Tryz.params5]; rfl] at hds
 match ds, hds with
 | [_, _], _ => rfl
noncomputable def low : Nat := (World.holding Tryz.prog default ⟨#[], #[], []⟩).heap.size
noncomputable def errWorld (os : Os) : World :=
 let w0 := World.holding Tryz.prog os ⟨#[.cells #[.string { data := #[108, 97, 121, 101, 114, 99, 97, 107, 101, 58, 32, 116, 101, 120, 116] }] 309, .cells #[.string { data := #[108, 97, 121, 101, 114, 99, 97, 107, 101, 58, 32, 98, 111, 117, 110, 100] }] 309, .cells #[.string { data := #[108, 97, 121, 101, 114, 99, 97, 107, 101, 58, 32, 115, 104, 97, 112, 101] }] 309, .cells #[.string { data := #[108, 97, 121, 101, 114, 99, 97, 107, 101, 58, 32, 115, 117, 109] }] 309], #[], []⟩
 let put := fun (h : Array Obj) (g : Nat) (v : Value) => h.modify g fun
  | .cells _ t frozen => .cells #[v] t frozen
  | o => o
 let putA := fun (h : Array Obj) (g : Nat) (vs : Array Value) => h.modify g fun
  | .cells _ t frozen => .cells vs t frozen
  | o => o
 { w0 with heap := putA (putA (putA (putA (putA (put (put (put (put (w0.heap) 0 (.iface 290 (.pointer (some ⟨low + 0, 0, none⟩)))) 1 (.iface 290 (.pointer (some ⟨low + 1, 0, none⟩)))) 3 (.iface 290 (.pointer (some ⟨low + 2, 0, none⟩)))) 2 (.iface 290 (.pointer (some ⟨low + 3, 0, none⟩)))) 11 #[.int .i64 3, .int .i64 4, .int .i64 5, .int .i64 6, .int .i64 7, .int .i64 8, .int .i64 9, .int .i64 10, .int .i64 11, .int .i64 13, .int .i64 15, .int .i64 17, .int .i64 19, .int .i64 23, .int .i64 27, .int .i64 31, .int .i64 35, .int .i64 43, .int .i64 51, .int .i64 59, .int .i64 67, .int .i64 83, .int .i64 99, .int .i64 115, .int .i64 131, .int .i64 163, .int .i64 195, .int .i64 227, .int .i64 258]) 12 #[.int .i64 0, .int .i64 0, .int .i64 0, .int .i64 0, .int .i64 0, .int .i64 0, .int .i64 0, .int .i64 0, .int .i64 1, .int .i64 1, .int .i64 1, .int .i64 1, .int .i64 2, .int .i64 2, .int .i64 2, .int .i64 2, .int .i64 3, .int .i64 3, .int .i64 3, .int .i64 3, .int .i64 4, .int .i64 4, .int .i64 4, .int .i64 4, .int .i64 5, .int .i64 5, .int .i64 5, .int .i64 5, .int .i64 0]) 13 #[.int .i64 1, .int .i64 2, .int .i64 3, .int .i64 4, .int .i64 5, .int .i64 7, .int .i64 9, .int .i64 13, .int .i64 17, .int .i64 25, .int .i64 33, .int .i64 49, .int .i64 65, .int .i64 97, .int .i64 129, .int .i64 193, .int .i64 257, .int .i64 385, .int .i64 513, .int .i64 769, .int .i64 1025, .int .i64 1537, .int .i64 2049, .int .i64 3073, .int .i64 4097, .int .i64 6145, .int .i64 8193, .int .i64 12289, .int .i64 16385, .int .i64 24577]) 14 #[.int .i64 0, .int .i64 0, .int .i64 0, .int .i64 0, .int .i64 1, .int .i64 1, .int .i64 2, .int .i64 2, .int .i64 3, .int .i64 3, .int .i64 4, .int .i64 4, .int .i64 5, .int .i64 5, .int .i64 6, .int .i64 6, .int .i64 7, .int .i64 7, .int .i64 8, .int .i64 8, .int .i64 9, .int .i64 9, .int .i64 10, .int .i64 10, .int .i64 11, .int .i64 11, .int .i64 12, .int .i64 12, .int .i64 13, .int .i64 13]) 10 #[.int .i64 16, .int .i64 17, .int .i64 18, .int .i64 0, .int .i64 8, .int .i64 7, .int .i64 9, .int .i64 6, .int .i64 10, .int .i64 5, .int .i64 11, .int .i64 4, .int .i64 12, .int .i64 3, .int .i64 13, .int .i64 2, .int .i64 14, .int .i64 1, .int .i64 15] }
def wArgs : Array Value := #[.slice none 0 0, .int .i64 0]
theorem laid_met (os : Os) : laidMet Tryz.prog Rows.filmTwiceRow.laid ((errWorld os).forCall (fun _ _ => 0) ⟨#[], wArgs, []⟩).memory :=
 laidMet_of_run (ps := [.cell 0 0, .cell (low + 0) 0, .cell 1 0, .cell (low + 1) 0, .cell 3 0, .cell (low + 2) 0, .cell 2 0, .cell (low + 3) 0, .cell 11 0, .cell 11 1, .cell 11 2, .cell 11 3, .cell 11 4, .cell 11 5, .cell 11 6, .cell 11 7, .cell 11 8, .cell 11 9, .cell 11 10, .cell 11 11, .cell 11 12, .cell 11 13, .cell 11 14, .cell 11 15, .cell 11 16, .cell 11 17, .cell 11 18, .cell 11 19, .cell 11 20, .cell 11 21, .cell 11 22, .cell 11 23, .cell 11 24, .cell 11 25, .cell 11 26, .cell 11 27, .cell 11 28, .cell 12 0, .cell 12 1, .cell 12 2, .cell 12 3, .cell 12 4, .cell 12 5, .cell 12 6, .cell 12 7, .cell 12 8, .cell 12 9, .cell 12 10, .cell 12 11, .cell 12 12, .cell 12 13, .cell 12 14, .cell 12 15, .cell 12 16, .cell 12 17, .cell 12 18, .cell 12 19, .cell 12 20, .cell 12 21, .cell 12 22, .cell 12 23, .cell 12 24, .cell 12 25, .cell 12 26, .cell 12 27, .cell 12 28, .cell 13 0, .cell 13 1, .cell 13 2, .cell 13 3, .cell 13 4, .cell 13 5, .cell 13 6, .cell 13 7, .cell 13 8, .cell 13 9, .cell 13 10, .cell 13 11, .cell 13 12, .cell 13 13, .cell 13 14, .cell 13 15, .cell 13 16, .cell 13 17, .cell 13 18, .cell 13 19, .cell 13 20, .cell 13 21, .cell 13 22, .cell 13 23, .cell 13 24, .cell 13 25, .cell 13 26, .cell 13 27, .cell 13 28, .cell 13 29, .cell 14 0, .cell 14 1, .cell 14 2, .cell 14 3, .cell 14 4, .cell 14 5, .cell 14 6, .cell 14 7, .cell 14 8, .cell 14 9, .cell 14 10, .cell 14 11, .cell 14 12, .cell 14 13, .cell 14 14, .cell 14 15, .cell 14 16, .cell 14 17, .cell 14 18, .cell 14 19, .cell 14 20, .cell 14 21, .cell 14 22, .cell 14 23, .cell 14 24, .cell 14 25, .cell 14 26, .cell 14 27, .cell 14 28, .cell 14 29, .cell 10 0, .cell 10 1, .cell 10 2, .cell 10 3, .cell 10 4, .cell 10 5, .cell 10 6, .cell 10 7, .cell 10 8, .cell 10 9, .cell 10 10, .cell 10 11, .cell 10 12, .cell 10 13, .cell 10 14, .cell 10 15, .cell 10 16, .cell 10 17, .cell 10 18]) 8 (by kernel_rfl) (by kernel_rfl) (by kernel_rfl)
theorem reads (os : Os) {H : Type} (enc : TypeId × Value → H) : ∃ places, DataW.whole enc Tryz.prog ((errWorld os).forCall (fun _ _ => 0) ⟨#[], wArgs, []⟩).memory Tryz.f5.params.toList Rows.filmTwiceSpec.vars false wArgs.toList 8 =
  some ([.nil, .lit (.int .i64 0)], [], places) :=
 ⟨[], by kernel_rfl⟩
set_option maxRecDepth 100000 in
theorem lifted (os : Os) (started : os.Started) (H : Type) (enc : TypeId × Value → H) (F : Stop.Interp) :
  ReturnsInHanded {} Tryz.checked os 5 .any ((OpenSpec.ofChange Rows.filmTwiceSpec).preRow enc Tryz.prog Tryz.f5 Rows.filmTwiceRow.domain false Rows.filmTwiceRow.laid) (((OpenSpec.ofChange Rows.filmTwiceSpec).at F).post enc Tryz.prog Tryz.f5 false true false false) := by
 obtain ⟨places, hx⟩ := reads os enc
 refine returnsInHanded_of_row (C := Tryz.checked) (s := OpenSpec.ofChange Rows.filmTwiceSpec) fact.own started (by kernel_rfl) Tryz.func5
  (witness_row_at (enc := enc) (C := Tryz.checked) false (errWorld os) wArgs rfl (by kernel_rfl) (by kernel_rfl) (by kernel_rfl)
   (OpenSpec.preRow_of_cond 8 hx (by kernel_rfl) (fun k hk => by cases hk) (by kernel_rfl) (laid_met os))) ?_
 intro W base args ds gs before hval hW _ _ hz hL _ _
 exact contract H enc W base args ds gs before hval hW hz hL
theorem named : Tryz.prog.funcNamed "layercake/layercakelaw3.FilmTwice" = some 5 := by kernel_rfl
theorem k3 : (Rows.filmTwiceRow.inPlace == Tryz.prog.inPlace 5) = true := by kernel_rfl
theorem k4 : (Rows.filmTwiceRow.unfollowed == Tryz.prog.unfollowed 5) = true := by kernel_rfl
theorem k5 : (Rows.filmTwiceRow.recurses == Tryz.prog.recurses 5) = true := by kernel_rfl
theorem k6 : (Rows.filmTwiceRow.named == Tryz.prog.varsNamed 5) = true := by kernel_rfl
theorem k7 : (Rows.filmTwiceRow.plainKeys == Tryz.prog.plainKeys) = true := by rw [fact.plainKeys]; rfl
theorem joined : joinedFacts Tryz.prog 5 Tryz.f5 Rows.filmTwiceSpec Rows.filmTwiceRow = true :=
 joined_split fact.laidOut fact.rowed k3 k4 k5 k6 k7 fact.stopsHeard fact.mayEnter fact.lifts (by kernel_rfl) (by kernel_rfl) (by kernel_rfl) (by kernel_rfl) (by kernel_rfl) (by kernel_rfl) (by kernel_rfl) (by kernel_rfl)
theorem inst : Tryz.f5.isInstance Tryz.prog Rows.filmTwiceRow.origin Rows.filmTwiceRow.targs := of_decide_eq_true (by kernel_rfl)
theorem wrap : Tryz.f5.isWrapper Tryz.prog Rows.filmTwiceRow.wrapper Rows.filmTwiceRow.mainSum := by
 unfold Func.isWrapper
 first | (rw [if_pos (by decide +kernel)]; kernel_rfl) | (rw [if_neg (by decide +kernel)]; exact ⟨rfl, rfl⟩)
end Go.Proofs.YtkegkelaffohjaaGreatDoor.filmTwice
