/- Closed facts of the program, for every row: the types' table. Closed facts of the program, for every row: what may be entered. Closed facts of the program, for every row: what is lifted. Closed facts of the program, for every card: its looks. The closed facts of a row, one by one. -/
import Derived.Test.YtkegkelaffohjaaGreatDoorChecked
import Derived.ProofKit
import Derived.KernelRfl
import Derived.JoinedOf
import Derived.Test.YtkegkelaffohjaaGreatDoorRows
import Derived.Test.YtkegkelaffohjaaGreatDoorCards
namespace Go.Proofs.YtkegkelaffohjaaGreatDoor.fact
open Go
theorem laidOut : laidOutB Tryz.prog = true := by kernel_rfl
theorem rowed : mapsRowed Tryz.prog = true := by kernel_rfl
theorem own : ownKnob Tryz.prog.godebug = none := by kernel_rfl
theorem stopsHeard : Tryz.prog.stopsHeard = true := by kernel_rfl
theorem plainKeys : Tryz.prog.plainKeys = false := by kernel_rfl
end Go.Proofs.YtkegkelaffohjaaGreatDoor.fact
namespace Go.Proofs.YtkegkelaffohjaaGreatDoor.fact
open Go
theorem mayEnter : Tryz.prog.mayEnter = true := by kernel_rfl
end Go.Proofs.YtkegkelaffohjaaGreatDoor.fact
namespace Go.Proofs.YtkegkelaffohjaaGreatDoor.fact
open Go
theorem lifts : (Rows.filmTwiceRow.lifted == Tryz.prog.liftsFinal) = true := by kernel_rfl
end Go.Proofs.YtkegkelaffohjaaGreatDoor.fact
namespace Go.Proofs.YtkegkelaffohjaaGreatDoor.fact
open Go
theorem looks : Tryz.pinned.checked.prog.looks [] = true := by kernel_rfl
theorem main : Tryz.pinned.checked.prog.mainIs = some (true, "959e3ff351b1242c69b4770da7abdf9bdad6518126b6c166cb450a1a6d119828".toList) := by kernel_rfl
end Go.Proofs.YtkegkelaffohjaaGreatDoor.fact
namespace Go.Proofs.YtkegkelaffohjaaGreatDoor
open Go
theorem joined_split {P : Program} {f : FuncId} {fn : Func} {s : ChangeSpec} {c : OpenClaim} (h1 : laidOutB P = true) (h2 : mapsRowed P = true) (h3 : (c.inPlace == P.inPlace f) = true) (h4 : (c.unfollowed == P.unfollowed f) = true)
  (h5 : (c.recurses == P.recurses f) = true) (h6 : (c.named == P.varsNamed f) = true) (h7 : (c.plainKeys == P.plainKeys) = true) (h8 : P.stopsHeard = true) (h9 : P.mayEnter = true) (h10 : (c.lifted == P.liftsFinal) = true)
  (r1 : c.wf (OpenSpec.ofChange s) = true) (r2 : (fn.params.all (P.readableRec ·) && namedTie P c.named s.vars) = true) (r3 : ((c.stops == []) && (P.stops == []) && (c.knobs == []) && (P.stopKnobs == [])) = true)
  (r4 : ((c.maps == (fn.params.toList ++ s.plain.varTypes P).any (P.mapsRec ·)) && (c.ifaces == (fn.params.toList ++ s.plain.varTypes P).any (P.ifacesRec ·)) && (c.mapsOut == P.mapsAmong fn.resultTypes.toList)) = true)
  (r5 : ((c.loops == (fn.params.toList ++ s.plain.varTypes P).any (P.loopsFrom ·)) && (c.wideKeys == (fn.params.toList ++ s.plain.varTypes P ++ fn.resultTypes.toList).any (P.wideKeysFrom ·))) = true)
  (r6 : (s.vars.all (P.varReadable ·) && fn.resultTypes.all (fun t => P.readableRec t && decide (t < P.types.size)) && (c.ifacesOut == fn.resultTypes.toList.any (P.ifacesRec ·)) && (c.loopsOut == fn.resultTypes.toList.any (P.loopsFrom ·))) = true)
  (r7 : (c.shortTexts.isNone && (P.make == some c.make) && (c.kinds == (if c.domain.isEmpty then [] else fn.params.toList.map fun t => match P.underlying t with | some (.int k) => some k | _ => none)) && (c.pinned == c.pinnedBy)) = true)
  (r8 : ((c.veiled == (fn.params.toList ++ s.plain.varTypes P ++ fn.resultTypes.toList).any (P.veiledRec ·)) && c.veiledFits P fn.params.toList (fn.params.toList ++ s.plain.varTypes P ++ fn.resultTypes.toList)) = true) :
  joinedFacts P f fn s c = true := by
 unfold joinedFacts
 simp only [Bool.and_eq_true] at *
 obtain ⟨a1, a2⟩ := r2
 obtain ⟨⟨⟨b1, b2⟩, b3⟩, b4⟩ := r3
 obtain ⟨⟨d1, d2⟩, d3⟩ := r4
 obtain ⟨e1, e2⟩ := r5
 obtain ⟨⟨⟨g1, g2⟩, g3⟩, g4⟩ := r6
 obtain ⟨⟨⟨i1, i2⟩, i3⟩, i4⟩ := r7
 obtain ⟨j1, j2⟩ := r8
 repeat' (first | assumption | refine ⟨?_, ?_⟩)
end Go.Proofs.YtkegkelaffohjaaGreatDoor
