/- FrMem, FrArg: put together. -/
import Derived.Test.YtkegkelaffohjaaGreatDoorKCFilmTwice1
import Derived.Test.YtkegkelaffohjaaGreatDoorKCFilmTwice0
import Derived.Test.YtkegkelaffohjaaGreatDoorKCFilmTwice3
/- Frames in memory: a picture and a delay each; frames of the call's own. -/
namespace Go.Proofs.YtkegkelaffohjaaGreatDoor
open Go Go.RowKit
structure Fr where
 wide : Int
 high : Int
 ps : List Px
 delay : Int
structure FM where
 f : Fr
 A : Option Addr
 n : Nat
 c : Nat
instance : Inhabited FM := ⟨⟨⟨0, 0, [], 0⟩, none, 0, 0⟩⟩
def frCs (m : FM) : List Value := [.int .i64 m.f.wide, .int .i64 m.f.high, .slice m.A m.n m.c, .int .i64 m.f.delay]
def frCells (ms : List FM) : List Value := ms.flatMap frCs
theorem frCells_length (ms : List FM) : (frCells ms).length = ms.length * 4 := flatCells_length frCs 4 (fun _ => rfl) ms
theorem frCells_at (ms : List FM) (k : Nat) (hk : k < ms.length) (j : Nat) (hj : j < 4) : (frCells ms)[k * 4 + j]? = (frCs ms[k])[j]? := flatCells_at frCs 4 (fun _ => rfl) ms k hk j hj
theorem frCells_one (ms : List FM) : ∀ u ∈ frCells ms, u.oneCell' = true := by
 intro u hu
 obtain ⟨m, _, hm⟩ := List.mem_flatMap.1 hu
 simp only [frCs, List.mem_cons, List.not_mem_nil, or_false] at hm
 rcases hm with rfl | rfl | rfl | rfl <;> rfl
theorem frCells_append (a b : List FM) : frCells (a ++ b) = frCells a ++ frCells b := by simp [frCells]
theorem frCells_single (m : FM) : frCells [m] = frCs m := by simp [frCells]
def Frs (w : World) (B : Nat) (A : Option Addr) (n : Nat) (ms : List FM) : Prop :=
 Reads w B 4 A n (frCells ms) ∧ ∀ m ∈ ms, Reads w B 4 m.A m.n (pxCells m.f.ps)
section
variable {w w' : World} {B B' n : Nat} {A : Option Addr} {ms : List FM}
theorem Frs.len (h : Frs w B A n ms) : n = ms.length := by
 have := h.1.1
 rw [frCells_length] at this
 omega
theorem Frs.below (h : Frs w B A n ms) {C : Nat} (hb : Below C w w') (hC : B ≤ C) : Frs w' B A n ms := ⟨h.1.below hb hC, fun m hm => (h.2 m hm).below hb hC⟩
theorem Frs.more (h : Frs w B A n ms) (hB : B ≤ B') : Frs w B' A n ms := ⟨h.1.more hB, fun m hm => (h.2 m hm).more hB⟩
theorem Frs.step (h : Frs w w.heap.size A n ms) (hb : Below w.heap.size w w') : Frs w' w'.heap.size A n ms := (h.below hb (Nat.le_refl _)).more hb.size
theorem Frs.at {b off : Nat} (h : Frs w B (some ⟨b, off, none⟩) n ms) (k : Nat) (hk : k < ms.length) (j : Nat) (hj : j < 4) : w.cell? ⟨b, off + k * 4 + j, none⟩ = (frCs ms[k])[j]? := by
 have hn := h.len
 rw [Nat.add_assoc, h.1.cell rfl _ (by omega), frCells_at ms k hk j hj]
theorem Frs.px (h : Frs w B A n ms) (k : Nat) (hk : k < ms.length) : Reads w B 4 ms[k].A ms[k].n (pxCells ms[k].f.ps) := h.2 _ (List.getElem_mem hk)
end
def OffFr (A : Option Addr) (n : Nat) (v : Value) : Prop := ∀ b off, A = some ⟨b, off, none⟩ → 0 < n → v.ownBlock ≠ some b
structure FrsO (w : World) (base : Nat) (v : Value) (ms : List FM) : Prop where
 own : Own w base 4 v ms.length (frCells ms)
 px : ∀ m ∈ ms, Reads w w.heap.size 4 m.A m.n (pxCells m.f.ps)
 off : ∀ m ∈ ms, OffFr m.A m.n v
section
variable {w w' : World} {base : Nat} {v v' : Value} {ms : List FM}
theorem FrsO.nil (w : World) (base : Nat) : FrsO w base (.slice none 0 0) [] := ⟨Own.nil _ _ _, (fun m h => by cases h), (fun m h => by cases h)⟩
theorem FrsO.frs {A : Option Addr} {n c : Nat} (h : FrsO w base (.slice A n c) ms) : Frs w w.heap.size A n ms := by
 obtain ⟨e, hr⟩ := h.own.reads
 subst e
 exact ⟨hr, h.px⟩
theorem FrsO.below {B : Nat} (h : FrsO w base v ms) (hb : Below B w w') (hB : w.heap.size ≤ B) : FrsO w' base v ms :=
 ⟨h.own.below hb hB, fun m hm => ((h.px m hm).below hb hB).more hb.size, h.off⟩
theorem FrsO.alloc (h : FrsO w base v ms) (o : Obj) : FrsO (w.alloc o) base v ms := h.below ((Below.refl _ _).alloc (Nat.le_refl _) o) (Nat.le_refl _)
theorem FrsO.snoc (h : FrsO w base v ms) {m : FM} (ho : Own w' base 4 v' (ms.length + 1) (frCells ms ++ frCs m)) (hg : w.grownBy w' v.ownBlock) (hat : v'.ownBlock = v.ownBlock ∨ v'.ownBlock = some w.heap.size)
  (hm : Reads w w.heap.size 4 m.A m.n (pxCells m.f.ps)) (hoff : OffFr m.A m.n v) : FrsO w' base v' (ms ++ [m]) := by
 have key : ∀ x : FM, Reads w w.heap.size 4 x.A x.n (pxCells x.f.ps) → OffFr x.A x.n v → Reads w' w'.heap.size 4 x.A x.n (pxCells x.f.ps) ∧ OffFr x.A x.n v' := by
  intro x hx hxo
  refine ⟨hx.keepAt hg.size fun b off e hb hn => hg.block b hb (fun e2 => hxo b off e (by omega) e2.symm), fun b off e hn e2 => ?_⟩
  rcases hat with h1 | h1
  ·exact hxo b off e hn (by rw [← h1]; exact e2)
  ·obtain ⟨b', off', e', hb', _⟩ := hx.2 (by omega)
   rw [e] at e'
   injection e' with e'
   injection e' with e' _
   rw [h1] at e2
   injection e2 with e2
   omega
 refine ⟨by rw [frCells_append, frCells_single, List.length_append]; exact ho, fun x hx => ?_, fun x hx => ?_⟩
 all_goals
  rcases List.mem_append.1 hx with h1 | h1
 ·exact (key x (h.px x h1) (h.off x h1)).1
 ·rw [List.mem_singleton.1 h1]; exact (key m hm hoff).1
 ·exact (key x (h.px x h1) (h.off x h1)).2
 ·rw [List.mem_singleton.1 h1]; exact (key m hm hoff).2
end
end Go.Proofs.YtkegkelaffohjaaGreatDoor
/- An argument that is frames, with what its row says of sizes. -/
namespace Go.Proofs.YtkegkelaffohjaaGreatDoor
open Go Go.RowKit Go.ChangeShapes Go.WideShapes Go.Deep Go.Joins
namespace fra
theorem frRow : ∃ f0 f1, Tryz.prog.underlying 49 = some (.struct #[f0, f1]) ∧ (f0.offset = 0 ∧ f0.type = 44) ∧ (f1.offset = 3 ∧ Tryz.prog.cellsOf f1.type = 1 ∧ Tryz.prog.underlying f1.type = some (.int .i64)) :=
 ⟨_, _, Tryz.underlying49, ⟨by kernel_rfl, by kernel_rfl⟩, ⟨by kernel_rfl, by kernel_rfl, Tryz.underlying3⟩⟩
theorem frCellsN : Tryz.prog.cellsOf 49 = 4 := by kernel_rfl
end fra
section
variable {H : Type} {enc : TypeId × Value → H} {w : World} {base : Nat} {spare : Nat → Bool} {held : Bool}
set_option maxRecDepth 100000 in
theorem fr_cellsW {fuel : Nat} {cs : List Value} {x : DataW H × List MemPlace} (ht : DataW.trod enc Tryz.prog w base spare held fuel 49 cs = some x) (hw : InReach Tryz.prog 49 x.1) :
  ∃ m : FM, cs = frCs m ∧ Reads w w.heap.size 4 m.A m.n (pxCells m.f.ps) ∧ m.n ≤ reachBytes := by
 obtain ⟨f0, f1, hs, ⟨o0, t0⟩, ⟨o1, k1, t1⟩⟩ := fra.frRow
 obtain ⟨xs, n, _, hx, hl, hlen, hf⟩ := DataW.trod_struct hs ht
 rw [fra.frCellsN] at hl
 rw [hx] at hw
 match cs, hl with
 | [c0, c1, c2, c3], _ =>
  match xs, hlen with
  | [y0, y1], _ =>
   have h0 := hf 0 f0 rfl
   have h1 := hf 1 f1 rfl
   have hw0 := inReach_each (hw.struct_ hs) 0 f0.type y0.1 rfl rfl
   rw [o0, t0, daw.picT.cells] at h0
   rw [t0] at hw0
   rw [o1, k1] at h1
   obtain ⟨n1, e1, _, _⟩ := DataW.trod_int t1 h1
   obtain ⟨W, H', A, len, cap, l, e6, e7, e8, hr, hq⟩ := pic_cellsW h0 hw0
   simp at e1
   subst e1; subst e6; subst e7; subst e8
   exact ⟨⟨⟨W, H', l, n1⟩, A, len, cap⟩, rfl, hr, hq⟩
set_option maxRecDepth 100000 in
theorem frs_argW {r : Reach} {b0 : Nat} {v : Value} {d : DataW H} {p : List MemPlace} (hv : Value.okWide Tryz.prog w r b0 28 v) (ht : DataW.Trod enc Tryz.prog w base spare held 28 v d p) (hw : InReach Tryz.prog 28 d) :
  ∃ (A : Option Addr) (n c : Nat) (ms : List FM), v = .slice A n c ∧ Frs w w.heap.size A n ms ∧ n ≤ 9223372036854775807 ∧ ∀ m ∈ ms, m.n ≤ reachBytes := by
 obtain ⟨A, len, cap, rfl⟩ := okWide_slice Tryz.underlying28 hv
 obtain ⟨fuel, hf⟩ := ht
 have hf' : DataW.trod enc Tryz.prog w base spare held fuel 28 [.slice A len cap] = some (d, p) := by simpa [Value.cells] using hf
 obtain ⟨A', len', cap', l, e, hr, _, hq⟩ := slice_fieldW (κ := FM) Tryz.underlying28 4 frCs (fun _ => rfl) (by decide) fra.frCellsN (fun m => Reads w w.heap.size 4 m.A m.n (pxCells m.f.ps) ∧ m.n ≤ reachBytes) (fun _ _ _ h hw => fr_cellsW h hw) hf' hw
 injection e with e1 e2 e3
 subst e1; subst e2; subst e3
 exact ⟨A, len, cap, l, rfl, ⟨hr, fun m hm => (hq m hm).1⟩, slice_lenW Tryz.underlying28 hf', fun m hm => (hq m hm).2⟩
end
end Go.Proofs.YtkegkelaffohjaaGreatDoor
