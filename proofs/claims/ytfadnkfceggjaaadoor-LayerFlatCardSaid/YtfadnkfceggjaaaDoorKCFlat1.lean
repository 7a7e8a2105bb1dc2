/- DocArgW, CodeF, Coded, Look, Still, TameIs, FlatAs, LFlat: put together. -/
import Derived.Test.YtfadnkfceggjaaaDoorLayMem
import Derived.Test.YtfadnkfceggjaaaDoorCode
import Derived.Test.YtfadnkfceggjaaaDoorCheckBad
import Derived.Test.YtfadnkfceggjaaaDoorFlatten
import Derived.Test.YtfadnkfceggjaaaDoorKCFlat0
import Derived.Test.YtfadnkfceggjaaaDoorSamePic
import Derived.Test.YtfadnkfceggjaaaDoorBlank
import Derived.IntWalk
import Derived.Test.YtfadnkfceggjaaaDoorDocOf
import Derived.Test.YtfadnkfceggjaaaDoorCheckOf
import Derived.Test.YtfadnkfceggjaaaDoorPxCmp
import Derived.Deep.RegionHeld3
import Derived.Deep.QuietTactic
import Derived.BigQuiet
/- An argument that is a document, with what its row says of sizes. -/
namespace Go.Proofs.YtfadnkfceggjaaaDoor
open Go Go.RowKit Go.ChangeShapes Go.WideShapes Go.Deep Go.Joins

namespace daw
theorem pxT : PxT Tryd.prog 49 := ⟨⟨_, _, _, _, Tryd.underlying49, by kernel_rfl, Tryd.underlying5, Tryd.underlying5, Tryd.underlying5, Tryd.underlying5⟩, by kernel_rfl⟩
theorem picT : PicT Tryd.prog 37 49 := ⟨⟨_, _, _, Tryd.underlying37, by kernel_rfl, Tryd.underlying3, Tryd.underlying3, Tryd.underlying35⟩, by kernel_rfl, pxT⟩
theorem layRow : ∃ f0 f1 f2 f3 f4 f5 f6, Tryd.prog.underlying 58 = some (.struct #[f0, f1, f2, f3, f4, f5, f6]) ∧
    (f0.offset = 0 ∧ Tryd.prog.cellsOf f0.type = 1 ∧ Tryd.prog.underlying f0.type = some .string) ∧ (f1.offset = 1 ∧ Tryd.prog.cellsOf f1.type = 1 ∧ Tryd.prog.underlying f1.type = some (.int .i64)) ∧
    (f2.offset = 2 ∧ Tryd.prog.cellsOf f2.type = 1 ∧ Tryd.prog.underlying f2.type = some (.int .i64)) ∧ (f3.offset = 3 ∧ Tryd.prog.cellsOf f3.type = 1 ∧ Tryd.prog.underlying f3.type = some .bool) ∧
    (f4.offset = 4 ∧ Tryd.prog.cellsOf f4.type = 1 ∧ Tryd.prog.underlying f4.type = some (.int .i64)) ∧ (f5.offset = 5 ∧ Tryd.prog.cellsOf f5.type = 1 ∧ Tryd.prog.underlying f5.type = some (.int .i64)) ∧
    f6.offset = 6 ∧ f6.type = 37 :=
  ⟨_, _, _, _, _, _, _, Tryd.underlying58, ⟨by kernel_rfl, by kernel_rfl, Tryd.underlying9⟩, ⟨by kernel_rfl, by kernel_rfl, Tryd.underlying3⟩, ⟨by kernel_rfl, by kernel_rfl, Tryd.underlying3⟩,
    ⟨by kernel_rfl, by kernel_rfl, Tryd.underlying4⟩, ⟨by kernel_rfl, by kernel_rfl, Tryd.underlying3⟩, ⟨by kernel_rfl, by kernel_rfl, Tryd.underlying3⟩, by kernel_rfl, by kernel_rfl⟩
theorem layCellsN : Tryd.prog.cellsOf 58 = 9 := by kernel_rfl
theorem docOne : ∃ f0 f1 f2, Tryd.prog.underlying 24 = some (.struct #[f0, f1, f2]) ∧ oneCellFields Tryd.prog #[f0, f1, f2] = true ∧ Tryd.prog.underlying f0.type = some (.int .i64) ∧ Tryd.prog.underlying f1.type = some (.int .i64) ∧ f2.type = 22 :=
  ⟨_, _, _, Tryd.underlying24, by kernel_rfl, Tryd.underlying3, Tryd.underlying3, by kernel_rfl⟩
theorem pxBytes : 0 < Tryd.prog.bytesOf 49 := of_decide_eq_true (by kernel_rfl)
theorem docCells : Tryd.prog.cellsOf 24 = 3 := by kernel_rfl
end daw

section
variable {H : Type} {enc : TypeId × Value → H} {w : World} {base : Nat} {spare : Nat → Bool} {held : Bool}
/-- All that data weighs is in reach. -/
def InReach {K : Type} (P : Program) (t : TypeId) (d : DataW K) : Prop := (d.weights P t).all (· ≤ reachBytes) = true
theorem InReach.struct_ {K : Type} {P : Program} {t : TypeId} {fs : Array Field} (ht : P.underlying t = some (.struct fs)) {parts : List (DataW K)} (h : InReach P t (.agg parts)) : (DataW.weightsEach P (fs.toList.map (·.type)) parts).all (· ≤ reachBytes) = true := by
  unfold InReach at h
  simpa only [DataW.weights, ht] using h
theorem inReach_each {K : Type} {P : Program} : ∀ {ts : List TypeId} {ds : List (DataW K)}, (DataW.weightsEach P ts ds).all (· ≤ reachBytes) = true → ∀ (i : Nat) (t : TypeId) (d : DataW K), ts[i]? = some t → ds[i]? = some d → InReach P t d
  | [], _, _, i, t, d, ht, _ => by simp at ht
  | _ :: _, [], _, i, t, d, _, hd => by simp at hd
  | t0 :: ts, d0 :: ds, h, i, t, d, ht, hd => by
    simp only [DataW.weightsEach, List.all_append, Bool.and_eq_true] at h
    cases i with
    | zero =>
      simp only [List.getElem?_cons_zero, Option.some.injEq] at ht hd
      subst ht; subst hd
      exact h.1
    | succ i => exact inReach_each h.2 i t d (by simpa using ht) (by simpa using hd)
theorem inReach_all {K : Type} {P : Program} {e : TypeId} : ∀ {ds : List (DataW K)}, (DataW.weightsAll P e ds).all (· ≤ reachBytes) = true → ∀ d ∈ ds, InReach P e d
  | [], _, d, hd => by cases hd
  | d0 :: ds, h, d, hd => by
    simp only [DataW.weightsAll, List.all_append, Bool.and_eq_true] at h
    rcases List.mem_cons.1 hd with rfl | hd
    · exact h.1
    · exact inReach_all h.2 d hd
theorem InReach.slice_ {K : Type} {P : Program} {t e : TypeId} (ht : P.underlying t = some (.slice e)) {elems spare : List (DataW K)} (h : InReach P t (.slice elems spare)) : (elems.length + spare.length) * P.bytesOf e ≤ reachBytes ∧ ∀ d ∈ elems, InReach P e d := by
  unfold InReach at h
  simp only [DataW.weights, ht, List.all_cons, List.all_append, Bool.and_eq_true, decide_eq_true_eq] at h
  exact ⟨h.1, inReach_all h.2.1⟩
/-- A slice of elements that weigh something: not many. -/
theorem slice_reach {P : Program} {te ts : TypeId} (hs : P.underlying ts = some (.slice te)) (hb : 0 < P.bytesOf te) {fuel : Nat} {A : Option Addr} {len cap : Nat} {x : DataW H × List MemPlace} (ht : DataW.trod enc P w base spare held fuel ts [.slice A len cap] = some x) (hw : InReach P ts x.1) : len ≤ reachBytes := by
  rcases open_slice hs ht with ⟨hc, _⟩ | ⟨a, len', cap', m, n, D, Pl, hc, _, hlc, hcm, hm, hx, _⟩
  · injection hc with hc
    injection hc with _ h _
    omega
  · injection hc with hc
    injection hc with _ h _
    subst h
    rw [hx] at hw
    have h1 := (hw.slice_ hs).1
    simp only [List.length_map, List.length_range] at h1
    have h2 := Nat.le_mul_of_pos_right (len + (m - len)) hb
    omega
/-- As slice_field, with what the weights say of each element. -/
theorem slice_fieldW {κ : Type} [Inhabited κ] {P : Program} {te ts : TypeId} (hs : P.underlying ts = some (.slice te)) (size : Nat) (cellsOf : κ → List Value) (hl : ∀ p, (cellsOf p).length = size) (hsz : 0 < size) (hc : P.cellsOf te = size) (Q : κ → Prop)
    (hopen : ∀ (fuel : Nat) (cs : List Value) (x : DataW H × List MemPlace), DataW.trod enc P w base spare held fuel te cs = some x → InReach P te x.1 → ∃ p, cs = cellsOf p ∧ Q p)
    {fuel : Nat} {c : Value} {x : DataW H × List MemPlace} (ht : DataW.trod enc P w base spare held fuel ts [c] = some x) (hw : InReach P ts x.1) :
    ∃ (A : Option Addr) (len cap : Nat) (l : List κ), c = .slice A len cap ∧ Reads w w.heap.size size A len (l.flatMap cellsOf) ∧ l.length = len ∧ ∀ p ∈ l, Q p := by
  rcases open_slice hs ht with ⟨hc, _⟩ | ⟨a, len, cap, m, n, D, Pl, hc', _, hlc, _, hm, hxD, hi⟩
  · injection hc with hc
    exact ⟨none, 0, 0, [], hc, ⟨by simp, fun h => absurd h (by omega)⟩, rfl, fun p hp => by cases hp⟩
  · injection hc' with hc'
    have hlm : len ≤ m := by rw [hm]; split <;> omega
    rw [hxD] at hw
    have hwD := (hw.slice_ hs).2
    have hx : ∀ i, ∃ p : κ, i < len → Q p ∧ ∀ j, j < size → w.cell? (a.add (i * size + j)) = (cellsOf p)[j]? := by
      intro i
      by_cases hil : i < len
      · obtain ⟨cs', hcs, htr⟩ := hi i (by omega)
        obtain ⟨p, rfl, hq⟩ := hopen _ _ _ htr (hwD _ (List.mem_map.2 ⟨i, List.mem_range.2 hil, rfl⟩))
        rw [hc] at hcs
        obtain ⟨_, _, hat⟩ := World.cells?_some hcs
        exact ⟨p, fun _ => ⟨hq, fun j hj => by rw [← add_of_add]; exact hat j hj⟩⟩
      · exact ⟨default, fun hh => absurd hh hil⟩
    have hat : ∀ i, (hi : i < len) → ((List.range len).map fun i => Classical.choose (hx i))[i]'(by simpa using hi) = Classical.choose (hx i) := fun i hi => by simp
    refine ⟨some a, len, cap, (List.range len).map fun i => Classical.choose (hx i), hc', ⟨by rw [flatCells_length _ size hl]; simp, fun hpos => ?_⟩, by simp, fun p hp => ?_⟩
    · have hlen : 0 < len := by
        rcases Nat.eq_zero_or_pos len with h | h
        · subst h; simp at hpos
        · exact h
      have h0 := (Classical.choose_spec (hx 0) hlen).2 0 hsz
      obtain ⟨u0, hu0⟩ : ∃ u0, (cellsOf (Classical.choose (hx 0)))[0]? = some u0 := ⟨_, List.getElem?_eq_getElem (by rw [hl]; exact hsz)⟩
      rw [hu0] at h0
      have e0 : a.add (0 * size + 0) = a := by simp [Addr.add]
      rw [e0] at h0
      have hsp := World.cell?_spot h0
      have hlt := World.block_lt_of_cell? w _ h0
      obtain ⟨b, off, sp⟩ := a
      simp only at hsp
      subst hsp
      refine ⟨b, off, rfl, hlt, fun j u hu => ?_⟩
      have hjl : j < len * size := by
        have := (List.getElem?_eq_some_iff.1 hu).1
        rw [flatCells_length _ size hl] at this
        simpa using this
      have hq : j / size < len := Nat.div_lt_of_lt_mul (by rwa [Nat.mul_comm])
      have e : j = j / size * size + j % size := by have := Nat.div_add_mod j size; rw [Nat.mul_comm] at this; omega
      have hmod : j % size < size := Nat.mod_lt _ hsz
      have h1 := (Classical.choose_spec (hx (j / size)) hq).2 (j % size) hmod
      rw [← e, add_lit] at h1
      rw [h1, ← hu]
      conv => rhs; rw [e]
      rw [flatCells_at _ size hl _ (j / size) (by simpa using hq) _ hmod, hat _ hq]
    · obtain ⟨i, hi', e⟩ := List.mem_map.1 hp
      subst e
      exact (Classical.choose_spec (hx i) (List.mem_range.1 hi')).1
/-- Three cells that are a picture. -/
theorem pic_cellsW {fuel : Nat} {c0 c1 c2 : Value} {x : DataW H × List MemPlace} (ht : DataW.trod enc Tryd.prog w base spare held fuel 37 [c0, c1, c2] = some x) (hw : InReach Tryd.prog 37 x.1) :
    ∃ (W H' : Int) (A : Option Addr) (len cap : Nat) (l : List Px), c0 = .int .i64 W ∧ c1 = .int .i64 H' ∧ c2 = .slice A len cap ∧ Reads w w.heap.size 4 A len (pxCells l) ∧ len ≤ reachBytes := by
  obtain ⟨f0, f1, f2, hs, hone, t0, t1, t2⟩ := daw.picT.row
  obtain ⟨y0, y1, y2, n, hx, _, h0, h1, h2⟩ := trod_struct3 hs ht
  obtain ⟨o0, k0⟩ := hone_of hone 0 f0 rfl
  obtain ⟨o1, k1⟩ := hone_of hone 1 f1 rfl
  obtain ⟨o2, k2⟩ := hone_of hone 2 f2 rfl
  rw [o0, k0] at h0
  rw [o1, k1] at h1
  rw [o2, k2] at h2
  obtain ⟨n0, e0, _, _⟩ := DataW.trod_int t0 h0
  obtain ⟨n1, e1, _, _⟩ := DataW.trod_int t1 h1
  have h2' : DataW.trod enc Tryd.prog w base spare held n f2.type [c2] = some y2 := by simpa using h2
  obtain ⟨A, len, cap, l, e2, hr⟩ := pxs_field daw.pxT t2 (c := c2) h2'
  simp at e0 e1
  rw [hx] at hw
  have hw2 := inReach_each (hw.struct_ hs) 2 f2.type y2.1 rfl rfl
  rw [e2] at h2'
  exact ⟨n0, n1, A, len, cap, l, e0, e1, e2, hr, slice_reach t2 daw.pxBytes h2' hw2⟩
set_option maxRecDepth 100000 in
theorem lay_cellsW {fuel : Nat} {cs : List Value} {x : DataW H × List MemPlace} (ht : DataW.trod enc Tryd.prog w base spare held fuel 58 cs = some x) (hw : InReach Tryd.prog 58 x.1) :
    ∃ m : LM, cs = layCs m ∧ Reads w w.heap.size 4 m.A m.n (pxCells m.l.ps) ∧ m.n ≤ reachBytes := by
  obtain ⟨f0, f1, f2, f3, f4, f5, f6, hs, ⟨o0, k0, t0⟩, ⟨o1, k1, t1⟩, ⟨o2, k2, t2⟩, ⟨o3, k3, t3⟩, ⟨o4, k4, t4⟩, ⟨o5, k5, t5⟩, o6, t6⟩ := daw.layRow
  obtain ⟨xs, n, _, hx, hl, hlen, hf⟩ := DataW.trod_struct hs ht
  rw [daw.layCellsN] at hl
  rw [hx] at hw
  match cs, hl with
  | [c0, c1, c2, c3, c4, c5, c6, c7, c8], _ =>
    match xs, hlen with
    | [y0, y1, y2, y3, y4, y5, y6], _ =>
      have h0 := hf 0 f0 rfl
      have h1 := hf 1 f1 rfl
      have h2 := hf 2 f2 rfl
      have h3 := hf 3 f3 rfl
      have h4 := hf 4 f4 rfl
      have h5 := hf 5 f5 rfl
      have h6 := hf 6 f6 rfl
      have hw6 := inReach_each (hw.struct_ hs) 6 f6.type y6.1 rfl rfl
      rw [o0, k0] at h0
      rw [o1, k1] at h1
      rw [o2, k2] at h2
      rw [o3, k3] at h3
      rw [o4, k4] at h4
      rw [o5, k5] at h5
      rw [o6, t6, daw.picT.cells] at h6
      rw [t6] at hw6
      obtain ⟨s0, e0, _, _⟩ := DataW.trod_string t0 h0
      obtain ⟨n1, e1, _, _⟩ := DataW.trod_int t1 h1
      obtain ⟨n2, e2, _, _⟩ := DataW.trod_int t2 h2
      obtain ⟨b3, e3, _⟩ := DataW.trod_bool t3 h3
      obtain ⟨n4, e4, _, _⟩ := DataW.trod_int t4 h4
      obtain ⟨n5, e5, _, _⟩ := DataW.trod_int t5 h5
      obtain ⟨W, H', A, len, cap, l, e6, e7, e8, hr, hq⟩ := pic_cellsW h6 hw6
      simp at e0 e1 e2 e3 e4 e5
      subst e0; subst e1; subst e2; subst e3; subst e4; subst e5; subst e6; subst e7; subst e8
      exact ⟨⟨⟨s0, n1, n2, b3, n4, n5, W, H', l⟩, A, len, cap⟩, rfl, hr, hq⟩
theorem slice_lenW {te ts : TypeId} {P : Program} (hs : P.underlying ts = some (.slice te)) {fuel : Nat} {A : Option Addr} {len cap : Nat} {x : DataW H × List MemPlace} (ht : DataW.trod enc P w base spare held fuel ts [.slice A len cap] = some x) : len ≤ 9223372036854775807 := by
  rcases open_slice hs ht with ⟨hc, _⟩ | ⟨a, len', cap', m, n, D, Pl, hc, _, hlc, hcm, _⟩
  · injection hc with hc
    injection hc with _ h _
    omega
  · injection hc with hc
    injection hc with _ h _
    unfold maxLen at hcm
    omega
set_option maxRecDepth 100000 in
/-- The document: its sizes, its layers; none has more pixels than are in reach. -/
theorem doc_argW {r : Reach} {b0 : Nat} {v : Value} {d : DataW H} {p : List MemPlace} (hv : Value.okWide Tryd.prog w r b0 24 v) (ht : DataW.Trod enc Tryd.prog w base spare held 24 v d p) (hw : InReach Tryd.prog 24 d) :
    ∃ (W H' : Int) (A : Option Addr) (n c : Nat) (ms : List LM), v = .agg #[.int .i64 W, .int .i64 H', .slice A n c] ∧ Lays w w.heap.size A n ms ∧ n ≤ 9223372036854775807 ∧ ∀ m ∈ ms, m.n ≤ reachBytes := by
  obtain ⟨f0, f1, f2, hs, hone, t0, t1, t2⟩ := daw.docOne
  obtain ⟨v0, v1, v2, y0, y1, y2, n, rfl, hd, _, h0, h1, h2⟩ := open_agg3 hs hone daw.docCells hv ht
  obtain ⟨n0, e0, _, _⟩ := DataW.trod_int t0 h0
  obtain ⟨n1, e1, _, _⟩ := DataW.trod_int t1 h1
  injection e0 with e0
  injection e1 with e1
  subst e0; subst e1
  rw [hd] at hw
  have hw2 := inReach_each (hw.struct_ hs) 2 f2.type y2.1 rfl rfl
  rw [t2] at h2 hw2
  obtain ⟨A, len, cap, l, rfl, hr, _, hq⟩ := slice_fieldW (κ := LM) Tryd.underlying22 9 layCs (fun _ => rfl) (by decide) daw.layCellsN (fun m => Reads w w.heap.size 4 m.A m.n (pxCells m.l.ps) ∧ m.n ≤ reachBytes) (fun _ _ _ h hw => lay_cellsW h hw) h2 hw2
  exact ⟨n0, n1, A, len, cap, l, rfl, ⟨hr, fun m hm => (hq m hm).1⟩, slice_lenW Tryd.underlying22 h2, fun m hm => (hq m hm).2⟩
end
end Go.Proofs.YtfadnkfceggjaaaDoor
/- plain.Code at a fault. -/
namespace Go.Proofs.YtfadnkfceggjaaaDoor
open Go Go.RowKit

set_option maxRecDepth 100000 in
set_option maxHeartbeats 1000000 in
theorem code_fault (E : Nat → Addr) (i : Nat) (hi9 : i < 9) (pb po : Nat) (n : Int) (w : World) (hE : ErrsAt w E) (hn : w.cell? ⟨pb, po, none⟩ = some (.int .i64 n)) (he : w.cell? ⟨pb, po + 1, none⟩ = some (.iface 173 (.pointer (some (E i))))) :
    Calls Tryd.prog 43 #[.iface 83 (.pointer (some ⟨pb, po, none⟩))] w fun e w' => e = .returned (.tuple #[.int .i64 (i + 1 : Nat), .int .i64 n]) ∧ Below w.heap.size w w' := by
  go_enter Tryd.func43, Tryd.ntmps43
  go_wp2_with fail
  have lt := cell_lt hE.typ
  refine (as_hit ⟨pb, po, none⟩ ⟨w.heap.size, 0, none⟩ (.pointer none) _ (cell_past _ hE.typ) (cell_made _ _ _ rfl rfl) (free_made _ _ _ rfl)).mono ?_
  rintro e w1 ⟨rfl, hw1⟩
  have hb1 : Below w.heap.size w w1 := by rw [hw1]; go_grown
  have dt : w1.cell? ⟨w.heap.size, 0, none⟩ = some (.pointer (some ⟨pb, po, none⟩)) := by
    rw [hw1]
    exact cell_set_same _ (cell_past _ (cell_past _ (cell_past _ (cell_past _ (cell_made _ _ _ rfl rfl)))))
  have dn := bcell_ hb1 (cell_lt hn) hn
  clear hw1
  have hE1 := hE.below hb1
  have d0 := hE1.text
  have d1 := hE1.bound
  have d2 := hE1.shape
  have d3 := hE1.sum
  have d4 := hE1.name
  have d5 := hE1.none_
  have d6 := hE1.colors
  have d7 := hE1.full
  have d8 := hE1.power
  go_wp2_with fail
  go_loopw [3, 27] (fun a v wr => ∃ k, CoR w E i w1.heap.size n a v wr k) (fun _ v _ => 9 - (intOf v).toNat)
  case atStart => exact ⟨0, Nat.zero_le _, rfl, rfl, Blk.new _ _ _ rfl, Below.alloc hb1 hb1.size _⟩
  case round =>
    obtain ⟨k, hk, rfl, rfl, hlist, hb⟩ := hrel
    obtain ⟨wo, rfl⟩ : ∃ wo : World, wo = wr := ⟨_, rfl⟩
    have hEo := hE.below hb
    have hen := bcell_ hb (cell_lt he) he
    have dk : wo.cell? ⟨w1.heap.size, k, none⟩ = some (.iface 173 (.pointer (some (E k)))) := by
      rw [hlist.cell]
      have hk9 : k < 9 := by omega
      match k, hk9 with
      | 0, _ => rfl
      | 1, _ => rfl
      | 2, _ => rfl
      | 3, _ => rfl
      | 4, _ => rfl
      | 5, _ => rfl
      | 6, _ => rfl
      | 7, _ => rfl
      | 8, _ => rfl
    by_cases hki : k = i
    · subst hki
      go_wp2_with fail
      refine (is_fault_same pb po (E k) wo hen).mono ?_
      rintro e w3 ⟨rfl, rfl⟩
      go_wp2_with fail
      go_ret2
      exact ⟨rfl, hb⟩
    · obtain ⟨ci, ti, hbi⟩ := hEo.blk i hi9
      obtain ⟨ck, tk, hbk⟩ := hEo.blk k (by omega)
      have hne := hEo.ne i k hi9 (by omega) (fun e => hki e.symm)
      go_wp2_with fail
      refine (is_fault_other pb po (E k) (E i) ci ck ti tk wo hen hne hbi hbk).mono ?_
      rintro e w3 ⟨rfl, rfl⟩
      go_wp2_with fail
      go_roundw
      case rel => exact ⟨k + 1, by omega, rfl, by go_num, hlist, hb⟩
      case measure => simp [intOf]; omega
end Go.Proofs.YtfadnkfceggjaaaDoor
/- coded: nil; a sentinel. plain.Code at a fault. -/
namespace Go.Proofs.YtfadnkfceggjaaaDoor
open Go Go.RowKit

theorem coded_nil (c : Int) (w : World) : Calls Tryd.prog 20 #[.nilIface, .int .i64 c] w fun e w' => e = .returned (.bool (decide ((0 : Int) = c))) ∧ w' = w := by
  go_enter Tryd.func20, Tryd.ntmps20
  go_wp2_with fail
  refine (code_nil w).mono ?_
  rintro e w1 ⟨rfl, rfl⟩
  go_wp2
  all_goals go_ret
  all_goals exact ⟨by first | rfl | (simp; done) | (simp; omega), rfl⟩

theorem coded_sent (E : Nat → Addr) (i : Nat) (hi9 : i < 9) (c : Int) (w : World) (hE : ErrsAt w E) :
    Calls Tryd.prog 20 #[.iface 173 (.pointer (some (E i))), .int .i64 c] w fun e w' => e = .returned (.bool (decide ((i : Int) + 1 = c))) ∧ Below w.heap.size w w' := by
  go_enter Tryd.func20, Tryd.ntmps20
  go_wp2_with fail
  refine (code_sent E i hi9 w hE).mono ?_
  rintro e w1 ⟨rfl, hb⟩
  by_cases hc : (i : Int) + 1 = c
  · subst hc
    go_wp2
    all_goals go_ret
    all_goals exact ⟨by first | rfl | (simp; done) | (simp; omega), hb⟩
  · go_wp2
    all_goals go_ret
    all_goals exact ⟨by first | rfl | (simp; done) | (simp; omega), hb⟩
end Go.Proofs.YtfadnkfceggjaaaDoor
/- layer.Flatten and layer.Look at whatever document; faulted: the walks. -/
namespace Go.Proofs.YtfadnkfceggjaaaDoor
open Go Go.RowKit

/-- An error that is one. -/
theorem ErrIs.iface {E : Nat → Addr} {w : World} {v : Value} {f : Nat × Int} (h : ErrIs E w v f) (h0 : f.1 ≠ 0) : (∃ a : Addr, v = .iface 173 (.pointer (some a))) ∨ ∃ b : Nat, v = .iface 83 (.pointer (some ⟨b, 0, none⟩)) := by
  unfold ErrIs at h
  rw [if_neg h0] at h
  split at h
  · exact .inl ⟨_, h⟩
  · obtain ⟨b, e, _⟩ := h
    exact .inr ⟨b, e⟩

/-- A store into a block that is no fault. -/
theorem ErrIs.far {E : Nat → Addr} {w : World} {v : Value} {f : Nat × Int} {g t : Nat} {cs : Array Value} (h : ErrIs E w v f) (hb : Blk w g t cs) (hs : cs.size ≠ 2) (i : Nat) (u : Value) : ErrIs E (w.setCell ⟨g, i, none⟩ u) v f := by
  unfold ErrIs at h ⊢
  split
  · rename_i h0; rw [if_pos h0] at h; exact h
  · rename_i h0
    rw [if_neg h0] at h
    split
    · rename_i h1; rw [if_pos h1] at h; exact h
    · rename_i h1
      rw [if_neg h1] at h
      obtain ⟨b, e, hB⟩ := h
      refine ⟨b, e, hB.far (fun e2 => ?_) _⟩
      simp only at e2
      subst e2
      unfold Blk at hB hb
      rw [hB] at hb
      injection hb with hb
      injection hb with hb
      exact hs (by rw [← hb]; rfl)
theorem size_set (cs : Array Value) (i : Nat) (u : Value) {n : Nat} (h : cs.size ≠ n) : (cs.setIfInBounds i u).size ≠ n := by rw [Array.size_setIfInBounds]; exact h

set_option maxRecDepth 100000 in
set_option maxHeartbeats 2000000 in
theorem flatten_bad (W H : Int) (A : Option Addr) (n c : Nat) (ms : List LM) (E : Nat → Addr) (f : Nat × Int) (w : World) (hE : ErrsAt w E) (hL : Lays w w.heap.size A n ms) (hf : Lay.check W H (lsOf ms) = f) (h0 : f.1 ≠ 0) :
    Calls Tryd.prog 13 #[.agg #[.int .i64 W, .int .i64 H, .slice A n c]] w
      fun e w' => ∃ v, e = .returned (.tuple #[.agg #[.int .i64 0, .int .i64 0, .slice none 0 0], v]) ∧ ErrIs E w' v f ∧ Below w.heap.size w w' := by
  have HF := Lib.hid hf
  have H0 := Lib.hid h0
  have HE := Lib.hid hE
  have hL1 := fun o o2 => (hL.step (Below.alloc (Below.refl _ _) (Nat.le_refl _) o)).step (Below.alloc (Below.refl _ _) (Nat.le_refl _) o2)
  have HL1 := Lib.hid hL1
  have hb0 : ∀ o o2, Below w.heap.size w ((w.alloc o).alloc o2) := fun o o2 => by go_grown
  have HB0 := Lib.hid hb0
  clear hf h0 hE hL1 hb0
  go_enter Tryd.func13, Tryd.ntmps13
  go_wp2_with fail
  refine (check_any W H A n c ms E _ (HE.out.below (HB0.out _ _)) (HL1.out _ _)).mono ?_
  rw [HF.out]
  rintro e w1 ⟨v, rfl, hv, hb1⟩
  have B2 := (Blk.new (w.alloc (.cells #[.int .i64 W, .int .i64 H, .slice A n c] 33)) 37 #[.int .i64 0, .int .i64 0, .slice none 0 0] rfl).below hb1 (by simp)
  simp at B2
  have c2 := B2.cell
  have f2 := B2.free
  have hbw : Below w.heap.size w w1 := Below.trans (by go_grown) (hb1.mono (by simp; omega))
  have HV := Lib.hid hv
  have l2 := B2.lt
  clear hv hb1
  rcases HV.out.iface H0.out with ⟨a, rfl⟩ | ⟨b, rfl⟩
  · go_wp2_with fail
    refine bodyPost_ret (v := .tuple #[.agg #[.int .i64 0, .int .i64 0, .slice none 0 0], .iface 173 (.pointer (some a))]) (by simp [results, Tryd.results13, go_sem, c2]) rfl ⟨_, rfl, ?_, ?_⟩
    · exact (((HV.out.far B2 (by simp) 0 (.int .i64 0)).far (B2.set_ 0 (.int .i64 0)) (size_set _ _ _ (by simp)) 1 (.int .i64 0)).far ((B2.set_ 0 (.int .i64 0)).set_ 1 (.int .i64 0)) (size_set _ _ _ (size_set _ _ _ (by simp))) 2 (.slice none 0 0))
    · have hz2 : w.heap.size ≤ w.heap.size + 1 := by omega
      exact (((hbw.setCell hz2 _).setCell hz2 _).setCell hz2 _)
  · go_wp2_with fail
    refine bodyPost_ret (v := .tuple #[.agg #[.int .i64 0, .int .i64 0, .slice none 0 0], .iface 83 (.pointer (some ⟨b, 0, none⟩))]) (by simp [results, Tryd.results13, go_sem, c2]) rfl ⟨_, rfl, ?_, ?_⟩
    · exact (((HV.out.far B2 (by simp) 0 (.int .i64 0)).far (B2.set_ 0 (.int .i64 0)) (size_set _ _ _ (by simp)) 1 (.int .i64 0)).far ((B2.set_ 0 (.int .i64 0)).set_ 1 (.int .i64 0)) (size_set _ _ _ (size_set _ _ _ (by simp))) 2 (.slice none 0 0))
    · have hz2 : w.heap.size ≤ w.heap.size + 1 := by omega
      exact (((hbw.setCell hz2 _).setCell hz2 _).setCell hz2 _)

set_option maxRecDepth 100000 in
set_option maxHeartbeats 2000000 in
theorem look_bad (W H : Int) (A : Option Addr) (n c : Nat) (ms : List LM) (x y : Int) (E : Nat → Addr) (f : Nat × Int) (w : World) (hE : ErrsAt w E) (hL : Lays w w.heap.size A n ms) (hf : Lay.check W H (lsOf ms) = f) (h0 : f.1 ≠ 0) :
    Calls Tryd.prog 15 #[.agg #[.int .i64 W, .int .i64 H, .slice A n c], .int .i64 x, .int .i64 y] w
      fun e w' => ∃ v, e = .returned (.tuple #[.agg #[.int .u8 0, .int .u8 0, .int .u8 0, .int .u8 0], v]) ∧ ErrIs E w' v f ∧ Below w.heap.size w w' := by
  have HF := Lib.hid hf
  have H0 := Lib.hid h0
  have HE := Lib.hid hE
  have hL1 := fun o o2 => (hL.step (Below.alloc (Below.refl _ _) (Nat.le_refl _) o)).step (Below.alloc (Below.refl _ _) (Nat.le_refl _) o2)
  have HL1 := Lib.hid hL1
  have hb0 : ∀ o o2, Below w.heap.size w ((w.alloc o).alloc o2) := fun o o2 => by go_grown
  have HB0 := Lib.hid hb0
  clear hf h0 hE hL1 hb0
  go_enter Tryd.func15, Tryd.ntmps15
  go_wp2_with fail
  refine (check_any W H A n c ms E _ (HE.out.below (HB0.out _ _)) (HL1.out _ _)).mono ?_
  rw [HF.out]
  rintro e w1 ⟨v, rfl, hv, hb1⟩
  have B2 := (Blk.new (w.alloc (.cells #[.int .i64 W, .int .i64 H, .slice A n c] 33)) 49 #[.int .u8 0, .int .u8 0, .int .u8 0, .int .u8 0] rfl).below hb1 (by simp)
  simp at B2
  have c2 := B2.cell
  have f2 := B2.free
  have hbw : Below w.heap.size w w1 := Below.trans (by go_grown) (hb1.mono (by simp; omega))
  have HV := Lib.hid hv
  have l2 := B2.lt
  clear hv hb1
  rcases HV.out.iface H0.out with ⟨a, rfl⟩ | ⟨b, rfl⟩
  · go_wp2_with fail
    refine bodyPost_ret (v := .tuple #[.agg #[.int .u8 0, .int .u8 0, .int .u8 0, .int .u8 0], .iface 173 (.pointer (some a))]) (by simp [results, Tryd.results15, go_sem, c2]) rfl ⟨_, rfl, ?_, ?_⟩
    · exact ((((HV.out.far B2 (by simp) 0 (.int .u8 0)).far (B2.set_ 0 (.int .u8 0)) (size_set _ _ _ (by simp)) 1 (.int .u8 0)).far ((B2.set_ 0 (.int .u8 0)).set_ 1 (.int .u8 0)) (size_set _ _ _ (size_set _ _ _ (by simp))) 2 (.int .u8 0)).far (((B2.set_ 0 (.int .u8 0)).set_ 1 (.int .u8 0)).set_ 2 (.int .u8 0)) (size_set _ _ _ (size_set _ _ _ (size_set _ _ _ (by simp)))) 3 (.int .u8 0))
    · have hz2 : w.heap.size ≤ w.heap.size + 1 := by omega
      exact ((((hbw.setCell hz2 _).setCell hz2 _).setCell hz2 _).setCell hz2 _)
  · go_wp2_with fail
    refine bodyPost_ret (v := .tuple #[.agg #[.int .u8 0, .int .u8 0, .int .u8 0, .int .u8 0], .iface 83 (.pointer (some ⟨b, 0, none⟩))]) (by simp [results, Tryd.results15, go_sem, c2]) rfl ⟨_, rfl, ?_, ?_⟩
    · exact ((((HV.out.far B2 (by simp) 0 (.int .u8 0)).far (B2.set_ 0 (.int .u8 0)) (size_set _ _ _ (by simp)) 1 (.int .u8 0)).far ((B2.set_ 0 (.int .u8 0)).set_ 1 (.int .u8 0)) (size_set _ _ _ (size_set _ _ _ (by simp))) 2 (.int .u8 0)).far (((B2.set_ 0 (.int .u8 0)).set_ 1 (.int .u8 0)).set_ 2 (.int .u8 0)) (size_set _ _ _ (size_set _ _ _ (size_set _ _ _ (by simp)))) 3 (.int .u8 0))
    · have hz2 : w.heap.size ≤ w.heap.size + 1 := by omega
      exact ((((hbw.setCell hz2 _).setCell hz2 _).setCell hz2 _).setCell hz2 _)

set_option maxRecDepth 100000 in
set_option maxHeartbeats 2000000 in
theorem look_out (W H : Int) (A : Option Addr) (n c : Nat) (ms : List LM) (x y : Int) (E : Nat → Addr) (w : World) (hE : ErrsAt w E) (hL : Lays w w.heap.size A n ms) (hG : Lay.Good W H (lsOf ms)) (hin : Lay.inP W H x y = false) :
    Calls Tryd.prog 15 #[.agg #[.int .i64 W, .int .i64 H, .slice A n c], .int .i64 x, .int .i64 y] w
      fun e w' => e = .returned (.tuple #[.agg #[.int .u8 0, .int .u8 0, .int .u8 0, .int .u8 0], errV (E 1)]) ∧ Below w.heap.size w w' := by
  have HG := Lib.hid hG
  have HE := Lib.hid hE
  have hL1 := fun o o2 => (hL.step (Below.alloc (Below.refl _ _) (Nat.le_refl _) o)).step (Below.alloc (Below.refl _ _) (Nat.le_refl _) o2)
  have HL1 := Lib.hid hL1
  have hb0 : ∀ o o2, Below w.heap.size w ((w.alloc o).alloc o2) := fun o o2 => by go_grown
  have HB0 := Lib.hid hb0
  have hcs : x < 0 ∨ (0 ≤ x ∧ W ≤ x) ∨ (0 ≤ x ∧ x < W ∧ y < 0) ∨ (0 ≤ x ∧ x < W ∧ 0 ≤ y ∧ H ≤ y) := by
    simp only [Lay.inP, Bool.and_eq_false_iff, decide_eq_false_iff_not] at hin
    omega
  clear hG hE hL1 hb0 hin
  go_enter Tryd.func15, Tryd.ntmps15
  go_wp2_with fail
  refine (check_good W H A n c ms _ (HL1.out _ _) HG.out).mono ?_
  rintro e w1 ⟨rfl, hb1⟩
  have B1 := ((Blk.new w 33 #[.int .i64 W, .int .i64 H, .slice A n c] rfl).alloc (.cells #[.int .u8 0, .int .u8 0, .int .u8 0, .int .u8 0] 49)).below hb1 (by simp; omega)
  have B2 := (Blk.new (w.alloc (.cells #[.int .i64 W, .int .i64 H, .slice A n c] 33)) 49 #[.int .u8 0, .int .u8 0, .int .u8 0, .int .u8 0] rfl).below hb1 (by simp)
  simp at B2
  have hbw : Below w.heap.size w w1 := Below.trans (by go_grown) (hb1.mono (by simp; omega))
  have hE1 := HE.out.below hbw
  have dB := hE1.bound
  have lB := cell_lt HE.out.bound
  have c1 := B1.cell
  have c2 := B2.cell
  have f2 := B2.free
  have hz2 : w.heap.size ≤ w.heap.size + 1 := by omega
  have hne : ¬ w.heap.size + 1 = 0 := by omega
  have hne' : ¬ 0 = w.heap.size + 1 := by omega
  clear hb1 hE1
  rcases hcs with h1 | ⟨h1, h2⟩ | ⟨h1, h2, h3⟩ | ⟨h1, h2, h3, h4⟩
  all_goals
    go_wp2_with fail
    go_region
    all_goals
      go_wp2_with fail
      refine bodyPost_ret (v := .tuple #[.agg #[.int .u8 0, .int .u8 0, .int .u8 0, .int .u8 0], errV (E 1)]) (by simp [results, Tryd.results15, go_sem, c2, errV]) rfl ⟨rfl, ?_⟩
      exact ((((hbw.setCell hz2 _).setCell hz2 _).setCell hz2 _).setCell hz2 _).drew

set_option maxRecDepth 100000 in
set_option maxHeartbeats 2000000 in
theorem look_in (W H : Int) (A : Option Addr) (n c : Nat) (ms : List LM) (x y : Int) (p : Px) (w : World) (hL : Lays w w.heap.size A n ms) (hG : Lay.Good W H (lsOf ms)) (hin : Lay.inP W H x y = true) (hp : Lay.dot (lsOf ms) x y = p) :
    Calls Tryd.prog 15 #[.agg #[.int .i64 W, .int .i64 H, .slice A n c], .int .i64 x, .int .i64 y] w
      fun e w' => e = .returned (.tuple #[.agg #[.int .u8 p.r.toNat, .int .u8 p.g.toNat, .int .u8 p.b.toNat, .int .u8 p.a.toNat], .nilIface]) ∧ Below w.heap.size w w' := by
  have hok := layOK_of hG hL
  have hn8 : n ≤ 8 := by have := hG.n; rw [lsOf_len] at this; rw [hL.len]; exact this
  have HOK := Lib.hid hok
  obtain ⟨hW1, hW2⟩ := sideB_true hG.wd
  obtain ⟨hH1, hH2⟩ := sideB_true hG.hg
  simp only [Lay.inP, Bool.and_eq_true, decide_eq_true_eq] at hin
  obtain ⟨⟨⟨h1, h2⟩, h3⟩, h4⟩ := hin
  have HG := Lib.hid hG
  have HP := Lib.hid hp
  have hL1 := fun o o2 => (hL.step (Below.alloc (Below.refl _ _) (Nat.le_refl _) o)).step (Below.alloc (Below.refl _ _) (Nat.le_refl _) o2)
  have HL1 := Lib.hid hL1
  clear hG hp hok hL1
  go_enter Tryd.func15, Tryd.ntmps15
  go_wp2_with fail
  refine (check_good W H A n c ms _ (HL1.out _ _) HG.out).mono ?_
  rintro e w1 ⟨rfl, hb1⟩
  have L1 := Lib.hid ((HL1.out _ _).step hb1)
  have B1 := ((Blk.new w 33 #[.int .i64 W, .int .i64 H, .slice A n c] rfl).alloc (.cells #[.int .u8 0, .int .u8 0, .int .u8 0, .int .u8 0] 49)).below hb1 (by simp; omega)
  have B2 := (Blk.new (w.alloc (.cells #[.int .i64 W, .int .i64 H, .slice A n c] 33)) 49 #[.int .u8 0, .int .u8 0, .int .u8 0, .int .u8 0] rfl).below hb1 (by simp)
  simp at B2
  have hbw : Below w.heap.size w w1 := Below.trans (by go_grown) (hb1.mono (by simp; omega))
  have c1 := B1.cell
  clear hb1
  go_wp2_with fail
  refine (dot_agg W H A n c ms _ _ _ L1.out HOK.out hn8 ⟨by omega, by omega⟩ ⟨by omega, by omega⟩ p HP.out).mono ?_
  rintro e w2 ⟨rfl, hb2⟩
  have B3 := B2.below hb2 B2.lt
  have c3 := B3.cell
  have f3 := B3.free
  have hbw2 := hbw.trans (hb2.mono hbw.size)
  have hz2 : w.heap.size ≤ w.heap.size + 1 := by omega
  clear c1
  go_wp2_with fail
  refine bodyPost_ret (v := .tuple #[.agg #[.int .u8 p.r.toNat, .int .u8 p.g.toNat, .int .u8 p.b.toNat, .int .u8 p.a.toNat], .nilIface]) (by simp [results, Tryd.results15, go_sem, c3]) rfl ⟨rfl, ?_⟩
  exact ((((hbw2.setCell hz2 _).setCell hz2 _).setCell hz2 _).setCell hz2 _)

set_option maxRecDepth 100000 in
set_option maxHeartbeats 1000000 in
/-- faulted: an error of that number and that place. -/
theorem faulted_any (E : Nat → Addr) (v : Value) (c : Nat) (at_ : Int) (w : World) (hE : ErrsAt w E) (hv : ErrIs E w v (c, at_)) (hc : c ≤ 9) (hat : c = 0 ∨ -1 ≤ at_) :
    Calls Tryd.prog 16 #[v, .agg #[.int .i64 c, .int .i64 at_]] w fun e w' => e = .returned (.bool true) ∧ Below w.heap.size w w' := by
  have hb0 : Below w.heap.size w (w.alloc (.cells #[.int .i64 c, .int .i64 at_] 28)) := by go_grown
  have hE1 := hE.below hb0
  have B0 := Blk.new w 28 #[.int .i64 c, .int .i64 at_] rfl
  have hv1 := hv.below hb0
  have HE1 := Lib.hid hE1
  unfold ErrIs at hv1
  simp only at hv1
  by_cases h0 : c = 0
  · subst h0
    rw [if_pos rfl] at hv1
    subst hv1
    clear hE1 hE hv
    go_enter Tryd.func16, Tryd.ntmps16
    go_wp2_with fail
    refine (code_nil _).mono ?_
    rintro e w1 ⟨rfl, rfl⟩
    go_wp2_with fail
    go_ret
    exact ⟨rfl, hb0⟩
  · rw [if_neg h0] at hv1
    obtain ⟨i, rfl⟩ : ∃ i, c = i + 1 := ⟨c - 1, by omega⟩
    rw [show i + 1 - 1 = i by omega] at hv1
    by_cases h1 : at_ < 0
    · rw [if_pos h1] at hv1
      have e : at_ = -1 := by omega
      subst e
      unfold errV at hv1
      subst hv1
      clear hE1 hE hv hat h1
      go_enter Tryd.func16, Tryd.ntmps16
      go_wp2_with fail
      refine (code_sent E i (by omega) _ HE1.out).mono ?_
      rintro e w1 ⟨rfl, hb1⟩
      have B1 := B0.below hb1 (by simp)
      have c1 := B1.cell
      have hbw := hb0.trans (hb1.mono hb0.size)
      clear B0 hb1
      go_wp2_with fail
      go_ret
      exact ⟨rfl, hbw⟩
    · rw [if_neg h1] at hv1
      obtain ⟨b, rfl, hB⟩ := hv1
      have hz := hB.lt
      have hn : (w.alloc (.cells #[.int .i64 ((i + 1 : Nat) : Int), .int .i64 at_] 28)).cell? ⟨b, 0, none⟩ = some (.int .i64 at_) := (hB.cell 0).trans rfl
      have he : (w.alloc (.cells #[.int .i64 ((i + 1 : Nat) : Int), .int .i64 at_] 28)).cell? ⟨b, 0 + 1, none⟩ = some (.iface 173 (.pointer (some (E i)))) := (hB.cell 1).trans rfl
      have HN := Lib.hid hn
      have HEE := Lib.hid he
      clear hE1 hE hv hat hn he hB
      go_enter Tryd.func16, Tryd.ntmps16
      go_wp2_with fail
      refine (code_fault E i (by omega) b 0 at_ _ HE1.out HN.out HEE.out).mono ?_
      rintro e w1 ⟨rfl, hb1⟩
      have B1 := B0.below hb1 (by simp)
      have c1 := B1.cell
      have hbw := hb0.trans (hb1.mono hb0.size)
      clear B0 hb1
      go_wp2_with fail
      go_ret
      exact ⟨rfl, hbw⟩
end Go.Proofs.YtfadnkfceggjaaaDoor
/- layercakelaw3.still: a closed fact. -/
namespace Go.Proofs.YtfadnkfceggjaaaDoor
open Go Go.RowKit

theorem stillGood : Lay.Good 2 1 (lsOf []) := Lay.good_mk (by decide) (by decide) (by simp [lsOf]) (fun i j hi _ => by simp [lsOf] at hi) (fun l hl => by simp [lsOf] at hl)
theorem stillFlat : Lay.flat (lsOf []) (2 : Int).toNat (1 : Int).toNat = List.replicate 2 ⟨0, 0, 0, 0⟩ := by decide
set_option maxRecDepth 100000 in
set_option maxHeartbeats 2000000 in
theorem still_any (w : World) : Calls Tryd.prog 7 #[] w fun e w' => e = .returned (.bool true) ∧ Below w.heap.size w w' := by
  have hL : Lays w w.heap.size none 0 [] := ⟨⟨by simp [layCells], fun h => absurd h (by omega)⟩, fun m hm => by cases hm⟩
  go_enter Tryd.func7, Tryd.ntmps7
  go_wp2_with fail
  refine (flatten_good 2 1 none 0 0 [] _ hL stillGood).mono ?_
  rw [stillFlat]
  rintro e w1 ⟨A1, c1, rfl, hO1, hb1⟩
  rw [List.length_replicate] at hO1 ⊢
  go_wp2_with fail
  have b1 := Blk.new w1 37 #[.int .i64 2, .int .i64 1, .slice A1 2 c1] rfl
  obtain ⟨w2, hw2⟩ : ∃ w2, w2 = w1.alloc (.cells #[.int .i64 2, .int .i64 1, .slice A1 2 c1] 37) := ⟨_, rfl⟩
  have hR := hO1.reads.2.alloc (Nat.le_refl _) (.cells #[.int .i64 2, .int .i64 1, .slice A1 2 c1] 37)
  have hb2 : Below w.heap.size w w2 := by rw [hw2]; exact hb1.alloc hb1.size _
  have hz2 : w1.heap.size < w2.heap.size := by rw [hw2]; simp
  rw [← hw2] at b1 hR ⊢
  clear hw2 hO1
  have s0 : w2.cell? ⟨w1.heap.size, 0, none⟩ = some (.int .i64 2) := (b1.cell 0).trans rfl
  have s1 : w2.cell? ⟨w1.heap.size, 1, none⟩ = some (.int .i64 1) := (b1.cell 1).trans rfl
  have s2 : w2.cell? ⟨w1.heap.size, 2, none⟩ = some (.slice A1 2 c1) := (b1.cell 2).trans rfl
  go_region_law
    (first
      | (go_simp; go_at_call 31; refine (blank_any 2 1 2 ⟨0, 0, 0, 0⟩ w2.drew (by omega) (by omega) (by omega) (by omega)).mono ?_; rintro e wA ⟨AB, cB, rfl, hoB, hbA⟩; have a0 := bkeep hbA s0; have a1 := bkeep hbA s1; have a2 := bkeep hbA s2)
      | (go_simp; go_at_call 14; refine (samePicture_same 2 1 A1 2 c1 AB cB (List.replicate 2 ⟨0, 0, 0, 0⟩) wA ((hR.below ((Below.here w2).trans hbA) (show w1.heap.size ≤ w2.heap.size by omega)).more (by have : w2.heap.size ≤ wA.heap.size := hbA.size; omega)) hoB.reads.2 (by omega)).mono ?_; rintro e wB ⟨rfl, hbB⟩))
  all_goals
    go_wp2_with fail
    go_ret
    exact ⟨rfl, (hb2.trans (((Below.here w2).trans hbA).mono hb2.size)).trans (hbB.mono (by have : w2.heap.size ≤ wA.heap.size := hbA.size; have := hb2.size; omega))⟩
end Go.Proofs.YtfadnkfceggjaaaDoor
/- layercakelaw3.tame: what it says. -/
namespace Go.Proofs.YtfadnkfceggjaaaDoor
open Go Go.RowKit

/-- How many pixels the first layers have. -/
def sumN (ms : List LM) (k : Nat) : Int := ((ms.take k).map fun m => (m.n : Int)).sum
theorem sumN_zero (ms : List LM) : sumN ms 0 = 0 := rfl
theorem sumN_succ (ms : List LM) (k : Nat) (hk : k < ms.length) : sumN ms (k + 1) = sumN ms k + ms[k].n := by
  unfold sumN
  rw [List.take_succ_eq_append_getElem hk, List.map_append, List.sum_append]
  simp
theorem sumN_bound (ms : List LM) (hr : ∀ m ∈ ms, m.n ≤ reachBytes) : ∀ k, k ≤ ms.length → 0 ≤ sumN ms k ∧ sumN ms k ≤ k * (reachBytes : Int)
  | 0, _ => by rw [sumN_zero]; omega
  | k + 1, h => by
    have ih := sumN_bound ms hr k (by omega)
    have hm := hr ms[k] (List.getElem_mem (by omega))
    rw [sumN_succ ms k (by omega), Int.natCast_add, Int.add_mul]
    omega
theorem sumN_mono (ms : List LM) : ∀ k, k ≤ ms.length → ∀ j, (hj : j < k) → (hk : k ≤ ms.length) → (ms[j].n : Int) ≤ sumN ms k
  | 0, _, j, hj, _ => by omega
  | k + 1, h, j, hj, _ => by
    rw [sumN_succ ms k (by omega)]
    have h0 : 0 ≤ sumN ms k := by
      unfold sumN
      have : ∀ l : List LM, 0 ≤ (l.map fun m => (m.n : Int)).sum := fun l => by
        induction l with
        | nil => simp
        | cons a l ih => rw [List.map_cons, List.sum_cons]; omega
      exact this _
    rcases Nat.lt_or_ge j k with h1 | h1
    · have := sumN_mono ms k (by omega) j h1 (by omega)
      omega
    · have : j = k := by omega
      subst this
      omega
theorem tame_next {ms : List LM} (k : Nat) (hk : k < ms.length) (hr : ∀ m ∈ ms, m.n ≤ reachBytes) {x B0 : Int} (hB : 0 ≤ B0 ∧ B0 ≤ 65536) (hx : x = B0 + sumN ms k) (h12 : k + 1 ≤ 12) : IntKind.i64.wrap (x + (ms[k].n : Int)) = B0 + sumN ms (k + 1) := by
  have h := sumN_bound ms hr (k + 1) hk
  have hb : (((k + 1 : Nat) : Int)) * (reachBytes : Int) ≤ 12 * (reachBytes : Int) := Int.mul_le_mul_of_nonneg_right (by omega) (by omega)
  have e : (reachBytes : Int) = 140737488351232 := rfl
  rw [e] at hb h
  rw [hx, Int.add_assoc, ← sumN_succ ms k hk]
  exact IntWalk.i64_in _ (by omega)
theorem tame_end {ms : List LM} {x B0 : Int} (hB : 0 ≤ B0 ∧ B0 ≤ 65536) (hx : x = B0 + sumN ms ms.length) (h4 : x ≤ 4000) : ∀ m ∈ ms, m.n ≤ 4000 := by
  intro m hm
  obtain ⟨j, hj, rfl⟩ := List.getElem_of_mem hm
  have := sumN_mono ms ms.length (Nat.le_refl _) j hj (Nat.le_refl _)
  omega
/-- A call that answers yes or no; where yes, there are few layers and few pixels. -/
def TameSays (n : Nat) (ms : List LM) (e : Ending) : Prop := ∃ b, e = .returned (.bool b) ∧ (b = true → n ≤ 12 ∧ ∀ m ∈ ms, m.n ≤ 4000)
/-- What stands through tame's loop. -/
structure TmR (W H : Int) (A : Option Addr) (ms : List LM) (c : Nat) (w : World) (B0 : Int) (i z : Value) (wr : World) (k : Nat) (x : Int) : Prop where
  hk : k ≤ ms.length
  hi : i = .int .i64 k
  hz : z = .int .i64 x
  hx : k ≤ 12 → x = B0 + sumN ms k
  b1 : Blk wr w.heap.size 24 #[.int .i64 W, .int .i64 H, .slice A ms.length c]
  bel : Below w.heap.size w wr

set_option maxRecDepth 100000 in
set_option maxHeartbeats 2000000 in
theorem tame_is (W H : Int) (A : Option Addr) (n c : Nat) (ms : List LM) (w : World) (hL : Lays w w.heap.size A n ms) (hn : n ≤ 9223372036854775807) (hr : ∀ m ∈ ms, m.n ≤ reachBytes) :
    Calls Tryd.prog 8 #[.agg #[.int .i64 W, .int .i64 H, .slice A n c]] w fun e w' => TameSays n ms e ∧ Below w.heap.size w w' := by
  obtain rfl := hL.len
  have HR := Lib.hid hr
  clear hr
  obtain ⟨sW, hW⟩ : ∃ b, sideB W = b := ⟨_, rfl⟩
  obtain ⟨sH, hH⟩ : ∃ b, sideB H = b := ⟨_, rfl⟩
  have HW := Lib.hid hW
  have HH := Lib.hid hH
  clear hW hH
  go_enter Tryd.func8, Tryd.ntmps8
  go_wp2_with fail
  refine (pside_any W _).mono ?_
  rintro e w1 ⟨rfl, rfl⟩
  rw [HW.out]
  cases sW with
  | false =>
    have HB0 := Lib.hid (show (0 : Int) ≤ 0 ∧ (0 : Int) ≤ 65536 by omega)
    go_wp2_with fail
    go_loopw [3, 4] (fun z i wr => ∃ k x, TmR W H A ms c w (0 : Int) i z wr k x) (fun _ i _ => ms.length - (intOf i).toNat)
    case atStart => exact ⟨0, 0, Nat.zero_le _, rfl, rfl, fun _ => by rw [sumN_zero]; omega, Blk.new _ _ _ rfl, by go_grown⟩
    case round =>
      obtain ⟨k, x, hk, rfl, rfl, hx, h1, hb⟩ := hrel
      obtain ⟨wo, rfl⟩ : ∃ wo : World, wo = wr := ⟨_, rfl⟩
      have c1 := h1.cell
      have HX := Lib.hid hx
      clear hx
      by_cases hlt : k < ms.length
      · obtain ⟨b, off, rfl, hbl⟩ := hL.1.addr (by omega)
        have q8 := (hL.below hb (Nat.le_refl _)).at k hlt 8 (by omega)
        simp only [layCs, List.getElem?_cons_zero, List.getElem?_cons_succ] at q8
        have HNX := Lib.hid (fun hx => tame_next k hlt HR.out (x := x) (B0 := (0 : Int)) HB0.out hx)
        generalize ms[k].n = mn at *
        obtain ⟨x', hx'⟩ : ∃ x', IntKind.i64.wrap (x + (mn : Int)) = x' := ⟨_, rfl⟩
        have HX' := Lib.hid hx'
        go_wp2_with fail
        go_roundw
        case rel => exact ⟨k + 1, x', by omega, by go_num, rfl, fun hk12 => by rw [← HX'.out]; exact HNX.out (HX.out (by omega)) hk12, h1, hb⟩
        case measure => simp [intOf]; omega
      · have e : k = ms.length := by omega
        subst e
        have HE := Lib.hid (fun h => tame_end HB0.out (HX.out h))
        by_cases h4 : x ≤ 4000
        · by_cases h12 : ms.length ≤ 12
          · go_wp2_with fail
            all_goals go_ret
            all_goals exact ⟨⟨_, rfl, fun _ => ⟨h12, HE.out h12 h4⟩⟩, hb⟩
          · go_wp2_with fail
            all_goals go_ret
            all_goals exact ⟨⟨_, rfl, fun h => by first | (cases h; done) | (simp at h; omega)⟩, hb⟩
        · go_wp2_with fail
          all_goals go_ret
          all_goals exact ⟨⟨_, rfl, fun h => by first | (cases h; done) | (simp at h; omega)⟩, hb⟩
  | true =>
    go_wp2_with fail
    refine (pside_any H _).mono ?_
    rintro e w1 ⟨rfl, rfl⟩
    rw [HH.out]
    cases sH with
    | false =>
      have HB0 := Lib.hid (show (0 : Int) ≤ 0 ∧ (0 : Int) ≤ 65536 by omega)
      go_wp2_with fail
      go_loopw [3, 4] (fun z i wr => ∃ k x, TmR W H A ms c w (0 : Int) i z wr k x) (fun _ i _ => ms.length - (intOf i).toNat)
      case atStart => exact ⟨0, 0, Nat.zero_le _, rfl, rfl, fun _ => by rw [sumN_zero]; omega, Blk.new _ _ _ rfl, by go_grown⟩
      case round =>
        obtain ⟨k, x, hk, rfl, rfl, hx, h1, hb⟩ := hrel
        obtain ⟨wo, rfl⟩ : ∃ wo : World, wo = wr := ⟨_, rfl⟩
        have c1 := h1.cell
        have HX := Lib.hid hx
        clear hx
        by_cases hlt : k < ms.length
        · obtain ⟨b, off, rfl, hbl⟩ := hL.1.addr (by omega)
          have q8 := (hL.below hb (Nat.le_refl _)).at k hlt 8 (by omega)
          simp only [layCs, List.getElem?_cons_zero, List.getElem?_cons_succ] at q8
          have HNX := Lib.hid (fun hx => tame_next k hlt HR.out (x := x) (B0 := (0 : Int)) HB0.out hx)
          generalize ms[k].n = mn at *
          obtain ⟨x', hx'⟩ : ∃ x', IntKind.i64.wrap (x + (mn : Int)) = x' := ⟨_, rfl⟩
          have HX' := Lib.hid hx'
          go_wp2_with fail
          go_roundw
          case rel => exact ⟨k + 1, x', by omega, by go_num, rfl, fun hk12 => by rw [← HX'.out]; exact HNX.out (HX.out (by omega)) hk12, h1, hb⟩
          case measure => simp [intOf]; omega
        · have e : k = ms.length := by omega
          subst e
          have HE := Lib.hid (fun h => tame_end HB0.out (HX.out h))
          by_cases h4 : x ≤ 4000
          · by_cases h12 : ms.length ≤ 12
            · go_wp2_with fail
              all_goals go_ret
              all_goals exact ⟨⟨_, rfl, fun _ => ⟨h12, HE.out h12 h4⟩⟩, hb⟩
            · go_wp2_with fail
              all_goals go_ret
              all_goals exact ⟨⟨_, rfl, fun h => by first | (cases h; done) | (simp at h; omega)⟩, hb⟩
          · go_wp2_with fail
            all_goals go_ret
            all_goals exact ⟨⟨_, rfl, fun h => by first | (cases h; done) | (simp at h; omega)⟩, hb⟩
    | true =>
      obtain ⟨m1, m2⟩ := mul_side HW.out HH.out
      obtain ⟨B0, hB0⟩ : ∃ B0, W * H = B0 := ⟨_, rfl⟩
      have hw0 : IntKind.i64.wrap (W * H) = B0 := by rw [hB0]; exact IntWalk.i64_in _ (by omega)
      have HB0 := Lib.hid (show 0 ≤ B0 ∧ B0 ≤ 65536 by omega)
      go_wp2_with fail
      go_loopw [3, 4] (fun z i wr => ∃ k x, TmR W H A ms c w B0 i z wr k x) (fun _ i _ => ms.length - (intOf i).toNat)
      case atStart => exact ⟨0, B0, Nat.zero_le _, rfl, rfl, fun _ => by rw [sumN_zero]; omega, Blk.new _ _ _ rfl, by go_grown⟩
      case round =>
        obtain ⟨k, x, hk, rfl, rfl, hx, h1, hb⟩ := hrel
        obtain ⟨wo, rfl⟩ : ∃ wo : World, wo = wr := ⟨_, rfl⟩
        have c1 := h1.cell
        have HX := Lib.hid hx
        clear hx
        by_cases hlt : k < ms.length
        · obtain ⟨b, off, rfl, hbl⟩ := hL.1.addr (by omega)
          have q8 := (hL.below hb (Nat.le_refl _)).at k hlt 8 (by omega)
          simp only [layCs, List.getElem?_cons_zero, List.getElem?_cons_succ] at q8
          have HNX := Lib.hid (fun hx => tame_next k hlt HR.out (x := x) (B0 := B0) HB0.out hx)
          generalize ms[k].n = mn at *
          obtain ⟨x', hx'⟩ : ∃ x', IntKind.i64.wrap (x + (mn : Int)) = x' := ⟨_, rfl⟩
          have HX' := Lib.hid hx'
          go_wp2_with fail
          go_roundw
          case rel => exact ⟨k + 1, x', by omega, by go_num, rfl, fun hk12 => by rw [← HX'.out]; exact HNX.out (HX.out (by omega)) hk12, h1, hb⟩
          case measure => simp [intOf]; omega
        · have e : k = ms.length := by omega
          subst e
          have HE := Lib.hid (fun h => tame_end HB0.out (HX.out h))
          by_cases h4 : x ≤ 4000
          · by_cases h12 : ms.length ≤ 12
            · go_wp2_with fail
              all_goals go_ret
              all_goals exact ⟨⟨_, rfl, fun _ => ⟨h12, HE.out h12 h4⟩⟩, hb⟩
            · go_wp2_with fail
              all_goals go_ret
              all_goals exact ⟨⟨_, rfl, fun h => by first | (cases h; done) | (simp at h; omega)⟩, hb⟩
          · go_wp2_with fail
            all_goals go_ret
            all_goals exact ⟨⟨_, rfl, fun h => by first | (cases h; done) | (simp at h; omega)⟩, hb⟩
end Go.Proofs.YtfadnkfceggjaaaDoor
/- layer.Flatten at a good document, its pixels named; a field of a fault. -/
namespace Go.Proofs.YtfadnkfceggjaaaDoor
open Go Go.RowKit

theorem flatten_as (W H : Int) (A : Option Addr) (n c : Nat) (ms : List LM) (w : World) (hL : Lays w w.heap.size A n ms) (hG : Lay.Good W H (lsOf ms)) (L : List Px) (hq : Lay.flat (lsOf ms) W.toNat H.toNat = L) :
    Calls Tryd.prog 13 #[.agg #[.int .i64 W, .int .i64 H, .slice A n c]] w
      fun e w' => ∃ A' c', e = .returned (.tuple #[.agg #[.int .i64 W, .int .i64 H, .slice A' L.length c'], .nilIface]) ∧ Own w' w.heap.size 4 (.slice A' L.length c') L.length (pxCells L) ∧ Below w.heap.size w w' := by
  subst hq
  exact flatten_good W H A n c ms w hL hG
theorem run_fault_code (a b : Int) (w : World) : (Instr.field 28 (.agg #[.int .i64 a, .int .i64 b]) 0).run Tryd.prog w = .ok (.int .i64 a) w := by kernel_rfl
end Go.Proofs.YtfadnkfceggjaaaDoor
/- LayerFlat: the law's walk. Printed by mklflat.py. -/
namespace Go.Proofs.YtfadnkfceggjaaaDoor
open Go Go.RowKit

theorem docOf_as (W H : Int) (A : Option Addr) (n c : Nat) (ms : List LM) (w : World) (hL : Lays w w.heap.size A n ms) (hn : n ≤ 4096) (hp : ∀ m ∈ ms, m.n ≤ 1048576) :
    Calls Tryd.prog 11 #[.agg #[.int .i64 W, .int .i64 H, .slice A n c]] w
      fun e w' => ∃ A' c' na, e = .returned (.agg #[.int .i64 W, .int .i64 H, .slice A' n c']) ∧ LaysO w' w.heap.size (.slice A' n c') na ∧ lsOf na = lsOf ms ∧ Below w.heap.size w w' := by
  refine (docOf_any W H A n c ms w hL hn hp).mono fun e w' ⟨A', c', na, he, hO, hs, _, hb⟩ => ?_
  have hna : na.length = n := by rw [same_lays hs, hL.len]
  rw [hna] at he hO
  exact ⟨A', c', na, he, hO, hs, hb⟩
theorem flatOf_as (W H : Int) (A : Option Addr) (n c : Nat) (ms : List LM) (w : World) (hL : Lays w w.heap.size A n ms) (hG : Lay.Good W H (lsOf ms)) (L : List Px) (hq : Lay.flat (lsOf ms) W.toNat H.toNat = L) :
    Calls Tryd.prog 18 #[.agg #[.int .i64 W, .int .i64 H, .slice A n c]] w
      fun e w' => ∃ A' c', e = .returned (.agg #[.int .i64 W, .int .i64 H, .slice A' L.length c']) ∧ Own w' w.heap.size 4 (.slice A' L.length c') L.length (pxCells L) ∧ Below w.heap.size w w' := by
  obtain ⟨a1, a2⟩ := sideB_true hG.wd
  obtain ⟨a3, a4⟩ := sideB_true hG.hg
  have hok := layOK_of hG hL
  have hn8 : n ≤ 4096 := by have := hG.n; rw [lsOf_len, ← hL.len] at this; omega
  obtain ⟨W', rfl⟩ : ∃ W' : Nat, W = W' := ⟨W.toNat, by omega⟩
  obtain ⟨H', rfl⟩ : ∃ H' : Nat, H = H' := ⟨H.toNat, by omega⟩
  rw [Int.toNat_natCast, Int.toNat_natCast] at hq
  have hl : L.length = H' * W' := by rw [← hq, Lay.flat_length]
  rw [hl, ← hq]
  exact flatOf_any W' H' A n c ms w hL hok hn8 (by omega) (by omega)
theorem check_code (W H : Int) (ls : List Lay.Layer) : (Lay.check W H ls).1 ≤ 9 ∧ ((Lay.check W H ls).1 = 0 ∨ -1 ≤ (Lay.check W H ls).2) := by
  have hf : ∀ (i : Nat) (l : Lay.Layer), Lay.faultAt ls i l ≤ 9 := fun i l => by
    unfold Lay.faultAt
    split
    · omega
    · split
      · omega
      · split <;> omega
  have hc : ∀ (r : List Lay.Layer) (i : Nat), (Lay.checkFrom ls r i).1 ≤ 9 ∧ ((Lay.checkFrom ls r i).1 = 0 ∨ -1 ≤ (Lay.checkFrom ls r i).2) := by
    intro r
    induction r with
    | nil => intro i; exact ⟨by simp [Lay.checkFrom], .inl rfl⟩
    | cons l r ih =>
      intro i
      rw [Lay.checkFrom]
      split
      · exact ih (i + 1)
      · exact ⟨hf i l, .inr (by simp only; omega)⟩
  unfold Lay.check
  split
  · exact ⟨by simp, .inr (by simp)⟩
  · exact hc ls 0

set_option maxRecDepth 100000 in
set_option maxHeartbeats 8000000 in
theorem layerFlat_any (W H : Int) (A : Option Addr) (n c : Nat) (ms : List LM) (x y : Int) (E : Nat → Addr) (w : World) (hL : Lays w w.heap.size A n ms) (hn : n ≤ 9223372036854775807) (hr : ∀ m ∈ ms, m.n ≤ reachBytes) (hE : ErrsAt w E) :
    Calls Tryd.prog 4 #[.agg #[.int .i64 W, .int .i64 H, .slice A n c], .int .i64 x, .int .i64 y] w fun e w' => e = .returned (.bool true) ∧ Below w.heap.size w w' := by
  obtain ⟨ck, hck⟩ : ∃ f, Lay.check W H (lsOf ms) = f := ⟨_, rfl⟩
  have hcc := check_code W H (lsOf ms)
  rw [hck] at hcc
  have HCK := Lib.hid hck
  have HCC := Lib.hid hcc
  have HR := Lib.hid hr
  have HE := Lib.hid hE
  have hlen := hL.len
  have HLEN := Lib.hid hlen
  clear hck hcc hr hE hlen
  have hfd := run_fault_code
  go_enter Tryd.func4, Tryd.ntmps4
  go_wp2_with fail
  refine (still_any _).mono ?_
  rintro e w1 ⟨rfl, hb1⟩
  have B := (Blk.new w 24 #[.int .i64 W, .int .i64 H, .slice A n c] rfl).below hb1 (by simp)
  have hb := Below.trans (show Below w.heap.size w (w.alloc (.cells #[.int .i64 W, .int .i64 H, .slice A n c] 24)) by go_grown) (hb1.mono (by simp))
  have cB := B.cell
  clear hb1
  go_wp2_with fail
  refine (tame_is W H A n c ms _ (hL.here hb (Nat.le_refl _) hb.size) hn HR.out).mono ?_
  rintro e w2 ⟨⟨tb, rfl, htb⟩, hb2⟩
  have B2 := B.below hb2 B.lt
  have hbw2 := hb.trans (hb2.mono hb.size)
  have cB2 := B2.cell
  have HTB := Lib.hid htb
  clear cB hb2 hb B htb
  cases tb with
  | false =>
    go_wp2_with fail
    go_ret
    exact ⟨rfl, hbw2⟩
  | true =>
    have hn12 : n ≤ 4096 := by have := (HTB.out rfl).1; omega
    have HPM := Lib.hid (show ∀ m ∈ ms, m.n ≤ 1048576 from fun m hm => by have := (HTB.out rfl).2 m hm; omega)
    go_wp2_with fail
    refine (checkOf_any W H A n c ms _ (hL.here hbw2 (Nat.le_refl _) hbw2.size)).mono ?_
    rw [HCK.out]
    rintro e w3 ⟨rfl, hb3⟩
    have B3 := B2.below hb3 B2.lt
    have hbw3 := hbw2.trans (hb3.mono hbw2.size)
    have cB3 := B3.cell
    have lB3 := B3.lt
    unfold faultV
    clear cB2 hb3 hbw2 B2
    obtain ⟨f1, f2⟩ := ck
    go_wp2_with fail
    obtain ⟨gF, hgF⟩ : ∃ gF, gF = w3.heap.size := ⟨_, rfl⟩
    obtain ⟨w4, hw4⟩ : ∃ w4, w4 = w3.alloc (.cells #[.int .i64 f1, .int .i64 f2] 28) := ⟨_, rfl⟩
    have hb4 : Below w3.heap.size w3 w4 := by rw [hw4]; exact (Below.refl _ _).alloc (Nat.le_refl _) _
    have P4 : Blk w4 gF 28 #[.int .i64 f1, .int .i64 f2] := by rw [hw4, hgF]; exact Blk.new _ _ _ rfl
    have B4 := B3.below hb4 B3.lt
    have hbw4 := hbw3.trans (hb4.mono hbw3.size)
    have HX4 := Lib.hid (HE.out.below hbw4)
    rw [← hw4, ← hgF]
    clear hw4 hgF hb4 B3 hbw3 cB3 lB3
    by_cases h0 : f1 = 0
    · have HG := Lib.hid (show Lay.Good W H (lsOf ms) from Lay.good_of (by rw [HCK.out]; exact h0))
      obtain ⟨a1, a2⟩ := sideB_true HG.out.wd
      obtain ⟨a3, a4⟩ := sideB_true HG.out.hg
      obtain ⟨L, hLq⟩ : ∃ L, Lay.flat (lsOf ms) W.toNat H.toNat = L := ⟨_, rfl⟩
      have hLl : L.length = H.toNat * W.toNat := by rw [← hLq, Lay.flat_length]
      have hLn : L.length ≤ 1048576 := by
        rw [hLl]
        have := Nat.mul_le_mul (show H.toNat ≤ 256 by omega) (show W.toNat ≤ 256 by omega)
        omega
      have HLQ := Lib.hid hLq
      have HLL := Lib.hid hLl
      clear hLq hLl
      subst h0
      cases hin : Lay.inP W H x y with
      | false =>
        have HIN := Lib.hid hin
        clear hin
        refine (docOf_as W H A n c ms _ (hL.here hbw4 (Nat.le_refl _) hbw4.size) hn12 HPM.out).mono ?_
        rintro e w5 ⟨A5, c5, na, rfl, hO5, hs5, hb5⟩
        have B5 := B4.below hb5 B4.lt
        have P5 := P4.below hb5 P4.lt
        have hbw5 := hbw4.trans (hb5.mono hbw4.size)
        have HX5 := Lib.hid (HE.out.below hbw5)
        clear hb5 hbw4 B4 P4
        go_wp2_with fail
        refine (flatten_as W H A5 n c5 na _ hO5.lays (by rw [hs5]; exact HG.out) L (by rw [hs5]; exact HLQ.out)).mono ?_
        rintro e w6 ⟨Ap, cp, rfl, hOp, hb6⟩
        have RP6 := hOp.reads.2
        have B6 := B5.below hb6 B5.lt
        have P6 := P5.below hb6 P5.lt
        have hbw6 := hbw5.trans (hb6.mono hbw5.size)
        have cB6 := B6.cell
        have lB6 := B6.lt
        clear hO5 hs5 hb6 B5 P5 hbw5 HX5
        go_wp2_with fail
        obtain ⟨gP, hgP⟩ : ∃ gP, gP = w6.heap.size := ⟨_, rfl⟩
        obtain ⟨w7, hw7⟩ : ∃ w7, w7 = w6.alloc (.cells #[.int .i64 W, .int .i64 H, .slice Ap L.length cp] 37) := ⟨_, rfl⟩
        have hb7 : Below w6.heap.size w6 w7 := by rw [hw7]; exact (Below.refl _ _).alloc (Nat.le_refl _) _
        have Q7 : Blk w7 gP 37 #[.int .i64 W, .int .i64 H, .slice Ap L.length cp] := by rw [hw7, hgP]; exact Blk.new _ _ _ rfl
        have B7 := B6.below hb7 B6.lt
        have P7 := P6.below hb7 P6.lt
        have hbw7 := hbw6.trans (hb7.mono hbw6.size)
        have RP7 := (RP6.below hb7 (Nat.le_refl _)).more hb7.size
        rw [← hw7, ← hgP]
        clear hw7 hgP hb7 B6 P6 hbw6 cB6 lB6 RP6 hOp
        refine (docOf_as W H A n c ms _ (hL.here hbw7 (Nat.le_refl _) hbw7.size) hn12 HPM.out).mono ?_
        rintro e w8 ⟨A8, c8, nb, rfl, hO8, hs8, hb8⟩
        have B8 := B7.below hb8 B7.lt
        have P8 := P7.below hb8 P7.lt
        have Q8 := Q7.below hb8 Q7.lt
        have hbw8 := hbw7.trans (hb8.mono hbw7.size)
        have HX8 := Lib.hid (HE.out.below hbw8)
        have RP8 := (RP7.below hb8 (Nat.le_refl _)).more hb8.size
        clear hb8 hbw7 B7 P7 Q7 RP7
        go_wp2_with fail
        refine (look_out W H A8 n c8 nb x y E _ HX8.out hO8.lays (by rw [hs8]; exact HG.out) HIN.out).mono ?_
        rintro e w9 ⟨rfl, hb9⟩
        unfold errV
        have B9 := B8.below hb9 B8.lt
        have P9 := P8.below hb9 P8.lt
        have Q9 := Q8.below hb9 Q8.lt
        have hbw9 := hbw8.trans (hb9.mono hbw8.size)
        have RP9 := (RP8.below hb9 (Nat.le_refl _)).more hb9.size
        clear hO8 hs8 hb9 B8 P8 Q8 hbw8 HX8 RP8
        go_wp2_with fail
        obtain ⟨gC, hgC⟩ : ∃ gC, gC = w9.heap.size := ⟨_, rfl⟩
        obtain ⟨W0, hW0⟩ : ∃ W0, W0 = w9.alloc (.cells #[.int .u8 0, .int .u8 0, .int .u8 0, .int .u8 0] 49) := ⟨_, rfl⟩
        have hb0 : Below w9.heap.size w9 W0 := by rw [hW0]; exact (Below.refl _ _).alloc (Nat.le_refl _) _
        have C0 : Blk W0 gC 49 #[.int .u8 0, .int .u8 0, .int .u8 0, .int .u8 0] := by rw [hW0, hgC]; exact Blk.new _ _ _ rfl
        have B0 := B9.below hb0 B9.lt
        have P0 := P9.below hb0 P9.lt
        have Q0 := Q9.below hb0 Q9.lt
        have hbw0 := hbw9.trans (hb0.mono hbw9.size)
        have RP0 := (RP9.below hb0 (Nat.le_refl _)).more hb0.size
        rw [← hW0, ← hgC]
        clear hW0 hgC hb0 B9 P9 Q9 hbw9 RP9
        have s0 : W0.cell? ⟨w.heap.size, 0, none⟩ = some (.int .i64 W) := (B0.cell 0).trans rfl
        have s1 : W0.cell? ⟨w.heap.size, 1, none⟩ = some (.int .i64 H) := (B0.cell 1).trans rfl
        have s2 : W0.cell? ⟨w.heap.size, 2, none⟩ = some (.slice A n c) := (B0.cell 2).trans rfl
        have s3 : W0.cell? ⟨gF, 0, none⟩ = some (.int .i64 0) := (P0.cell 0).trans rfl
        have s4 : W0.cell? ⟨gF, 1, none⟩ = some (.int .i64 f2) := (P0.cell 1).trans rfl
        have LL := Lib.hid (hL.here hbw0 (Nat.le_refl _) hbw0.size)
        have HX0 := Lib.hid (HE.out.below hbw0)
        have HB0 := Lib.hid B0
        have HP0 := Lib.hid P0
        have HQ0 := Lib.hid Q0
        have HC0 := Lib.hid C0
        have HBW := Lib.hid hbw0
        have HRP := Lib.hid RP0
        clear B0 P0 Q0 C0 hbw0 RP0
        go_region_held3 (fun w' => w'.cell? ⟨w.heap.size, 0, none⟩ = some (.int .i64 W) ∧ w'.cell? ⟨w.heap.size, 1, none⟩ = some (.int .i64 H) ∧ w'.cell? ⟨w.heap.size, 2, none⟩ = some (.slice A n c) ∧ w'.cell? ⟨gF, 0, none⟩ = some (.int .i64 0) ∧ w'.cell? ⟨gF, 1, none⟩ = some (.int .i64 f2))
          ((go_split_ands
            refine ⟨?_, ?_, ?_, ?_, ?_⟩
            · ((repeat' (first | (with_reducible exact s0) | (with_reducible refine bkeep hbC ?_) | (with_reducible refine bkeep hbB ?_) | (with_reducible refine bkeep hbA ?_))) <;> exact s0)
            · ((repeat' (first | (with_reducible exact s1) | (with_reducible refine bkeep hbC ?_) | (with_reducible refine bkeep hbB ?_) | (with_reducible refine bkeep hbA ?_))) <;> exact s1)
            · ((repeat' (first | (with_reducible exact s2) | (with_reducible refine bkeep hbC ?_) | (with_reducible refine bkeep hbB ?_) | (with_reducible refine bkeep hbA ?_))) <;> exact s2)
            · ((repeat' (first | (with_reducible exact s3) | (with_reducible refine bkeep hbC ?_) | (with_reducible refine bkeep hbB ?_) | (with_reducible refine bkeep hbA ?_))) <;> exact s3)
            · ((repeat' (first | (with_reducible exact s4) | (with_reducible refine bkeep hbC ?_) | (with_reducible refine bkeep hbB ?_) | (with_reducible refine bkeep hbA ?_))) <;> exact s4)))
          (first
            | (go_at_call 11; refine (docOf_as W H A n c ms W0.drew LL.out hn12 HPM.out).mono ?_; rintro e wA ⟨A6, c6, nc, rfl, hO6, hs6, hbA⟩; have hb0A := (Below.here W0).trans hbA)
            | (go_at_call 17; refine (check_any W H A6 n c6 nc E wA (HX0.out.below hb0A) hO6.lays).mono ?_; rw [hs6, HCK.out]; rintro e wB ⟨v3, rfl, hv3, hbB⟩; have hb0B := hb0A.trans (hbB.mono hbA.size))
            | (go_at_call 16; refine (faulted_any E v3 0 f2 wB (HX0.out.below hb0B) hv3 (Nat.zero_le _) (.inl rfl)).mono ?_; rintro e wC ⟨rfl, hbC⟩; have hb0C := hb0B.trans (hbC.mono hb0B.size)))
        have B1 := HB0.out.below hb0C HB0.out.lt
        have P1 := HP0.out.below hb0C HP0.out.lt
        have Q1 := HQ0.out.below hb0C HQ0.out.lt
        have C1 := HC0.out.below hb0C HC0.out.lt
        have hbw1 := HBW.out.trans (hb0C.mono HBW.out.size)
        have HX1 := Lib.hid (HX0.out.below hb0C)
        have RP1 := (HRP.out.below hb0C (Nat.le_refl _)).more hb0C.size
        have cP1 := P1.cell
        have cB1 := B1.cell
        clear hbA hbB hbC hb0A hb0B hb0C hv3 hO6 hs6 s0 s1 s2 s3 s4
        go_wp2_with fail
        refine (flatOf_as W H A n c ms _ (hL.here hbw1 (Nat.le_refl _) hbw1.size) HG.out L HLQ.out).mono ?_
        rintro e w10 ⟨Aw, cw, rfl, hOw, hb10⟩
        have Q2 := Q1.below hb10 Q1.lt
        have C2 := C1.below hb10 C1.lt
        have hbw10 := hbw1.trans (hb10.mono hbw1.size)
        have RP2 := (RP1.below hb10 (Nat.le_refl _)).more hb10.size
        have RW2 := hOw.reads.2
        have cQ2 := Q2.cell
        have lQ2 := Q2.lt
        clear hb10 hOw P1 B1 Q1 C1 RP1 hbw1 cP1 cB1
        go_wp2_with fail
        obtain ⟨gW, hgW⟩ : ∃ gW, gW = w10.heap.size := ⟨_, rfl⟩
        obtain ⟨w11, hw11⟩ : ∃ w11, w11 = w10.alloc (.cells #[.int .i64 W, .int .i64 H, .slice Aw L.length cw] 37) := ⟨_, rfl⟩
        have hb11 : Below w10.heap.size w10 w11 := by rw [hw11]; exact (Below.refl _ _).alloc (Nat.le_refl _) _
        have V3 : Blk w11 gW 37 #[.int .i64 W, .int .i64 H, .slice Aw L.length cw] := by rw [hw11, hgW]; exact Blk.new _ _ _ rfl
        have C3 := C2.below hb11 C2.lt
        have hbw11 := hbw10.trans (hb11.mono hbw10.size)
        have RP3 := (RP2.below hb11 (Nat.le_refl _)).more hb11.size
        have RW3 := (RW2.below hb11 (Nat.le_refl _)).more hb11.size
        rw [← hw11, ← hgW]
        clear hw11 hgW hb11 Q2 C2 RP2 RW2 hbw10 cQ2 lQ2
        refine (samePicture_same W H Ap L.length cp Aw cw L _ RP3 RW3 hLn).mono ?_
        rintro e w12 ⟨rfl, hb12⟩
        have V4 := V3.below hb12 V3.lt
        have C4 := C3.below hb12 C3.lt
        have hbw12 := hbw11.trans (hb12.mono hbw11.size)
        have RW4 := (RW3.below hb12 (Nat.le_refl _)).more hb12.size
        have cV4 := V4.cell
        clear hb12 V3 C3 RP3 RW3 hbw11
        go_wp2_with fail
        refine (inRef_any W H x y Aw L.length cw _).mono ?_
        rw [HIN.out]
        rintro e w13 ⟨rfl, hb13⟩
        have V5 := V4.below hb13 V4.lt
        have C5 := C4.below hb13 C4.lt
        have hbw13 := hbw12.trans (hb13.mono hbw12.size)
        have RW5 := (RW4.below hb13 (Nat.le_refl _)).more hb13.size
        have cV5 := V5.cell
        have cC5 := C5.cell
        have HX5 := Lib.hid (HE.out.below hbw13)
        clear hb13 V4 C4 RW4 hbw12 cV4
        go_wp2_with fail
        refine (coded_sent E 1 (by omega) 2 _ HX5.out).mono ?_
        rintro e w14 ⟨rfl, hb14⟩
        have C6 := C5.below hb14 C5.lt
        have hbw14 := hbw13.trans (hb14.mono hbw13.size)
        have cC6 := C6.cell
        have heq := fun w => run_eql_px w Pix.nil Pix.nil
        unfold pxV Pix.nil at heq
        clear hb14 cC5 cV5
        go_wp2_with fail
        go_ret
        exact ⟨rfl, hbw14⟩
      | true =>
        have HIN := Lib.hid hin
        simp only [Lay.inP, Bool.and_eq_true, decide_eq_true_eq] at hin
        obtain ⟨⟨⟨h1, h2⟩, h3⟩, h4⟩ := hin
        have v1 : (y + 1) * W ≤ H * W := Int.mul_le_mul_of_nonneg_right (by omega) (by omega)
        have v2 : 0 ≤ y * W := Int.mul_nonneg h2 (by omega)
        have v3 : H * W ≤ 256 * 256 := Int.mul_le_mul a4 a2 (by omega) (by omega)
        rw [Int.add_mul, Int.one_mul] at v1
        obtain ⟨i, hi⟩ : ∃ i : Nat, y * W + x = i := ⟨(y * W + x).toNat, by omega⟩
        have hpi : L[i]? = some (Lay.dot (lsOf ms) x y) := by
          obtain ⟨W', rfl⟩ : ∃ W' : Nat, W = W' := ⟨W.toNat, by omega⟩
          obtain ⟨H', rfl⟩ : ∃ H' : Nat, H = H' := ⟨H.toNat, by omega⟩
          obtain ⟨x', rfl⟩ : ∃ x' : Nat, x = x' := ⟨x.toNat, by omega⟩
          obtain ⟨y', rfl⟩ : ∃ y' : Nat, y = y' := ⟨y.toNat, by omega⟩
          have e : i = y' * W' + x' := by apply Int.natCast_inj.1; rw [← hi, Int.natCast_add, Int.natCast_mul]
          have h := Lay.flat_at (lsOf ms) W' H' x' y' (by omega) (by omega)
          rw [← HLQ.out, Int.toNat_natCast, Int.toNat_natCast, e]
          exact h
        obtain ⟨p, hp⟩ : ∃ p, Lay.dot (lsOf ms) x y = p := ⟨_, rfl⟩
        rw [hp] at hpi
        have hil := (List.getElem?_eq_some_iff.1 hpi).1
        have HDOT := Lib.hid hp
        have HIL := Lib.hid hil
        have HPI := Lib.hid hpi
        have HIX := Lib.hid hi
        have HZB := Lib.hid (show 0 ≤ y * W ∧ y * W ≤ 1048576 by omega)
        clear hp hpi hil hi v1 v2 v3 h3 h4
        refine (docOf_as W H A n c ms _ (hL.here hbw4 (Nat.le_refl _) hbw4.size) hn12 HPM.out).mono ?_
        rintro e w5 ⟨A5, c5, na, rfl, hO5, hs5, hb5⟩
        have B5 := B4.below hb5 B4.lt
        have P5 := P4.below hb5 P4.lt
        have hbw5 := hbw4.trans (hb5.mono hbw4.size)
        have HX5 := Lib.hid (HE.out.below hbw5)
        clear hb5 hbw4 B4 P4
        go_wp2_with fail
        refine (flatten_as W H A5 n c5 na _ hO5.lays (by rw [hs5]; exact HG.out) L (by rw [hs5]; exact HLQ.out)).mono ?_
        rintro e w6 ⟨Ap, cp, rfl, hOp, hb6⟩
        have RP6 := hOp.reads.2
        have B6 := B5.below hb6 B5.lt
        have P6 := P5.below hb6 P5.lt
        have hbw6 := hbw5.trans (hb6.mono hbw5.size)
        have cB6 := B6.cell
        have lB6 := B6.lt
        clear hO5 hs5 hb6 B5 P5 hbw5 HX5
        go_wp2_with fail
        obtain ⟨gP, hgP⟩ : ∃ gP, gP = w6.heap.size := ⟨_, rfl⟩
        obtain ⟨w7, hw7⟩ : ∃ w7, w7 = w6.alloc (.cells #[.int .i64 W, .int .i64 H, .slice Ap L.length cp] 37) := ⟨_, rfl⟩
        have hb7 : Below w6.heap.size w6 w7 := by rw [hw7]; exact (Below.refl _ _).alloc (Nat.le_refl _) _
        have Q7 : Blk w7 gP 37 #[.int .i64 W, .int .i64 H, .slice Ap L.length cp] := by rw [hw7, hgP]; exact Blk.new _ _ _ rfl
        have B7 := B6.below hb7 B6.lt
        have P7 := P6.below hb7 P6.lt
        have hbw7 := hbw6.trans (hb7.mono hbw6.size)
        have RP7 := (RP6.below hb7 (Nat.le_refl _)).more hb7.size
        rw [← hw7, ← hgP]
        clear hw7 hgP hb7 B6 P6 hbw6 cB6 lB6 RP6 hOp
        refine (docOf_as W H A n c ms _ (hL.here hbw7 (Nat.le_refl _) hbw7.size) hn12 HPM.out).mono ?_
        rintro e w8 ⟨A8, c8, nb, rfl, hO8, hs8, hb8⟩
        have B8 := B7.below hb8 B7.lt
        have P8 := P7.below hb8 P7.lt
        have Q8 := Q7.below hb8 Q7.lt
        have hbw8 := hbw7.trans (hb8.mono hbw7.size)
        have HX8 := Lib.hid (HE.out.below hbw8)
        have RP8 := (RP7.below hb8 (Nat.le_refl _)).more hb8.size
        clear hb8 hbw7 B7 P7 Q7 RP7
        go_wp2_with fail
        refine (look_in W H A8 n c8 nb x y p _ hO8.lays (by rw [hs8]; exact HG.out) HIN.out (by rw [hs8]; exact HDOT.out)).mono ?_
        rintro e w9 ⟨rfl, hb9⟩
        have B9 := B8.below hb9 B8.lt
        have P9 := P8.below hb9 P8.lt
        have Q9 := Q8.below hb9 Q8.lt
        have hbw9 := hbw8.trans (hb9.mono hbw8.size)
        have RP9 := (RP8.below hb9 (Nat.le_refl _)).more hb9.size
        clear hO8 hs8 hb9 B8 P8 Q8 hbw8 HX8 RP8
        go_wp2_with fail
        obtain ⟨gC, hgC⟩ : ∃ gC, gC = w9.heap.size := ⟨_, rfl⟩
        obtain ⟨W0, hW0⟩ : ∃ W0, W0 = w9.alloc (.cells #[.int .u8 p.r.toNat, .int .u8 p.g.toNat, .int .u8 p.b.toNat, .int .u8 p.a.toNat] 49) := ⟨_, rfl⟩
        have hb0 : Below w9.heap.size w9 W0 := by rw [hW0]; exact (Below.refl _ _).alloc (Nat.le_refl _) _
        have C0 : Blk W0 gC 49 #[.int .u8 p.r.toNat, .int .u8 p.g.toNat, .int .u8 p.b.toNat, .int .u8 p.a.toNat] := by rw [hW0, hgC]; exact Blk.new _ _ _ rfl
        have B0 := B9.below hb0 B9.lt
        have P0 := P9.below hb0 P9.lt
        have Q0 := Q9.below hb0 Q9.lt
        have hbw0 := hbw9.trans (hb0.mono hbw9.size)
        have RP0 := (RP9.below hb0 (Nat.le_refl _)).more hb0.size
        rw [← hW0, ← hgC]
        clear hW0 hgC hb0 B9 P9 Q9 hbw9 RP9
        have s0 : W0.cell? ⟨w.heap.size, 0, none⟩ = some (.int .i64 W) := (B0.cell 0).trans rfl
        have s1 : W0.cell? ⟨w.heap.size, 1, none⟩ = some (.int .i64 H) := (B0.cell 1).trans rfl
        have s2 : W0.cell? ⟨w.heap.size, 2, none⟩ = some (.slice A n c) := (B0.cell 2).trans rfl
        have s3 : W0.cell? ⟨gF, 0, none⟩ = some (.int .i64 0) := (P0.cell 0).trans rfl
        have s4 : W0.cell? ⟨gF, 1, none⟩ = some (.int .i64 f2) := (P0.cell 1).trans rfl
        have LL := Lib.hid (hL.here hbw0 (Nat.le_refl _) hbw0.size)
        have HX0 := Lib.hid (HE.out.below hbw0)
        have HB0 := Lib.hid B0
        have HP0 := Lib.hid P0
        have HQ0 := Lib.hid Q0
        have HC0 := Lib.hid C0
        have HBW := Lib.hid hbw0
        have HRP := Lib.hid RP0
        clear B0 P0 Q0 C0 hbw0 RP0
        go_region_held3 (fun w' => w'.cell? ⟨w.heap.size, 0, none⟩ = some (.int .i64 W) ∧ w'.cell? ⟨w.heap.size, 1, none⟩ = some (.int .i64 H) ∧ w'.cell? ⟨w.heap.size, 2, none⟩ = some (.slice A n c) ∧ w'.cell? ⟨gF, 0, none⟩ = some (.int .i64 0) ∧ w'.cell? ⟨gF, 1, none⟩ = some (.int .i64 f2))
          ((go_split_ands
            refine ⟨?_, ?_, ?_, ?_, ?_⟩
            · ((repeat' (first | (with_reducible exact s0) | (with_reducible refine bkeep hbC ?_) | (with_reducible refine bkeep hbB ?_) | (with_reducible refine bkeep hbA ?_))) <;> exact s0)
            · ((repeat' (first | (with_reducible exact s1) | (with_reducible refine bkeep hbC ?_) | (with_reducible refine bkeep hbB ?_) | (with_reducible refine bkeep hbA ?_))) <;> exact s1)
            · ((repeat' (first | (with_reducible exact s2) | (with_reducible refine bkeep hbC ?_) | (with_reducible refine bkeep hbB ?_) | (with_reducible refine bkeep hbA ?_))) <;> exact s2)
            · ((repeat' (first | (with_reducible exact s3) | (with_reducible refine bkeep hbC ?_) | (with_reducible refine bkeep hbB ?_) | (with_reducible refine bkeep hbA ?_))) <;> exact s3)
            · ((repeat' (first | (with_reducible exact s4) | (with_reducible refine bkeep hbC ?_) | (with_reducible refine bkeep hbB ?_) | (with_reducible refine bkeep hbA ?_))) <;> exact s4)))
          (first
            | (go_at_call 11; refine (docOf_as W H A n c ms W0.drew LL.out hn12 HPM.out).mono ?_; rintro e wA ⟨A6, c6, nc, rfl, hO6, hs6, hbA⟩; have hb0A := (Below.here W0).trans hbA)
            | (go_at_call 17; refine (check_any W H A6 n c6 nc E wA (HX0.out.below hb0A) hO6.lays).mono ?_; rw [hs6, HCK.out]; rintro e wB ⟨v3, rfl, hv3, hbB⟩; have hb0B := hb0A.trans (hbB.mono hbA.size))
            | (go_at_call 16; refine (faulted_any E v3 0 f2 wB (HX0.out.below hb0B) hv3 (Nat.zero_le _) (.inl rfl)).mono ?_; rintro e wC ⟨rfl, hbC⟩; have hb0C := hb0B.trans (hbC.mono hb0B.size)))
        have B1 := HB0.out.below hb0C HB0.out.lt
        have P1 := HP0.out.below hb0C HP0.out.lt
        have Q1 := HQ0.out.below hb0C HQ0.out.lt
        have C1 := HC0.out.below hb0C HC0.out.lt
        have hbw1 := HBW.out.trans (hb0C.mono HBW.out.size)
        have HX1 := Lib.hid (HX0.out.below hb0C)
        have RP1 := (HRP.out.below hb0C (Nat.le_refl _)).more hb0C.size
        have cP1 := P1.cell
        have cB1 := B1.cell
        clear hbA hbB hbC hb0A hb0B hb0C hv3 hO6 hs6 s0 s1 s2 s3 s4
        go_wp2_with fail
        refine (flatOf_as W H A n c ms _ (hL.here hbw1 (Nat.le_refl _) hbw1.size) HG.out L HLQ.out).mono ?_
        rintro e w10 ⟨Aw, cw, rfl, hOw, hb10⟩
        have Q2 := Q1.below hb10 Q1.lt
        have C2 := C1.below hb10 C1.lt
        have hbw10 := hbw1.trans (hb10.mono hbw1.size)
        have RP2 := (RP1.below hb10 (Nat.le_refl _)).more hb10.size
        have RW2 := hOw.reads.2
        have cQ2 := Q2.cell
        have lQ2 := Q2.lt
        clear hb10 hOw P1 B1 Q1 C1 RP1 hbw1 cP1 cB1
        go_wp2_with fail
        obtain ⟨gW, hgW⟩ : ∃ gW, gW = w10.heap.size := ⟨_, rfl⟩
        obtain ⟨w11, hw11⟩ : ∃ w11, w11 = w10.alloc (.cells #[.int .i64 W, .int .i64 H, .slice Aw L.length cw] 37) := ⟨_, rfl⟩
        have hb11 : Below w10.heap.size w10 w11 := by rw [hw11]; exact (Below.refl _ _).alloc (Nat.le_refl _) _
        have V3 : Blk w11 gW 37 #[.int .i64 W, .int .i64 H, .slice Aw L.length cw] := by rw [hw11, hgW]; exact Blk.new _ _ _ rfl
        have C3 := C2.below hb11 C2.lt
        have hbw11 := hbw10.trans (hb11.mono hbw10.size)
        have RP3 := (RP2.below hb11 (Nat.le_refl _)).more hb11.size
        have RW3 := (RW2.below hb11 (Nat.le_refl _)).more hb11.size
        rw [← hw11, ← hgW]
        clear hw11 hgW hb11 Q2 C2 RP2 RW2 hbw10 cQ2 lQ2
        refine (samePicture_same W H Ap L.length cp Aw cw L _ RP3 RW3 hLn).mono ?_
        rintro e w12 ⟨rfl, hb12⟩
        have V4 := V3.below hb12 V3.lt
        have C4 := C3.below hb12 C3.lt
        have hbw12 := hbw11.trans (hb12.mono hbw11.size)
        have RW4 := (RW3.below hb12 (Nat.le_refl _)).more hb12.size
        have cV4 := V4.cell
        clear hb12 V3 C3 RP3 RW3 hbw11
        go_wp2_with fail
        refine (inRef_any W H x y Aw L.length cw _).mono ?_
        rw [HIN.out]
        rintro e w13 ⟨rfl, hb13⟩
        have V5 := V4.below hb13 V4.lt
        have C5 := C4.below hb13 C4.lt
        have hbw13 := hbw12.trans (hb13.mono hbw12.size)
        have RW5 := (RW4.below hb13 (Nat.le_refl _)).more hb13.size
        have cV5 := V5.cell
        have cC5 := C5.cell
        have HX5 := Lib.hid (HE.out.below hbw13)
        clear hb13 V4 C4 RW4 hbw12 cV4
        obtain ⟨bw, ow, rfl, hbw⟩ := RW5.addr (by have := HIL.out; omega)
        obtain ⟨hil, hpe⟩ := List.getElem?_eq_some_iff.1 HPI.out
        have yy := RW5.px i hil
        rw [hpe] at yy
        obtain ⟨y0, y1, y2, y3⟩ := yy
        clear hil hpe
        have heq := fun w => run_eql_px w p p
        unfold pxV at heq
        have i0 : (0 : Int) ≤ (i : Int) := by omega
        have i1 : (i : Int) < (L.length : Int) := by have := HIL.out; omega
        obtain ⟨z, hz⟩ : ∃ z, y * W = z := ⟨_, rfl⟩
        have hzi : z + x = (i : Int) := by rw [← hz]; exact HIX.out
        have hzb : 0 ≤ z ∧ z ≤ 1048576 := by rw [← hz]; exact HZB.out
        have hw1 : IntKind.i64.wrap (y * W) = z := by rw [hz]; exact IntWalk.i64_in _ (by omega)
        have hw2 : IntKind.i64.wrap (z + x) = (i : Int) := by rw [hzi]; exact IntWalk.i64_in _ (by omega)
        have hw5 : IntKind.i64.wrap z = z := IntWalk.i64_in _ (by omega)
        have hw6 : IntKind.i64.wrap (i : Int) = (i : Int) := IntWalk.i64_in _ (by omega)
        clear hzb
        go_wp2_with fail
        go_quiet (fail)
        go_wp2_with fail
        go_ret
        exact ⟨rfl, below_drewN hbw13 _⟩
    · have H0 := Lib.hid (show (f1, f2).1 ≠ 0 from h0)
      have h1 : 0 < (f1 : Int) := by omega
      clear h0
      refine (docOf_as W H A n c ms _ (hL.here hbw4 (Nat.le_refl _) hbw4.size) hn12 HPM.out).mono ?_
      rintro e w5 ⟨A5, c5, na, rfl, hO5, hs5, hb5⟩
      have B5 := B4.below hb5 B4.lt
      have P5 := P4.below hb5 P4.lt
      have hbw5 := hbw4.trans (hb5.mono hbw4.size)
      have HX5 := Lib.hid (HE.out.below hbw5)
      clear hb5 hbw4 B4 P4
      go_wp2_with fail
      refine (flatten_bad W H A5 n c5 na E (f1, f2) _ (HX5.out) hO5.lays (by rw [hs5]; exact HCK.out) H0.out).mono ?_
      rintro e w6 ⟨v1, rfl, hv1, hb6⟩
      have B6 := B5.below hb6 B5.lt
      have P6 := P5.below hb6 P5.lt
      have hbw6 := hbw5.trans (hb6.mono hbw5.size)
      have cB6 := B6.cell
      have lB6 := B6.lt
      clear hO5 hs5 hb6 B5 P5 hbw5 HX5
      go_wp2_with fail
      obtain ⟨gP, hgP⟩ : ∃ gP, gP = w6.heap.size := ⟨_, rfl⟩
      obtain ⟨w7, hw7⟩ : ∃ w7, w7 = w6.alloc (.cells #[.int .i64 0, .int .i64 0, .slice none 0 0] 37) := ⟨_, rfl⟩
      have hb7 : Below w6.heap.size w6 w7 := by rw [hw7]; exact (Below.refl _ _).alloc (Nat.le_refl _) _
      have Q7 : Blk w7 gP 37 #[.int .i64 0, .int .i64 0, .slice none 0 0] := by rw [hw7, hgP]; exact Blk.new _ _ _ rfl
      have B7 := B6.below hb7 B6.lt
      have P7 := P6.below hb7 P6.lt
      have hbw7 := hbw6.trans (hb7.mono hbw6.size)
      have HV7 := Lib.hid (hv1.below hb7)
      rw [← hw7, ← hgP]
      clear hw7 hgP hb7 B6 P6 hbw6 cB6 lB6 hv1
      refine (docOf_as W H A n c ms _ (hL.here hbw7 (Nat.le_refl _) hbw7.size) hn12 HPM.out).mono ?_
      rintro e w8 ⟨A8, c8, nb, rfl, hO8, hs8, hb8⟩
      have B8 := B7.below hb8 B7.lt
      have P8 := P7.below hb8 P7.lt
      have Q8 := Q7.below hb8 Q7.lt
      have hbw8 := hbw7.trans (hb8.mono hbw7.size)
      have HX8 := Lib.hid (HE.out.below hbw8)
      have HV8 := Lib.hid (HV7.out.below hb8)
      clear hb8 hbw7 B7 P7 Q7 HV7
      go_wp2_with fail
      refine (look_bad W H A8 n c8 nb x y E (f1, f2) _ HX8.out hO8.lays (by rw [hs8]; exact HCK.out) H0.out).mono ?_
      rintro e w9 ⟨v2, rfl, hv2, hb9⟩
      have B9 := B8.below hb9 B8.lt
      have P9 := P8.below hb9 P8.lt
      have Q9 := Q8.below hb9 Q8.lt
      have hbw9 := hbw8.trans (hb9.mono hbw8.size)
      have HV9 := Lib.hid (HV8.out.below hb9)
      clear hO8 hs8 hb9 B8 P8 Q8 hbw8 HX8 HV8
      go_wp2_with fail
      obtain ⟨gC, hgC⟩ : ∃ gC, gC = w9.heap.size := ⟨_, rfl⟩
      obtain ⟨W0, hW0⟩ : ∃ W0, W0 = w9.alloc (.cells #[.int .u8 0, .int .u8 0, .int .u8 0, .int .u8 0] 49) := ⟨_, rfl⟩
      have hb0 : Below w9.heap.size w9 W0 := by rw [hW0]; exact (Below.refl _ _).alloc (Nat.le_refl _) _
      have C0 : Blk W0 gC 49 #[.int .u8 0, .int .u8 0, .int .u8 0, .int .u8 0] := by rw [hW0, hgC]; exact Blk.new _ _ _ rfl
      have B0 := B9.below hb0 B9.lt
      have P0 := P9.below hb0 P9.lt
      have Q0 := Q9.below hb0 Q9.lt
      have hbw0 := hbw9.trans (hb0.mono hbw9.size)
      have HV0 := Lib.hid (HV9.out.below hb0)
      have HU0 := Lib.hid (hv2.below hb0)
      rw [← hW0, ← hgC]
      clear hW0 hgC hb0 B9 P9 Q9 hbw9 HV9 hv2
      have s0 : W0.cell? ⟨w.heap.size, 0, none⟩ = some (.int .i64 W) := (B0.cell 0).trans rfl
      have s1 : W0.cell? ⟨w.heap.size, 1, none⟩ = some (.int .i64 H) := (B0.cell 1).trans rfl
      have s2 : W0.cell? ⟨w.heap.size, 2, none⟩ = some (.slice A n c) := (B0.cell 2).trans rfl
      have s3 : W0.cell? ⟨gF, 0, none⟩ = some (.int .i64 f1) := (P0.cell 0).trans rfl
      have s4 : W0.cell? ⟨gF, 1, none⟩ = some (.int .i64 f2) := (P0.cell 1).trans rfl
      have LL := Lib.hid (hL.here hbw0 (Nat.le_refl _) hbw0.size)
      have HX0 := Lib.hid (HE.out.below hbw0)
      have HB0 := Lib.hid B0
      have HP0 := Lib.hid P0
      have HQ0 := Lib.hid Q0
      have HC0 := Lib.hid C0
      have HBW := Lib.hid hbw0
      clear B0 P0 Q0 C0 hbw0
      go_region_held3 (fun w' => w'.cell? ⟨w.heap.size, 0, none⟩ = some (.int .i64 W) ∧ w'.cell? ⟨w.heap.size, 1, none⟩ = some (.int .i64 H) ∧ w'.cell? ⟨w.heap.size, 2, none⟩ = some (.slice A n c) ∧ w'.cell? ⟨gF, 0, none⟩ = some (.int .i64 f1) ∧ w'.cell? ⟨gF, 1, none⟩ = some (.int .i64 f2))
        ((go_split_ands
          refine ⟨?_, ?_, ?_, ?_, ?_⟩
          · ((repeat' (first | (with_reducible exact s0) | (with_reducible refine bkeep hbC ?_) | (with_reducible refine bkeep hbB ?_) | (with_reducible refine bkeep hbA ?_))) <;> exact s0)
          · ((repeat' (first | (with_reducible exact s1) | (with_reducible refine bkeep hbC ?_) | (with_reducible refine bkeep hbB ?_) | (with_reducible refine bkeep hbA ?_))) <;> exact s1)
          · ((repeat' (first | (with_reducible exact s2) | (with_reducible refine bkeep hbC ?_) | (with_reducible refine bkeep hbB ?_) | (with_reducible refine bkeep hbA ?_))) <;> exact s2)
          · ((repeat' (first | (with_reducible exact s3) | (with_reducible refine bkeep hbC ?_) | (with_reducible refine bkeep hbB ?_) | (with_reducible refine bkeep hbA ?_))) <;> exact s3)
          · ((repeat' (first | (with_reducible exact s4) | (with_reducible refine bkeep hbC ?_) | (with_reducible refine bkeep hbB ?_) | (with_reducible refine bkeep hbA ?_))) <;> exact s4)))
        (first
          | (go_at_call 11; refine (docOf_as W H A n c ms W0.drew LL.out hn12 HPM.out).mono ?_; rintro e wA ⟨A6, c6, nc, rfl, hO6, hs6, hbA⟩; have hb0A := (Below.here W0).trans hbA)
          | (go_at_call 17; refine (check_any W H A6 n c6 nc E wA (HX0.out.below hb0A) hO6.lays).mono ?_; rw [hs6, HCK.out]; rintro e wB ⟨v3, rfl, hv3, hbB⟩; have hb0B := hb0A.trans (hbB.mono hbA.size))
          | (go_at_call 16; refine (faulted_any E v3 f1 f2 wB (HX0.out.below hb0B) hv3 HCC.out.1 HCC.out.2).mono ?_; rintro e wC ⟨rfl, hbC⟩; have hb0C := hb0B.trans (hbC.mono hb0B.size)))
      have P1 := HP0.out.below hb0C HP0.out.lt
      have Q1 := HQ0.out.below hb0C HQ0.out.lt
      have C1 := HC0.out.below hb0C HC0.out.lt
      have hbw1 := HBW.out.trans (hb0C.mono HBW.out.size)
      have HX1 := Lib.hid (HX0.out.below hb0C)
      have HV1 := Lib.hid (HV0.out.below hb0C)
      have HU1 := Lib.hid (HU0.out.below hb0C)
      have cP1 := P1.cell
      have lP := P1.lt
      clear hbA hbB hbC hb0A hb0B hb0C hv3 hO6 hs6 s0 s1 s2 s3 s4
      go_wp2_with fail
      refine (faulted_any E v1 f1 f2 _ HX1.out HV1.out HCC.out.1 HCC.out.2).mono ?_
      rintro e w10 ⟨rfl, hb10⟩
      have P2 := P1.below hb10 P1.lt
      have Q2 := Q1.below hb10 Q1.lt
      have C2 := C1.below hb10 C1.lt
      have hbw10 := hbw1.trans (hb10.mono hbw1.size)
      have HX2 := Lib.hid (HX1.out.below hb10)
      have HU2 := Lib.hid (HU1.out.below hb10)
      have cP2 := P2.cell
      clear hb10 P1 Q1 C1 hbw1 cP1 lP
      go_wp2_with fail
      refine (faulted_any E v2 f1 f2 _ HX2.out HU2.out HCC.out.1 HCC.out.2).mono ?_
      rintro e w11 ⟨rfl, hb11⟩
      have Q3 := Q2.below hb11 Q2.lt
      have C3 := C2.below hb11 C2.lt
      have hbw11 := hbw10.trans (hb11.mono hbw10.size)
      have cQ3 := Q3.cell
      clear hb11 P2 Q2 C2 hbw10 cP2
      go_wp2_with fail
      refine (samePicture_same 0 0 none 0 0 none 0 [] _ Reads.none_ Reads.none_ (by omega)).mono ?_
      rintro e w12 ⟨rfl, hb12⟩
      have C4 := C3.below hb12 C3.lt
      have hbw12 := hbw11.trans (hb12.mono hbw11.size)
      have cC4 := C4.cell
      have heq := fun w => run_eql_px w Pix.nil Pix.nil
      unfold pxV Pix.nil at heq
      clear hb12 Q3 C3 hbw11 cQ3
      go_wp2_with fail
      go_ret
      exact ⟨rfl, hbw12⟩
end Go.Proofs.YtfadnkfceggjaaaDoor
