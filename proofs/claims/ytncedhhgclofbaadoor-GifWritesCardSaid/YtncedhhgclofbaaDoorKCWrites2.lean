/- ReachArg, FrArg: put together. -/
import Derived.Test.YtncedhhgclofbaaDoorRow
import Derived.Test.YtncedhhgclofbaaDoorProg
import Derived.KernelRfl
import Derived.Test.YtncedhhgclofbaaDoorFrMem
/- Data in reach: its slices are short; a picture out of its cells. -/
namespace Go.Proofs.YtncedhhgclofbaaDoor
open Go Go.RowKit Go.ChangeShapes Go.WideShapes Go.Deep Go.Joins

namespace daw
theorem pxT : PxT Tryd.prog 52 := ⟨⟨_, _, _, _, Tryd.underlying52, by kernel_rfl, Tryd.underlying5, Tryd.underlying5, Tryd.underlying5, Tryd.underlying5⟩, by kernel_rfl⟩
theorem picT : PicT Tryd.prog 35 52 := ⟨⟨_, _, _, Tryd.underlying35, by kernel_rfl, Tryd.underlying3, Tryd.underlying3, Tryd.underlying33⟩, by kernel_rfl, pxT⟩
theorem pxBytes : 0 < Tryd.prog.bytesOf 52 := of_decide_eq_true (by kernel_rfl)
end daw

section
variable {H : Type} {enc : TypeId × Value → H} {w : World} {base : Nat} {spare : Nat → Bool} {held : Bool}
/-- All that data weighs is in reach. -/
def InReach {K : Type} (P : Program) (t : TypeId) (d : DataW K) : Prop := (d.weights P t).all (· ≤ reachBytes) = true
theorem InReach.struct_ {K : Type} {P : Program} {t : TypeId} {fs : Array Field} (ht : P.underlying t = some (.struct fs)) {parts : List (DataW K)} (h : InReach P t (.agg parts)) : (DataW.weightsEach P (fs.toList.map (·.type)) parts).all (· ≤ reachBytes) = true := by
  unfold InReach at h
  simpa only [DataW.weights, ht] using h
theorem inReach_each {K : Type} {P : Program} : ∀ {ts : List TypeId} {ds : List (DataW K)}, (DataW.weightsEach P ts ds).all (· ≤ reachBytes) = true → ∀ (i : Nat) (t : TypeId) (d : DataW K), ts[i]? = some t → ds[i]? = some d → InReach P t d
  | [], _, _, i, t, d, ht, _ => by simp at ht
  | _ :: _, [], _, i, t, d, _, hd => by simp at hd
  | t0 :: ts, d0 :: ds, h, i, t, d, ht, hd => by
    simp only [DataW.weightsEach, List.all_append, Bool.and_eq_true] at h
    cases i with
    | zero =>
      simp only [List.getElem?_cons_zero, Option.some.injEq] at ht hd
      subst ht; subst hd
      exact h.1
    | succ i => exact inReach_each h.2 i t d (by simpa using ht) (by simpa using hd)
theorem inReach_all {K : Type} {P : Program} {e : TypeId} : ∀ {ds : List (DataW K)}, (DataW.weightsAll P e ds).all (· ≤ reachBytes) = true → ∀ d ∈ ds, InReach P e d
  | [], _, d, hd => by cases hd
  | d0 :: ds, h, d, hd => by
    simp only [DataW.weightsAll, List.all_append, Bool.and_eq_true] at h
    rcases List.mem_cons.1 hd with rfl | hd
    · exact h.1
    · exact inReach_all h.2 d hd
theorem InReach.slice_ {K : Type} {P : Program} {t e : TypeId} (ht : P.underlying t = some (.slice e)) {elems spare : List (DataW K)} (h : InReach P t (.slice elems spare)) : (elems.length + spare.length) * P.bytesOf e ≤ reachBytes ∧ ∀ d ∈ elems, InReach P e d := by
  unfold InReach at h
  simp only [DataW.weights, ht, List.all_cons, List.all_append, Bool.and_eq_true, decide_eq_true_eq] at h
  exact ⟨h.1, inReach_all h.2.1⟩
/-- A slice of elements that weigh something: not many. -/
theorem slice_reach {P : Program} {te ts : TypeId} (hs : P.underlying ts = some (.slice te)) (hb : 0 < P.bytesOf te) {fuel : Nat} {A : Option Addr} {len cap : Nat} {x : DataW H × List MemPlace} (ht : DataW.trod enc P w base spare held fuel ts [.slice A len cap] = some x) (hw : InReach P ts x.1) : len ≤ reachBytes := by
  rcases open_slice hs ht with ⟨hc, _⟩ | ⟨a, len', cap', m, n, D, Pl, hc, _, hlc, hcm, hm, hx, _⟩
  · injection hc with hc
    injection hc with _ h _
    omega
  · injection hc with hc
    injection hc with _ h _
    subst h
    rw [hx] at hw
    have h1 := (hw.slice_ hs).1
    simp only [List.length_map, List.length_range] at h1
    have h2 := Nat.le_mul_of_pos_right (len + (m - len)) hb
    omega
/-- As slice_field, with what the weights say of each element. -/
theorem slice_fieldW {κ : Type} [Inhabited κ] {P : Program} {te ts : TypeId} (hs : P.underlying ts = some (.slice te)) (size : Nat) (cellsOf : κ → List Value) (hl : ∀ p, (cellsOf p).length = size) (hsz : 0 < size) (hc : P.cellsOf te = size) (Q : κ → Prop)
    (hopen : ∀ (fuel : Nat) (cs : List Value) (x : DataW H × List MemPlace), DataW.trod enc P w base spare held fuel te cs = some x → InReach P te x.1 → ∃ p, cs = cellsOf p ∧ Q p)
    {fuel : Nat} {c : Value} {x : DataW H × List MemPlace} (ht : DataW.trod enc P w base spare held fuel ts [c] = some x) (hw : InReach P ts x.1) :
    ∃ (A : Option Addr) (len cap : Nat) (l : List κ), c = .slice A len cap ∧ Reads w w.heap.size size A len (l.flatMap cellsOf) ∧ l.length = len ∧ ∀ p ∈ l, Q p := by
  rcases open_slice hs ht with ⟨hc, _⟩ | ⟨a, len, cap, m, n, D, Pl, hc', _, hlc, _, hm, hxD, hi⟩
  · injection hc with hc
    exact ⟨none, 0, 0, [], hc, ⟨by simp, fun h => absurd h (by omega)⟩, rfl, fun p hp => by cases hp⟩
  · injection hc' with hc'
    have hlm : len ≤ m := by rw [hm]; split <;> omega
    rw [hxD] at hw
    have hwD := (hw.slice_ hs).2
    have hx : ∀ i, ∃ p : κ, i < len → Q p ∧ ∀ j, j < size → w.cell? (a.add (i * size + j)) = (cellsOf p)[j]? := by
      intro i
      by_cases hil : i < len
      · obtain ⟨cs', hcs, htr⟩ := hi i (by omega)
        obtain ⟨p, rfl, hq⟩ := hopen _ _ _ htr (hwD _ (List.mem_map.2 ⟨i, List.mem_range.2 hil, rfl⟩))
        rw [hc] at hcs
        obtain ⟨_, _, hat⟩ := World.cells?_some hcs
        exact ⟨p, fun _ => ⟨hq, fun j hj => by rw [← add_of_add]; exact hat j hj⟩⟩
      · exact ⟨default, fun hh => absurd hh hil⟩
    have hat : ∀ i, (hi : i < len) → ((List.range len).map fun i => Classical.choose (hx i))[i]'(by simpa using hi) = Classical.choose (hx i) := fun i hi => by simp
    refine ⟨some a, len, cap, (List.range len).map fun i => Classical.choose (hx i), hc', ⟨by rw [flatCells_length _ size hl]; simp, fun hpos => ?_⟩, by simp, fun p hp => ?_⟩
    · have hlen : 0 < len := by
        rcases Nat.eq_zero_or_pos len with h | h
        · subst h; simp at hpos
        · exact h
      have h0 := (Classical.choose_spec (hx 0) hlen).2 0 hsz
      obtain ⟨u0, hu0⟩ : ∃ u0, (cellsOf (Classical.choose (hx 0)))[0]? = some u0 := ⟨_, List.getElem?_eq_getElem (by rw [hl]; exact hsz)⟩
      rw [hu0] at h0
      have e0 : a.add (0 * size + 0) = a := by simp [Addr.add]
      rw [e0] at h0
      have hsp := World.cell?_spot h0
      have hlt := World.block_lt_of_cell? w _ h0
      obtain ⟨b, off, sp⟩ := a
      simp only at hsp
      subst hsp
      refine ⟨b, off, rfl, hlt, fun j u hu => ?_⟩
      have hjl : j < len * size := by
        have := (List.getElem?_eq_some_iff.1 hu).1
        rw [flatCells_length _ size hl] at this
        simpa using this
      have hq : j / size < len := Nat.div_lt_of_lt_mul (by rwa [Nat.mul_comm])
      have e : j = j / size * size + j % size := by have := Nat.div_add_mod j size; rw [Nat.mul_comm] at this; omega
      have hmod : j % size < size := Nat.mod_lt _ hsz
      have h1 := (Classical.choose_spec (hx (j / size)) hq).2 (j % size) hmod
      rw [← e, add_lit] at h1
      rw [h1, ← hu]
      conv => rhs; rw [e]
      rw [flatCells_at _ size hl _ (j / size) (by simpa using hq) _ hmod, hat _ hq]
    · obtain ⟨i, hi', e⟩ := List.mem_map.1 hp
      subst e
      exact (Classical.choose_spec (hx i) (List.mem_range.1 hi')).1
/-- Three cells that are a picture. -/
theorem pic_cellsW {fuel : Nat} {c0 c1 c2 : Value} {x : DataW H × List MemPlace} (ht : DataW.trod enc Tryd.prog w base spare held fuel 35 [c0, c1, c2] = some x) (hw : InReach Tryd.prog 35 x.1) :
    ∃ (W H' : Int) (A : Option Addr) (len cap : Nat) (l : List Px), c0 = .int .i64 W ∧ c1 = .int .i64 H' ∧ c2 = .slice A len cap ∧ Reads w w.heap.size 4 A len (pxCells l) ∧ len ≤ reachBytes := by
  obtain ⟨f0, f1, f2, hs, hone, t0, t1, t2⟩ := daw.picT.row
  obtain ⟨y0, y1, y2, n, hx, _, h0, h1, h2⟩ := trod_struct3 hs ht
  obtain ⟨o0, k0⟩ := hone_of hone 0 f0 rfl
  obtain ⟨o1, k1⟩ := hone_of hone 1 f1 rfl
  obtain ⟨o2, k2⟩ := hone_of hone 2 f2 rfl
  rw [o0, k0] at h0
  rw [o1, k1] at h1
  rw [o2, k2] at h2
  obtain ⟨n0, e0, _, _⟩ := DataW.trod_int t0 h0
  obtain ⟨n1, e1, _, _⟩ := DataW.trod_int t1 h1
  have h2' : DataW.trod enc Tryd.prog w base spare held n f2.type [c2] = some y2 := by simpa using h2
  obtain ⟨A, len, cap, l, e2, hr⟩ := pxs_field daw.pxT t2 (c := c2) h2'
  simp at e0 e1
  rw [hx] at hw
  have hw2 := inReach_each (hw.struct_ hs) 2 f2.type y2.1 rfl rfl
  rw [e2] at h2'
  exact ⟨n0, n1, A, len, cap, l, e0, e1, e2, hr, slice_reach t2 daw.pxBytes h2' hw2⟩
theorem slice_lenW {te ts : TypeId} {P : Program} (hs : P.underlying ts = some (.slice te)) {fuel : Nat} {A : Option Addr} {len cap : Nat} {x : DataW H × List MemPlace} (ht : DataW.trod enc P w base spare held fuel ts [.slice A len cap] = some x) : len ≤ 9223372036854775807 := by
  rcases open_slice hs ht with ⟨hc, _⟩ | ⟨a, len', cap', m, n, D, Pl, hc, _, hlc, hcm, _⟩
  · injection hc with hc
    injection hc with _ h _
    omega
  · injection hc with hc
    injection hc with _ h _
    unfold maxLen at hcm
    omega
end
end Go.Proofs.YtncedhhgclofbaaDoor
/- An argument that is frames, with what its row says of sizes. -/
namespace Go.Proofs.YtncedhhgclofbaaDoor
open Go Go.RowKit Go.ChangeShapes Go.WideShapes Go.Deep Go.Joins

namespace fra
theorem frRow : ∃ f0 f1, Tryd.prog.underlying 38 = some (.struct #[f0, f1]) ∧ (f0.offset = 0 ∧ f0.type = 35) ∧ (f1.offset = 3 ∧ Tryd.prog.cellsOf f1.type = 1 ∧ Tryd.prog.underlying f1.type = some (.int .i64)) :=
  ⟨_, _, Tryd.underlying38, ⟨by kernel_rfl, by kernel_rfl⟩, ⟨by kernel_rfl, by kernel_rfl, Tryd.underlying3⟩⟩
theorem frCellsN : Tryd.prog.cellsOf 38 = 4 := by kernel_rfl
end fra
section
variable {H : Type} {enc : TypeId × Value → H} {w : World} {base : Nat} {spare : Nat → Bool} {held : Bool}
set_option maxRecDepth 100000 in
theorem fr_cellsW {fuel : Nat} {cs : List Value} {x : DataW H × List MemPlace} (ht : DataW.trod enc Tryd.prog w base spare held fuel 38 cs = some x) (hw : InReach Tryd.prog 38 x.1) :
    ∃ m : FM, cs = frCs m ∧ Reads w w.heap.size 4 m.A m.n (pxCells m.f.ps) ∧ m.n ≤ reachBytes := by
  obtain ⟨f0, f1, hs, ⟨o0, t0⟩, ⟨o1, k1, t1⟩⟩ := fra.frRow
  obtain ⟨xs, n, _, hx, hl, hlen, hf⟩ := DataW.trod_struct hs ht
  rw [fra.frCellsN] at hl
  rw [hx] at hw
  match cs, hl with
  | [c0, c1, c2, c3], _ =>
    match xs, hlen with
    | [y0, y1], _ =>
      have h0 := hf 0 f0 rfl
      have h1 := hf 1 f1 rfl
      have hw0 := inReach_each (hw.struct_ hs) 0 f0.type y0.1 rfl rfl
      rw [o0, t0, daw.picT.cells] at h0
      rw [t0] at hw0
      rw [o1, k1] at h1
      obtain ⟨n1, e1, _, _⟩ := DataW.trod_int t1 h1
      obtain ⟨W, H', A, len, cap, l, e6, e7, e8, hr, hq⟩ := pic_cellsW h0 hw0
      simp at e1
      subst e1; subst e6; subst e7; subst e8
      exact ⟨⟨⟨W, H', l, n1⟩, A, len, cap⟩, rfl, hr, hq⟩
set_option maxRecDepth 100000 in
theorem frs_argW {r : Reach} {b0 : Nat} {v : Value} {d : DataW H} {p : List MemPlace} (hv : Value.okWide Tryd.prog w r b0 22 v) (ht : DataW.Trod enc Tryd.prog w base spare held 22 v d p) (hw : InReach Tryd.prog 22 d) :
    ∃ (A : Option Addr) (n c : Nat) (ms : List FM), v = .slice A n c ∧ Frs w w.heap.size A n ms ∧ n ≤ 9223372036854775807 ∧ ∀ m ∈ ms, m.n ≤ reachBytes := by
  obtain ⟨A, len, cap, rfl⟩ := okWide_slice Tryd.underlying22 hv
  obtain ⟨fuel, hf⟩ := ht
  have hf' : DataW.trod enc Tryd.prog w base spare held fuel 22 [.slice A len cap] = some (d, p) := by simpa [Value.cells] using hf
  obtain ⟨A', len', cap', l, e, hr, _, hq⟩ := slice_fieldW (κ := FM) Tryd.underlying22 4 frCs (fun _ => rfl) (by decide) fra.frCellsN (fun m => Reads w w.heap.size 4 m.A m.n (pxCells m.f.ps) ∧ m.n ≤ reachBytes) (fun _ _ _ h hw => fr_cellsW h hw) hf' hw
  injection e with e1 e2 e3
  subst e1; subst e2; subst e3
  exact ⟨A, len, cap, l, rfl, ⟨hr, fun m hm => (hq m hm).1⟩, slice_lenW Tryd.underlying22 hf', fun m hm => (hq m hm).2⟩
end
end Go.Proofs.YtncedhhgclofbaaDoor
