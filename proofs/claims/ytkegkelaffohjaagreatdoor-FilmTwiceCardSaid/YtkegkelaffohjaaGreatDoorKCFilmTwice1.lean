/- Row, ReachArg, Elem: put together. -/
import Derived.Test.YtkegkelaffohjaaGreatDoorKCFilmTwice0
import Derived.ProofKit
import Derived.OpenShut
import Derived.Deep.Slices
import Derived.Deep.Fields
import Derived.ChangeSame
import Derived.ReadAgain
import Derived.WideKeyArgs
import Derived.Lib.SmallJoins
import Derived.Test.YtkegkelaffohjaaGreatDoorProg
import Derived.KernelRfl
import Derived.Test.YtkegkelaffohjaaGreatDoorKCFilmTwice5
/- Words for the rows: arguments that are pixels and pictures; the end of a law that answers true. Arguments that are slices of whatever elements. -/
namespace Go.Proofs.YtkegkelaffohjaaGreatDoor
open Go Go.RowKit Go.ChangeShapes Go.WideShapes Go.Deep Go.Joins
section
variable {H : Type} {enc : TypeId × Value → H} {P : Program} {w : World} {base : Nat} {spare : Nat → Bool} {held : Bool}
def byteOf (n : Int) : UInt8 := UInt8.ofNat n.toNat
theorem byteOf_eq {n : Int} (h : (Lit.int .u8 n).wf = true) : ((byteOf n).toNat : Int) = n := by
 have hb := bounds_u8 h
 unfold byteOf
 rw [UInt8.toNat_ofNat']
 omega
structure PxT (P : Program) (tp : TypeId) : Prop where
 row : ∃ f0 f1 f2 f3, P.underlying tp = some (.struct #[f0, f1, f2, f3]) ∧ oneCellFields P #[f0, f1, f2, f3] = true ∧ P.underlying f0.type = some (.int .u8) ∧ P.underlying f1.type = some (.int .u8) ∧
  P.underlying f2.type = some (.int .u8) ∧ P.underlying f3.type = some (.int .u8)
 cells : P.cellsOf tp = 4
theorem px_cells {tp : TypeId} (h : PxT P tp) {fuel : Nat} {cs : List Value} {x : DataW H × List MemPlace} (ht : DataW.trod enc P w base spare held fuel tp cs = some x) : ∃ p : Px, cs = pxCs p := by
 obtain ⟨⟨f0, f1, f2, f3, hs, hone, t0, t1, t2, t3⟩, hC⟩ := h
 obtain ⟨y0, y1, y2, y3, n, _, hl, h0, h1, h2, h3⟩ := trod_struct4 hs ht
 rw [hC] at hl
 obtain ⟨o0, k0⟩ := hone_of hone 0 f0 rfl
 obtain ⟨o1, k1⟩ := hone_of hone 1 f1 rfl
 obtain ⟨o2, k2⟩ := hone_of hone 2 f2 rfl
 obtain ⟨o3, k3⟩ := hone_of hone 3 f3 rfl
 match cs, hl with
 | [c0, c1, c2, c3], _ =>
  rw [o0, k0] at h0
  rw [o1, k1] at h1
  rw [o2, k2] at h2
  rw [o3, k3] at h3
  obtain ⟨n0, e0, _, w0⟩ := DataW.trod_int t0 h0
  obtain ⟨n1, e1, _, w1⟩ := DataW.trod_int t1 h1
  obtain ⟨n2, e2, _, w2⟩ := DataW.trod_int t2 h2
  obtain ⟨n3, e3, _, w3⟩ := DataW.trod_int t3 h3
  simp at e0 e1 e2 e3
  refine ⟨⟨byteOf n0, byteOf n1, byteOf n2, byteOf n3⟩, ?_⟩
  subst e0; subst e1; subst e2; subst e3
  simp only [pxCs, byteOf_eq w0, byteOf_eq w1, byteOf_eq w2, byteOf_eq w3]
theorem pxs_field {tp ts : TypeId} (h : PxT P tp) (hs : P.underlying ts = some (.slice tp)) {fuel : Nat} {c : Value} {x : DataW H × List MemPlace} (ht : DataW.trod enc P w base spare held fuel ts [c] = some x) :
  ∃ (A : Option Addr) (len cap : Nat) (l : List Px), c = .slice A len cap ∧ Reads w w.heap.size 4 A len (pxCells l) := by
 rcases open_slice hs ht with ⟨hc, _⟩ | ⟨a, len, cap, m, n, D, Pl, hc, _, hlc, _, hm, _, hi⟩
 ·injection hc with hc
  exact ⟨none, 0, 0, [], hc, Reads.none_⟩
 ·injection hc with hc
  have hlm : len ≤ m := by rw [hm]; split <;> omega
  have hx : ∀ i, ∃ p : Px, i < len → ∀ j, j < 4 → w.cell? (a.add (i * 4 + j)) = (pxCs p)[j]? := by
   intro i
   by_cases hil : i < len
   ·obtain ⟨cs', hcs, htr⟩ := hi i (by omega)
    obtain ⟨p, rfl⟩ := px_cells h htr
    rw [h.cells] at hcs
    obtain ⟨_, _, hat⟩ := World.cells?_some hcs
    exact ⟨p, fun _ j hj => by rw [← add_of_add]; exact hat j hj⟩
   ·exact ⟨default, fun hh => absurd hh hil⟩
  refine ⟨some a, len, cap, (List.range len).map fun i => Classical.choose (hx i), hc, by rw [pxCells_length]; simp, fun hpos => ?_⟩
  have hlen : 0 < len := by omega
  have h0 := Classical.choose_spec (hx 0) hlen 0 (by omega)
  obtain ⟨u0, hu0⟩ : ∃ u0, (pxCs (Classical.choose (hx 0)))[0]? = some u0 := ⟨_, rfl⟩
  rw [hu0] at h0
  have e0 : a.add (0 * 4 + 0) = a := by simp [Addr.add]
  rw [e0] at h0
  have hsp := World.cell?_spot h0
  have hlt := World.block_lt_of_cell? w _ h0
  obtain ⟨b, off, sp⟩ := a
  simp only at hsp
  subst hsp
  refine ⟨b, off, rfl, hlt, fun j u hu => ?_⟩
  have hjl : j < len * 4 := by
   have := (List.getElem?_eq_some_iff.1 hu).1
   rw [pxCells_length] at this
   simpa using this
  have hq : j / 4 < len := by omega
  have e : j = j / 4 * 4 + j % 4 := by omega
  have h1 := Classical.choose_spec (hx (j / 4)) hq (j % 4) (Nat.mod_lt _ (by omega))
  rw [← e, add_lit] at h1
  rw [h1, ← hu]
  conv => rhs; rw [e]
  rw [pxCells_at _ (j / 4) (by simpa using hq) _ (Nat.mod_lt _ (by omega))]
  simp
structure PicT (P : Program) (tc tp : TypeId) : Prop where
 row : ∃ f0 f1 f2, P.underlying tc = some (.struct #[f0, f1, f2]) ∧ oneCellFields P #[f0, f1, f2] = true ∧ P.underlying f0.type = some (.int .i64) ∧ P.underlying f1.type = some (.int .i64) ∧ P.underlying f2.type = some (.slice tp)
 cells : P.cellsOf tc = 3
 px : PxT P tp
end
/-! ### the end of a law that answers true -/
section
variable {H : Type} {enc : TypeId × Value → H} {P : Program}
theorem trodAll_stays (hl : laidOutB P = true) {W W' : World} {sp : Nat → Bool} : ∀ {ts : List TypeId} {vs : List Value} {ds : List (DataW H)} {ps : List MemPlace}, (∀ t ∈ ts, P.readableRec t = true ∧ t < P.types.size) →
  DataW.TrodAll enc P W 0 (fun _ => true) true ts vs ds ps → (∀ p ∈ ps, W.sameAt W' p) → (∀ p ∈ ps, sp p.block = true) → DataW.TrodAll enc P W' 0 sp true ts vs ds ps
 | [], vs, ds, ps, _, h, _, _ => by
  obtain ⟨rfl, rfl, rfl⟩ := trodAll_nil h
  exact trodAll_mk0
 | t :: ts, vs, ds, ps, ht, h, hs, hsp => by
  obtain ⟨v, vs', d, ds', p, q, rfl, rfl, rfl, h1, h2⟩ := trodAll_cons h
  refine trodAll_cons_mk ?_ ?_
  ·exact WideElems.Trod_stays hl (ht t (by simp)).1 (ht t (by simp)).2 h1 (fun x hx => hs x (List.mem_append_left _ hx)) (fun x hx => hsp x (List.mem_append_left _ hx))
  ·exact trodAll_stays hl (fun t' ht' => ht t' (by simp [ht'])) h2 (fun x hx => hs x (List.mem_append_right _ hx)) (fun x hx => hsp x (List.mem_append_right _ hx))
theorem post_true {f : Func} {s : ChangeSpec} {apart fresh handsOn again : Bool} {tb : TypeId} {W W' : World} {args : Array Value} {ds gs : List (DataW H)} {before : List MemPlace} (hl : laidOutB P = true)
  (hts : ∀ t ∈ f.params.toList, P.readableRec t = true ∧ t < P.types.size) (hres : f.resultTypes = #[tb]) (htb : P.underlying tb = some .bool) (hvars : s.vars = [])
  (hfn : ∀ ds : List (DataW H), ds.length = f.params.size → s.fn H ds = { results := [.lit (.bool true)], args := ds })
  (hW : DataW.Whole enc P f.params.toList s.vars apart W args.toList ds gs before) (hb : Below W.heap.size W W') :
  s.post enc P f apart fresh handsOn again W args (.bool true) W' := by
 have hold : ∀ p ∈ before, p.block < W.heap.size := fun p hp => hW.lt p hp
 have hsame : ∀ p ∈ before, W.sameAt W' p := fun p hp => hb.same (hold p hp)
 have hW0 := hW
 obtain ⟨p, q, hA, hV, rfl, hz, hn⟩ := hW
 rw [hvars] at hV
 obtain ⟨rfl, rfl⟩ := trodVars_none hV
 rw [List.append_nil] at hW0 hold hsame hz hn
 have hlen : ds.length = f.params.size := by
  have : ∀ {ts : List TypeId} {vs : List Value} {ds : List (DataW H)} {ps : List MemPlace}, DataW.TrodAll enc P W 0 (fun _ => true) true ts vs ds ps → ds.length = ts.length := by
   intro ts
   induction ts with
   | nil => intro vs ds ps h; obtain ⟨_, rfl, _⟩ := trodAll_nil h; rfl
   | cons t ts ih =>
    intro vs ds ps h
    obtain ⟨_, _, _, _, _, _, _, rfl, _, _, h2⟩ := trodAll_cons h
    simp [ih h2]
  simpa using this hA
 have hf := hfn ds hlen
 have hres' : ∀ (b : Nat) (sp : Nat → Bool) (hd : Bool), DataW.TrodAll enc P W' b sp hd f.resultTypes.toList ((Value.bool true).resultList f.resultTypes.size) [.lit (.bool true)] [] := by
  intro b sp hd
  rw [hres]
  exact trodAll_cons_mk (shut_bool htb _) trodAll_mk0
 have hargs : ∀ sp : Nat → Bool, (∀ x ∈ p, sp x.block = true) → DataW.TrodAll enc P W' 0 sp true f.params.toList args.toList ds p := fun sp hsp => trodAll_stays hl hts hA hsame hsp
 have hvar : ∀ sp : Nat → Bool, DataW.TrodVars enc P W' sp s.vars [] [] := fun sp => by rw [hvars]; rfl
 have hk : W.keptBut W' (· ∈ p) := hb.frame _
 refine ⟨ds, [], p, [], p, [], hW0, by rw [List.append_nil, hf]; exact hres' _ _ _, by rw [List.append_nil, hf]; exact hargs _ (fun x hx => by simpa using hold x hx), by rw [List.append_nil, hf]; exact hvar _, hb.frame _, fun _ => ?_⟩
 refine ⟨ok_one hres rfl (okWide_bool_mk htb _), _, _, ([] ++ p) ++ [], ⟨[] ++ p, [], trodAll_append (hargs _ (fun _ _ => rfl)) (hres' _ _ _), hvar _, rfl, ?_, ?_⟩, ?_⟩
 ·intro b off hp
  have hp' : MemPlace.cell b off ∈ p := by simpa using hp
  rw [hb.frozen (p := ⟨b, off, none⟩) (hold _ hp')]
  exact hz b off hp'
 ·intro ha
  have := hn ha
  simpa using this
 ·intro x hx _
  simpa using hx
end
end Go.Proofs.YtkegkelaffohjaaGreatDoor
namespace Go.Proofs.YtkegkelaffohjaaGreatDoor
open Go Go.RowKit Go.ChangeShapes Go.WideShapes Go.Deep Go.Joins
theorem flatCells_length {κ : Type} (cellsOf : κ → List Value) (size : Nat) (hl : ∀ p, (cellsOf p).length = size) (l : List κ) : (l.flatMap cellsOf).length = l.length * size := by
 induction l with
 | nil => simp
 | cons q l ih => rw [List.flatMap_cons, List.length_append, hl, ih, List.length_cons, Nat.succ_mul, Nat.add_comm]
theorem flatCells_at {κ : Type} (cellsOf : κ → List Value) (size : Nat) (hl : ∀ p, (cellsOf p).length = size) (l : List κ) : ∀ (k : Nat) (hk : k < l.length) (j : Nat), j < size → (l.flatMap cellsOf)[k * size + j]? = (cellsOf l[k])[j]? := by
 induction l with
 | nil => intro k hk; simp at hk
 | cons q l ih =>
  intro k hk j hj
  rw [List.flatMap_cons]
  cases k with
  | zero =>
   rw [Nat.zero_mul, Nat.zero_add, List.getElem?_append_left (by rw [hl]; exact hj)]
   rfl
  | succ k =>
   rw [List.getElem?_append_right (by rw [hl, Nat.succ_mul]; omega), hl]
   have : (k + 1) * size + j - size = k * size + j := by rw [Nat.succ_mul]; omega
   rw [this, ih k (by simpa using hk) j hj]
   rfl
end Go.Proofs.YtkegkelaffohjaaGreatDoor
/- Data in reach: its slices are short; a picture out of its cells. -/
namespace Go.Proofs.YtkegkelaffohjaaGreatDoor
open Go Go.RowKit Go.ChangeShapes Go.WideShapes Go.Deep Go.Joins
namespace daw
theorem pxT : PxT Tryz.prog 53 := ⟨⟨_, _, _, _, Tryz.underlying53, by kernel_rfl, Tryz.underlying5, Tryz.underlying5, Tryz.underlying5, Tryz.underlying5⟩, by kernel_rfl⟩
theorem picT : PicT Tryz.prog 44 53 := ⟨⟨_, _, _, Tryz.underlying44, by kernel_rfl, Tryz.underlying3, Tryz.underlying3, Tryz.underlying42⟩, by kernel_rfl, pxT⟩
theorem pxBytes : 0 < Tryz.prog.bytesOf 53 := of_decide_eq_true (by kernel_rfl)
end daw
section
variable {H : Type} {enc : TypeId × Value → H} {w : World} {base : Nat} {spare : Nat → Bool} {held : Bool}
def InReach {K : Type} (P : Program) (t : TypeId) (d : DataW K) : Prop := (d.weights P t).all (· ≤ reachBytes) = true
theorem InReach.struct_ {K : Type} {P : Program} {t : TypeId} {fs : Array Field} (ht : P.underlying t = some (.struct fs)) {parts : List (DataW K)} (h : InReach P t (.agg parts)) : (DataW.weightsEach P (fs.toList.map (·.type)) parts).all (· ≤ reachBytes) = true := by
 unfold InReach at h
 simpa only [DataW.weights, ht] using h
theorem inReach_each {K : Type} {P : Program} : ∀ {ts : List TypeId} {ds : List (DataW K)}, (DataW.weightsEach P ts ds).all (· ≤ reachBytes) = true → ∀ (i : Nat) (t : TypeId) (d : DataW K), ts[i]? = some t → ds[i]? = some d → InReach P t d
 | [], _, _, i, t, d, ht, _ => by simp at ht
 | _ :: _, [], _, i, t, d, _, hd => by simp at hd
 | t0 :: ts, d0 :: ds, h, i, t, d, ht, hd => by
  simp only [DataW.weightsEach, List.all_append, Bool.and_eq_true] at h
  cases i with
  | zero =>
   simp only [List.getElem?_cons_zero, Option.some.injEq] at ht hd
   subst ht; subst hd
   exact h.1
  | succ i => exact inReach_each h.2 i t d (by simpa using ht) (by simpa using hd)
theorem inReach_all {K : Type} {P : Program} {e : TypeId} : ∀ {ds : List (DataW K)}, (DataW.weightsAll P e ds).all (· ≤ reachBytes) = true → ∀ d ∈ ds, InReach P e d
 | [], _, d, hd => by cases hd
 | d0 :: ds, h, d, hd => by
  simp only [DataW.weightsAll, List.all_append, Bool.and_eq_true] at h
  rcases List.mem_cons.1 hd with rfl | hd
  ·exact h.1
  ·exact inReach_all h.2 d hd
theorem InReach.slice_ {K : Type} {P : Program} {t e : TypeId} (ht : P.underlying t = some (.slice e)) {elems spare : List (DataW K)} (h : InReach P t (.slice elems spare)) : (elems.length + spare.length) * P.bytesOf e ≤ reachBytes ∧ ∀ d ∈ elems, InReach P e d := by
 unfold InReach at h
 simp only [DataW.weights, ht, List.all_cons, List.all_append, Bool.and_eq_true, decide_eq_true_eq] at h
 exact ⟨h.1, inReach_all h.2.1⟩
theorem slice_reach {P : Program} {te ts : TypeId} (hs : P.underlying ts = some (.slice te)) (hb : 0 < P.bytesOf te) {fuel : Nat} {A : Option Addr} {len cap : Nat} {x : DataW H × List MemPlace} (ht : DataW.trod enc P w base spare held fuel ts [.slice A len cap] = some x) (hw : InReach P ts x.1) : len ≤ reachBytes := by
 rcases open_slice hs ht with ⟨hc, _⟩ | ⟨a, len', cap', m, n, D, Pl, hc, _, hlc, hcm, hm, hx, _⟩
 ·injection hc with hc
  injection hc with _ h _
  omega
 ·injection hc with hc
  injection hc with _ h _
  subst h
  rw [hx] at hw
  have h1 := (hw.slice_ hs).1
  simp only [List.length_map, List.length_range] at h1
  have h2 := Nat.le_mul_of_pos_right (len + (m - len)) hb
  omega
theorem slice_fieldW {κ : Type} [Inhabited κ] {P : Program} {te ts : TypeId} (hs : P.underlying ts = some (.slice te)) (size : Nat) (cellsOf : κ → List Value) (hl : ∀ p, (cellsOf p).length = size) (hsz : 0 < size) (hc : P.cellsOf te = size) (Q : κ → Prop)
  (hopen : ∀ (fuel : Nat) (cs : List Value) (x : DataW H × List MemPlace), DataW.trod enc P w base spare held fuel te cs = some x → InReach P te x.1 → ∃ p, cs = cellsOf p ∧ Q p)
  {fuel : Nat} {c : Value} {x : DataW H × List MemPlace} (ht : DataW.trod enc P w base spare held fuel ts [c] = some x) (hw : InReach P ts x.1) :
  ∃ (A : Option Addr) (len cap : Nat) (l : List κ), c = .slice A len cap ∧ Reads w w.heap.size size A len (l.flatMap cellsOf) ∧ l.length = len ∧ ∀ p ∈ l, Q p := by
 rcases open_slice hs ht with ⟨hc, _⟩ | ⟨a, len, cap, m, n, D, Pl, hc', _, hlc, _, hm, hxD, hi⟩
 ·injection hc with hc
  exact ⟨none, 0, 0, [], hc, ⟨by simp, fun h => absurd h (by omega)⟩, rfl, fun p hp => by cases hp⟩
 ·injection hc' with hc'
  have hlm : len ≤ m := by rw [hm]; split <;> omega
  rw [hxD] at hw
  have hwD := (hw.slice_ hs).2
  have hx : ∀ i, ∃ p : κ, i < len → Q p ∧ ∀ j, j < size → w.cell? (a.add (i * size + j)) = (cellsOf p)[j]? := by
   intro i
   by_cases hil : i < len
   ·obtain ⟨cs', hcs, htr⟩ := hi i (by omega)
    obtain ⟨p, rfl, hq⟩ := hopen _ _ _ htr (hwD _ (List.mem_map.2 ⟨i, List.mem_range.2 hil, rfl⟩))
    rw [hc] at hcs
    obtain ⟨_, _, hat⟩ := World.cells?_some hcs
    exact ⟨p, fun _ => ⟨hq, fun j hj => by rw [← add_of_add]; exact hat j hj⟩⟩
   ·exact ⟨default, fun hh => absurd hh hil⟩
  have hat : ∀ i, (hi : i < len) → ((List.range len).map fun i => Classical.choose (hx i))[i]'(by simpa using hi) = Classical.choose (hx i) := fun i hi => by simp
  refine ⟨some a, len, cap, (List.range len).map fun i => Classical.choose (hx i), hc', ⟨by rw [flatCells_length _ size hl]; simp, fun hpos => ?_⟩, by simp, fun p hp => ?_⟩
  ·have hlen : 0 < len := by
    rcases Nat.eq_zero_or_pos len with h | h
    ·subst h; simp at hpos
    ·exact h
   have h0 := (Classical.choose_spec (hx 0) hlen).2 0 hsz
   obtain ⟨u0, hu0⟩ : ∃ u0, (cellsOf (Classical.choose (hx 0)))[0]? = some u0 := ⟨_, List.getElem?_eq_getElem (by rw [hl]; exact hsz)⟩
   rw [hu0] at h0
   have e0 : a.add (0 * size + 0) = a := by simp [Addr.add]
   rw [e0] at h0
   have hsp := World.cell?_spot h0
   have hlt := World.block_lt_of_cell? w _ h0
   obtain ⟨b, off, sp⟩ := a
   simp only at hsp
   subst hsp
   refine ⟨b, off, rfl, hlt, fun j u hu => ?_⟩
   have hjl : j < len * size := by
    have := (List.getElem?_eq_some_iff.1 hu).1
    rw [flatCells_length _ size hl] at this
    simpa using this
   have hq : j / size < len := Nat.div_lt_of_lt_mul (by rwa [Nat.mul_comm])
   have e : j = j / size * size + j % size := by have := Nat.div_add_mod j size; rw [Nat.mul_comm] at this; omega
   have hmod : j % size < size := Nat.mod_lt _ hsz
   have h1 := (Classical.choose_spec (hx (j / size)) hq).2 (j % size) hmod
   rw [← e, add_lit] at h1
   rw [h1, ← hu]
   conv => rhs; rw [e]
   rw [flatCells_at _ size hl _ (j / size) (by simpa using hq) _ hmod, hat _ hq]
  ·obtain ⟨i, hi', e⟩ := List.mem_map.1 hp
   subst e
   exact (Classical.choose_spec (hx i) (List.mem_range.1 hi')).1
theorem pic_cellsW {fuel : Nat} {c0 c1 c2 : Value} {x : DataW H × List MemPlace} (ht : DataW.trod enc Tryz.prog w base spare held fuel 44 [c0, c1, c2] = some x) (hw : InReach Tryz.prog 44 x.1) :
  ∃ (W H' : Int) (A : Option Addr) (len cap : Nat) (l : List Px), c0 = .int .i64 W ∧ c1 = .int .i64 H' ∧ c2 = .slice A len cap ∧ Reads w w.heap.size 4 A len (pxCells l) ∧ len ≤ reachBytes := by
 obtain ⟨f0, f1, f2, hs, hone, t0, t1, t2⟩ := daw.picT.row
 obtain ⟨y0, y1, y2, n, hx, _, h0, h1, h2⟩ := trod_struct3 hs ht
 obtain ⟨o0, k0⟩ := hone_of hone 0 f0 rfl
 obtain ⟨o1, k1⟩ := hone_of hone 1 f1 rfl
 obtain ⟨o2, k2⟩ := hone_of hone 2 f2 rfl
 rw [o0, k0] at h0
 rw [o1, k1] at h1
 rw [o2, k2] at h2
 obtain ⟨n0, e0, _, _⟩ := DataW.trod_int t0 h0
 obtain ⟨n1, e1, _, _⟩ := DataW.trod_int t1 h1
 have h2' : DataW.trod enc Tryz.prog w base spare held n f2.type [c2] = some y2 := by simpa using h2
 obtain ⟨A, len, cap, l, e2, hr⟩ := pxs_field daw.pxT t2 (c := c2) h2'
 simp at e0 e1
 rw [hx] at hw
 have hw2 := inReach_each (hw.struct_ hs) 2 f2.type y2.1 rfl rfl
 rw [e2] at h2'
 exact ⟨n0, n1, A, len, cap, l, e0, e1, e2, hr, slice_reach t2 daw.pxBytes h2' hw2⟩
theorem slice_lenW {te ts : TypeId} {P : Program} (hs : P.underlying ts = some (.slice te)) {fuel : Nat} {A : Option Addr} {len cap : Nat} {x : DataW H × List MemPlace} (ht : DataW.trod enc P w base spare held fuel ts [.slice A len cap] = some x) : len ≤ 9223372036854775807 := by
 rcases open_slice hs ht with ⟨hc, _⟩ | ⟨a, len', cap', m, n, D, Pl, hc, _, hlc, hcm, _⟩
 ·injection hc with hc
  injection hc with _ h _
  omega
 ·injection hc with hc
  injection hc with _ h _
  unfold maxLen at hcm
  omega
end
end Go.Proofs.YtkegkelaffohjaaGreatDoor
/- Some cells of a slice of one's own, stored anew. Elements of several cells in a slice of one's own: one stored, two changing places. -/
namespace Go.Proofs.YtkegkelaffohjaaGreatDoor
open Go Go.RowKit
theorem Own.thereAt {w : World} {base size n c g off : Nat} {xs : List Value} (h : Own w base size (.slice (some ⟨g, off, none⟩) n c) n xs) (i len : Nat) (hi : i + len ≤ n * size) : w.there g (off + i) len := by
 rcases h.2 with ⟨e, _⟩ | ⟨g', off', cap, e, hb, hg, hn, hm, hx, hf⟩
 ·cases e
 ·injection e with e1 e2 e3
  injection e1 with e1
  injection e1 with e1 e4
  subst e1; subst e4; subst e3
  have hle : n * size ≤ c * size := Nat.mul_le_mul_right _ hn
  intro j hj
  rw [Nat.add_assoc]
  exact hf _ (by omega)
theorem Own.setPart {w : World} {base size n c g off : Nat} {xs : List Value} (h : Own w base size (.slice (some ⟨g, off, none⟩) n c) n xs) (i : Nat) (ys zs : List Value) (hi : i + ys.length ≤ n * size)
  (hz : zs.length = n * size) (hin : ∀ j, j < ys.length → zs[i + j]? = ys[j]?) (hout : ∀ j, (j < i ∨ i + ys.length ≤ j) → zs[j]? = xs[j]?) :
  Own (w.setCells g (off + i) ys) base size (.slice (some ⟨g, off, none⟩) n c) n zs := by
 have hth := h.thereAt i ys.length hi
 refine ⟨hz, ?_⟩
 rcases h.2 with ⟨e, _⟩ | ⟨g', off', cap, e, hb, hg, hn, hm, hx, hf⟩
 ·cases e
 ·injection e with e1 e2 e3
  injection e1 with e1
  injection e1 with e1 e4
  subst e1; subst e4; subst e3
  refine .inr ⟨g, off, c, rfl, hb, by rw [size_setCells]; exact hg, hn, hm, fun j hj => ?_, fun j hj => ⟨World.isSome_setCells _ _ _ _ _ (hf j hj).1, by rw [World.frozen?_setCells]; exact (hf j hj).2⟩⟩
  by_cases hin' : i ≤ j ∧ j < i + ys.length
  ·obtain ⟨t, rfl⟩ : ∃ t, j = i + t := ⟨j - i, by omega⟩
   have ht : t < ys.length := by omega
   rw [← Nat.add_assoc, World.cell?_setCells_in g ys (off + i) w (fun t ht => (hth t ht).1) t ht, hin t ht, List.getElem?_eq_getElem]
  ·rw [World.cell?_setCells_out g ys (off + i) w _ (fun _ _ => ?_), hx j hj]
   ·exact (hout j (by omega)).symm
   ·show off + j < off + i ∨ off + i + ys.length ≤ off + j
    omega
end Go.Proofs.YtkegkelaffohjaaGreatDoor
namespace Go.Proofs.YtkegkelaffohjaaGreatDoor
open Go Go.RowKit
section
variable {κ : Type} {cs : κ → List Value} {size : Nat} {w : World} {base n c g off : Nat} {l : List κ}
theorem flatCells_put (hcs : ∀ p, (cs p).length = size) (k : Nat) (hk : k < l.length) (q : κ) (t : Nat) :
  ((l.set k q).flatMap cs)[t]? = if k * size ≤ t ∧ t < k * size + size then (cs q)[t - k * size]? else (l.flatMap cs)[t]? := by
 have hlen : ∀ m : List κ, (m.flatMap cs).length = m.length * size := fun m => flatCells_length cs size hcs m
 by_cases ht : t < l.length * size
 ·have hs : 0 < size := by
   rcases Nat.eq_zero_or_pos size with h | h
   ·rw [h, Nat.mul_zero] at ht; omega
   ·exact h
  have hd := Nat.div_add_mod t size
  have hm := Nat.mod_lt t hs
  have hq : t / size < l.length := Nat.div_lt_of_lt_mul (by rw [Nat.mul_comm]; exact ht)
  rw [Nat.mul_comm] at hd
  have e1 := flatCells_at cs size hcs (l.set k q) (t / size) (by rw [List.length_set]; exact hq) (t % size) hm
  have e2 := flatCells_at cs size hcs l (t / size) hq (t % size) hm
  rw [hd] at e1 e2
  rw [e1, e2, List.getElem_set]
  by_cases hkt : k = t / size
  ·rw [if_pos hkt, hkt, if_pos ⟨by omega, by omega⟩]
   congr 1
   omega
  ·rw [if_neg hkt, if_neg]
   intro h
   apply hkt
   rcases Nat.lt_or_ge (t / size) k with h2 | h2
   ·have := Nat.mul_le_mul_right size (show t / size + 1 ≤ k from h2)
    rw [Nat.add_mul, Nat.one_mul] at this
    omega
   ·rcases Nat.lt_or_ge k (t / size) with h3 | h3
    ·have := Nat.mul_le_mul_right size (show k + 1 ≤ t / size from h3)
     rw [Nat.add_mul, Nat.one_mul] at this
     omega
    ·omega
 ·rw [List.getElem?_eq_none (by rw [hlen, List.length_set]; omega), if_neg, List.getElem?_eq_none (by rw [hlen]; omega)]
  have := Nat.mul_le_mul_right size (show k + 1 ≤ l.length from hk)
  rw [Nat.add_mul, Nat.one_mul] at this
  omega
theorem Own.setElem (h : Own w base size (.slice (some ⟨g, off, none⟩) n c) n (l.flatMap cs)) (hcs : ∀ p, (cs p).length = size) (hl : l.length = n) (k : Nat) (hk : k < n) (q : κ) :
  Own (w.setCells g (off + k * size) (cs q)) base size (.slice (some ⟨g, off, none⟩) n c) n ((l.set k q).flatMap cs) := by
 have hb := Nat.mul_le_mul_right size (show k + 1 ≤ n from hk)
 rw [Nat.add_mul, Nat.one_mul] at hb
 refine h.setPart (k * size) (cs q) _ (by rw [hcs]; exact hb) (by rw [flatCells_length cs size hcs, List.length_set, hl]) (fun j hj => ?_) (fun j hj => ?_)
 ·rw [hcs] at hj
  rw [flatCells_put hcs k (by omega) q, if_pos ⟨by omega, by omega⟩, Nat.add_sub_cancel_left]
 ·rw [hcs] at hj
  rw [flatCells_put hcs k (by omega) q, if_neg (by omega)]
theorem Own.swap (h : Own w base size (.slice (some ⟨g, off, none⟩) n c) n (l.flatMap cs)) (hcs : ∀ p, (cs p).length = size) (hl : l.length = n) (i j : Nat) (hi : i < n) (hj : j < n) (x y : κ) :
  Own ((w.setCells g (off + i * size) (cs y)).setCells g (off + j * size) (cs x)) base size (.slice (some ⟨g, off, none⟩) n c) n ((Stab.swp l i j x y).flatMap cs) :=
 (h.setElem hcs hl i hi y).setElem hcs (by rw [List.length_set]; exact hl) j hj x
end
end Go.Proofs.YtkegkelaffohjaaGreatDoor
