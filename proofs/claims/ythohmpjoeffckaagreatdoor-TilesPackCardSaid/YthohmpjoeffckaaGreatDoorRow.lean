/- Words for the rows: arguments that are pixels and pictures; the end of a law that answers true. Arguments that are slices of whatever elements. -/
import Derived.Test.YthohmpjoeffckaaGreatDoorMem
import Derived.ProofKit
import Derived.OpenShut
import Derived.Deep.Slices
import Derived.Deep.Fields
import Derived.ChangeSame
import Derived.ReadAgain
import Derived.WideKeyArgs
import Derived.Lib.SmallJoins
namespace Go.Proofs.YthohmpjoeffckaaGreatDoor
open Go Go.RowKit Go.ChangeShapes Go.WideShapes Go.Deep Go.Joins

section
variable {H : Type} {enc : TypeId × Value → H} {P : Program} {w : World} {base : Nat} {spare : Nat → Bool} {held : Bool}

def byteOf (n : Int) : UInt8 := UInt8.ofNat n.toNat
theorem byteOf_eq {n : Int} (h : (Lit.int .u8 n).wf = true) : ((byteOf n).toNat : Int) = n := by
  have hb := bounds_u8 h
  unfold byteOf
  rw [UInt8.toNat_ofNat']
  omega

/-- The pixel's row of the table of types. -/
structure PxT (P : Program) (tp : TypeId) : Prop where
  row : ∃ f0 f1 f2 f3, P.underlying tp = some (.struct #[f0, f1, f2, f3]) ∧ oneCellFields P #[f0, f1, f2, f3] = true ∧ P.underlying f0.type = some (.int .u8) ∧ P.underlying f1.type = some (.int .u8) ∧
    P.underlying f2.type = some (.int .u8) ∧ P.underlying f3.type = some (.int .u8)
  cells : P.cellsOf tp = 4

theorem px_cells {tp : TypeId} (h : PxT P tp) {fuel : Nat} {cs : List Value} {x : DataW H × List MemPlace} (ht : DataW.trod enc P w base spare held fuel tp cs = some x) : ∃ p : Px, cs = pxCs p := by
  obtain ⟨⟨f0, f1, f2, f3, hs, hone, t0, t1, t2, t3⟩, hC⟩ := h
  obtain ⟨y0, y1, y2, y3, n, _, hl, h0, h1, h2, h3⟩ := trod_struct4 hs ht
  rw [hC] at hl
  obtain ⟨o0, k0⟩ := hone_of hone 0 f0 rfl
  obtain ⟨o1, k1⟩ := hone_of hone 1 f1 rfl
  obtain ⟨o2, k2⟩ := hone_of hone 2 f2 rfl
  obtain ⟨o3, k3⟩ := hone_of hone 3 f3 rfl
  match cs, hl with
  | [c0, c1, c2, c3], _ =>
    rw [o0, k0] at h0
    rw [o1, k1] at h1
    rw [o2, k2] at h2
    rw [o3, k3] at h3
    obtain ⟨n0, e0, _, w0⟩ := DataW.trod_int t0 h0
    obtain ⟨n1, e1, _, w1⟩ := DataW.trod_int t1 h1
    obtain ⟨n2, e2, _, w2⟩ := DataW.trod_int t2 h2
    obtain ⟨n3, e3, _, w3⟩ := DataW.trod_int t3 h3
    simp at e0 e1 e2 e3
    refine ⟨⟨byteOf n0, byteOf n1, byteOf n2, byteOf n3⟩, ?_⟩
    subst e0; subst e1; subst e2; subst e3
    simp only [pxCs, byteOf_eq w0, byteOf_eq w1, byteOf_eq w2, byteOf_eq w3]


/-- A field (or an argument) that is a slice of pixels. -/
theorem pxs_field {tp ts : TypeId} (h : PxT P tp) (hs : P.underlying ts = some (.slice tp)) {fuel : Nat} {c : Value} {x : DataW H × List MemPlace} (ht : DataW.trod enc P w base spare held fuel ts [c] = some x) :
    ∃ (A : Option Addr) (len cap : Nat) (l : List Px), c = .slice A len cap ∧ Reads w w.heap.size 4 A len (pxCells l) := by
  rcases open_slice hs ht with ⟨hc, _⟩ | ⟨a, len, cap, m, n, D, Pl, hc, _, hlc, _, hm, _, hi⟩
  · injection hc with hc
    exact ⟨none, 0, 0, [], hc, Reads.none_⟩
  · injection hc with hc
    have hlm : len ≤ m := by rw [hm]; split <;> omega
    have hx : ∀ i, ∃ p : Px, i < len → ∀ j, j < 4 → w.cell? (a.add (i * 4 + j)) = (pxCs p)[j]? := by
      intro i
      by_cases hil : i < len
      · obtain ⟨cs', hcs, htr⟩ := hi i (by omega)
        obtain ⟨p, rfl⟩ := px_cells h htr
        rw [h.cells] at hcs
        obtain ⟨_, _, hat⟩ := World.cells?_some hcs
        exact ⟨p, fun _ j hj => by rw [← add_of_add]; exact hat j hj⟩
      · exact ⟨default, fun hh => absurd hh hil⟩
    refine ⟨some a, len, cap, (List.range len).map fun i => Classical.choose (hx i), hc, by rw [pxCells_length]; simp, fun hpos => ?_⟩
    have hlen : 0 < len := by omega
    have h0 := Classical.choose_spec (hx 0) hlen 0 (by omega)
    obtain ⟨u0, hu0⟩ : ∃ u0, (pxCs (Classical.choose (hx 0)))[0]? = some u0 := ⟨_, rfl⟩
    rw [hu0] at h0
    have e0 : a.add (0 * 4 + 0) = a := by simp [Addr.add]
    rw [e0] at h0
    have hsp := World.cell?_spot h0
    have hlt := World.block_lt_of_cell? w _ h0
    obtain ⟨b, off, sp⟩ := a
    simp only at hsp
    subst hsp
    refine ⟨b, off, rfl, hlt, fun j u hu => ?_⟩
    have hjl : j < len * 4 := by
      have := (List.getElem?_eq_some_iff.1 hu).1
      rw [pxCells_length] at this
      simpa using this
    have hq : j / 4 < len := by omega
    have e : j = j / 4 * 4 + j % 4 := by omega
    have h1 := Classical.choose_spec (hx (j / 4)) hq (j % 4) (Nat.mod_lt _ (by omega))
    rw [← e, add_lit] at h1
    rw [h1, ← hu]
    conv => rhs; rw [e]
    rw [pxCells_at _ (j / 4) (by simpa using hq) _ (Nat.mod_lt _ (by omega))]
    simp
/-- The picture's row of the table of types. -/
structure PicT (P : Program) (tc tp : TypeId) : Prop where
  row : ∃ f0 f1 f2, P.underlying tc = some (.struct #[f0, f1, f2]) ∧ oneCellFields P #[f0, f1, f2] = true ∧ P.underlying f0.type = some (.int .i64) ∧ P.underlying f1.type = some (.int .i64) ∧ P.underlying f2.type = some (.slice tp)
  cells : P.cellsOf tc = 3
  px : PxT P tp
/-- An argument that is a picture. -/
theorem pic_arg {tc tp : TypeId} (h : PicT P tc tp) {r : Reach} {b0 : Nat} {v : Value} {d : DataW H} {p : List MemPlace} (hv : Value.okWide P w r b0 tc v) (ht : DataW.Trod enc P w base spare held tc v d p) :
    ∃ (W H' : Int) (A : Option Addr) (len cap : Nat) (l : List Px), v = .agg #[.int .i64 W, .int .i64 H', .slice A len cap] ∧ Reads w w.heap.size 4 A len (pxCells l) ∧ (Lit.int .i64 W).wf = true ∧ (Lit.int .i64 H').wf = true := by
  obtain ⟨f0, f1, f2, hs, hone, t0, t1, t2⟩ := h.row
  obtain ⟨v0, v1, v2, y0, y1, y2, n, rfl, _, _, h0, h1, h2⟩ := open_agg3 hs hone h.cells hv ht
  obtain ⟨n0, e0, _, w0⟩ := DataW.trod_int t0 h0
  obtain ⟨n1, e1, _, w1⟩ := DataW.trod_int t1 h1
  obtain ⟨A, len, cap, l, rfl, hr⟩ := pxs_field h.px t2 h2
  injection e0 with e0
  injection e1 with e1
  subst e0; subst e1
  exact ⟨n0, n1, A, len, cap, l, rfl, hr, w0, w1⟩
end

/-! ### the end of a law that answers true -/
section
variable {H : Type} {enc : TypeId × Value → H} {P : Program}
theorem trodAll_stays (hl : laidOutB P = true) {W W' : World} {sp : Nat → Bool} : ∀ {ts : List TypeId} {vs : List Value} {ds : List (DataW H)} {ps : List MemPlace}, (∀ t ∈ ts, P.readableRec t = true ∧ t < P.types.size) →
    DataW.TrodAll enc P W 0 (fun _ => true) true ts vs ds ps → (∀ p ∈ ps, W.sameAt W' p) → (∀ p ∈ ps, sp p.block = true) → DataW.TrodAll enc P W' 0 sp true ts vs ds ps
  | [], vs, ds, ps, _, h, _, _ => by
    obtain ⟨rfl, rfl, rfl⟩ := trodAll_nil h
    exact trodAll_mk0
  | t :: ts, vs, ds, ps, ht, h, hs, hsp => by
    obtain ⟨v, vs', d, ds', p, q, rfl, rfl, rfl, h1, h2⟩ := trodAll_cons h
    refine trodAll_cons_mk ?_ ?_
    · exact WideElems.Trod_stays hl (ht t (by simp)).1 (ht t (by simp)).2 h1 (fun x hx => hs x (List.mem_append_left _ hx)) (fun x hx => hsp x (List.mem_append_left _ hx))
    · exact trodAll_stays hl (fun t' ht' => ht t' (by simp [ht'])) h2 (fun x hx => hs x (List.mem_append_right _ hx)) (fun x hx => hsp x (List.mem_append_right _ hx))

/-- What a law gives that answers true and has turned nothing that was there. -/
theorem post_true {f : Func} {s : ChangeSpec} {apart fresh handsOn again : Bool} {tb : TypeId} {W W' : World} {args : Array Value} {ds gs : List (DataW H)} {before : List MemPlace} (hl : laidOutB P = true)
    (hts : ∀ t ∈ f.params.toList, P.readableRec t = true ∧ t < P.types.size) (hres : f.resultTypes = #[tb]) (htb : P.underlying tb = some .bool) (hvars : s.vars = [])
    (hfn : ∀ ds : List (DataW H), ds.length = f.params.size → s.fn H ds = { results := [.lit (.bool true)], args := ds })
    (hW : DataW.Whole enc P f.params.toList s.vars apart W args.toList ds gs before) (hb : Below W.heap.size W W') :
    s.post enc P f apart fresh handsOn again W args (.bool true) W' := by
  have hold : ∀ p ∈ before, p.block < W.heap.size := fun p hp => hW.lt p hp
  have hsame : ∀ p ∈ before, W.sameAt W' p := fun p hp => hb.same (hold p hp)
  have hW0 := hW
  obtain ⟨p, q, hA, hV, rfl, hz, hn⟩ := hW
  rw [hvars] at hV
  obtain ⟨rfl, rfl⟩ := trodVars_none hV
  rw [List.append_nil] at hW0 hold hsame hz hn
  have hlen : ds.length = f.params.size := by
    have : ∀ {ts : List TypeId} {vs : List Value} {ds : List (DataW H)} {ps : List MemPlace}, DataW.TrodAll enc P W 0 (fun _ => true) true ts vs ds ps → ds.length = ts.length := by
      intro ts
      induction ts with
      | nil => intro vs ds ps h; obtain ⟨_, rfl, _⟩ := trodAll_nil h; rfl
      | cons t ts ih =>
        intro vs ds ps h
        obtain ⟨_, _, _, _, _, _, _, rfl, _, _, h2⟩ := trodAll_cons h
        simp [ih h2]
    simpa using this hA
  have hf := hfn ds hlen
  have hres' : ∀ (b : Nat) (sp : Nat → Bool) (hd : Bool), DataW.TrodAll enc P W' b sp hd f.resultTypes.toList ((Value.bool true).resultList f.resultTypes.size) [.lit (.bool true)] [] := by
    intro b sp hd
    rw [hres]
    exact trodAll_cons_mk (shut_bool htb _) trodAll_mk0
  have hargs : ∀ sp : Nat → Bool, (∀ x ∈ p, sp x.block = true) → DataW.TrodAll enc P W' 0 sp true f.params.toList args.toList ds p := fun sp hsp => trodAll_stays hl hts hA hsame hsp
  have hvar : ∀ sp : Nat → Bool, DataW.TrodVars enc P W' sp s.vars [] [] := fun sp => by rw [hvars]; rfl
  have hk : W.keptBut W' (· ∈ p) := hb.frame _
  refine ⟨ds, [], p, [], p, [], hW0, by rw [List.append_nil, hf]; exact hres' _ _ _, by rw [List.append_nil, hf]; exact hargs _ (fun x hx => by simpa using hold x hx), by rw [List.append_nil, hf]; exact hvar _, hb.frame _, fun _ => ?_⟩
  refine ⟨ok_one hres rfl (okWide_bool_mk htb _), _, _, ([] ++ p) ++ [], ⟨[] ++ p, [], trodAll_append (hargs _ (fun _ _ => rfl)) (hres' _ _ _), hvar _, rfl, ?_, ?_⟩, ?_⟩
  · intro b off hp
    have hp' : MemPlace.cell b off ∈ p := by simpa using hp
    rw [hb.frozen (p := ⟨b, off, none⟩) (hold _ hp')]
    exact hz b off hp'
  · intro ha
    have := hn ha
    simpa using this
  · intro x hx _
    simpa using hx
end
end Go.Proofs.YthohmpjoeffckaaGreatDoor
namespace Go.Proofs.YthohmpjoeffckaaGreatDoor
open Go Go.RowKit Go.ChangeShapes Go.WideShapes Go.Deep Go.Joins

theorem flatCells_length {κ : Type} (cellsOf : κ → List Value) (size : Nat) (hl : ∀ p, (cellsOf p).length = size) (l : List κ) : (l.flatMap cellsOf).length = l.length * size := by
  induction l with
  | nil => simp
  | cons q l ih => rw [List.flatMap_cons, List.length_append, hl, ih, List.length_cons, Nat.succ_mul, Nat.add_comm]
theorem flatCells_at {κ : Type} (cellsOf : κ → List Value) (size : Nat) (hl : ∀ p, (cellsOf p).length = size) (l : List κ) : ∀ (k : Nat) (hk : k < l.length) (j : Nat), j < size → (l.flatMap cellsOf)[k * size + j]? = (cellsOf l[k])[j]? := by
  induction l with
  | nil => intro k hk; simp at hk
  | cons q l ih =>
    intro k hk j hj
    rw [List.flatMap_cons]
    cases k with
    | zero =>
      rw [Nat.zero_mul, Nat.zero_add, List.getElem?_append_left (by rw [hl]; exact hj)]
      rfl
    | succ k =>
      rw [List.getElem?_append_right (by rw [hl, Nat.succ_mul]; omega), hl]
      have : (k + 1) * size + j - size = k * size + j := by rw [Nat.succ_mul]; omega
      rw [this, ih k (by simpa using hk) j hj]
      rfl

section
variable {H : Type} {enc : TypeId × Value → H} {P : Program} {w : World} {base : Nat} {spare : Nat → Bool} {held : Bool}
end
end Go.Proofs.YthohmpjoeffckaaGreatDoor
