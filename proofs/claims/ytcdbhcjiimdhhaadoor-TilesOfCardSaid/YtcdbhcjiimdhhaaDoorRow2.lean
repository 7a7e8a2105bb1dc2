/- Arguments that are slices of whatever elements. -/
import Derived.Test.YtcdbhcjiimdhhaaDoorRow
namespace Go.Proofs.YtcdbhcjiimdhhaaDoor
open Go Go.RowKit Go.ChangeShapes Go.WideShapes Go.Deep Go.Joins

theorem flatCells_length {κ : Type} (cellsOf : κ → List Value) (size : Nat) (hl : ∀ p, (cellsOf p).length = size) (l : List κ) : (l.flatMap cellsOf).length = l.length * size := by
  induction l with
  | nil => simp
  | cons q l ih => rw [List.flatMap_cons, List.length_append, hl, ih, List.length_cons, Nat.succ_mul, Nat.add_comm]
theorem flatCells_at {κ : Type} (cellsOf : κ → List Value) (size : Nat) (hl : ∀ p, (cellsOf p).length = size) (l : List κ) : ∀ (k : Nat) (hk : k < l.length) (j : Nat), j < size → (l.flatMap cellsOf)[k * size + j]? = (cellsOf l[k])[j]? := by
  induction l with
  | nil => intro k hk; simp at hk
  | cons q l ih =>
    intro k hk j hj
    rw [List.flatMap_cons]
    cases k with
    | zero =>
      rw [Nat.zero_mul, Nat.zero_add, List.getElem?_append_left (by rw [hl]; exact hj)]
      rfl
    | succ k =>
      rw [List.getElem?_append_right (by rw [hl, Nat.succ_mul]; omega), hl]
      have : (k + 1) * size + j - size = k * size + j := by rw [Nat.succ_mul]; omega
      rw [this, ih k (by simpa using hk) j hj]
      rfl

section
variable {H : Type} {enc : TypeId × Value → H} {P : Program} {w : World} {base : Nat} {spare : Nat → Bool} {held : Bool}
/-- A field (or an argument) that is a slice of elements of so many cells. -/
theorem slice_field {κ : Type} [Inhabited κ] {te ts : TypeId} (hs : P.underlying ts = some (.slice te)) (size : Nat) (cellsOf : κ → List Value) (hl : ∀ p, (cellsOf p).length = size) (hsz : 0 < size) (hc : P.cellsOf te = size) (Q : κ → Prop)
    (hopen : ∀ (fuel : Nat) (cs : List Value) (x : DataW H × List MemPlace), DataW.trod enc P w base spare held fuel te cs = some x → ∃ p, cs = cellsOf p ∧ Q p)
    {fuel : Nat} {c : Value} {x : DataW H × List MemPlace} (ht : DataW.trod enc P w base spare held fuel ts [c] = some x) :
    ∃ (A : Option Addr) (len cap : Nat) (l : List κ), c = .slice A len cap ∧ Reads w w.heap.size size A len (l.flatMap cellsOf) ∧ l.length = len ∧ ∀ p ∈ l, Q p := by
  rcases open_slice hs ht with ⟨hc, _⟩ | ⟨a, len, cap, m, n, D, Pl, hc', _, hlc, _, hm, _, hi⟩
  · injection hc with hc
    exact ⟨none, 0, 0, [], hc, ⟨by simp, fun h => absurd h (by omega)⟩, rfl, fun p hp => by cases hp⟩
  · injection hc' with hc'
    have hlm : len ≤ m := by rw [hm]; split <;> omega
    have hx : ∀ i, ∃ p : κ, i < len → Q p ∧ ∀ j, j < size → w.cell? (a.add (i * size + j)) = (cellsOf p)[j]? := by
      intro i
      by_cases hil : i < len
      · obtain ⟨cs', hcs, htr⟩ := hi i (by omega)
        obtain ⟨p, rfl, hq⟩ := hopen _ _ _ htr
        rw [hc] at hcs
        obtain ⟨_, _, hat⟩ := World.cells?_some hcs
        exact ⟨p, fun _ => ⟨hq, fun j hj => by rw [← add_of_add]; exact hat j hj⟩⟩
      · exact ⟨default, fun hh => absurd hh hil⟩
    have hat : ∀ i, (hi : i < len) → ((List.range len).map fun i => Classical.choose (hx i))[i]'(by simpa using hi) = Classical.choose (hx i) := fun i hi => by simp
    refine ⟨some a, len, cap, (List.range len).map fun i => Classical.choose (hx i), hc', ⟨by rw [flatCells_length _ size hl]; simp, fun hpos => ?_⟩, by simp, fun p hp => ?_⟩
    · have hlen : 0 < len := by
        rcases Nat.eq_zero_or_pos len with h | h
        · subst h; simp at hpos
        · exact h
      have h0 := (Classical.choose_spec (hx 0) hlen).2 0 hsz
      obtain ⟨u0, hu0⟩ : ∃ u0, (cellsOf (Classical.choose (hx 0)))[0]? = some u0 := ⟨_, List.getElem?_eq_getElem (by rw [hl]; exact hsz)⟩
      rw [hu0] at h0
      have e0 : a.add (0 * size + 0) = a := by simp [Addr.add]
      rw [e0] at h0
      have hsp := World.cell?_spot h0
      have hlt := World.block_lt_of_cell? w _ h0
      obtain ⟨b, off, sp⟩ := a
      simp only at hsp
      subst hsp
      refine ⟨b, off, rfl, hlt, fun j u hu => ?_⟩
      have hjl : j < len * size := by
        have := (List.getElem?_eq_some_iff.1 hu).1
        rw [flatCells_length _ size hl] at this
        simpa using this
      have hq : j / size < len := Nat.div_lt_of_lt_mul (by rwa [Nat.mul_comm])
      have e : j = j / size * size + j % size := by have := Nat.div_add_mod j size; rw [Nat.mul_comm] at this; omega
      have hmod : j % size < size := Nat.mod_lt _ hsz
      have h1 := (Classical.choose_spec (hx (j / size)) hq).2 (j % size) hmod
      rw [← e, add_lit] at h1
      rw [h1, ← hu]
      conv => rhs; rw [e]
      rw [flatCells_at _ size hl _ (j / size) (by simpa using hq) _ hmod, hat _ hq]
    · obtain ⟨i, hi', e⟩ := List.mem_map.1 hp
      subst e
      exact (Classical.choose_spec (hx i) (List.mem_range.1 hi')).1
end
end Go.Proofs.YtcdbhcjiimdhhaaDoor
