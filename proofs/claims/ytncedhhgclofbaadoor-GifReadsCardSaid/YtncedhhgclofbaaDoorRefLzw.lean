/- layercakeref1.LzwOf: bits beside a list of words; the walk. -/
import Derived.Test.YtncedhhgclofbaaDoorBlocks
import Derived.Test.YtncedhhgclofbaaDoorLzwLaw
import Derived.Lib.ConvBytes
import Derived.Laws.AppendOwn
namespace Go.Proofs.YtncedhhgclofbaaDoor
open Go Go.RowKit

/-- A string of bytes. -/
def mkS (l : List UInt8) : ByteArray := ⟨l.toArray⟩
theorem lst_mkS (l : List UInt8) : lst (mkS l) = l := rfl
theorem size_mkS (l : List UInt8) : (mkS l).size = l.length := by rw [← lst_length, lst_mkS]
theorem mkS_of {s : ByteArray} {l : List UInt8} (h : lst s = l) : s = mkS l := lst_inj (h.trans (lst_mkS l).symm)
/-- Words as cells. -/
def wcs (x : Lz.Word) : List Value := [.string (mkS x.1), .int .i64 x.2]
def wcells (L : List Lz.Word) : List Value := L.flatMap wcs
theorem wcells_length (L : List Lz.Word) : (wcells L).length = L.length * 2 := by
  unfold wcells
  rw [List.length_flatMap]
  simp [wcs, List.map_const', List.sum_replicate_nat]
theorem wcells_one (L : List Lz.Word) : ∀ u ∈ wcells L, u.oneCell' = true := by
  intro u hu
  obtain ⟨x, _, hx⟩ := List.mem_flatMap.1 hu
  simp only [wcs, List.mem_cons, List.not_mem_nil, or_false] at hx
  rcases hx with rfl | rfl <;> rfl
theorem wcells_append (L M : List Lz.Word) : wcells (L ++ M) = wcells L ++ wcells M := by simp [wcells]
theorem wcells_at : ∀ (L : List Lz.Word) (i : Nat) (h : i < L.length) (j : Nat), j < 2 → (wcells L)[i * 2 + j]? = (wcs L[i])[j]?
  | x :: L, 0, _, j, hj => by
    show (wcs x ++ wcells L)[0 * 2 + j]? = _
    rw [List.getElem?_append_left (by simp [wcs]; omega), Nat.zero_mul, Nat.zero_add]
    rfl
  | x :: L, i + 1, h, j, hj => by
    show (wcs x ++ wcells L)[(i + 1) * 2 + j]? = _
    rw [List.getElem?_append_right (by simp [wcs]; omega)]
    have : (i + 1) * 2 + j - (wcs x).length = i * 2 + j := by simp [wcs]; omega
    rw [this, wcells_at L i (by simpa using h) j hj]
    rfl
theorem listedInfo : (Tryd.prog.info? 100).map (fun i => (i.zero, i.size, i.bytes)) = some (some (.agg #[.string ⟨#[]⟩, .int .i64 0]), 2, 24) := by kernel_rfl

/-- Bits beside a list of words. -/
structure RZ (w wr : World) (bs : List Bool) (L : List Lz.Word) (vb vl : Value) : Prop where
  ob : Own wr w.heap.size 1 vb bs.length (bytes (chars bs))
  ol : Own wr w.heap.size 2 vl L.length (wcells L)
  ap : ∀ g, vb.ownBlock = some g → vl.ownBlock ≠ some g
  bel : Below w.heap.size w wr
section
variable {w wr w' : World} {bs bs' : List Bool} {L L' : List Lz.Word} {vb vl v' : Value}
theorem RZ.new (h : RZ w wr bs L vb vl) (hb : Below wr.heap.size wr w') : RZ w w' bs L vb vl :=
  ⟨h.ob.below hb (Nat.le_refl _), h.ol.below hb (Nat.le_refl _), h.ap, h.bel.trans (hb.mono h.bel.size)⟩
theorem RZ.far (h : RZ w wr bs L vb vl) {p : Addr} (h1 : vb.ownBlock ≠ some p.block) (h2 : vl.ownBlock ≠ some p.block) (h3 : w.heap.size ≤ p.block) (u : Value) : RZ w (wr.setCell p u) bs L vb vl :=
  ⟨h.ob.setCell h1 u, h.ol.setCell h2 u, h.ap, h.bel.setCell h3 u⟩
theorem RZ.lb (h : RZ w wr bs L vb vl) : ∀ g, vb.ownBlock = some g → w.heap.size ≤ g ∧ g < wr.heap.size := fun g hg => h.ob.lt g hg
theorem RZ.ll (h : RZ w wr bs L vb vl) : ∀ g, vl.ownBlock = some g → w.heap.size ≤ g ∧ g < wr.heap.size := fun g hg => h.ol.lt g hg
theorem RZ.bits (h : RZ w wr bs L vb vl) (ho : Own w' w.heap.size 1 v' bs'.length (bytes (chars bs'))) (hg : wr.grownBy w' vb.ownBlock) (ha : v'.ownBlock = vb.ownBlock ∨ v'.ownBlock = some wr.heap.size) : RZ w w' bs' L v' vl := by
  refine ⟨ho, h.ol.kept hg ?_, fun g hv hl => ?_, h.bel.grown hg h.bel.size (fun g hv => (h.lb g hv).1)⟩
  · cases e : vl.ownBlock with
    | none => exact .inl rfl
    | some g => exact .inr fun e2 => h.ap g e2.symm e
  · rcases ha with e | e
    · exact h.ap g (e ▸ hv) hl
    · rw [e] at hv
      injection hv with hv
      have := (h.ll g hl).2
      omega
theorem RZ.list (h : RZ w wr bs L vb vl) (ho : Own w' w.heap.size 2 v' L'.length (wcells L')) (hg : wr.grownBy w' vl.ownBlock) (ha : v'.ownBlock = vl.ownBlock ∨ v'.ownBlock = some wr.heap.size) : RZ w w' bs L' vb v' := by
  refine ⟨h.ob.kept hg ?_, ho, fun g hv hl => ?_, h.bel.grown hg h.bel.size (fun g hv => (h.ll g hv).1)⟩
  · cases e : vb.ownBlock with
    | none => exact .inl rfl
    | some g => exact .inr fun e2 => h.ap g e e2.symm
  · rcases ha with e | e
    · exact h.ap g hv (e ▸ hl)
    · rw [e] at hl
      injection hl with hl
      have := (h.lb g hv).2
      omega
theorem RZ.nolist (h : RZ w wr bs L vb vl) : RZ w wr bs [] vb (.slice none 0 0) :=
  ⟨h.ob, Own.nil _ _ _, fun g _ hl => by simp [Value.ownBlock] at hl, h.bel⟩
end
/-- How a word that comes next is told. -/
theorem take_iff (s : List UInt8) (k : Nat) (x : List UInt8) (hk : k ≤ s.length) : (k + x.length ≤ s.length ∧ ((s.drop k).take x.length) = x) ↔ x = (s.drop k).take x.length := by
  constructor
  · rintro ⟨_, h⟩; exact h.symm
  · intro h
    refine ⟨?_, h.symm⟩
    have := congrArg List.length h
    rw [List.length_take, List.length_drop] at this
    omega
/-- A string turned into bytes of one's own. -/
theorem conv_string (w : World) (s : ByteArray) (hs : s.size ≤ maxLen) : ∃ c w', (convert 9 56 (.string s)).run Tryd.prog w = .ok (.slice (some ⟨w.heap.size, 0, none⟩) s.size c) w' ∧
    Own w' w.heap.size 1 (.slice (some ⟨w.heap.size, 0, none⟩) s.size c) s.size (bytes (lst s)) ∧ Below w.heap.size w w' := by
  refine ⟨_, _, Lib.run_convert_string_bytes w _ _ _ s Tryd.underlying9 Tryd.underlying56 Tryd.underlying5, ?_, ?_⟩
  · have h1 := grownCap_ge w s.size 0 5
    have h3 := grownCap_le_maxLen w s.size 0 5 hs
    have hat := Lib.bytesWorld_at_new w 5 s
    have hsz := Lib.bytesWorld_size w 5 s
    have hbs : (Lib.bytesCells w 5 s).size = grownCap w s.size 0 5 := by
      unfold Lib.bytesCells
      rw [Array.size_append, Array.size_map, Array.size_replicate]
      show s.size + _ = _
      omega
    refine ⟨by rw [bytes_length, lst_length, Nat.mul_one], .inr ⟨w.heap.size, 0, _, rfl, Nat.le_refl _, by omega, h1, h3, fun j hj => ?_, fun j hj => ?_⟩⟩
    · rw [Nat.mul_one] at hj
      rw [Nat.zero_add, Lib.bytesWorld_cell w _ s j hj, bytes_at]
      have hj2 : j < (lst s).length := by rw [lst_length]; exact hj
      rw [List.getElem?_eq_getElem hj2, List.getD_eq_getElem?_getD, List.getElem?_eq_getElem hj2]
      rfl
    · rw [Nat.mul_one] at hj
      rw [Nat.zero_add, cell_of_row _ _ j _ _ _ hat]
      refine ⟨by simp [hbs, hj], ?_⟩
      simp [World.frozen?, hat, hbs]
      omega
  · exact ⟨rfl, rfl, rfl, by rw [Lib.bytesWorld_size]; omega, fun g hg => Lib.bytesWorld_at_old w _ s g hg⟩
end Go.Proofs.YtncedhhgclofbaaDoor
