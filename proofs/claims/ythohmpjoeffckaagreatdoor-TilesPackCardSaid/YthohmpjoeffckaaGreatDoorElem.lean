/- Some cells of a slice of one's own, stored anew. Elements of several cells in a slice of one's own: one stored, two changing places. -/
import Derived.Test.YthohmpjoeffckaaGreatDoorMem
import Derived.Test.YthohmpjoeffckaaGreatDoorRow
import Derived.Test.YthohmpjoeffckaaGreatDoorStableLaw
namespace Go.Proofs.YthohmpjoeffckaaGreatDoor
open Go Go.RowKit

theorem Own.thereAt {w : World} {base size n c g off : Nat} {xs : List Value} (h : Own w base size (.slice (some ⟨g, off, none⟩) n c) n xs) (i len : Nat) (hi : i + len ≤ n * size) : w.there g (off + i) len := by
  rcases h.2 with ⟨e, _⟩ | ⟨g', off', cap, e, hb, hg, hn, hm, hx, hf⟩
  · cases e
  · injection e with e1 e2 e3
    injection e1 with e1
    injection e1 with e1 e4
    subst e1; subst e4; subst e3
    have hle : n * size ≤ c * size := Nat.mul_le_mul_right _ hn
    intro j hj
    rw [Nat.add_assoc]
    exact hf _ (by omega)
theorem Own.setPart {w : World} {base size n c g off : Nat} {xs : List Value} (h : Own w base size (.slice (some ⟨g, off, none⟩) n c) n xs) (i : Nat) (ys zs : List Value) (hi : i + ys.length ≤ n * size)
    (hz : zs.length = n * size) (hin : ∀ j, j < ys.length → zs[i + j]? = ys[j]?) (hout : ∀ j, (j < i ∨ i + ys.length ≤ j) → zs[j]? = xs[j]?) :
    Own (w.setCells g (off + i) ys) base size (.slice (some ⟨g, off, none⟩) n c) n zs := by
  have hth := h.thereAt i ys.length hi
  refine ⟨hz, ?_⟩
  rcases h.2 with ⟨e, _⟩ | ⟨g', off', cap, e, hb, hg, hn, hm, hx, hf⟩
  · cases e
  · injection e with e1 e2 e3
    injection e1 with e1
    injection e1 with e1 e4
    subst e1; subst e4; subst e3
    refine .inr ⟨g, off, c, rfl, hb, by rw [size_setCells]; exact hg, hn, hm, fun j hj => ?_, fun j hj => ⟨World.isSome_setCells _ _ _ _ _ (hf j hj).1, by rw [World.frozen?_setCells]; exact (hf j hj).2⟩⟩
    by_cases hin' : i ≤ j ∧ j < i + ys.length
    · obtain ⟨t, rfl⟩ : ∃ t, j = i + t := ⟨j - i, by omega⟩
      have ht : t < ys.length := by omega
      rw [← Nat.add_assoc, World.cell?_setCells_in g ys (off + i) w (fun t ht => (hth t ht).1) t ht, hin t ht, List.getElem?_eq_getElem]
    · rw [World.cell?_setCells_out g ys (off + i) w _ (fun _ _ => ?_), hx j hj]
      · exact (hout j (by omega)).symm
      · show off + j < off + i ∨ off + i + ys.length ≤ off + j
        omega
end Go.Proofs.YthohmpjoeffckaaGreatDoor
namespace Go.Proofs.YthohmpjoeffckaaGreatDoor
open Go Go.RowKit

section
variable {κ : Type} {cs : κ → List Value} {size : Nat} {w : World} {base n c g off : Nat} {l : List κ}
theorem flatCells_put (hcs : ∀ p, (cs p).length = size) (k : Nat) (hk : k < l.length) (q : κ) (t : Nat) :
    ((l.set k q).flatMap cs)[t]? = if k * size ≤ t ∧ t < k * size + size then (cs q)[t - k * size]? else (l.flatMap cs)[t]? := by
  have hlen : ∀ m : List κ, (m.flatMap cs).length = m.length * size := fun m => flatCells_length cs size hcs m
  by_cases ht : t < l.length * size
  · have hs : 0 < size := by
      rcases Nat.eq_zero_or_pos size with h | h
      · rw [h, Nat.mul_zero] at ht; omega
      · exact h
    have hd := Nat.div_add_mod t size
    have hm := Nat.mod_lt t hs
    have hq : t / size < l.length := Nat.div_lt_of_lt_mul (by rw [Nat.mul_comm]; exact ht)
    rw [Nat.mul_comm] at hd
    have e1 := flatCells_at cs size hcs (l.set k q) (t / size) (by rw [List.length_set]; exact hq) (t % size) hm
    have e2 := flatCells_at cs size hcs l (t / size) hq (t % size) hm
    rw [hd] at e1 e2
    rw [e1, e2, List.getElem_set]
    by_cases hkt : k = t / size
    · rw [if_pos hkt, hkt, if_pos ⟨by omega, by omega⟩]
      congr 1
      omega
    · rw [if_neg hkt, if_neg]
      intro h
      apply hkt
      rcases Nat.lt_or_ge (t / size) k with h2 | h2
      · have := Nat.mul_le_mul_right size (show t / size + 1 ≤ k from h2)
        rw [Nat.add_mul, Nat.one_mul] at this
        omega
      · rcases Nat.lt_or_ge k (t / size) with h3 | h3
        · have := Nat.mul_le_mul_right size (show k + 1 ≤ t / size from h3)
          rw [Nat.add_mul, Nat.one_mul] at this
          omega
        · omega
  · rw [List.getElem?_eq_none (by rw [hlen, List.length_set]; omega), if_neg, List.getElem?_eq_none (by rw [hlen]; omega)]
    have := Nat.mul_le_mul_right size (show k + 1 ≤ l.length from hk)
    rw [Nat.add_mul, Nat.one_mul] at this
    omega
theorem Own.setElem (h : Own w base size (.slice (some ⟨g, off, none⟩) n c) n (l.flatMap cs)) (hcs : ∀ p, (cs p).length = size) (hl : l.length = n) (k : Nat) (hk : k < n) (q : κ) :
    Own (w.setCells g (off + k * size) (cs q)) base size (.slice (some ⟨g, off, none⟩) n c) n ((l.set k q).flatMap cs) := by
  have hb := Nat.mul_le_mul_right size (show k + 1 ≤ n from hk)
  rw [Nat.add_mul, Nat.one_mul] at hb
  refine h.setPart (k * size) (cs q) _ (by rw [hcs]; exact hb) (by rw [flatCells_length cs size hcs, List.length_set, hl]) (fun j hj => ?_) (fun j hj => ?_)
  · rw [hcs] at hj
    rw [flatCells_put hcs k (by omega) q, if_pos ⟨by omega, by omega⟩, Nat.add_sub_cancel_left]
  · rw [hcs] at hj
    rw [flatCells_put hcs k (by omega) q, if_neg (by omega)]
theorem Own.swap (h : Own w base size (.slice (some ⟨g, off, none⟩) n c) n (l.flatMap cs)) (hcs : ∀ p, (cs p).length = size) (hl : l.length = n) (i j : Nat) (hi : i < n) (hj : j < n) (x y : κ) :
    Own ((w.setCells g (off + i * size) (cs y)).setCells g (off + j * size) (cs x)) base size (.slice (some ⟨g, off, none⟩) n c) n ((Stab.swp l i j x y).flatMap cs) :=
  (h.setElem hcs hl i hi y).setElem hcs (by rw [List.length_set]; exact hl) j hj x
end
end Go.Proofs.YthohmpjoeffckaaGreatDoor
