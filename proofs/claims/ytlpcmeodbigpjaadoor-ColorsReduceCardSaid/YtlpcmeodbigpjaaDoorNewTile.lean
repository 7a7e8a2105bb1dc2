/- tiles.newTile (its closure, slices.ContainsFunc), cut: the walks. -/
import Derived.Test.YtlpcmeodbigpjaaDoorCrop
import Derived.Test.YtlpcmeodbigpjaaDoorPxKey
namespace Go.Proofs.YtlpcmeodbigpjaaDoor
open Go Go.RowKit

theorem Own.capLe {w : World} {base size m c n : Nat} {A : Option Addr} {xs : List Value} (h : Own w base size (.slice A m c) n xs) : n ≤ c := by
  obtain ⟨_, _, e, h2, _⟩ := h.form
  injection e with _ _ e3
  omega

/-- Where a pixel stands first that is not as the first one: nowhere, if all are alike. -/
def IdxSays (l : List Px) (e : Ending) : Prop := ∃ r : Int, e = .returned (.int .i64 r) ∧ ((Til.flatB l = true ∧ r = -1) ∨ (Til.flatB l = false ∧ 0 ≤ r))
theorem flatB_of {l : List Px} (h : ∀ j, (hj : j < l.length) → l[j] = l.getD 0 default) : Til.flatB l = true := by
  unfold Til.flatB
  rw [List.all_eq_true]
  intro p hp
  obtain ⟨j, hj, rfl⟩ := List.getElem_of_mem hp
  simpa using h j hj
theorem flatB_not {l : List Px} {k : Nat} (hk : k < l.length) (h : ¬ l[k] = l.getD 0 default) : Til.flatB l = false := by
  cases hf : Til.flatB l with
  | false => rfl
  | true =>
    have := Til.flatB_at hf k hk
    rw [List.getD_eq_getElem?_getD, List.getElem?_eq_getElem hk] at this
    exact absurd this h



end Go.Proofs.YtlpcmeodbigpjaaDoor
