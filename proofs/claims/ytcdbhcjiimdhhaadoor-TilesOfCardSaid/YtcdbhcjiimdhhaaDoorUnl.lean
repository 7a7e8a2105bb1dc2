/- Unlike pixels: plain. -/
import Derived.Test.YtcdbhcjiimdhhaaDoorUses
namespace Go.Proofs.YtcdbhcjiimdhhaaDoor
namespace Col
/-- Where a pixel stands first (the list's length: nowhere). -/
def placeOf (x : Px) : List Px → Nat
  | [] => 0
  | q :: r => if q = x then 0 else placeOf x r + 1
theorem placeOf_le (x : Px) : ∀ l, placeOf x l ≤ l.length
  | [] => Nat.le_refl _
  | q :: r => by
    have := placeOf_le x r
    rw [placeOf]
    split <;> simp <;> omega
theorem placeOf_ne (x : Px) : ∀ (l : List Px) (t : Nat) (ht : t < l.length), t < placeOf x l → l[t] ≠ x
  | q :: r, t, ht, h => by
    rw [placeOf] at h
    split at h
    · omega
    · rename_i hq
      match t with
      | 0 => exact hq
      | t + 1 => exact placeOf_ne x r t (by simpa using ht) (by omega)
theorem placeOf_at (x : Px) : ∀ (l : List Px) (h : placeOf x l < l.length), l[placeOf x l] = x
  | q :: r, h => by
    by_cases hq : q = x
    · have e : placeOf x (q :: r) = 0 := by rw [placeOf, if_pos hq]
      simp only [e]
      exact hq
    · have e : placeOf x (q :: r) = placeOf x r + 1 := by rw [placeOf, if_neg hq]
      simp only [e, List.getElem_cons_succ]
      exact placeOf_at x r (by rw [e] at h; simpa using h)
theorem placeOf_of (x : Px) (l : List Px) (k : Nat) (hk : k ≤ l.length) (hb : ∀ t (ht : t < k), l[t] ≠ x) (ha : ∀ h : k < l.length, l[k] = x) : placeOf x l = k := by
  rcases Nat.lt_trichotomy (placeOf x l) k with h | h | h
  · exact absurd (placeOf_at x l (by omega)) (hb _ h)
  · exact h
  · have := placeOf_le x l
    exact absurd (ha (by omega)) (placeOf_ne x l k (by omega) h)
theorem placeOf_new (x : Px) (l : List Px) (h : placeOf x l = l.length) : x ∉ l := by
  intro hm
  obtain ⟨t, ht, e⟩ := List.getElem_of_mem hm
  exact placeOf_ne x l t ht (by omega) e

/-- The unlike pixels so far, and each pixel's number. -/
def unlStep (s : List Px × List Int) (x : Px) : List Px × List Int := (if placeOf x s.1 = s.1.length then s.1 ++ [x] else s.1, s.2 ++ [(placeOf x s.1 : Int)])
def unl (ps : List Px) : List Px × List Int := ps.foldl unlStep ([], [])
theorem unl_take (ps : List Px) (k : Nat) (hk : k < ps.length) : unl (ps.take (k + 1)) = unlStep (unl (ps.take k)) ps[k] := by
  rw [List.take_succ_eq_append_getElem hk]
  unfold unl
  rw [List.foldl_append]
  rfl
/-- They are the colors that are counted. -/
theorem unl_uses (ps : List Px) : ∀ k, k ≤ ps.length → (unl (ps.take k)).1 = (uses (ps.take k)).map (·.1)
  | 0, _ => rfl
  | k + 1, h => by
    have ih := unl_uses ps k (by omega)
    rw [unl_take ps k (by omega), uses_take ps k (by omega)]
    generalize unl (ps.take k) = s at *
    generalize uses (ps.take k) = l at *
    generalize ps[k] = x
    unfold unlStep
    simp only
    split
    · rename_i hp
      have hn := placeOf_new x s.1 hp
      rw [ih] at hn
      rw [addUse_new l x hn, ih]
      simp
    · rename_i hp
      have hlt : placeOf x s.1 < s.1.length := by have := placeOf_le x s.1; omega
      have hat := placeOf_at x s.1 hlt
      have hne := placeOf_ne x s.1
      simp only [ih] at hlt hat hne ⊢
      have hj : placeOf x (l.map (·.1)) < l.length := by simpa using hlt
      rw [addUse_old l x _ hj (by simpa using hat) (fun t ht => by have := hne t (by simp; omega) ht; simpa using this)]
      apply List.ext_getElem (by simp)
      intro t h1 h2
      simp only [List.getElem_map, List.getElem_set]
      split
      · rename_i e
        subst e
        simpa using hat
      · rfl
end Col
end Go.Proofs.YtcdbhcjiimdhhaaDoor
