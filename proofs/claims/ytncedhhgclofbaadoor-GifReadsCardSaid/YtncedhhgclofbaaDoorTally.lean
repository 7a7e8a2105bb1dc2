/- Unlike pixels, numbered and counted: plain. -/
import Derived.Test.YtncedhhgclofbaaDoorTileLaw
namespace Go.Proofs.YtncedhhgclofbaaDoor
namespace Col
/-- Colors with how often each number occurs. -/
def tally (l : List Px) (s : List Int) : List (Px × Nat) := (List.range l.length).map fun i => (l.getD i default, s.count (i : Int))
theorem tally_length (l : List Px) (s : List Int) : (tally l s).length = l.length := by simp [tally]
theorem tally_at (l : List Px) (s : List Int) (i : Nat) (hi : i < l.length) (h : i < (tally l s).length) : (tally l s)[i] = (l[i], s.count (i : Int)) := by simp [tally, hi]
theorem tally_nil (l : List Px) : tally l [] = l.map fun x => (x, 0) := by
  apply List.ext_getElem (by simp [tally_length])
  intro i h1 h2
  rw [tally_at l [] i (by simpa using h2)]
  simp
theorem tally_snoc (l : List Px) (s : List Int) (j : Nat) (_hj : j < l.length) (h : j < (tally l s).length) : tally l (s ++ [(j : Int)]) = (tally l s).set j ((tally l s)[j].1, (tally l s)[j].2 + 1) := by
  apply List.ext_getElem (by simp [tally_length])
  intro i h1 h2
  have hi : i < l.length := by simpa [tally_length] using h1
  rw [tally_at l _ i hi, List.getElem_set]
  split
  · rename_i e
    subst e
    rw [tally_at l s j hi]
    simp [List.count_append]
  · rename_i e
    rw [tally_at l s i hi]
    have : ¬ ((j : Int) = (i : Int)) := by omega
    simp [List.count_append, this]
/-- Each number is one of a color. -/
theorem unl_lt (ps : List Px) : ∀ k, k ≤ ps.length → ∀ n ∈ (unl (ps.take k)).2, ∃ j : Nat, n = j ∧ j < (unl (ps.take k)).1.length
  | 0, _ => by simp [unl]
  | k + 1, h => by
    have ih := unl_lt ps k (by omega)
    rw [unl_take ps k (by omega)]
    generalize unl (ps.take k) = s at *
    generalize ps[k] = x
    unfold unlStep
    intro n hn
    have hp := placeOf_le x s.1
    rcases List.mem_append.1 hn with h1 | h1
    · obtain ⟨j, e, hj⟩ := ih n h1
      refine ⟨j, e, ?_⟩
      simp only
      split
      · simp; omega
      · exact hj
    · refine ⟨placeOf x s.1, by simpa using h1, ?_⟩
      simp only
      split
      · simp; omega
      · omega
theorem unl_tally (ps : List Px) : ∀ k, k ≤ ps.length → tally (unl (ps.take k)).1 (unl (ps.take k)).2 = uses (ps.take k)
  | 0, _ => rfl
  | k + 1, h => by
    have ih := unl_tally ps k (by omega)
    have hlt := unl_lt ps k (by omega)
    rw [unl_take ps k (by omega), uses_take ps k (by omega)]
    generalize unl (ps.take k) = s at *
    generalize uses (ps.take k) = l at *
    generalize ps[k] = x
    unfold unlStep
    simp only
    subst ih
    have hle := placeOf_le x s.1
    split
    · rename_i hp
      have hn := placeOf_new x s.1 hp
      have hnew : x ∉ (tally s.1 s.2).map (·.1) := by
        intro hm
        obtain ⟨q, hq, e⟩ := List.mem_map.1 hm
        obtain ⟨t, ht, e2⟩ := List.getElem_of_mem hq
        rw [tally_length] at ht
        rw [tally_at s.1 s.2 t ht] at e2
        subst e2
        exact hn (e ▸ List.getElem_mem ht)
      rw [addUse_new _ x hnew, hp]
      apply List.ext_getElem (by simp [tally_length])
      intro i h1 h2
      have hi : i < (s.1 ++ [x]).length := by simpa [tally_length] using h1
      rw [tally_at _ _ i hi]
      by_cases hil : i < s.1.length
      · rw [List.getElem_append_left hil, List.getElem_append_left (show i < (tally s.1 s.2).length by rw [tally_length]; exact hil), tally_at s.1 s.2 i hil]
        have : ¬ ((s.1.length : Int) = (i : Int)) := by omega
        simp [List.count_append, this]
      · have e : i = s.1.length := by simp at hi; omega
        subst e
        have hc : s.2.count (s.1.length : Int) = 0 := by
          rw [List.count_eq_zero]
          intro hm
          obtain ⟨j, e, hj⟩ := hlt _ hm
          omega
        simp [List.count_append, hc, tally_length]
    · rename_i hp
      have hj : placeOf x s.1 < s.1.length := by omega
      have ht : placeOf x s.1 < (tally s.1 s.2).length := by rw [tally_length]; exact hj
      rw [tally_snoc s.1 s.2 _ hj ht, addUse_old _ x _ ht (by rw [tally_at s.1 s.2 _ hj]; exact placeOf_at x s.1 hj) (fun t h9 => by rw [tally_at s.1 s.2 t (by omega)]; exact placeOf_ne x s.1 t (by omega) h9)]
      congr 1
      rw [tally_at s.1 s.2 _ hj, placeOf_at x s.1 hj]
/-- A place that is one stays as the list grows. -/
theorem placeOf_append (x : Px) : ∀ (l m : List Px), placeOf x l < l.length → placeOf x (l ++ m) = placeOf x l
  | [], _, h => by simp at h
  | q :: r, m, h => by
    rw [List.cons_append, placeOf, placeOf]
    by_cases hq : q = x
    · rw [if_pos hq, if_pos hq]
    · rw [if_neg hq, if_neg hq, placeOf_append x r m (by rw [placeOf, if_neg hq] at h; simpa using h)]
/-- The numbers are the pixels' places among the colors. -/
theorem unl_places (ps : List Px) : ∀ k, k ≤ ps.length → (unl (ps.take k)).2 = (ps.take k).map (fun x => (placeOf x (unl (ps.take k)).1 : Int)) ∧ ∀ x ∈ ps.take k, placeOf x (unl (ps.take k)).1 < (unl (ps.take k)).1.length
  | 0, _ => by simp [unl]
  | k + 1, h => by
    obtain ⟨ih1, ih2⟩ := unl_places ps k (by omega)
    rw [unl_take ps k (by omega)]
    have ht : ps.take (k + 1) = ps.take k ++ [ps[k]] := List.take_succ_eq_append_getElem (by omega)
    rw [ht]
    generalize unl (ps.take k) = s at *
    generalize ps[k] = x at *
    generalize ps.take k = l at *
    unfold unlStep
    have hle := placeOf_le x s.1
    by_cases hp : placeOf x s.1 = s.1.length
    · simp only [hp, if_true]
      have hx : placeOf x (s.1 ++ [x]) = s.1.length := by
        have hn := placeOf_ne x s.1
        refine placeOf_of x _ _ (by simp) (fun t ht => ?_) (fun h => by simp)
        rw [List.getElem_append_left ht]
        exact hn t ht (by omega)
      refine ⟨?_, fun y hy => ?_⟩
      · rw [List.map_append, ih1]
        congr 1
        · exact List.map_congr_left fun y hy => by rw [placeOf_append y _ _ (ih2 y hy)]
        · simp [hx]
      · rcases List.mem_append.1 hy with h1 | h1
        · rw [placeOf_append y _ _ (ih2 y h1)]
          have := ih2 y h1
          simp; omega
        · obtain rfl := List.mem_singleton.1 h1
          rw [hx]; simp
    · simp only [if_neg hp]
      refine ⟨?_, fun y hy => ?_⟩
      · rw [List.map_append, ih1]
        simp
      · rcases List.mem_append.1 hy with h1 | h1
        · exact ih2 y h1
        · obtain rfl := List.mem_singleton.1 h1
          omega
theorem unl_nums (ps : List Px) : (unl ps).2 = ps.map (fun x => (placeOf x (unl ps).1 : Int)) := by
  have := (unl_places ps ps.length (Nat.le_refl _)).1
  simpa using this
theorem unl_in (ps : List Px) (x : Px) (hx : x ∈ ps) : placeOf x (unl ps).1 < (unl ps).1.length := by
  have := (unl_places ps ps.length (Nat.le_refl _)).2
  rw [List.take_length] at this
  exact this x hx
theorem unl_cols (ps : List Px) : (unl ps).1 = (uses ps).map (·.1) := by
  have := unl_uses ps ps.length (Nat.le_refl _)
  simpa using this
theorem unl_count (ps : List Px) : tally (unl ps).1 (unl ps).2 = uses ps := by
  have := unl_tally ps ps.length (Nat.le_refl _)
  simpa using this
/-- Colors are unlike. -/
theorem addUse_nodup (l : List (Px × Nat)) (x : Px) (h : (l.map (·.1)).Nodup) : ((addUse l x).map (·.1)).Nodup := by
  induction l with
  | nil => simp [addUse]
  | cons q r ih =>
    rw [List.map_cons, List.nodup_cons] at h
    rw [addUse]
    split
    · rw [List.map_cons, List.nodup_cons]; exact h
    · rename_i hq
      rw [List.map_cons, List.nodup_cons]
      refine ⟨fun hm => ?_, ih h.2⟩
      obtain ⟨y, hy, e⟩ := List.mem_map.1 hm
      have key : ∀ (l : List (Px × Nat)) (y : Px × Nat), y ∈ addUse l x → y.1 = x ∨ y.1 ∈ l.map (·.1) := by
        intro l
        induction l with
        | nil => intro y hy; simp [addUse] at hy; subst hy; exact .inl rfl
        | cons a b ihl =>
          intro y hy
          rw [addUse] at hy
          split at hy
          · rcases List.mem_cons.1 hy with e | e
            · subst e; exact .inr (by simp)
            · exact .inr (by simp only [List.map_cons, List.mem_cons]; exact .inr (List.mem_map_of_mem e))
          · rcases List.mem_cons.1 hy with e | e
            · subst e; exact .inr (by simp)
            · rcases ihl y e with h1 | h1
              · exact .inl h1
              · exact .inr (by simp only [List.map_cons, List.mem_cons]; exact .inr h1)
      rcases key r y hy with h1 | h1
      · exact hq (e ▸ h1)
      · exact h.1 (e ▸ h1)
theorem uses_nodup (ps : List Px) : ∀ k, k ≤ ps.length → ((uses (ps.take k)).map (·.1)).Nodup
  | 0, _ => by simp [uses]
  | k + 1, h => by
    rw [uses_take ps k (by omega)]
    exact addUse_nodup _ _ (uses_nodup ps k (by omega))
end Col
end Go.Proofs.YtncedhhgclofbaaDoor
