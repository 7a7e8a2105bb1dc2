/- How often a color is used: plain, and its cells. -/
import Derived.Test.YthohmpjoeffckaaDoorMem
import Derived.Test.YthohmpjoeffckaaDoorPxKey
namespace Go.Proofs.YthohmpjoeffckaaDoor
open Go Go.RowKit
namespace Col

def addUse : List (Px × Nat) → Px → List (Px × Nat)
  | [], x => [(x, 1)]
  | q :: r, x => if q.1 = x then (q.1, q.2 + 1) :: r else q :: addUse r x
def uses (ps : List Px) : List (Px × Nat) := ps.foldl addUse []

theorem addUse_new : ∀ (l : List (Px × Nat)) (x : Px), x ∉ l.map (·.1) → addUse l x = l ++ [(x, 1)]
  | [], _, _ => rfl
  | q :: r, x, h => by
    have h1 : ¬ q.1 = x := fun e => h (by simp [e])
    have h2 : x ∉ r.map (·.1) := fun e => h (by simp only [List.map_cons, List.mem_cons]; exact .inr e)
    rw [addUse, if_neg h1, addUse_new r x h2]
    rfl
theorem addUse_old : ∀ (l : List (Px × Nat)) (x : Px) (j : Nat) (hj : j < l.length), l[j].1 = x → (∀ t (ht : t < j), (l[t]'(by omega)).1 ≠ x) → addUse l x = l.set j (x, l[j].2 + 1)
  | q :: r, x, 0, _, h, _ => by
    have h1 : q.1 = x := h
    rw [addUse, if_pos h1, h1]
    rfl
  | q :: r, x, j + 1, hj, h, hb => by
    have h1 : ¬ q.1 = x := hb 0 (by omega)
    rw [addUse, if_neg h1, addUse_old r x j (by simpa using hj) h (fun t ht => hb (t + 1) (by omega))]
    rfl
theorem addUse_le (l : List (Px × Nat)) (x : Px) (m : Nat) (h : ∀ q ∈ l, q.2 ≤ m) : ∀ q ∈ addUse l x, q.2 ≤ m + 1 := by
  induction l with
  | nil => intro q hq; simp [addUse] at hq; subst hq; show 1 ≤ m + 1; omega
  | cons a r ih =>
    intro q hq
    rw [addUse] at hq
    split at hq
    · rcases List.mem_cons.1 hq with e | e
      · subst e; have := h a (by simp); show a.2 + 1 ≤ m + 1; omega
      · have := h q (by simp [e]); omega
    · rcases List.mem_cons.1 hq with e | e
      · subst e; have := h q (by simp); omega
      · exact ih (fun p hp => h p (by simp [hp])) q e
theorem addUse_length (l : List (Px × Nat)) (x : Px) : (addUse l x).length ≤ l.length + 1 := by
  induction l with
  | nil => simp [addUse]
  | cons a r ih =>
    rw [addUse]
    split
    · simp
    · simp; omega
theorem uses_snoc (ps : List Px) (x : Px) : uses (ps ++ [x]) = addUse (uses ps) x := by simp [uses, List.foldl_append]
theorem uses_take (ps : List Px) (k : Nat) (hk : k < ps.length) : uses (ps.take (k + 1)) = addUse (uses (ps.take k)) ps[k] := by
  rw [List.take_succ_eq_append_getElem hk, uses_snoc]
theorem uses_take_bounds (ps : List Px) : ∀ k, k ≤ ps.length → (uses (ps.take k)).length ≤ k ∧ ∀ q ∈ uses (ps.take k), q.2 ≤ k
  | 0, _ => by simp [uses]
  | k + 1, h => by
    obtain ⟨h1, h2⟩ := uses_take_bounds ps k (by omega)
    rw [uses_take ps k (by omega)]
    exact ⟨by have := addUse_length (uses (ps.take k)) ps[k]; omega, addUse_le _ _ _ h2⟩
end Col

def useCs (q : Px × Nat) : List Value := [.int .u8 q.1.r.toNat, .int .u8 q.1.g.toNat, .int .u8 q.1.b.toNat, .int .u8 q.1.a.toNat, .int .i64 q.2]
def useCells (l : List (Px × Nat)) : List Value := l.flatMap useCs
theorem useCells_length (l : List (Px × Nat)) : (useCells l).length = l.length * 5 := by
  induction l with
  | nil => rfl
  | cons q l ih => simp [useCells, useCs] at ih ⊢; omega
theorem useCells_append (l m : List (Px × Nat)) : useCells (l ++ m) = useCells l ++ useCells m := by simp [useCells]
theorem useCells_one (l : List (Px × Nat)) : ∀ u ∈ useCells l, u.oneCell' = true := by
  intro u hu
  obtain ⟨q, _, hq⟩ := List.mem_flatMap.1 hu
  simp [useCs] at hq
  rcases hq with rfl | rfl | rfl | rfl | rfl <;> rfl
theorem useCells_at (l : List (Px × Nat)) : ∀ (k : Nat) (hk : k < l.length) (j : Nat), j < 5 → (useCells l)[k * 5 + j]? = (useCs l[k])[j]? := by
  induction l with
  | nil => intro k hk; simp at hk
  | cons q l ih =>
    intro k hk j hj
    have e : useCells (q :: l) = useCs q ++ useCells l := rfl
    rw [e]
    cases k with
    | zero =>
      rw [Nat.zero_mul, Nat.zero_add, List.getElem?_append_left (by simpa [useCs] using hj)]
      rfl
    | succ k =>
      rw [List.getElem?_append_right (by simp [useCs]; omega)]
      have : (k + 1) * 5 + j - (useCs q).length = k * 5 + j := by simp [useCs]; omega
      rw [this, ih k (by simpa using hk) j hj]
      rfl
theorem useCells_set (l : List (Px × Nat)) (k : Nat) (hk : k < l.length) (t : Nat) : useCells (l.set k (l[k].1, t)) = (useCells l).set (k * 5 + 4) (.int .i64 t) := by
  apply List.ext_getElem?
  intro j
  by_cases hj : j < l.length * 5
  · have hq : j / 5 < l.length := by omega
    have e : j = j / 5 * 5 + j % 5 := by omega
    by_cases he : j / 5 = k
    · by_cases h4 : j % 5 = 4
      · have ej : j = k * 5 + 4 := by omega
        rw [ej, useCells_at _ k (by simpa using hk) 4 (by omega), List.getElem?_set_self (by rw [useCells_length]; omega)]
        simp [useCs]
      · rw [List.getElem?_set_ne (by omega), e, useCells_at _ (j / 5) (by simpa using hq) _ (Nat.mod_lt _ (by omega)), useCells_at _ (j / 5) hq _ (Nat.mod_lt _ (by omega))]
        subst he
        have h5 : j % 5 < 4 := by omega
        simp only [List.getElem_set_self]
        match h : j % 5, h5 with
        | 0, _ => rfl
        | 1, _ => rfl
        | 2, _ => rfl
        | 3, _ => rfl
    · rw [List.getElem?_set_ne (by omega), e, useCells_at _ (j / 5) (by simpa using hq) _ (Nat.mod_lt _ (by omega)), useCells_at _ (j / 5) hq _ (Nat.mod_lt _ (by omega)), List.getElem_set_ne (fun h => he h.symm)]
  · rw [List.getElem?_eq_none (by rw [useCells_length, List.length_set]; omega), List.getElem?_eq_none (by rw [List.length_set, useCells_length]; omega)]

/-- One cell set. -/
theorem Own.setAt {w : World} {base size n c g off : Nat} {xs : List Value} (h : Own w base size (.slice (some ⟨g, off, none⟩) n c) n xs) (i : Nat) (hi : i < n * size) (u : Value) :
    Own (w.setCell ⟨g, off + i, none⟩ u) base size (.slice (some ⟨g, off, none⟩) n c) n (xs.set i u) := by
  refine ⟨by rw [List.length_set]; exact h.1, ?_⟩
  have hl := h.1
  rcases h.2 with ⟨e, _⟩ | ⟨g', off', cap, e, hb, hg, hn, hm, hx, hf⟩
  · cases e
  · injection e with e1 e2 e3
    injection e1 with e1
    injection e1 with e1 e4
    subst e1; subst e4; subst e3
    have hone : ∀ j, ((w.setCell ⟨g, off + i, none⟩ u).cell? ⟨g, off + j, none⟩) = if j = i then (if (w.cell? ⟨g, off + i, none⟩).isSome then some u else none) else w.cell? ⟨g, off + j, none⟩ := by
      intro j
      by_cases hj : j = i
      · subst hj
        rw [if_pos rfl]
        have hsome : (w.cell? ⟨g, off + j, none⟩).isSome = true := by
          rw [hx j hi, List.getElem?_eq_getElem (by omega)]; rfl
        obtain ⟨y, hy⟩ := Option.isSome_iff_exists.1 hsome
        rw [if_pos hsome]
        exact World.cell?_setCell_same w _ _ hy
      · rw [if_neg hj]
        exact World.cell?_setCell_other w _ _ _ (by first | (simp; done) | (simp; omega))
    have hsi : (w.cell? ⟨g, off + i, none⟩).isSome = true := by
      rw [hx i hi, List.getElem?_eq_getElem (by omega)]; rfl
    refine .inr ⟨g, off, c, rfl, hb, by simpa [World.setCell] using hg, hn, hm, fun j hj => ?_, fun j hj => ⟨?_, ?_⟩⟩
    · rw [hone j]
      by_cases hji : j = i
      · subst hji
        rw [if_pos rfl, if_pos hsi, List.getElem?_set_self (by omega)]
      · rw [if_neg hji, hx j hj, List.getElem?_set_ne (fun e => hji e.symm)]
    · rw [hone j]
      by_cases hji : j = i
      · rw [if_pos hji, if_pos hsi]; rfl
      · rw [if_neg hji]; exact (hf j hj).1
    · rw [World.frozen?_setCell]; exact (hf j hj).2

/-- The map from colors to their places. -/
def useMap (l : List (Px × Nat)) : List (Px × Value) := (List.range l.length).map fun j => ((l.getD j default).1, .int .i64 j)
theorem useMap_length (l : List (Px × Nat)) : (useMap l).length = l.length := by simp [useMap]
theorem useMap_keys (l : List (Px × Nat)) : (useMap l).map (·.1) = l.map (·.1) := by
  apply List.ext_getElem (by simp [useMap])
  intro j h1 h2
  have : j < l.length := by simpa using h2
  simp [useMap, this]
theorem useMap_at (l : List (Px × Nat)) (j : Nat) (hj : j < l.length) : (useMap l)[j]? = some (l[j].1, .int .i64 j) := by
  simp [useMap, hj]
theorem useMap_snoc (l : List (Px × Nat)) (x : Px) (t : Nat) : useMap (l ++ [(x, t)]) = useMap l ++ [(x, .int .i64 l.length)] := by
  apply List.ext_getElem?
  intro j
  by_cases hj : j < l.length
  · rw [useMap_at _ j (by simp; omega), List.getElem?_append_left (by rw [useMap_length]; exact hj), useMap_at _ j hj, List.getElem_append_left hj]
  · by_cases he : j = l.length
    · subst he
      rw [useMap_at _ _ (by simp), List.getElem?_append_right (by rw [useMap_length]; omega)]
      simp [useMap_length]
    · rw [List.getElem?_eq_none (by rw [useMap_length]; simp; omega), List.getElem?_eq_none (by simp [useMap_length]; omega)]
theorem useMap_set (l : List (Px × Nat)) (k : Nat) (hk : k < l.length) (t : Nat) : useMap (l.set k (l[k].1, t)) = useMap l := by
  apply List.ext_getElem?
  intro j
  by_cases hj : j < l.length
  · rw [useMap_at _ j (by simpa using hj), useMap_at _ j hj, List.getElem_set]
    split
    · rename_i e; subst e; rfl
    · rfl
  · rw [List.getElem?_eq_none (by rw [useMap_length]; simp; omega), List.getElem?_eq_none (by rw [useMap_length]; omega)]
/-- What is found, and what then is so. -/
theorem useMap_some {l : List (Px × Nat)} {x : Px} {j : Nat} {v : Value} (h : mfind x (useMap l) 0 = some (j, v)) : ∃ hj : j < l.length, v = .int .i64 j ∧ l[j].1 = x ∧ Col.addUse l x = l.set j (l[j].1, l[j].2 + 1) := by
  obtain ⟨_, h1, h2⟩ := mfind_some h
  have hj : j < l.length := by
    have := (List.getElem?_eq_some_iff.1 h1).1
    rw [useMap_length] at this
    omega
  rw [Nat.sub_zero, useMap_at l j hj] at h1
  injection h1 with h1
  injection h1 with h1 h3
  refine ⟨hj, h3.symm, h1, ?_⟩
  rw [Col.addUse_old l x j hj h1 (fun t ht => h2 t _ _ (by omega) (useMap_at l t (by omega))), h1]
theorem useMap_none {l : List (Px × Nat)} {x : Px} (h : mfind x (useMap l) 0 = none) : Col.addUse l x = l ++ [(x, 1)] := by
  rw [mfind_none, useMap_keys] at h
  exact Col.addUse_new l x h
end Go.Proofs.YthohmpjoeffckaaDoor
