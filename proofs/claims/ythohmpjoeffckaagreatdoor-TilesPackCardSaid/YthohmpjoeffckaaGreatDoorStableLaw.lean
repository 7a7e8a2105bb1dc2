/- Stable sorting, plainly: what insertion sort and merging in place do to a list of elements with keys. -/
namespace Go.Proofs.YthohmpjoeffckaaGreatDoor
namespace Stab
variable {α : Type} {k : α → Int}

/-- The same elements; those of one key in the same order. -/
def Same (k : α → Int) (l l' : List α) : Prop := ∀ v : Int, l.filter (fun x => decide (k x = v)) = l'.filter (fun x => decide (k x = v))
/-- In order of keys. -/
def Srt (k : α → Int) (l : List α) : Prop := l.Pairwise (fun x y => k x ≤ k y)

theorem Same.refl (l : List α) : Same k l l := fun _ => rfl
theorem Same.symm {l l' : List α} (h : Same k l l') : Same k l' l := fun v => (h v).symm
theorem Same.trans {l l' l'' : List α} (h : Same k l l') (g : Same k l' l'') : Same k l l'' := fun v => (h v).trans (g v)
theorem Same.append {a a' b b' : List α} (h : Same k a a') (g : Same k b b') : Same k (a ++ b) (a' ++ b') := fun v => by
  rw [List.filter_append, List.filter_append, h v, g v]
theorem Same.mem {l l' : List α} (h : Same k l l') {x : α} (hx : x ∈ l) : x ∈ l' := by
  have h1 : x ∈ l.filter (fun y => decide (k y = k x)) := List.mem_filter.2 ⟨hx, by simp⟩
  rw [h (k x)] at h1
  exact (List.mem_filter.1 h1).1
theorem Same.mem_iff {l l' : List α} (h : Same k l l') {x : α} : x ∈ l ↔ x ∈ l' := ⟨h.mem, h.symm.mem⟩
/-- Two parts change places, if no key of one is a key of the other. -/
theorem Same.swap {a b : List α} (h : ∀ x ∈ a, ∀ y ∈ b, k x ≠ k y) : Same k (a ++ b) (b ++ a) := fun v => by
  rw [List.filter_append, List.filter_append]
  by_cases ha : a.filter (fun x => decide (k x = v)) = []
  · rw [ha, List.append_nil, List.nil_append]
  · have hb : b.filter (fun x => decide (k x = v)) = [] := by
      rw [List.filter_eq_nil_iff]
      intro y hy hyv
      obtain ⟨x, hx⟩ := List.exists_mem_of_ne_nil _ ha
      obtain ⟨hx, hxv⟩ := List.mem_filter.1 hx
      exact h x hx y hy (by have := of_decide_eq_true hxv; have := of_decide_eq_true hyv; omega)
    rw [hb, List.append_nil, List.nil_append]
/-- A sorted list of the same elements is that one. -/
theorem uniq : ∀ {l l' : List α}, Srt k l → Srt k l' → Same k l l' → l = l'
  | [], l', _, _, h => by
    cases l' with
    | nil => rfl
    | cons y t => exact absurd (h.symm.mem (List.mem_cons_self)) (by simp)
  | x :: t, l', hl, hl', h => by
    cases l' with
    | nil => exact absurd (h.mem (List.mem_cons_self)) (by simp)
    | cons y t' =>
      obtain ⟨h1, h2⟩ := List.pairwise_cons.1 hl
      obtain ⟨h3, h4⟩ := List.pairwise_cons.1 hl'
      have hk : k x = k y := by
        have a1 : k y ≤ k x := by
          rcases List.mem_cons.1 (h.mem (List.mem_cons_self)) with e | e
          · rw [e]; exact Int.le_refl _
          · exact h3 x e
        have a2 : k x ≤ k y := by
          rcases List.mem_cons.1 (h.symm.mem (List.mem_cons_self)) with e | e
          · rw [e]; exact Int.le_refl _
          · exact h1 y e
        omega
      have hxy := h (k x)
      rw [List.filter_cons_of_pos (by simp), List.filter_cons_of_pos (by simp [hk])] at hxy
      obtain rfl : x = y := by injection hxy
      refine congrArg (x :: ·) (uniq h2 h4 fun v => ?_)
      have hv := h v
      by_cases e : k x = v
      · rw [List.filter_cons_of_pos (by simpa using e), List.filter_cons_of_pos (by simpa using e)] at hv
        injection hv
      · rw [List.filter_cons_of_neg (by simpa using e), List.filter_cons_of_neg (by simpa using e)] at hv
        exact hv

/-- All of one list are at most all of another; less than all of it. -/
def Le (k : α → Int) (a b : List α) : Prop := ∀ x ∈ a, ∀ y ∈ b, k x ≤ k y
def Lt (k : α → Int) (a b : List α) : Prop := ∀ x ∈ a, ∀ y ∈ b, k x < k y
theorem srt_append {a b : List α} : Srt k (a ++ b) ↔ Srt k a ∧ Srt k b ∧ Le k a b := List.pairwise_append
theorem Srt.take {l : List α} (h : Srt k l) (i : Nat) : Srt k (l.take i) := List.Pairwise.sublist (List.take_sublist i l) h
theorem Srt.drop {l : List α} (h : Srt k l) (i : Nat) : Srt k (l.drop i) := List.Pairwise.sublist (List.drop_sublist i l) h
theorem Srt.at {l : List α} (h : Srt k l) (i j : Nat) (hi : i < l.length) (hj : j < l.length) (hij : i ≤ j) : k l[i] ≤ k l[j] := by
  rcases Nat.lt_or_ge i j with hlt | hge
  · exact List.pairwise_iff_getElem.1 h i j hi hj hlt
  · have : i = j := by omega
    subst this
    exact Int.le_refl _
theorem srt_one (x : α) : Srt k [x] := List.pairwise_singleton _ _
theorem mem_take_at {l : List α} {i : Nat} {x : α} (h : x ∈ l.take i) : ∃ j, ∃ hj : j < l.length, j < i ∧ l[j] = x := by
  obtain ⟨j, hj, e⟩ := List.getElem_of_mem h
  rw [List.length_take] at hj
  exact ⟨j, by omega, by omega, by rw [← e, List.getElem_take]⟩
theorem mem_drop_at {l : List α} {i : Nat} {x : α} (h : x ∈ l.drop i) : ∃ j, ∃ hj : j < l.length, i ≤ j ∧ l[j] = x := by
  obtain ⟨j, hj, e⟩ := List.getElem_of_mem h
  rw [List.length_drop] at hj
  exact ⟨i + j, by omega, by omega, by rw [← e, List.getElem_drop]⟩
/-- Where two sorted lists are parted for merging: SYMMERGE's search. -/
theorem halves {A B : List α} (hA : Srt k A) (hB : Srt k B) (h i : Nat) (hi : i ≤ A.length) (hih : i ≤ h) (hb : h - i ≤ B.length)
    (l : i = 0 ∨ h - i = B.length ∨ ∃ (h1 : i - 1 < A.length) (h2 : h - i < B.length), k A[i - 1] ≤ k B[h - i])
    (r : i = A.length ∨ i = h ∨ ∃ (h1 : i < A.length) (h2 : h - 1 - i < B.length), k B[h - 1 - i] < k A[i]) :
    Le k (A.take i) (B.drop (h - i)) ∧ Lt k (B.take (h - i)) (A.drop i) := by
  refine ⟨fun x hx y hy => ?_, fun x hx y hy => ?_⟩
  · obtain ⟨j, hj, hji, rfl⟩ := mem_take_at hx
    obtain ⟨t, ht, hti, rfl⟩ := mem_drop_at hy
    rcases l with rfl | e | ⟨h1, h2, hl⟩
    · omega
    · omega
    · have e1 : j ≤ i - 1 := by clear r hl; omega
      have a1 := hA.at j (i - 1) hj h1 e1
      have a2 := hB.at (h - i) t h2 ht hti
      omega
  · obtain ⟨j, hj, hji, rfl⟩ := mem_take_at hx
    obtain ⟨t, ht, hti, rfl⟩ := mem_drop_at hy
    rcases r with rfl | e | ⟨h1, h2, hl⟩
    · omega
    · omega
    · have e1 : j ≤ h - 1 - i := by clear l hl; omega
      have a1 := hB.at j (h - 1 - i) hj h2 e1
      have a2 := hA.at i t h1 ht hti
      omega
/-- What merging in place comes to. -/
theorem merged {A1 A2 B1 B2 C1 C2 : List α} (hA : Srt k (A1 ++ A2)) (hB : Srt k (B1 ++ B2)) (h1 : Le k A1 B2) (h2 : Lt k B1 A2)
    (s1 : Same k (A1 ++ B1) C1) (t1 : Srt k C1) (s2 : Same k (A2 ++ B2) C2) (t2 : Srt k C2) : Same k ((A1 ++ A2) ++ (B1 ++ B2)) (C1 ++ C2) ∧ Srt k (C1 ++ C2) := by
  obtain ⟨_, _, a3⟩ := srt_append.1 hA
  obtain ⟨_, _, b3⟩ := srt_append.1 hB
  refine ⟨?_, srt_append.2 ⟨t1, t2, fun x hx y hy => ?_⟩⟩
  · have e : Same k ((A1 ++ A2) ++ (B1 ++ B2)) ((A1 ++ B1) ++ (A2 ++ B2)) := by
      rw [List.append_assoc, List.append_assoc, ← List.append_assoc A2, ← List.append_assoc B1]
      exact (Same.refl A1).append ((Same.swap (fun x hx y hy e => by have := h2 y hy x hx; omega)).append (Same.refl B2))
    exact e.trans (s1.append s2)
  · have hx' := s1.symm.mem hx
    have hy' := s2.symm.mem hy
    rcases List.mem_append.1 hx' with hx' | hx' <;> rcases List.mem_append.1 hy' with hy' | hy'
    · exact a3 x hx' y hy'
    · exact h1 x hx' y hy'
    · exact Int.le_of_lt (h2 x hx' y hy')
    · exact b3 x hx' y hy'
/-- One element put into a sorted list: behind what is not greater. -/
theorem inserted {A1 A2 : List α} {x : α} (hA : Srt k (A1 ++ A2)) (h1 : ∀ y ∈ A1, k y ≤ k x) (h2 : ∀ y ∈ A2, k x ≤ k y) : Srt k (A1 ++ [x] ++ A2) := by
  obtain ⟨a1, a2, a3⟩ := srt_append.1 hA
  refine srt_append.2 ⟨srt_append.2 ⟨a1, srt_one x, fun y hy z hz => ?_⟩, a2, fun y hy z hz => ?_⟩
  · rw [List.mem_singleton.1 hz]; exact h1 y hy
  · rcases List.mem_append.1 hy with hy | hy
    · exact a3 y hy z hz
    · rw [List.mem_singleton.1 hy]; exact h2 z hz
/-- Two elements change places. -/
def swp (l : List α) (i j : Nat) (x y : α) : List α := (l.set i y).set j x
theorem swp_mid (P M S : List α) (x y : α) (i j : Nat) (hi : i = P.length) (hj : j = P.length + 1 + M.length) : swp (P ++ x :: (M ++ y :: S)) i j x y = P ++ y :: (M ++ x :: S) := by
  subst hi hj
  unfold swp
  rw [List.set_append_right _ _ (Nat.le_refl _), Nat.sub_self, List.set_cons_zero, List.set_append_right _ _ (by omega)]
  rw [show P.length + 1 + M.length - P.length = M.length + 1 by omega, List.set_cons_succ, List.set_append_right _ _ (Nat.le_refl _), Nat.sub_self, List.set_cons_zero]
theorem swp_comm (l : List α) (i j : Nat) (x y : α) (h : i ≠ j) : swp l i j x y = swp l j i y x := by
  unfold swp
  rw [List.set_comm _ _ h]
theorem swp_length (l : List α) (i j : Nat) (x y : α) : (swp l i j x y).length = l.length := by
  unfold swp
  rw [List.length_set, List.length_set]
/-- Two parts of one length, the first t elements exchanged. -/
def xch (P X M Y S : List α) (t : Nat) : List α := P ++ Y.take t ++ (X.drop t ++ (M ++ X.take t ++ (Y.drop t ++ S)))
theorem xch_zero (P X M Y S : List α) : xch P X M Y S 0 = P ++ X ++ M ++ Y ++ S := by simp [xch]
theorem xch_all (P X M Y S : List α) (h : X.length = Y.length) : xch P X M Y S X.length = P ++ Y ++ M ++ X ++ S := by
  unfold xch
  rw [List.drop_length, List.take_length, h, List.take_length, List.drop_length]
  simp
theorem xch_parts (P X M Y S : List α) (t : Nat) (hx : t < X.length) (hy : t < Y.length) :
    xch P X M Y S t = (P ++ Y.take t) ++ X[t] :: ((X.drop (t + 1) ++ (M ++ X.take t)) ++ Y[t] :: (Y.drop (t + 1) ++ S)) := by
  unfold xch
  rw [List.drop_eq_getElem_cons hx, List.drop_eq_getElem_cons hy]
  simp [-List.getElem_cons_drop, -List.take_append_getElem]
theorem xch_step (P X M Y S : List α) (t a b : Nat) (hx : t < X.length) (hy : t < Y.length) (ha : a = P.length + t) (hb : b = P.length + X.length + M.length + t) :
    swp (xch P X M Y S t) a b X[t] Y[t] = xch P X M Y S (t + 1) := by
  rw [xch_parts P X M Y S t hx hy, swp_mid _ _ _ _ _ a b (by rw [List.length_append, List.length_take]; omega) (by
    rw [List.length_append, List.length_append, List.length_append, List.length_take, List.length_take, List.length_drop]; omega)]
  unfold xch
  rw [List.take_succ_eq_append_getElem hx, List.take_succ_eq_append_getElem hy]
  simp [-List.getElem_cons_drop, -List.take_append_getElem]
theorem get_mid (P S : List α) (x : α) (i : Nat) (hi : i = P.length) : (P ++ x :: S)[i]? = some x := by
  subst hi
  rw [List.getElem?_append_right (Nat.le_refl _), Nat.sub_self]
  rfl
theorem xch_fst (P X M Y S : List α) (t a : Nat) (hx : t < X.length) (hy : t < Y.length) (ha : a = P.length + t) : (xch P X M Y S t)[a]? = some X[t] := by
  rw [xch_parts P X M Y S t hx hy]
  exact get_mid _ _ _ _ (by rw [List.length_append, List.length_take]; omega)
theorem xch_snd (P X M Y S : List α) (t b : Nat) (hx : t < X.length) (hy : t < Y.length) (hb : b = P.length + X.length + M.length + t) : (xch P X M Y S t)[b]? = some Y[t] := by
  rw [xch_parts P X M Y S t hx hy, ← List.cons_append, ← List.append_assoc]
  exact get_mid _ _ _ _ (by
    rw [List.length_append, List.length_cons, List.length_append, List.length_append, List.length_append, List.length_take, List.length_take, List.length_drop]; omega)
/-- One element moved behind the first t of those behind it. -/
def mov (P : List α) (x : α) (B S : List α) (t : Nat) : List α := P ++ B.take t ++ x :: (B.drop t ++ S)
theorem mov_zero (P : List α) (x : α) (B S : List α) : mov P x B S 0 = P ++ x :: (B ++ S) := by simp [mov]
theorem mov_all (P : List α) (x : α) (B S : List α) (t : Nat) (h : B.length ≤ t) : mov P x B S t = P ++ B ++ x :: S := by
  unfold mov
  rw [List.take_of_length_le h, List.drop_of_length_le h]
  simp [-List.getElem_cons_drop, -List.take_append_getElem]
theorem mov_parts (P : List α) (x : α) (B S : List α) (t : Nat) (ht : t < B.length) : mov P x B S t = (P ++ B.take t) ++ x :: ([] ++ B[t] :: (B.drop (t + 1) ++ S)) := by
  unfold mov
  rw [List.drop_eq_getElem_cons ht]
  simp [-List.getElem_cons_drop, -List.take_append_getElem]
theorem mov_step (P : List α) (x : α) (B S : List α) (t a b : Nat) (ht : t < B.length) (ha : a = P.length + t) (hb : b = P.length + t + 1) : swp (mov P x B S t) a b x B[t] = mov P x B S (t + 1) := by
  rw [mov_parts P x B S t ht, swp_mid _ _ _ _ _ a b (by rw [List.length_append, List.length_take]; omega) (by rw [List.length_append, List.length_take, List.length_nil]; omega)]
  unfold mov
  rw [List.take_succ_eq_append_getElem ht]
  simp [-List.getElem_cons_drop, -List.take_append_getElem]
theorem mov_back (P : List α) (x : α) (B S : List α) (t a b : Nat) (ht : t < B.length) (ha : a = P.length + t) (hb : b = P.length + t + 1) : swp (mov P x B S (t + 1)) b a x B[t] = mov P x B S t := by
  have e : mov P x B S (t + 1) = (P ++ B.take t) ++ B[t] :: ([] ++ x :: (B.drop (t + 1) ++ S)) := by
    unfold mov
    rw [List.take_succ_eq_append_getElem ht]
    simp [-List.getElem_cons_drop, -List.take_append_getElem]
  rw [swp_comm _ _ _ _ _ (by omega), e, swp_mid _ _ _ _ _ a b (by rw [List.length_append, List.length_take]; omega) (by rw [List.length_append, List.length_take, List.length_nil]; omega), mov_parts P x B S t ht]
theorem mov_fst (P : List α) (x : α) (B S : List α) (t a : Nat) (ht : t ≤ B.length) (ha : a = P.length + t) : (mov P x B S t)[a]? = some x := get_mid _ _ _ _ (by rw [List.length_append, List.length_take]; omega)
theorem mov_snd (P : List α) (x : α) (B S : List α) (t b : Nat) (ht : t < B.length) (hb : b = P.length + t + 1) : (mov P x B S t)[b]? = some B[t] := by
  rw [mov_parts P x B S t ht, List.nil_append, ← List.singleton_append, ← List.append_assoc]
  exact get_mid _ _ _ _ (by rw [List.length_append, List.length_append, List.length_take, List.length_singleton]; omega)
theorem mov_pred (P : List α) (x : α) (B S : List α) (t a : Nat) (ht : t < B.length) (ha : a = P.length + t) : (mov P x B S (t + 1))[a]? = some B[t] := by
  unfold mov
  rw [List.take_succ_eq_append_getElem ht, ← List.append_assoc, List.append_assoc _ [B[t]], List.singleton_append]
  exact get_mid _ _ _ _ (by rw [List.length_append, List.length_take]; omega)
/-- A sorted list's head below a bound, its rest above one. -/
theorem below_take {B : List α} (hB : Srt k B) (i : Nat) (v : Int) (h : i = 0 ∨ ∃ h1 : i - 1 < B.length, k B[i - 1] ≤ v) : ∀ y ∈ B.take i, k y ≤ v := fun y hy => by
  obtain ⟨j, hj, hji, rfl⟩ := mem_take_at hy
  rcases h with rfl | ⟨h1, h2⟩
  · omega
  · have e : j ≤ i - 1 := by omega
    have := hB.at j (i - 1) hj h1 e
    omega
theorem above_drop {B : List α} (hB : Srt k B) (i : Nat) (v : Int) (h : i = B.length ∨ ∃ h1 : i < B.length, v ≤ k B[i]) : ∀ y ∈ B.drop i, v ≤ k y := fun y hy => by
  obtain ⟨j, hj, hji, rfl⟩ := mem_drop_at hy
  rcases h with rfl | ⟨h1, h2⟩
  · omega
  · have := hB.at i j h1 hj hji
    omega
/-- One element merged into those behind it; into those ahead of it. -/
theorem one_first {B : List α} {x : α} (hB : Srt k B) (i : Nat) (h1 : i = 0 ∨ ∃ h1 : i - 1 < B.length, k B[i - 1] ≤ k x - 1) (h2 : i = B.length ∨ ∃ h1 : i < B.length, k x ≤ k B[i]) :
    Same k (x :: B) (B.take i ++ x :: B.drop i) ∧ Srt k (B.take i ++ x :: B.drop i) := by
  have a := below_take hB i _ h1
  have b := above_drop hB i _ h2
  constructor
  · have e : Same k ([x] ++ B.take i) (B.take i ++ [x]) := Same.swap fun y hy z hz e => by
      rw [List.mem_singleton.1 hy] at e
      have := a z hz
      omega
    have := e.append (Same.refl (B.drop i))
    simpa using this
  · have := inserted (A1 := B.take i) (A2 := B.drop i) (x := x) (by rw [List.take_append_drop]; exact hB) (fun y hy => by have := a y hy; omega) b
    simpa using this
theorem one_last {A : List α} {y : α} (hA : Srt k A) (i : Nat) (h1 : i = 0 ∨ ∃ h1 : i - 1 < A.length, k A[i - 1] ≤ k y) (h2 : i = A.length ∨ ∃ h1 : i < A.length, k y + 1 ≤ k A[i]) :
    Same k (A ++ [y]) (A.take i ++ y :: A.drop i) ∧ Srt k (A.take i ++ y :: A.drop i) := by
  have a := below_take hA i _ h1
  have b := above_drop hA i _ h2
  constructor
  · have e : Same k (A.drop i ++ [y]) ([y] ++ A.drop i) := Same.swap fun x hx z hz e => by
      rw [List.mem_singleton.1 hz] at e
      have := b x hx
      omega
    have := (Same.refl (A.take i)).append e
    rw [← List.append_assoc, List.take_append_drop] at this
    simpa using this
  · have := inserted (A1 := A.take i) (A2 := A.drop i) (x := y) (by rw [List.take_append_drop]; exact hA) a (fun z hz => by have := b z hz; omega)
    simpa using this
/-- Sorted in parts of one size (the last one may be less). -/
def Blks (k : α → Int) (s : Nat) (l : List α) : Prop := ∀ i, Srt k ((l.drop (i * s)).take s)
theorem blks_nil (s : Nat) : Blks k s ([] : List α) := fun i => by simp [Srt]
theorem Blks.head {s : Nat} {l : List α} (h : Blks k s l) : Srt k (l.take s) := by simpa using h 0
theorem Blks.tail {s : Nat} {l : List α} (h : Blks k s l) : Blks k s (l.drop s) := fun i => by
  rw [List.drop_drop, show s + i * s = (i + 1) * s by rw [Nat.add_mul]; omega]
  exact h (i + 1)
theorem Blks.small {s : Nat} {l : List α} (h : Blks k s l) (hl : l.length ≤ s) : Srt k l := by
  have := h.head
  rwa [List.take_of_length_le hl] at this
theorem Blks.snoc {s m : Nat} {D B : List α} (h : Blks k s D) (hD : D.length = m * s) (hB : Srt k B) (hl : B.length ≤ s) : Blks k s (D ++ B) := fun i => by
  rcases Nat.lt_or_ge i m with hi | hi
  · have h1 := Nat.mul_le_mul_right s (show i + 1 ≤ m from hi)
    rw [Nat.add_mul, Nat.one_mul] at h1
    rw [List.drop_append_of_le_length (by omega), List.take_append_of_le_length (by rw [List.length_drop]; omega)]
    exact h i
  · have h1 := Nat.mul_le_mul_right s hi
    rw [List.drop_append, List.drop_of_length_le (by omega), List.nil_append]
    exact (hB.drop _).take _
end Stab
end Go.Proofs.YthohmpjoeffckaaGreatDoor
