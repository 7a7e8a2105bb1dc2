/- A palette of the colors that are used most, plainly: choosing one after another is sorting, stably. -/
import Derived.Test.YtlpcmeodbigpjaaDoorColorLaw
import Derived.Test.YtlpcmeodbigpjaaDoorUses
import Derived.Test.YtlpcmeodbigpjaaDoorStableLaw
namespace Go.Proofs.YtlpcmeodbigpjaaDoor
open Go Go.RowKit
namespace Col
open Stab

def useKey (q : Px × Nat) : Int := -(q.2 : Int)
def live (l : List (Px × Nat)) : List (Px × Nat) := l.filter fun q => decide (0 < q.2)
theorem live_all {l : List (Px × Nat)} (h : ∀ q ∈ l, 0 < q.2) : live l = l := List.filter_eq_self.2 fun q hq => decide_eq_true (h q hq)
/-- The first of those that are used most is the sorted list's head; it is struck out. -/
theorem sel_step {l : List (Px × Nat)} {x : Px × Nat} {rest : List (Px × Nat)} (hs : Srt useKey (x :: rest)) (h : Same useKey (live l) (x :: rest)) (i : Nat) (hi : i < l.length) (h0 : 0 < l[i].2)
    (hmax : ∀ j, (hj : j < l.length) → l[j].2 ≤ l[i].2) (hfirst : ∀ j, (hj : j < i) → l[j].2 < l[i].2) : l[i] = x ∧ Same useKey (live (l.set i (l[i].1, 0))) rest := by
  obtain ⟨y, hy⟩ : ∃ y, y = l[i] := ⟨_, rfl⟩
  rw [← hy] at h0 hmax hfirst ⊢
  have e : l = l.take i ++ y :: l.drop (i + 1) := by rw [hy, List.getElem_cons_drop, List.take_append_drop]
  have e2 : l.set i (y.1, 0) = l.take i ++ (y.1, 0) :: l.drop (i + 1) := List.set_eq_take_append_cons_drop .. |>.trans (if_pos hi)
  have hP : ∀ q ∈ l.take i, q.2 < y.2 := fun q hq => by
    obtain ⟨j, hj, hji, rfl⟩ := mem_take_at hq
    exact hfirst j hji
  have hl1 : live l = live (l.take i) ++ y :: live (l.drop (i + 1)) := by
    conv => lhs; rw [e]
    unfold live
    rw [List.filter_append, List.filter_cons_of_pos (by simpa using h0)]
  have hl2 : live (l.set i (y.1, 0)) = live (l.take i) ++ live (l.drop (i + 1)) := by
    rw [e2]
    unfold live
    rw [List.filter_append, List.filter_cons_of_neg (by simp)]
  rw [hl1] at h
  rw [hl2]
  have hno : (live (l.take i)).filter (fun q => decide (useKey q = useKey y)) = [] := by
    rw [List.filter_eq_nil_iff]
    intro q hq hk
    have h1 := hP q (List.mem_filter.1 hq).1
    have h2 := of_decide_eq_true hk
    unfold useKey at h2
    omega
  have hk : useKey x = useKey y := by
    have a1 : useKey x ≤ useKey y := by
      rcases List.mem_cons.1 (h.mem (List.mem_append_right _ (List.mem_cons_self))) with e3 | e3
      · rw [e3]; exact Int.le_refl _
      · exact (List.pairwise_cons.1 hs).1 y e3
    have a2 : useKey y ≤ useKey x := by
      have hx : x ∈ live l := by rw [hl1]; exact h.symm.mem (List.mem_cons_self)
      obtain ⟨j, hj, rfl⟩ := List.getElem_of_mem (List.mem_filter.1 hx).1
      have := hmax j hj
      unfold useKey
      omega
    omega
  have hv := h (useKey y)
  rw [List.filter_append, hno, List.nil_append, List.filter_cons_of_pos (by simp), List.filter_cons_of_pos (by simpa using hk)] at hv
  injection hv with hxy hv
  refine ⟨hxy, fun v => ?_⟩
  rw [List.filter_append]
  by_cases ev : useKey y = v
  · subst ev
    rw [hno, List.nil_append]
    exact hv
  · have h2 := h v
    rw [List.filter_append, List.filter_cons_of_neg (by simpa using ev), List.filter_cons_of_neg (by rw [hk]; simpa using ev)] at h2
    exact h2
/-- A color of the palette is no way off. -/
theorem far_self (x : Px) : far x x = 0 := by simp [far, sq]
theorem near_zero (x : Px) (l : List Px) (h : x ∈ l) : (near x l).2 = 0 := by
  obtain ⟨_, h2, h3, _⟩ := near_all x l (List.length_pos_of_mem h)
  obtain ⟨j, hj, e⟩ := List.getElem_of_mem h
  have h4 := h3 j hj
  rw [List.getD_eq_getElem?_getD, List.getElem?_eq_getElem hj, Option.getD_some, e, far_self] at h4
  have := far_nonneg x (l.getD (near x l).1 default)
  omega
theorem farSum_zero (ps pal : List Px) (h : ∀ x ∈ ps, x ∈ pal) : farSum ps pal = 0 := by
  unfold farSum
  induction ps with
  | nil => rfl
  | cons x r ih =>
    rw [List.map_cons, List.sum_cons, near_zero x pal (h x (List.mem_cons_self)), ih fun y hy => h y (List.mem_cons_of_mem _ hy)]
    rfl
theorem addUse_mem : ∀ (l : List (Px × Nat)) (x : Px), x ∈ (addUse l x).map (·.1) ∧ ∀ y ∈ l.map (·.1), y ∈ (addUse l x).map (·.1)
  | [], x => by simp [addUse]
  | q :: r, x => by
    rw [addUse]
    obtain ⟨h1, h2⟩ := addUse_mem r x
    split
    · rename_i e
      subst e
      exact ⟨by simp, fun y hy => by simpa using hy⟩
    · refine ⟨by rw [List.map_cons]; exact List.mem_cons_of_mem _ h1, fun y hy => ?_⟩
      rw [List.map_cons] at hy ⊢
      rcases List.mem_cons.1 hy with h | h
      · exact List.mem_cons.2 (.inl h)
      · exact List.mem_cons.2 (.inr (h2 y h))
theorem uses_mem (ps : List Px) : ∀ k, k ≤ ps.length → ∀ x ∈ ps.take k, x ∈ (uses (ps.take k)).map (·.1) := by
  intro k
  induction k with
  | zero => intro _ x hx; simp at hx
  | succ k ih =>
    intro hk x hx
    rw [uses_take ps k (by omega)]
    rw [List.take_succ_eq_append_getElem (by omega)] at hx
    rcases List.mem_append.1 hx with h | h
    · exact (addUse_mem _ _).2 x (ih (by omega) x h)
    · rw [List.mem_singleton.1 h]; exact (addUse_mem _ _).1
theorem addUse_pos (l : List (Px × Nat)) (x : Px) (h : ∀ q ∈ l, 0 < q.2) : ∀ q ∈ addUse l x, 0 < q.2 := by
  induction l with
  | nil => intro q hq; simp [addUse] at hq; subst hq; simp
  | cons p r ih =>
    intro q hq
    rw [addUse] at hq
    split at hq
    · rcases List.mem_cons.1 hq with e | e
      · subst e; simp
      · exact h q (List.mem_cons_of_mem _ e)
    · rcases List.mem_cons.1 hq with e | e
      · subst e; exact h _ (List.mem_cons_self)
      · exact ih (fun q hq => h q (List.mem_cons_of_mem _ hq)) q e
theorem uses_pos (ps : List Px) : ∀ k, k ≤ ps.length → ∀ q ∈ uses (ps.take k), 0 < q.2 := by
  intro k
  induction k with
  | zero => intro _ q hq; simp [uses] at hq
  | succ k ih =>
    intro hk
    rw [uses_take ps k (by omega)]
    exact addUse_pos _ _ (ih (by omega))
/-- A palette made better as long as that helps, some rounds at most. -/
def red (ps : List Px) : Nat → List Px → List Px
  | 0, o => o
  | j + 1, o => if farSum ps o ≤ farSum ps (better ps o) then o else red ps j (better ps o)
theorem red_length (ps : List Px) : ∀ (j : Nat) (o : List Px), (red ps j o).length = o.length
  | 0, _ => rfl
  | j + 1, o => by
    rw [red]
    split
    · rfl
    · rw [red_length ps j, better_length]
theorem red_le (ps : List Px) : ∀ (j : Nat) (o : List Px), farSum ps (red ps j o) ≤ farSum ps o
  | 0, _ => Int.le_refl _
  | j + 1, o => by
    rw [red]
    split
    · exact Int.le_refl _
    · have := red_le ps j (better ps o)
      omega
theorem red_better (ps : List Px) (j : Nat) (o : List Px) : farSum ps (red ps (j + 1) o) ≤ farSum ps (better ps o) := by
  rw [red]
  split
  · assumption
  · exact red_le ps j _
end Col
end Go.Proofs.YtlpcmeodbigpjaaDoor
