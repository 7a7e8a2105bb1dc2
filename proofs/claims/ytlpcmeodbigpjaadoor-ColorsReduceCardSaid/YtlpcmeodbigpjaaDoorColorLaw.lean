/-
  The plain law of palettes: a better palette is never further, nor is one with a color more. No Go in sight.
-/
import Derived.Test.YtlpcmeodbigpjaaDoorMem
namespace Go.Proofs.YtlpcmeodbigpjaaDoor
namespace Col

def sq (x y : UInt8) : Int := ((x.toNat : Int) - y.toNat) * ((x.toNat : Int) - y.toNat)
def far (x y : Px) : Int := sq x.r y.r + sq x.g y.g + sq x.b y.b + sq x.a y.a

theorem sq_nonneg (x y : UInt8) : 0 ≤ sq x y := by
  unfold sq
  rcases Int.le_total 0 ((x.toNat : Int) - y.toNat) with h | h
  · exact Int.mul_nonneg h h
  · exact Int.mul_nonneg_of_nonpos_of_nonpos h h
theorem sq_le (x y : UInt8) : sq x y ≤ 65025 := by
  have hx := x.toNat_lt
  have hy := y.toNat_lt
  have h1 : (x.toNat : Int) - y.toNat ≤ 255 := by omega
  have h2 : -255 ≤ (x.toNat : Int) - y.toNat := by omega
  unfold sq
  generalize (x.toNat : Int) - y.toNat = d at *
  have h : 0 ≤ (255 - d) * (255 + d) := Int.mul_nonneg (by omega) (by omega)
  grind
theorem far_nonneg (x y : Px) : 0 ≤ far x y := by
  have h1 := sq_nonneg x.r y.r
  have h2 := sq_nonneg x.g y.g
  have h3 := sq_nonneg x.b y.b
  have h4 := sq_nonneg x.a y.a
  unfold far; omega
theorem far_le (x y : Px) : far x y ≤ 260100 := by
  have h1 := sq_le x.r y.r
  have h2 := sq_le x.g y.g
  have h3 := sq_le x.b y.b
  have h4 := sq_le x.a y.a
  unfold far; omega

/-- One round of the search: the number and the distance of the nearest one so far. -/
def nstep (x : Px) (s : Nat × Int) (i : Nat) (c : Px) : Nat × Int := if s.2 < 0 ∨ far x c < s.2 then (i, far x c) else s
def near (x : Px) (pal : List Px) : Nat × Int := pal.zipIdx.foldl (fun s ci => nstep x s ci.2 ci.1) (0, -1)

theorem near_nil (x : Px) : near x [] = (0, -1) := rfl
theorem near_snoc (x c : Px) (l : List Px) : near x (l ++ [c]) = nstep x (near x l) l.length c := by
  simp [near, List.zipIdx_append, List.foldl_append]
theorem near_take (x : Px) (l : List Px) (k : Nat) (hk : k < l.length) : near x (l.take (k + 1)) = nstep x (near x (l.take k)) k l[k] := by
  rw [List.take_succ_eq_append_getElem hk, near_snoc, List.length_take, Nat.min_eq_left (Nat.le_of_lt hk)]

/-- What is found: the first of the nearest. -/
theorem near_spec (x : Px) (l : List Px) : ∀ k, 0 < k → k ≤ l.length → (near x (l.take k)).1 < k ∧ (near x (l.take k)).2 = far x (l.getD (near x (l.take k)).1 default) ∧
    (∀ j, j < k → (near x (l.take k)).2 ≤ far x (l.getD j default)) ∧ ∀ j, j < (near x (l.take k)).1 → (near x (l.take k)).2 < far x (l.getD j default) := by
  intro k
  induction k with
  | zero => intro h; omega
  | succ k ih =>
    intro _ hk
    have hg' : l[k]?.getD default = l[k] := by simp [List.getElem?_eq_getElem (show k < l.length by omega)]
    have hg : l.getD k default = l[k] := by rw [List.getD_eq_getElem?_getD, hg']
    rw [near_take x l k (by omega)]
    rcases Nat.eq_zero_or_pos k with h0 | h0
    · subst h0
      have hn : near x (l.take 0) = (0, -1) := by simp [near_nil]
      rw [hn]
      refine ⟨?_, ?_, ?_, ?_⟩
      · simp [nstep]
      · simp [nstep, hg']
      · intro j hj
        have : j = 0 := by omega
        subst this
        simp [nstep, hg']
      · intro j hj
        simp [nstep] at hj
    · obtain ⟨h1, h2, h3, h4⟩ := ih h0 (by omega)
      have hpos : 0 ≤ (near x (l.take k)).2 := by rw [h2]; exact far_nonneg _ _
      by_cases hlt : far x l[k] < (near x (l.take k)).2
      · have e : nstep x (near x (l.take k)) k l[k] = (k, far x l[k]) := by simp [nstep, hlt]
        rw [e]
        refine ⟨by simp, by simp [hg'], ?_, ?_⟩
        · intro j hj
          rcases Nat.lt_or_ge j k with h | h
          · have := h3 j h
            simp only; omega
          · have : j = k := by omega
            subst this
            rw [hg]
            exact Int.le_refl _
        · intro j hj
          have := h3 j hj
          simp only at *; omega
      · have e : nstep x (near x (l.take k)) k l[k] = near x (l.take k) := by
          have : ¬ (near x (l.take k)).2 < 0 := by omega
          simp [nstep, hlt, this]
        rw [e]
        refine ⟨by omega, h2, ?_, h4⟩
        intro j hj
        rcases Nat.lt_or_ge j k with h | h
        · exact h3 j h
        · have : j = k := by omega
          subst this
          rw [hg]
          omega

theorem near_all (x : Px) (l : List Px) (hl : 0 < l.length) : (near x l).1 < l.length ∧ (near x l).2 = far x (l.getD (near x l).1 default) ∧
    (∀ j, j < l.length → (near x l).2 ≤ far x (l.getD j default)) ∧ ∀ j, j < (near x l).1 → (near x l).2 < far x (l.getD j default) := by
  have := near_spec x l l.length hl (Nat.le_refl _)
  rwa [List.take_length] at this

theorem near_bounds (x : Px) (l : List Px) (k : Nat) (hk : k ≤ l.length) : -1 ≤ (near x (l.take k)).2 ∧ (near x (l.take k)).2 ≤ 260100 ∧ (near x (l.take k)).1 ≤ k := by
  rcases Nat.eq_zero_or_pos k with h0 | h0
  · subst h0; simp [near_nil]
  · obtain ⟨h1, h2, _⟩ := near_spec x l k h0 hk
    have a := far_nonneg x (l.getD (near x (l.take k)).1 default)
    have b := far_le x (l.getD (near x (l.take k)).1 default)
    omega

/-- How far the pixels are, together. -/
def farSum (ps pal : List Px) : Int := (ps.map fun x => (near x pal).2).sum

theorem sum_map_le {α : Type} (f g : α → Int) (l : List α) (h : ∀ x ∈ l, f x ≤ g x) : (l.map f).sum ≤ (l.map g).sum := by
  induction l with
  | nil => simp
  | cons x l ih =>
    simp only [List.map_cons, List.sum_cons]
    have h1 := h x (List.mem_cons_self ..)
    have h2 := ih fun y hy => h y (List.mem_cons_of_mem _ hy)
    omega
theorem sum_map_add {α : Type} (f g : α → Int) (l : List α) : (l.map fun x => f x + g x).sum = (l.map f).sum + (l.map g).sum := by
  induction l with
  | nil => simp
  | cons x l ih => simp only [List.map_cons, List.sum_cons, ih]; omega

/-- One color more: never further. -/
theorem farSum_more (ps pal : List Px) (c : Px) (hl : 0 < pal.length) : farSum ps (pal ++ [c]) ≤ farSum ps pal := by
  refine sum_map_le _ _ _ fun x _ => ?_
  obtain ⟨h1, h2, _⟩ := near_all x pal hl
  obtain ⟨_, _, h3, _⟩ := near_all x (pal ++ [c]) (by simp)
  have := h3 (near x pal).1 (by simp; omega)
  rw [h2]
  rw [List.getD_eq_getElem?_getD, List.getElem?_append_left h1] at this
  rwa [List.getD_eq_getElem?_getD]

/-! ### the mean is the nearest -/
/-- The mean of so many numbers, halves up. -/
def meanOf (s n : Int) : Int := (2 * s + n) / (2 * n)

theorem mean_best (s n c : Int) (hn : 0 < n) : n * (meanOf s n * meanOf s n) - 2 * (meanOf s n * s) ≤ n * (c * c) - 2 * (c * s) := by
  have h1 : 2 * n * meanOf s n ≤ 2 * s + n := by
    have := Int.mul_ediv_self_le (x := 2 * s + n) (k := 2 * n) (by omega)
    exact this
  have h2 : 2 * s + n < 2 * n * meanOf s n + 2 * n := by
    have := Int.lt_mul_ediv_self_add (x := 2 * s + n) (k := 2 * n) (by omega)
    exact this
  generalize meanOf s n = m at *
  rcases Int.lt_trichotomy c m with h | h | h
  · have p : 0 ≤ (m - c) * (2 * s - n * (m + c)) := by
      refine Int.mul_nonneg (by omega) ?_
      have q : 0 ≤ n * (m - 1 - c) := Int.mul_nonneg (by omega) (by omega)
      grind
    grind
  · subst h; exact Int.le_refl _
  · have p : 0 ≤ (c - m) * (n * (m + c) - 2 * s) := by
      refine Int.mul_nonneg (by omega) ?_
      have q : 0 ≤ n * (c - 1 - m) := Int.mul_nonneg (by omega) (by omega)
      grind
    grind

theorem sum_sq (l : List Int) (t : Int) : (l.map fun x => (x - t) * (x - t)).sum = (l.map fun x => x * x).sum - 2 * (t * l.sum) + l.length * (t * t) := by
  induction l with
  | nil => simp
  | cons x l ih =>
    simp only [List.map_cons, List.sum_cons, List.length_cons, ih]
    have e : ((l.length + 1 : Nat) : Int) = (l.length : Int) + 1 := by omega
    rw [e]
    grind

theorem sum_mean (l : List Int) (hl : l ≠ []) (c : Int) : (l.map fun x => (x - meanOf l.sum l.length) * (x - meanOf l.sum l.length)).sum ≤ (l.map fun x => (x - c) * (x - c)).sum := by
  rw [sum_sq, sum_sq]
  have hn : (0 : Int) < l.length := by
    have := List.length_pos_iff.2 hl
    omega
  have := mean_best l.sum l.length c hn
  grind

theorem sum_bound (l : List Int) (b : Int) (h : ∀ x ∈ l, 0 ≤ x ∧ x ≤ b) : 0 ≤ l.sum ∧ l.sum ≤ b * l.length := by
  induction l with
  | nil => simp
  | cons x l ih =>
    have h1 := h x (List.mem_cons_self ..)
    have h2 := ih fun y hy => h y (List.mem_cons_of_mem _ hy)
    simp only [List.sum_cons, List.length_cons]
    have e : ((l.length + 1 : Nat) : Int) = (l.length : Int) + 1 := by omega
    rw [e, Int.mul_add]
    omega
theorem meanOf_bound (l : List Int) (hl : l ≠ []) (h : ∀ x ∈ l, 0 ≤ x ∧ x ≤ 255) : 0 ≤ meanOf l.sum l.length ∧ meanOf l.sum l.length ≤ 255 := by
  have hb := sum_bound l 255 h
  have hn : (0 : Int) < l.length := by
    have := List.length_pos_iff.2 hl
    omega
  unfold meanOf
  refine ⟨Int.ediv_nonneg (by omega) (by omega), ?_⟩
  have : (2 * l.sum + l.length) / (2 * l.length) < 256 := Int.ediv_lt_of_lt_mul (by omega) (by omega)
  omega

/-! ### a better palette -/
/-- Those pixels that go to color j. -/
def cls (ps pal : List Px) (j : Nat) : List Px := ps.filter fun x => (near x pal).1 == j
/-- The sum of one of their four bytes. -/
def part (f : Px → UInt8) (l : List Px) : Int := (l.map fun x => ((f x).toNat : Int)).sum
def meanB (f : Px → UInt8) (l : List Px) : UInt8 := UInt8.ofNat (meanOf (part f l) l.length).toNat
def bcolor (l : List Px) (c : Px) : Px := if l = [] then c else ⟨meanB Px.r l, meanB Px.g l, meanB Px.b l, meanB Px.a l⟩
def better (ps pal : List Px) : List Px := (List.range pal.length).map fun j => bcolor (cls ps pal j) (pal.getD j default)

theorem better_length (ps pal : List Px) : (better ps pal).length = pal.length := by simp [better]
theorem better_getD (ps pal : List Px) (j : Nat) (hj : j < pal.length) : (better ps pal).getD j default = bcolor (cls ps pal j) (pal.getD j default) := by
  simp [better, List.getD_eq_getElem?_getD, List.getElem?_map, List.getElem?_range hj]

theorem part_mean (f : Px → UInt8) (l : List Px) (hl : l ≠ []) (c : UInt8) : (l.map fun x => sq (f x) (meanB f l)).sum ≤ (l.map fun x => sq (f x) c).sum := by
  have hb := meanOf_bound (l.map fun x => ((f x).toNat : Int)) (by simpa using hl) (fun x hx => by
    obtain ⟨y, _, rfl⟩ := List.mem_map.1 hx
    have := (f y).toNat_lt
    omega)
  rw [List.length_map] at hb
  have e : ((meanB f l).toNat : Int) = meanOf (part f l) l.length := by
    unfold meanB part
    rw [UInt8.toNat_ofNat']
    have h1 : ((meanOf (l.map fun x => ((f x).toNat : Int)).sum l.length).toNat : Int) = meanOf (l.map fun x => ((f x).toNat : Int)).sum l.length := Int.toNat_of_nonneg hb.1
    omega
  have h := sum_mean (l.map fun x => ((f x).toNat : Int)) (by simpa using hl) (c.toNat : Int)
  rw [List.map_map, List.map_map, List.length_map] at h
  simp only [sq, e]
  exact h

theorem class_best (l : List Px) (c : Px) : (l.map fun x => far x (bcolor l c)).sum ≤ (l.map fun x => far x c).sum := by
  by_cases hl : l = []
  · subst hl; simp
  · have e : bcolor l c = ⟨meanB Px.r l, meanB Px.g l, meanB Px.b l, meanB Px.a l⟩ := by simp [bcolor, hl]
    rw [e]
    have h1 := part_mean Px.r l hl c.r
    have h2 := part_mean Px.g l hl c.g
    have h3 := part_mean Px.b l hl c.b
    have h4 := part_mean Px.a l hl c.a
    simp only [far, sum_map_add]
    omega

/-- Pixels by classes. -/
theorem sum_classes (ps : List Px) (num : Px → Nat) (G : Px → Nat → Int) (n : Nat) (h : ∀ x ∈ ps, num x < n) :
    (ps.map fun x => G x (num x)).sum = ((List.range n).map fun j => ((ps.filter fun x => num x == j).map fun x => G x j).sum).sum := by
  induction ps with
  | nil =>
    simp only [List.map_nil, List.sum_nil, List.filter_nil]
    induction n with
    | zero => simp
    | succ n ih => rw [List.range_succ, List.map_append, List.sum_append, ← ih (fun x hx => by cases hx)]; simp
  | cons x ps ih =>
    have hx := h x (List.mem_cons_self ..)
    rw [List.map_cons, List.sum_cons, ih fun y hy => h y (List.mem_cons_of_mem _ hy)]
    have key : ∀ j, (((x :: ps).filter fun x => num x == j).map fun x => G x j).sum = (if num x = j then G x j else 0) + ((ps.filter fun x => num x == j).map fun x => G x j).sum := by
      intro j
      by_cases hj : num x = j
      · simp [hj]
      · simp [hj]
    simp only [key, sum_map_add]
    have one : ∀ n, num x < n → ((List.range n).map fun j => if num x = j then G x j else 0).sum = G x (num x) := by
      intro n
      induction n with
      | zero => intro h; omega
      | succ n ihn =>
        intro hlt
        rw [List.range_succ, List.map_append, List.sum_append]
        rcases Nat.lt_or_ge (num x) n with h | h
        · rw [ihn h]
          have : num x ≠ n := by omega
          simp [this]
        · have e : num x = n := by omega
          have z : ∀ m, m ≤ num x → ((List.range m).map fun j => if num x = j then G x j else 0).sum = 0 := by
            intro m
            induction m with
            | zero => simp
            | succ m ihm =>
              intro hm
              rw [List.range_succ, List.map_append, List.sum_append, ihm (by omega)]
              have : num x ≠ m := by omega
              simp [this]
          rw [z n (by omega)]
          simp [e]
    rw [one n hx]

/-- LLOYD: a better palette is never further. -/
theorem farSum_better (ps pal : List Px) (hl : 0 < pal.length) : farSum ps (better ps pal) ≤ farSum ps pal := by
  have hm : 0 < (better ps pal).length := by rw [better_length]; exact hl
  have h1 : farSum ps (better ps pal) ≤ (ps.map fun x => far x ((better ps pal).getD (near x pal).1 default)).sum := by
    refine sum_map_le _ _ _ fun x _ => ?_
    obtain ⟨_, _, h3, _⟩ := near_all x (better ps pal) hm
    exact h3 _ (by rw [better_length]; exact (near_all x pal hl).1)
  have h2 : farSum ps pal = (ps.map fun x => far x (pal.getD (near x pal).1 default)).sum := by
    unfold farSum
    congr 1
    exact List.map_congr_left fun x _ => (near_all x pal hl).2.1
  rw [h2]
  refine Int.le_trans h1 ?_
  rw [sum_classes ps (fun x => (near x pal).1) (fun x j => far x ((better ps pal).getD j default)) pal.length (fun x _ => (near_all x pal hl).1),
    sum_classes ps (fun x => (near x pal).1) (fun x j => far x (pal.getD j default)) pal.length (fun x _ => (near_all x pal hl).1)]
  refine sum_map_le _ _ _ fun j hj => ?_
  rw [better_getD ps pal j (by simpa using hj)]
  exact class_best _ _

end Col
end Go.Proofs.YtlpcmeodbigpjaaDoor
