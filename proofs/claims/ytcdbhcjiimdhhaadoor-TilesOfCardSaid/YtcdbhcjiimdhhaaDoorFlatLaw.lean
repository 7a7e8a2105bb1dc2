/- Pictures place by place; a picture stamped upon another one; layers stamped one by one: plain. -/
import Derived.Test.YtcdbhcjiimdhhaaDoorLayDoc
namespace Go.Proofs.YtcdbhcjiimdhhaaDoor
namespace Lay
/-- Pixels, row by row. -/
def grid (f : Nat → Nat → Px) (wide high : Nat) : List Px := (List.range high).flatMap fun y : Nat => (List.range wide).map fun x : Nat => f x y
/-- The first rows, and the first places of the next one. -/
def gridTo (f : Nat → Nat → Px) (wide k j : Nat) : List Px := grid f wide k ++ (List.range j).map fun x : Nat => f x k
theorem grid_length (f : Nat → Nat → Px) (wide high : Nat) : (grid f wide high).length = high * wide := by
  unfold grid
  induction high with
  | zero => simp
  | succ n ih => rw [List.range_succ, List.flatMap_append, List.length_append, ih]; simp [Nat.succ_mul]
theorem gridTo_length (f : Nat → Nat → Px) (wide k j : Nat) : (gridTo f wide k j).length = k * wide + j := by simp [gridTo, grid_length]
theorem gridTo_zero (f : Nat → Nat → Px) (wide k : Nat) : gridTo f wide k 0 = grid f wide k := by simp [gridTo]
theorem gridTo_succ (f : Nat → Nat → Px) (wide k j : Nat) : gridTo f wide k (j + 1) = gridTo f wide k j ++ [f j k] := by simp [gridTo, List.range_succ]
theorem gridTo_full (f : Nat → Nat → Px) (wide k : Nat) : gridTo f wide k wide = grid f wide (k + 1) := by
  unfold gridTo grid
  rw [List.range_succ, List.flatMap_append]
  simp
theorem grid_nil (f : Nat → Nat → Px) (wide : Nat) : grid f wide 0 = [] := rfl
theorem grid_at (f : Nat → Nat → Px) (wide : Nat) : ∀ (high x y : Nat), x < wide → y < high → (grid f wide high)[y * wide + x]? = some (f x y) := by
  intro high
  induction high with
  | zero => intro x y _ hy; omega
  | succ n ih =>
    intro x y hx hy
    rw [← gridTo_full]
    unfold gridTo
    rcases Nat.lt_or_ge y n with h | h
    · have hm : (y + 1) * wide ≤ n * wide := Nat.mul_le_mul_right _ h
      rw [Nat.succ_mul] at hm
      rw [List.getElem?_append_left (by rw [grid_length]; omega), ih x y hx h]
    · have hy' : y = n := by omega
      subst hy'
      rw [List.getElem?_append_right (by rw [grid_length]; omega), grid_length]
      have e2 : y * wide + x - y * wide = x := by omega
      rw [e2]
      simp [hx]
theorem grid_congr (f g : Nat → Nat → Px) (wide high : Nat) (h : ∀ x y : Nat, x < wide → y < high → f x y = g x y) : grid f wide high = grid g wide high := by
  induction high with
  | zero => rfl
  | succ n ih =>
    rw [← gridTo_full, ← gridTo_full, gridTo, gridTo, ih fun x y hx hy => h x y hx (by omega)]
    congr 1
    exact List.map_congr_left fun x hx => h x n (List.mem_range.1 hx) (by omega)
theorem flat_grid (ls : List Layer) (wide high : Nat) : flat ls wide high = grid (fun x y => dot ls (x : Int) (y : Int)) wide high := rfl
/-- What is done in place: the places that were reached are new, the others as they were. -/
def mixTo (f : Nat → Nat → Px) (ps : List Px) (wide k j : Nat) : List Px := gridTo f wide k j ++ ps.drop (k * wide + j)
theorem mixTo_start (f : Nat → Nat → Px) (ps : List Px) (wide : Nat) : mixTo f ps wide 0 0 = ps := by simp [mixTo, gridTo, grid]
theorem mixTo_full (f : Nat → Nat → Px) (ps : List Px) (wide k : Nat) : mixTo f ps wide k wide = mixTo f ps wide (k + 1) 0 := by
  rw [mixTo, mixTo, gridTo_full, gridTo_zero]
  congr 2
  rw [Nat.succ_mul]; omega
theorem mixTo_end (f : Nat → Nat → Px) (ps : List Px) (wide high : Nat) (h : ps.length = high * wide) : mixTo f ps wide high 0 = grid f wide high := by
  rw [mixTo, gridTo_zero, List.drop_eq_nil_of_le (by omega), List.append_nil]
theorem mixTo_length (f : Nat → Nat → Px) (ps : List Px) (wide k j : Nat) (h : k * wide + j ≤ ps.length) : (mixTo f ps wide k j).length = ps.length := by
  rw [mixTo, List.length_append, gridTo_length, List.length_drop]
  omega
theorem mixTo_set (f : Nat → Nat → Px) (ps : List Px) (wide k j : Nat) (h : k * wide + j < ps.length) : (mixTo f ps wide k j).set (k * wide + j) (f j k) = mixTo f ps wide k (j + 1) := by
  rw [mixTo, mixTo, List.set_append_right _ _ (by rw [gridTo_length]; omega), gridTo_length, Nat.sub_self, List.drop_eq_getElem_cons h, List.set_cons_zero, gridTo_succ, List.append_assoc]
  rfl
theorem mixTo_keep (f : Nat → Nat → Px) (ps : List Px) (wide k j : Nat) (h : k * wide + j < ps.length) (e : f j k = ps.getD (k * wide + j) default) : mixTo f ps wide k j = mixTo f ps wide k (j + 1) := by
  rw [← mixTo_set f ps wide k j h, e, mixTo]
  rw [List.set_append_right _ _ (by rw [gridTo_length]; omega), gridTo_length, Nat.sub_self, List.drop_eq_getElem_cons h, List.set_cons_zero, List.getD_eq_getElem?_getD, List.getElem?_eq_getElem h]
  rfl
/-- The place that is next is still as it was. -/
theorem mixTo_here (f : Nat → Nat → Px) (ps : List Px) (wide k j : Nat) : (mixTo f ps wide k j)[k * wide + j]? = ps[k * wide + j]? := by
  rw [mixTo, List.getElem?_append_right (by rw [gridTo_length]; omega), gridTo_length, Nat.sub_self, List.getElem?_drop]
  congr 1

/-- Does a place lie in a picture? -/
def inP (W H x y : Int) : Bool := decide (0 ≤ x) && decide (0 ≤ y) && decide (x < W) && decide (y < H)
/-- A pixel of a picture that is stamped upon another one. -/
def stampAt (ps qs : List Px) (W : Nat) (Wq Hq x y mode : Int) (u v : Nat) : Px :=
  if inP Wq Hq (u - x) (v - y) = true then Pix.over mode (qs.getD ((v - y) * Wq + (u - x)).toNat default) (ps.getD (v * W + u) default) else ps.getD (v * W + u) default
theorem inP_seen (l : Layer) (x y : Int) (h : l.hidden = false) : inP l.wide l.high (x - l.x) (y - l.y) = seen l x y := by
  unfold inP seen
  rw [h]
  rcases decide (0 ≤ x - l.x) with _ | _ <;> rcases decide (0 ≤ y - l.y) with _ | _ <;> rcases decide (x - l.x < l.wide) with _ | _ <;> rcases decide (y - l.y < l.high) with _ | _ <;> rfl
theorem spot_in (l : Layer) (x y : Int) (hn : (l.ps.length : Int) = l.wide * l.high) (h : inP l.wide l.high (x - l.x) (y - l.y) = true) : ((y - l.y) * l.wide + (x - l.x)).toNat < l.ps.length := by
  simp only [inP, Bool.and_eq_true, decide_eq_true_eq] at h
  obtain ⟨⟨⟨h1, h2⟩, h3⟩, h4⟩ := h
  generalize x - l.x = u at *
  generalize y - l.y = v at *
  have a1 : (v + 1) * l.wide ≤ l.high * l.wide := Int.mul_le_mul_of_nonneg_right (by omega) (by omega)
  have a2 : 0 ≤ v * l.wide := Int.mul_nonneg h2 (by omega)
  rw [Int.add_mul, Int.one_mul, Int.mul_comm l.high] at a1
  omega
theorem flat_stamp (a : List Layer) (l : Layer) (W H : Nat) (hh : l.hidden = false) (hn : (l.ps.length : Int) = l.wide * l.high) :
    grid (stampAt (flat a W H) (l.ps.map fun p => Pix.fade p l.opacity) W l.wide l.high l.x l.y l.mode) W H = flat (a ++ [l]) W H := by
  rw [flat_grid (a ++ [l])]
  refine grid_congr _ _ _ _ fun x y hx hy => ?_
  rw [dot_snoc, put, ← inP_seen l _ _ hh]
  have e : (flat a W H).getD (y * W + x) default = dot a (x : Int) (y : Int) := by rw [List.getD_eq_getElem?_getD, flat_at a W H x y hx hy]; rfl
  unfold stampAt
  rw [e]
  split
  · rename_i h
    have hk := spot_in l x y hn h
    rw [spot, List.getD_eq_getElem?_getD, List.getD_eq_getElem?_getD, List.getElem?_map, List.getElem?_eq_getElem hk]
    rfl
  · rfl
/-- The whole of no layers is clear. -/
theorem flat_none (W H : Nat) : flat [] W H = List.replicate (W * H) Pix.nil := by
  apply List.ext_getElem?
  intro i
  by_cases h : i < H * W
  · have hW : 0 < W := by
      rcases Nat.eq_zero_or_pos W with e | e
      · subst e; simp at h
      · exact e
    have hi : i = i / W * W + i % W := by have := Nat.div_add_mod i W; rw [Nat.mul_comm] at this; omega
    rw [List.getElem?_replicate, if_pos (by rw [Nat.mul_comm]; exact h)]
    conv => lhs; rw [hi]
    rw [flat_at [] W H _ _ (Nat.mod_lt _ hW) (Nat.div_lt_of_lt_mul (by rwa [Nat.mul_comm]))]
    rfl
  · rw [List.getElem?_eq_none (by rw [flat_length]; omega), List.getElem?_eq_none (by rw [List.length_replicate, Nat.mul_comm]; omega)]
theorem flat_skip (a : List Layer) (l : Layer) (W H : Nat) (hh : l.hidden = true) : flat (a ++ [l]) W H = flat a W H := by
  have := flat_hidden a [] l hh W H
  simpa using this
end Lay

namespace Pix
/-- As the document says it: a rounded part. -/
def rounded (n d : Int) : Int := if d ≤ 2 * (n - n / d * d) then n / d + 1 else n / d
theorem rounded_eq (n d : Int) (h : 0 < d) : rounded n d = rnd n d := rnd_ref n d h
/-- The colors of two pixels as the document says it. -/
def numRef (m a b s d : Int) : Int := 255 * a * (255 - b) * s + 255 * b * (255 - a) * d + a * b * blend m s d
theorem numRef_eq (m a b s d : Int) : numRef m a b s d = num m a b s d := by unfold numRef num; grind
end Pix
end Go.Proofs.YtcdbhcjiimdhhaaDoor
