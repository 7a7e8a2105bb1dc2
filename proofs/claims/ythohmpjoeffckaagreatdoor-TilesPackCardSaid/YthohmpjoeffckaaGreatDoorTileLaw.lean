/- Unlike pixels: plain. Pictures cut into tiles, and back: plain. Pictures in tiles, painted: what is not touched stays: plain. Painting a picture, place by place; which tiles differ: plain. A picture stamped upon another one, pixel by pixel of the stamp: plain. -/
import Derived.Test.YthohmpjoeffckaaGreatDoorUses
import Derived.Test.YthohmpjoeffckaaGreatDoorPixLaw
namespace Go.Proofs.YthohmpjoeffckaaGreatDoor
namespace Col

end Col
end Go.Proofs.YthohmpjoeffckaaGreatDoor
namespace Go.Proofs.YthohmpjoeffckaaGreatDoor
namespace Til
open Lay
/-- A part of a picture. -/
structure R where
  x : Nat
  y : Nat
  w : Nat
  h : Nat
instance : Inhabited R := ⟨⟨0, 0, 0, 0⟩⟩
/-- The tile in a column, in a row. -/
def rectAt (W H i j : Nat) : R := ⟨16 * i, 16 * j, min 16 (W - 16 * i), min 16 (H - 16 * j)⟩
/-- How many tiles stand beside each other. -/
def cols (W : Nat) : Nat := (W + 15) / 16
def rowOf (W H j : Nat) : List R := (List.range (cols W)).map fun i => rectAt W H i j
/-- The tiles of a size. -/
def rects (W H : Nat) : List R := (List.range (cols H)).flatMap fun j => rowOf W H j
/-- The first rows of tiles, and the first ones of the next row. -/
def rectsTo (W H k i : Nat) : List R := ((List.range k).flatMap fun j => rowOf W H j) ++ (List.range i).map fun i => rectAt W H i k
theorem cols_lt {W i : Nat} : i < cols W ↔ 16 * i < W := by unfold cols; omega
theorem rectsTo_succ (W H k i : Nat) : rectsTo W H k (i + 1) = rectsTo W H k i ++ [rectAt W H i k] := by simp [rectsTo, List.range_succ]
theorem rectsTo_full (W H k : Nat) : rectsTo W H k (cols W) = rectsTo W H (k + 1) 0 := by simp [rectsTo, List.range_succ, rowOf]
theorem rectsTo_end (W H : Nat) : rectsTo W H (cols H) 0 = rects W H := by simp [rectsTo, rects]
theorem rectsTo_length (W H k i : Nat) : (rectsTo W H k i).length = k * cols W + i := by
  unfold rectsTo
  rw [List.length_append, List.length_map, List.length_range]
  congr 1
  induction k with
  | zero => simp
  | succ n ih => rw [List.range_succ, List.flatMap_append, List.length_append, ih]; simp [Nat.succ_mul, rowOf]
theorem rects_length (W H : Nat) : (rects W H).length = cols H * cols W := by rw [← rectsTo_end, rectsTo_length]; omega
theorem rects_at (W : Nat) (H0 : Nat) : ∀ (n i j : Nat), i < cols W → j < n → ((List.range n).flatMap fun j => rowOf W H0 j)[j * cols W + i]? = some (rectAt W H0 i j) := by
  have hl : ∀ n, ((List.range n).flatMap fun j => rowOf W H0 j).length = n * cols W := by
    intro n
    induction n with
    | zero => simp
    | succ n ih => rw [List.range_succ, List.flatMap_append, List.length_append, ih]; simp [Nat.succ_mul, rowOf]
  intro n
  induction n with
  | zero => intro i j _ hj; omega
  | succ n ih =>
    intro i j hi hj
    rw [List.range_succ, List.flatMap_append]
    rcases Nat.lt_or_ge j n with h | h
    · have hm : (j + 1) * cols W ≤ n * cols W := Nat.mul_le_mul_right _ h
      rw [Nat.succ_mul] at hm
      rw [List.getElem?_append_left (by rw [hl]; omega), ih i j hi h]
    · have hj' : j = n := by omega
      subst hj'
      rw [List.getElem?_append_right (by rw [hl]; omega), hl]
      have e2 : j * cols W + i - j * cols W = i := by omega
      rw [e2]
      simp [rowOf, hi]
/-- A tile lies in the picture. -/
structure In (W H : Nat) (r : R) : Prop where
  w1 : 1 ≤ r.w
  w16 : r.w ≤ 16
  h1 : 1 ≤ r.h
  h16 : r.h ≤ 16
  xw : r.x + r.w ≤ W
  yh : r.y + r.h ≤ H
theorem rectAt_in {W H i j : Nat} (hi : i < cols W) (hj : j < cols H) : In W H (rectAt W H i j) := by
  have h1 := cols_lt.1 hi
  have h2 := cols_lt.1 hj
  constructor <;> simp only [rectAt] <;> omega
theorem rects_in {W H : Nat} {r : R} (h : r ∈ rects W H) : In W H r := by
  obtain ⟨j, hj, h2⟩ := List.mem_flatMap.1 h
  obtain ⟨i, hi, rfl⟩ := List.mem_map.1 h2
  exact rectAt_in (List.mem_range.1 hi) (List.mem_range.1 hj)

/-- The pixels of a part. -/
def crop (ps : List Px) (W : Nat) (r : R) : List Px := grid (fun x y => ps.getD ((y + r.y) * W + (x + r.x)) default) r.w r.h
theorem crop_length (ps : List Px) (W : Nat) (r : R) : (crop ps W r).length = r.h * r.w := grid_length _ _ _
/-- Are all pixels alike? -/
def flatB (l : List Px) : Bool := l.all fun p => decide (p = l.getD 0 default)
/-- Of one color: just one. -/
def small (l : List Px) : List Px := if flatB l = true then l.take 1 else l
theorem flatB_at {l : List Px} (h : flatB l = true) (i : Nat) (hi : i < l.length) : l.getD i default = l.getD 0 default := by
  unfold flatB at h
  rw [List.all_eq_true] at h
  have := h l[i] (List.getElem_mem hi)
  rw [List.getD_eq_getElem?_getD, List.getElem?_eq_getElem hi]
  simpa using this
/-- A pixel of a tile. -/
def tileAt (l : List Px) (wide x y : Nat) : Px := if l.length = 1 then l.getD 0 default else l.getD (y * wide + x) default
theorem tileAt_small (l : List Px) (wide x y : Nat) (h : y * wide + x < l.length) : tileAt (small l) wide x y = l.getD (y * wide + x) default := by
  unfold small
  split
  · rename_i hf
    have hl : (l.take 1).length = 1 := by rw [List.length_take]; omega
    rw [tileAt, if_pos hl, flatB_at hf _ h]
    match l, h with
    | a :: r, _ => rfl
  · unfold tileAt
    split
    · rename_i h1
      have e : y * wide + x = 0 := by omega
      rw [e]
    · rfl
theorem small_length (l : List Px) (h : 0 < l.length) : (small l).length = 1 ↔ flatB l = true := by
  unfold small
  split
  · rename_i hf
    rw [List.length_take]
    exact ⟨fun _ => hf, fun _ => by omega⟩
  · rename_i hf
    refine ⟨fun h1 => ?_, fun h1 => absurd h1 hf⟩
    match l, h1 with
    | [a], _ => exact absurd (by simp [flatB]) hf
/-- The pixel at a place of a picture in tiles. -/
def pixelOf (ts : List (List Px)) (W H x y : Nat) : Px := tileAt (ts.getD (y / 16 * cols W + x / 16) []) (rectAt W H (x / 16) (y / 16)).w (x % 16) (y % 16)
def tilesOf (ps : List Px) (W H : Nat) : List (List Px) := (rects W H).map fun r => small (crop ps W r)
theorem crop_at (ps : List Px) (W : Nat) (r : R) (x y : Nat) (hx : x < r.w) (hy : y < r.h) : (crop ps W r).getD (y * r.w + x) default = ps.getD ((y + r.y) * W + (x + r.x)) default := by
  rw [List.getD_eq_getElem?_getD, crop, grid_at _ _ _ x y hx hy]
  rfl
theorem rects_get (W H x y : Nat) (hx : x < W) (hy : y < H) : (rects W H)[y / 16 * cols W + x / 16]? = some (rectAt W H (x / 16) (y / 16)) :=
  rects_at W H (cols H) (x / 16) (y / 16) (cols_lt.2 (by omega)) (cols_lt.2 (by omega))
theorem index_lt {w h x y : Nat} (hx : x < w) (hy : y < h) : y * w + x < h * w := by
  have := Nat.mul_le_mul_right w (show y + 1 ≤ h by omega)
  rw [Nat.succ_mul] at this
  omega
/-- What was cut stands where it stood. -/
theorem pixelOf_tiles (ps : List Px) (W H x y : Nat) (hx : x < W) (hy : y < H) : pixelOf (tilesOf ps W H) W H x y = ps.getD (y * W + x) default := by
  have hr := rects_get W H x y hx hy
  have h1 : x % 16 < (rectAt W H (x / 16) (y / 16)).w := by simp only [rectAt]; omega
  have h2 : y % 16 < (rectAt W H (x / 16) (y / 16)).h := by simp only [rectAt]; omega
  unfold pixelOf tilesOf
  rw [List.getD_eq_getElem?_getD, List.getElem?_map, hr]
  simp only [Option.map_some, Option.getD_some]
  rw [tileAt_small _ _ _ _ (by rw [crop_length]; exact index_lt h1 h2), crop_at _ _ _ _ _ h1 h2]
  have e1 : x % 16 + (rectAt W H (x / 16) (y / 16)).x = x := by simp only [rectAt]; omega
  have e2 : y % 16 + (rectAt W H (x / 16) (y / 16)).y = y := by simp only [rectAt]; omega
  rw [e1, e2]
theorem grid_of (ps : List Px) (W H : Nat) (h : ps.length = H * W) : grid (fun x y => ps.getD (y * W + x) default) W H = ps := by
  have := mixTo_end (fun x y => ps.getD (y * W + x) default) ps W H h
  rw [← this]
  have hk : ∀ k, k ≤ H → mixTo (fun x y => ps.getD (y * W + x) default) ps W k 0 = ps := by
    intro k
    induction k with
    | zero => intro _; exact mixTo_start _ _ _
    | succ k ih =>
      intro hkH
      have hj : ∀ j, j ≤ W → mixTo (fun x y => ps.getD (y * W + x) default) ps W k j = ps := by
        intro j
        induction j with
        | zero => intro _; exact ih (by omega)
        | succ j ihj =>
          intro hjW
          rw [← mixTo_keep _ _ _ _ _ (by have := index_lt (show j < W by omega) (show k < H by omega); omega) rfl]
          exact ihj (by omega)
      rw [← mixTo_full]
      exact hj W (Nat.le_refl _)
  exact hk H (Nat.le_refl _)

/-- How many tiles are of one color. -/
def plain (ts : List (List Px)) : Nat := (ts.filter fun l => decide (l.length = 1)).length
theorem plain_snoc (ts : List (List Px)) (l : List Px) : plain (ts ++ [l]) = plain ts + (if l.length = 1 then 1 else 0) := by
  unfold plain
  rw [List.filter_append, List.length_append]
  congr 1
  by_cases h : l.length = 1 <;> simp [h]
end Til
end Go.Proofs.YthohmpjoeffckaaGreatDoor
namespace Go.Proofs.YthohmpjoeffckaaGreatDoor
namespace Til
open Lay
/-- Does a tile touch a part? -/
def touches (t : R) (X Y Wr Hr : Int) : Bool := decide ((t.x : Int) < X + Wr) && decide (X < (t.x : Int) + t.w) && decide ((t.y : Int) < Y + Hr) && decide (Y < (t.y : Int) + t.h)
/-- A tile that a changed part does not touch has the pixels that it had. -/
theorem crop_same (old new : List Px) (W H : Nat) (t : R) (ht : In W H t) (X Y Wr Hr : Int)
    (h : ∀ x y : Nat, x < W → y < H → (X ≤ x ∧ (x : Int) < X + Wr ∧ Y ≤ y ∧ (y : Int) < Y + Hr) ∨ new.getD (y * W + x) default = old.getD (y * W + x) default) (hn : touches t X Y Wr Hr = false) : crop new W t = crop old W t := by
  unfold crop
  refine grid_congr _ _ _ _ fun x y hx hy => ?_
  have h1 := ht.xw
  have h2 := ht.yh
  rcases h (x + t.x) (y + t.y) (by omega) (by omega) with ⟨a, b, c, d⟩ | e
  · exfalso
    have : touches t X Y Wr Hr = true := by
      simp only [touches, Bool.and_eq_true, decide_eq_true_eq]
      omega
    rw [hn] at this
    cases this
  · exact e
/-- The tiles made anew where they are touched, else kept: the tiles of the new picture. -/
theorem changed_tiles (old new : List Px) (W H : Nat) (X Y Wr Hr : Int) (h : ∀ x y : Nat, x < W → y < H → (X ≤ x ∧ (x : Int) < X + Wr ∧ Y ≤ y ∧ (y : Int) < Y + Hr) ∨ new.getD (y * W + x) default = old.getD (y * W + x) default) :
    ((rects W H).map fun t => if touches t X Y Wr Hr = true then small (crop new W t) else small (crop old W t)) = tilesOf new W H := by
  unfold tilesOf
  refine List.map_congr_left fun t ht => ?_
  split
  · rfl
  · rename_i hn
    rw [crop_same old new W H t (rects_in ht) X Y Wr Hr h (by simpa using hn)]
end Til
end Go.Proofs.YthohmpjoeffckaaGreatDoor
namespace Go.Proofs.YthohmpjoeffckaaGreatDoor
namespace Til
open Lay
end Til
end Go.Proofs.YthohmpjoeffckaaGreatDoor
namespace Go.Proofs.YthohmpjoeffckaaGreatDoor
namespace Lay
end Lay
end Go.Proofs.YthohmpjoeffckaaGreatDoor
