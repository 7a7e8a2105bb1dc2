/- Unlike pixels: plain. Pictures cut into tiles, and back: plain. Pictures in tiles, painted: what is not touched stays: plain. Painting a picture, place by place; which tiles differ: plain. A picture stamped upon another one, pixel by pixel of the stamp: plain. -/
import Derived.Test.YthohmpjoeffckaaDoorUses
import Derived.Test.YthohmpjoeffckaaDoorPixLaw
namespace Go.Proofs.YthohmpjoeffckaaDoor
namespace Col
/-- Where a pixel stands first (the list's length: nowhere). -/
def placeOf (x : Px) : List Px → Nat
  | [] => 0
  | q :: r => if q = x then 0 else placeOf x r + 1
theorem placeOf_le (x : Px) : ∀ l, placeOf x l ≤ l.length
  | [] => Nat.le_refl _
  | q :: r => by
    have := placeOf_le x r
    rw [placeOf]
    split <;> simp <;> omega
theorem placeOf_ne (x : Px) : ∀ (l : List Px) (t : Nat) (ht : t < l.length), t < placeOf x l → l[t] ≠ x
  | q :: r, t, ht, h => by
    rw [placeOf] at h
    split at h
    · omega
    · rename_i hq
      match t with
      | 0 => exact hq
      | t + 1 => exact placeOf_ne x r t (by simpa using ht) (by omega)
theorem placeOf_at (x : Px) : ∀ (l : List Px) (h : placeOf x l < l.length), l[placeOf x l] = x
  | q :: r, h => by
    by_cases hq : q = x
    · have e : placeOf x (q :: r) = 0 := by rw [placeOf, if_pos hq]
      simp only [e]
      exact hq
    · have e : placeOf x (q :: r) = placeOf x r + 1 := by rw [placeOf, if_neg hq]
      simp only [e, List.getElem_cons_succ]
      exact placeOf_at x r (by rw [e] at h; simpa using h)
theorem placeOf_of (x : Px) (l : List Px) (k : Nat) (hk : k ≤ l.length) (hb : ∀ t (ht : t < k), l[t] ≠ x) (ha : ∀ h : k < l.length, l[k] = x) : placeOf x l = k := by
  rcases Nat.lt_trichotomy (placeOf x l) k with h | h | h
  · exact absurd (placeOf_at x l (by omega)) (hb _ h)
  · exact h
  · have := placeOf_le x l
    exact absurd (ha (by omega)) (placeOf_ne x l k (by omega) h)
theorem placeOf_new (x : Px) (l : List Px) (h : placeOf x l = l.length) : x ∉ l := by
  intro hm
  obtain ⟨t, ht, e⟩ := List.getElem_of_mem hm
  exact placeOf_ne x l t ht (by omega) e

/-- The unlike pixels so far, and each pixel's number. -/
def unlStep (s : List Px × List Int) (x : Px) : List Px × List Int := (if placeOf x s.1 = s.1.length then s.1 ++ [x] else s.1, s.2 ++ [(placeOf x s.1 : Int)])
def unl (ps : List Px) : List Px × List Int := ps.foldl unlStep ([], [])
theorem unl_take (ps : List Px) (k : Nat) (hk : k < ps.length) : unl (ps.take (k + 1)) = unlStep (unl (ps.take k)) ps[k] := by
  rw [List.take_succ_eq_append_getElem hk]
  unfold unl
  rw [List.foldl_append]
  rfl
/-- They are the colors that are counted. -/
theorem unl_uses (ps : List Px) : ∀ k, k ≤ ps.length → (unl (ps.take k)).1 = (uses (ps.take k)).map (·.1)
  | 0, _ => rfl
  | k + 1, h => by
    have ih := unl_uses ps k (by omega)
    rw [unl_take ps k (by omega), uses_take ps k (by omega)]
    generalize unl (ps.take k) = s at *
    generalize uses (ps.take k) = l at *
    generalize ps[k] = x
    unfold unlStep
    simp only
    split
    · rename_i hp
      have hn := placeOf_new x s.1 hp
      rw [ih] at hn
      rw [addUse_new l x hn, ih]
      simp
    · rename_i hp
      have hlt : placeOf x s.1 < s.1.length := by have := placeOf_le x s.1; omega
      have hat := placeOf_at x s.1 hlt
      have hne := placeOf_ne x s.1
      simp only [ih] at hlt hat hne ⊢
      have hj : placeOf x (l.map (·.1)) < l.length := by simpa using hlt
      rw [addUse_old l x _ hj (by simpa using hat) (fun t ht => by have := hne t (by simp; omega) ht; simpa using this)]
      apply List.ext_getElem (by simp)
      intro t h1 h2
      simp only [List.getElem_map, List.getElem_set]
      split
      · rename_i e
        subst e
        simpa using hat
      · rfl
end Col
end Go.Proofs.YthohmpjoeffckaaDoor
namespace Go.Proofs.YthohmpjoeffckaaDoor
namespace Til
open Lay
/-- A part of a picture. -/
structure R where
  x : Nat
  y : Nat
  w : Nat
  h : Nat
instance : Inhabited R := ⟨⟨0, 0, 0, 0⟩⟩
/-- The tile in a column, in a row. -/
def rectAt (W H i j : Nat) : R := ⟨16 * i, 16 * j, min 16 (W - 16 * i), min 16 (H - 16 * j)⟩
/-- How many tiles stand beside each other. -/
def cols (W : Nat) : Nat := (W + 15) / 16
def rowOf (W H j : Nat) : List R := (List.range (cols W)).map fun i => rectAt W H i j
/-- The tiles of a size. -/
def rects (W H : Nat) : List R := (List.range (cols H)).flatMap fun j => rowOf W H j
/-- The first rows of tiles, and the first ones of the next row. -/
def rectsTo (W H k i : Nat) : List R := ((List.range k).flatMap fun j => rowOf W H j) ++ (List.range i).map fun i => rectAt W H i k
theorem cols_lt {W i : Nat} : i < cols W ↔ 16 * i < W := by unfold cols; omega
theorem rectsTo_zero (W H : Nat) : rectsTo W H 0 0 = [] := rfl
theorem rectsTo_succ (W H k i : Nat) : rectsTo W H k (i + 1) = rectsTo W H k i ++ [rectAt W H i k] := by simp [rectsTo, List.range_succ]
theorem rectsTo_full (W H k : Nat) : rectsTo W H k (cols W) = rectsTo W H (k + 1) 0 := by simp [rectsTo, List.range_succ, rowOf]
theorem rectsTo_end (W H : Nat) : rectsTo W H (cols H) 0 = rects W H := by simp [rectsTo, rects]
theorem rectsTo_length (W H k i : Nat) : (rectsTo W H k i).length = k * cols W + i := by
  unfold rectsTo
  rw [List.length_append, List.length_map, List.length_range]
  congr 1
  induction k with
  | zero => simp
  | succ n ih => rw [List.range_succ, List.flatMap_append, List.length_append, ih]; simp [Nat.succ_mul, rowOf]
theorem rects_length (W H : Nat) : (rects W H).length = cols H * cols W := by rw [← rectsTo_end, rectsTo_length]; omega
theorem rects_at (W : Nat) (H0 : Nat) : ∀ (n i j : Nat), i < cols W → j < n → ((List.range n).flatMap fun j => rowOf W H0 j)[j * cols W + i]? = some (rectAt W H0 i j) := by
  have hl : ∀ n, ((List.range n).flatMap fun j => rowOf W H0 j).length = n * cols W := by
    intro n
    induction n with
    | zero => simp
    | succ n ih => rw [List.range_succ, List.flatMap_append, List.length_append, ih]; simp [Nat.succ_mul, rowOf]
  intro n
  induction n with
  | zero => intro i j _ hj; omega
  | succ n ih =>
    intro i j hi hj
    rw [List.range_succ, List.flatMap_append]
    rcases Nat.lt_or_ge j n with h | h
    · have hm : (j + 1) * cols W ≤ n * cols W := Nat.mul_le_mul_right _ h
      rw [Nat.succ_mul] at hm
      rw [List.getElem?_append_left (by rw [hl]; omega), ih i j hi h]
    · have hj' : j = n := by omega
      subst hj'
      rw [List.getElem?_append_right (by rw [hl]; omega), hl]
      have e2 : j * cols W + i - j * cols W = i := by omega
      rw [e2]
      simp [rowOf, hi]
/-- A tile lies in the picture. -/
structure In (W H : Nat) (r : R) : Prop where
  w1 : 1 ≤ r.w
  w16 : r.w ≤ 16
  h1 : 1 ≤ r.h
  h16 : r.h ≤ 16
  xw : r.x + r.w ≤ W
  yh : r.y + r.h ≤ H
theorem rectAt_in {W H i j : Nat} (hi : i < cols W) (hj : j < cols H) : In W H (rectAt W H i j) := by
  have h1 := cols_lt.1 hi
  have h2 := cols_lt.1 hj
  constructor <;> simp only [rectAt] <;> omega
theorem rects_in {W H : Nat} {r : R} (h : r ∈ rects W H) : In W H r := by
  obtain ⟨j, hj, h2⟩ := List.mem_flatMap.1 h
  obtain ⟨i, hi, rfl⟩ := List.mem_map.1 h2
  exact rectAt_in (List.mem_range.1 hi) (List.mem_range.1 hj)

/-- The pixels of a part. -/
def crop (ps : List Px) (W : Nat) (r : R) : List Px := grid (fun x y => ps.getD ((y + r.y) * W + (x + r.x)) default) r.w r.h
theorem crop_length (ps : List Px) (W : Nat) (r : R) : (crop ps W r).length = r.h * r.w := grid_length _ _ _
/-- Are all pixels alike? -/
def flatB (l : List Px) : Bool := l.all fun p => decide (p = l.getD 0 default)
/-- Of one color: just one. -/
def small (l : List Px) : List Px := if flatB l = true then l.take 1 else l
theorem flatB_at {l : List Px} (h : flatB l = true) (i : Nat) (hi : i < l.length) : l.getD i default = l.getD 0 default := by
  unfold flatB at h
  rw [List.all_eq_true] at h
  have := h l[i] (List.getElem_mem hi)
  rw [List.getD_eq_getElem?_getD, List.getElem?_eq_getElem hi]
  simpa using this
/-- A pixel of a tile. -/
def tileAt (l : List Px) (wide x y : Nat) : Px := if l.length = 1 then l.getD 0 default else l.getD (y * wide + x) default
theorem tileAt_small (l : List Px) (wide x y : Nat) (h : y * wide + x < l.length) : tileAt (small l) wide x y = l.getD (y * wide + x) default := by
  unfold small
  split
  · rename_i hf
    have hl : (l.take 1).length = 1 := by rw [List.length_take]; omega
    rw [tileAt, if_pos hl, flatB_at hf _ h]
    match l, h with
    | a :: r, _ => rfl
  · unfold tileAt
    split
    · rename_i h1
      have e : y * wide + x = 0 := by omega
      rw [e]
    · rfl
theorem small_length (l : List Px) (h : 0 < l.length) : (small l).length = 1 ↔ flatB l = true := by
  unfold small
  split
  · rename_i hf
    rw [List.length_take]
    exact ⟨fun _ => hf, fun _ => by omega⟩
  · rename_i hf
    refine ⟨fun h1 => ?_, fun h1 => absurd h1 hf⟩
    match l, h1 with
    | [a], _ => exact absurd (by simp [flatB]) hf
/-- The pixel at a place of a picture in tiles. -/
def pixelOf (ts : List (List Px)) (W H x y : Nat) : Px := tileAt (ts.getD (y / 16 * cols W + x / 16) []) (rectAt W H (x / 16) (y / 16)).w (x % 16) (y % 16)
def tilesOf (ps : List Px) (W H : Nat) : List (List Px) := (rects W H).map fun r => small (crop ps W r)
theorem crop_at (ps : List Px) (W : Nat) (r : R) (x y : Nat) (hx : x < r.w) (hy : y < r.h) : (crop ps W r).getD (y * r.w + x) default = ps.getD ((y + r.y) * W + (x + r.x)) default := by
  rw [List.getD_eq_getElem?_getD, crop, grid_at _ _ _ x y hx hy]
  rfl
theorem rects_get (W H x y : Nat) (hx : x < W) (hy : y < H) : (rects W H)[y / 16 * cols W + x / 16]? = some (rectAt W H (x / 16) (y / 16)) :=
  rects_at W H (cols H) (x / 16) (y / 16) (cols_lt.2 (by omega)) (cols_lt.2 (by omega))
theorem index_lt {w h x y : Nat} (hx : x < w) (hy : y < h) : y * w + x < h * w := by
  have := Nat.mul_le_mul_right w (show y + 1 ≤ h by omega)
  rw [Nat.succ_mul] at this
  omega
/-- What was cut stands where it stood. -/
theorem pixelOf_tiles (ps : List Px) (W H x y : Nat) (hx : x < W) (hy : y < H) : pixelOf (tilesOf ps W H) W H x y = ps.getD (y * W + x) default := by
  have hr := rects_get W H x y hx hy
  have h1 : x % 16 < (rectAt W H (x / 16) (y / 16)).w := by simp only [rectAt]; omega
  have h2 : y % 16 < (rectAt W H (x / 16) (y / 16)).h := by simp only [rectAt]; omega
  unfold pixelOf tilesOf
  rw [List.getD_eq_getElem?_getD, List.getElem?_map, hr]
  simp only [Option.map_some, Option.getD_some]
  rw [tileAt_small _ _ _ _ (by rw [crop_length]; exact index_lt h1 h2), crop_at _ _ _ _ _ h1 h2]
  have e1 : x % 16 + (rectAt W H (x / 16) (y / 16)).x = x := by simp only [rectAt]; omega
  have e2 : y % 16 + (rectAt W H (x / 16) (y / 16)).y = y := by simp only [rectAt]; omega
  rw [e1, e2]
theorem grid_of (ps : List Px) (W H : Nat) (h : ps.length = H * W) : grid (fun x y => ps.getD (y * W + x) default) W H = ps := by
  have := mixTo_end (fun x y => ps.getD (y * W + x) default) ps W H h
  rw [← this]
  have hk : ∀ k, k ≤ H → mixTo (fun x y => ps.getD (y * W + x) default) ps W k 0 = ps := by
    intro k
    induction k with
    | zero => intro _; exact mixTo_start _ _ _
    | succ k ih =>
      intro hkH
      have hj : ∀ j, j ≤ W → mixTo (fun x y => ps.getD (y * W + x) default) ps W k j = ps := by
        intro j
        induction j with
        | zero => intro _; exact ih (by omega)
        | succ j ihj =>
          intro hjW
          rw [← mixTo_keep _ _ _ _ _ (by have := index_lt (show j < W by omega) (show k < H by omega); omega) rfl]
          exact ihj (by omega)
      rw [← mixTo_full]
      exact hj W (Nat.le_refl _)
  exact hk H (Nat.le_refl _)
theorem picture_tiles (ps : List Px) (W H : Nat) (h : ps.length = H * W) : grid (fun x y => pixelOf (tilesOf ps W H) W H x y) W H = ps := by
  rw [grid_congr _ (fun x y => ps.getD (y * W + x) default) W H fun x y hx hy => pixelOf_tiles ps W H x y hx hy]
  exact grid_of ps W H h

/-- How many tiles are of one color. -/
def plain (ts : List (List Px)) : Nat := (ts.filter fun l => decide (l.length = 1)).length
theorem plain_snoc (ts : List (List Px)) (l : List Px) : plain (ts ++ [l]) = plain ts + (if l.length = 1 then 1 else 0) := by
  unfold plain
  rw [List.filter_append, List.length_append]
  congr 1
  by_cases h : l.length = 1 <;> simp [h]
/-- One unlike pixel alone: all are alike. -/
theorem unl_one (l : List Px) (h : 0 < l.length) : (Col.unl l).1.length = 1 ↔ flatB l = true := by
  have key : ∀ k, k ≤ l.length → 0 < k → ((l.take k).all (fun p => decide (p = l.getD 0 default)) = true → (Col.unl (l.take k)).1 = [l.getD 0 default]) ∧
      ((l.take k).all (fun p => decide (p = l.getD 0 default)) = false → 2 ≤ (Col.unl (l.take k)).1.length) ∧ (Col.unl (l.take k)).1[0]? = some (l.getD 0 default) := by
    intro k
    induction k with
    | zero => intro _ h0; omega
    | succ k ih =>
      intro hk _
      rw [Col.unl_take l k (by omega)]
      rcases Nat.eq_zero_or_pos k with h0 | h0
      · subst h0
        match l, h with
        | a :: r, _ => simp [Col.unl, Col.unlStep, Col.placeOf]
      · obtain ⟨i1, i2, i3⟩ := ih (by omega) h0
        have ht : l.take (k + 1) = l.take k ++ [l[k]] := List.take_succ_eq_append_getElem (by omega)
        rw [ht, List.all_append]
        simp only [List.all_cons, List.all_nil, Bool.and_true]
        unfold Col.unlStep
        simp only
        refine ⟨fun ha => ?_, fun ha => ?_, ?_⟩
        · rw [Bool.and_eq_true, decide_eq_true_eq] at ha
          rw [i1 ha.1, ha.2, if_neg (by simp [Col.placeOf])]
        · rw [Bool.and_eq_false_iff, decide_eq_false_iff_not] at ha
          cases hb : (l.take k).all fun p => decide (p = l.getD 0 default) with
          | false =>
            have := i2 hb
            split
            · rw [List.length_append]; omega
            · exact this
          | true =>
            rw [hb] at ha
            have hne : ¬ l[k] = l.getD 0 default := by
              rcases ha with e | e
              · cases e
              · exact e
            rw [i1 hb, if_pos (by simp only [Col.placeOf, List.length_singleton]; rw [if_neg (fun e => hne e.symm)])]
            simp
        · split
          · rw [List.getElem?_append_left (by
              rcases List.getElem?_eq_some_iff.1 i3 with ⟨h, _⟩; exact h)]
            exact i3
          · exact i3
  obtain ⟨k1, k2, _⟩ := key l.length (Nat.le_refl _) h
  rw [List.take_length] at k1 k2
  unfold flatB
  constructor
  · intro h1
    cases hb : l.all fun p => decide (p = l.getD 0 default) with
    | true => rfl
    | false => have := k2 hb; omega
  · intro hb
    rw [k1 hb]
    rfl
/-- How many parts have one unlike pixel. -/
def plainUnl (ps : List Px) (W : Nat) (rs : List R) : Nat := (rs.filter fun r => decide ((Col.unl (crop ps W r)).1.length = 1)).length
theorem plainUnl_snoc (ps : List Px) (W : Nat) (rs : List R) (r : R) : plainUnl ps W (rs ++ [r]) = plainUnl ps W rs + (if (Col.unl (crop ps W r)).1.length = 1 then 1 else 0) := by
  unfold plainUnl
  rw [List.filter_append, List.length_append]
  congr 1
  by_cases h : (Col.unl (crop ps W r)).1.length = 1 <;> simp [h]
theorem plain_eq (ps : List Px) (W H : Nat) : plain (tilesOf ps W H) = plainUnl ps W (rects W H) := by
  unfold plain tilesOf plainUnl
  rw [List.filter_map, List.length_map]
  congr 1
  refine List.filter_congr fun r hr => ?_
  have hin := rects_in hr
  have h0 : 0 < (crop ps W r).length := by
    rw [crop_length]
    exact Nat.mul_pos (by have := hin.h1; omega) (by have := hin.w1; omega)
  simp only [Function.comp]
  rw [decide_eq_decide, small_length _ h0, unl_one _ h0]
end Til
end Go.Proofs.YthohmpjoeffckaaDoor
namespace Go.Proofs.YthohmpjoeffckaaDoor
namespace Til
open Lay
theorem flat_replicate {l : List Px} (h : flatB l = true) : l = List.replicate l.length (l.getD 0 default) := by
  apply List.ext_getElem (by simp)
  intro i h1 h2
  have := flatB_at h i h1
  rw [List.getD_eq_getElem?_getD, List.getElem?_eq_getElem h1] at this
  rw [List.getElem_replicate]
  exact this
theorem take_one {l : List Px} (h : 0 < l.length) : l.take 1 = [l.getD 0 default] := by
  match l, h with
  | a :: r, _ => rfl
/-- What is kept of a tile tells it. -/
theorem small_inj (l m : List Px) (hl : l.length = m.length) (h0 : 0 < l.length) (e : small l = small m) : l = m := by
  have hm0 : 0 < m.length := by omega
  cases hf : flatB l with
  | true =>
    cases hg : flatB m with
    | true =>
      have e1 : small l = l.take 1 := by rw [small, if_pos hf]
      have e2 : small m = m.take 1 := by rw [small, if_pos hg]
      rw [e1, e2, take_one h0, take_one hm0] at e
      injection e with e
      rw [flat_replicate hf, flat_replicate hg, hl, e]
    | false =>
      have h1 := (small_length l h0).2 hf
      rw [e] at h1
      have := (small_length m hm0).1 h1
      rw [hg] at this
      cases this
  | false =>
    cases hg : flatB m with
    | true =>
      have h1 := (small_length m hm0).2 hg
      rw [← e] at h1
      have := (small_length l h0).1 h1
      rw [hf] at this
      cases this
    | false =>
      rw [small, small, if_neg (by rw [hf]; exact Bool.false_ne_true), if_neg (by rw [hg]; exact Bool.false_ne_true)] at e
      exact e
/-- Does a tile touch a part? -/
def touches (t : R) (X Y Wr Hr : Int) : Bool := decide ((t.x : Int) < X + Wr) && decide (X < (t.x : Int) + t.w) && decide ((t.y : Int) < Y + Hr) && decide (Y < (t.y : Int) + t.h)
/-- A tile that a changed part does not touch has the pixels that it had. -/
theorem crop_same (old new : List Px) (W H : Nat) (t : R) (ht : In W H t) (X Y Wr Hr : Int)
    (h : ∀ x y : Nat, x < W → y < H → (X ≤ x ∧ (x : Int) < X + Wr ∧ Y ≤ y ∧ (y : Int) < Y + Hr) ∨ new.getD (y * W + x) default = old.getD (y * W + x) default) (hn : touches t X Y Wr Hr = false) : crop new W t = crop old W t := by
  unfold crop
  refine grid_congr _ _ _ _ fun x y hx hy => ?_
  have h1 := ht.xw
  have h2 := ht.yh
  rcases h (x + t.x) (y + t.y) (by omega) (by omega) with ⟨a, b, c, d⟩ | e
  · exfalso
    have : touches t X Y Wr Hr = true := by
      simp only [touches, Bool.and_eq_true, decide_eq_true_eq]
      omega
    rw [hn] at this
    cases this
  · exact e
/-- The tiles made anew where they are touched, else kept: the tiles of the new picture. -/
theorem changed_tiles (old new : List Px) (W H : Nat) (X Y Wr Hr : Int) (h : ∀ x y : Nat, x < W → y < H → (X ≤ x ∧ (x : Int) < X + Wr ∧ Y ≤ y ∧ (y : Int) < Y + Hr) ∨ new.getD (y * W + x) default = old.getD (y * W + x) default) :
    ((rects W H).map fun t => if touches t X Y Wr Hr = true then small (crop new W t) else small (crop old W t)) = tilesOf new W H := by
  unfold tilesOf
  refine List.map_congr_left fun t ht => ?_
  split
  · rfl
  · rename_i hn
    rw [crop_same old new W H t (rects_in ht) X Y Wr Hr h (by simpa using hn)]
end Til
end Go.Proofs.YthohmpjoeffckaaDoor
namespace Go.Proofs.YthohmpjoeffckaaDoor
namespace Til
open Lay
/-- Does a place lie in a part? -/
def inPart (X Y Wr Hr : Int) (u v : Nat) : Bool := decide (X ≤ (u : Int)) && decide ((u : Int) < X + Wr) && decide (Y ≤ (v : Int)) && decide ((v : Int) < Y + Hr)
/-- A pixel of a picture of which a part is filled. -/
def fillAt (ps : List Px) (W : Nat) (X Y Wr Hr : Int) (c : Px) (u v : Nat) : Px := if inPart X Y Wr Hr u v = true then c else ps.getD (v * W + u) default
theorem grid_getD (f : Nat → Nat → Px) (W H x y : Nat) (hx : x < W) (hy : y < H) : (grid f W H).getD (y * W + x) default = f x y := by
  rw [List.getD_eq_getElem?_getD, grid_at f W H x y hx hy]
  rfl
theorem fill_out (ps : List Px) (W H : Nat) (X Y Wr Hr : Int) (c : Px) : ∀ x y : Nat, x < W → y < H → (X ≤ x ∧ (x : Int) < X + Wr ∧ Y ≤ y ∧ (y : Int) < Y + Hr) ∨ (grid (fillAt ps W X Y Wr Hr c) W H).getD (y * W + x) default = ps.getD (y * W + x) default := by
  intro x y hx hy
  rw [grid_getD _ _ _ _ _ hx hy]
  unfold fillAt
  split
  · rename_i h
    simp only [inPart, Bool.and_eq_true, decide_eq_true_eq] at h
    exact .inl ⟨h.1.1.1, h.1.1.2, h.1.2, h.2⟩
  · exact .inr rfl
theorem stamp_out (ps qs : List Px) (W H : Nat) (Wq Hq X Y m : Int) : ∀ x y : Nat, x < W → y < H → (X ≤ x ∧ (x : Int) < X + Wq ∧ Y ≤ y ∧ (y : Int) < Y + Hq) ∨ (grid (stampAt ps qs W Wq Hq X Y m) W H).getD (y * W + x) default = ps.getD (y * W + x) default := by
  intro x y hx hy
  rw [grid_getD _ _ _ _ _ hx hy]
  unfold stampAt
  split
  · rename_i h
    simp only [inP, Bool.and_eq_true, decide_eq_true_eq] at h
    exact .inl ⟨by omega, by omega, by omega, by omega⟩
  · exact .inr rfl
/-- The tiles in which two pictures differ. -/
def diff (ps qs : List Px) (W : Nat) (rs : List R) : List R := rs.filter fun r => !decide (crop ps W r = crop qs W r)
theorem diff_snoc (ps qs : List Px) (W : Nat) (rs : List R) (r : R) : diff ps qs W (rs ++ [r]) = diff ps qs W rs ++ (if crop ps W r = crop qs W r then [] else [r]) := by
  unfold diff
  rw [List.filter_append]
  congr 1
  by_cases h : crop ps W r = crop qs W r <;> simp [h]
theorem diff_yes {ps qs : List Px} {W : Nat} {rs : List R} {r : R} (h : crop ps W r = crop qs W r) : diff ps qs W (rs ++ [r]) = diff ps qs W rs := by rw [diff_snoc, if_pos h, List.append_nil]
theorem diff_no {ps qs : List Px} {W : Nat} {rs : List R} {r : R} (h : ¬ crop ps W r = crop qs W r) : diff ps qs W (rs ++ [r]) = diff ps qs W rs ++ [r] := by rw [diff_snoc, if_neg h]
theorem diff_length (ps qs : List Px) (W : Nat) (rs : List R) : (diff ps qs W rs).length ≤ rs.length := List.length_filter_le _ _
/-- Tiles as they are kept tell the same as what was cut. -/
theorem small_same {ps qs : List Px} {W H : Nat} {r : R} (hr : In W H r) : small (crop ps W r) = small (crop qs W r) ↔ crop ps W r = crop qs W r := by
  constructor
  · intro h
    exact small_inj _ _ (by rw [crop_length, crop_length]) (by rw [crop_length]; exact Nat.mul_pos (by have := hr.h1; omega) (by have := hr.w1; omega)) h
  · intro h
    rw [h]
end Til
end Go.Proofs.YthohmpjoeffckaaDoor
namespace Go.Proofs.YthohmpjoeffckaaDoor
namespace Lay
theorem grid_set (f g : Nat → Nat → Px) (W H a b : Nat) (v : Px) (ha : a < W) (h : ∀ x y, x < W → y < H → g x y = if x = a ∧ y = b then v else f x y) : (grid f W H).set (b * W + a) v = grid g W H := by
  apply List.ext_getElem?
  intro i
  by_cases hi : i < H * W
  · have hW : 0 < W := by omega
    have e : i = i / W * W + i % W := by have := Nat.div_add_mod i W; rw [Nat.mul_comm] at this; omega
    have hx : i % W < W := Nat.mod_lt _ hW
    have hy : i / W < H := Nat.div_lt_of_lt_mul (by rwa [Nat.mul_comm])
    have e2 : b * W + a = i ↔ (i % W = a ∧ i / W = b) := by
      constructor
      · intro h1
        rw [← h1]
        refine ⟨by rw [Nat.mul_comm, Nat.mul_add_mod, Nat.mod_eq_of_lt ha], ?_⟩
        rw [Nat.mul_comm, Nat.mul_add_div hW, Nat.div_eq_of_lt ha]
        omega
      · rintro ⟨h1, h2⟩
        rw [← h1, ← h2]
        exact e.symm
    rw [List.getElem?_set]
    conv => rhs; rw [e]
    rw [grid_at g W H _ _ hx hy, h _ _ hx hy]
    by_cases h3 : b * W + a = i
    · rw [if_pos h3, if_pos (by rw [grid_length, h3]; exact hi), if_pos (e2.1 h3)]
    · rw [if_neg h3, if_neg (fun h4 => h3 (e2.2 h4))]
      conv => lhs; rw [e]
      rw [grid_at f W H _ _ hx hy]
  · rw [List.getElem?_eq_none (by rw [List.length_set, grid_length]; omega), List.getElem?_eq_none (by rw [grid_length]; omega)]
/-- Is a place of the stamp reached? -/
def reached (x y : Int) (k j : Nat) (u v : Nat) : Bool := decide ((v : Int) - y < k) || (decide ((v : Int) - y = k) && decide ((u : Int) - x < j))
/-- A pixel of a picture upon which another one is stamped, so far. -/
def stampTo (ps qs : List Px) (W : Nat) (Wq Hq x y mode : Int) (k j : Nat) (u v : Nat) : Px :=
  if inP Wq Hq (u - x) (v - y) = true ∧ reached x y k j u v = true then Pix.over mode (qs.getD ((v - y) * Wq + (u - x)).toNat default) (ps.getD (v * W + u) default) else ps.getD (v * W + u) default
theorem stampTo_start (ps qs : List Px) (W H : Nat) (Wq Hq x y mode : Int) (h : ps.length = H * W) : grid (stampTo ps qs W Wq Hq x y mode 0 0) W H = ps := by
  rw [grid_congr _ (fun u v => ps.getD (v * W + u) default) W H fun u v _ _ => ?_]
  · exact Til.grid_of ps W H h
  · rw [stampTo, if_neg]
    rintro ⟨h1, h2⟩
    simp only [inP, reached, Bool.and_eq_true, Bool.or_eq_true, decide_eq_true_eq] at h1 h2
    omega
theorem stampTo_full (ps qs : List Px) (W H : Nat) (Wq : Nat) (Hq x y mode : Int) (k : Nat) : grid (stampTo ps qs W Wq Hq x y mode k Wq) W H = grid (stampTo ps qs W Wq Hq x y mode (k + 1) 0) W H := by
  refine grid_congr _ _ _ _ fun u v _ _ => ?_
  unfold stampTo
  have e : (inP Wq Hq (u - x) (v - y) = true ∧ reached x y k Wq u v = true) ↔ (inP Wq Hq (u - x) (v - y) = true ∧ reached x y (k + 1) 0 u v = true) := by
    simp only [inP, reached, Bool.and_eq_true, Bool.or_eq_true, decide_eq_true_eq]
    omega
  simp only [e]
theorem stampTo_end (ps qs : List Px) (W H : Nat) (Wq : Int) (Hq : Nat) (x y mode : Int) : grid (stampTo ps qs W Wq Hq x y mode Hq 0) W H = grid (stampAt ps qs W Wq Hq x y mode) W H := by
  refine grid_congr _ _ _ _ fun u v _ _ => ?_
  unfold stampTo stampAt
  have e : (inP Wq Hq (u - x) (v - y) = true ∧ reached x y Hq 0 u v = true) ↔ inP Wq Hq (u - x) (v - y) = true := by
    simp only [inP, reached, Bool.and_eq_true, Bool.or_eq_true, decide_eq_true_eq]
    omega
  simp only [e]
/-- The next pixel of the stamp lies in the picture. -/
theorem stampTo_in (ps qs : List Px) (W H Wq Hq : Nat) (x y mode : Int) (k j a b : Nat) (hk : k < Hq) (hj : j < Wq) (ha : (a : Int) = j + x) (hb : (b : Int) = k + y) (haW : a < W) (hbH : b < H) (q p : Px) (hq : qs.getD (k * Wq + j) default = q) (hp : ps.getD (b * W + a) default = p) :
    (grid (stampTo ps qs W Wq Hq x y mode k j) W H).set (b * W + a) (Pix.over mode q p) = grid (stampTo ps qs W Wq Hq x y mode k (j + 1)) W H := by
  refine grid_set _ _ W H a b _ haW fun u v hu hv => ?_
  unfold stampTo
  by_cases h1 : u = a ∧ v = b
  · obtain ⟨rfl, rfl⟩ := h1
    have e1 : (u : Int) - x = j := by omega
    have e2 : (v : Int) - y = k := by omega
    have e3 : ((k : Int) * (Wq : Int) + (j : Int)).toNat = k * Wq + j := by
      rw [← Int.natCast_mul, ← Int.natCast_add, Int.toNat_natCast]
    rw [if_pos (by simp only [inP, reached, Bool.and_eq_true, Bool.or_eq_true, decide_eq_true_eq]; omega), if_pos ⟨rfl, rfl⟩, e1, e2, e3, hq, hp]
  · rw [if_neg h1]
    have e : (inP Wq Hq (u - x) (v - y) = true ∧ reached x y k (j + 1) u v = true) ↔ (inP Wq Hq (u - x) (v - y) = true ∧ reached x y k j u v = true) := by
      simp only [inP, reached, Bool.and_eq_true, Bool.or_eq_true, decide_eq_true_eq]
      omega
    simp only [e]
/-- The next pixel of the stamp lies outside. -/
theorem stampTo_out (ps qs : List Px) (W H Wq Hq : Nat) (x y mode : Int) (k j : Nat) (h : inP W H ((j : Int) + x) ((k : Int) + y) = false) : grid (stampTo ps qs W Wq Hq x y mode k j) W H = grid (stampTo ps qs W Wq Hq x y mode k (j + 1)) W H := by
  refine grid_congr _ _ _ _ fun u v hu hv => ?_
  have h' : ¬ (0 ≤ (j : Int) + x ∧ 0 ≤ (k : Int) + y ∧ (j : Int) + x < W ∧ (k : Int) + y < H) := by
    intro h2
    have : inP W H ((j : Int) + x) ((k : Int) + y) = true := by
      simp only [inP, Bool.and_eq_true, decide_eq_true_eq]
      omega
    rw [h] at this
    cases this
  unfold stampTo
  have e : (inP Wq Hq (u - x) (v - y) = true ∧ reached x y k j u v = true) ↔ (inP Wq Hq (u - x) (v - y) = true ∧ reached x y k (j + 1) u v = true) := by
    simp only [inP, reached, Bool.and_eq_true, Bool.or_eq_true, decide_eq_true_eq]
    omega
  simp only [e]
end Lay
end Go.Proofs.YthohmpjoeffckaaDoor
