/- Pixels over pixels: plain. Layers, one upon the other: plain. A document of layers: names, what is right, the first fault: plain. Pictures place by place; a picture stamped upon another one; layers stamped one by one: plain. -/
import Derived.Test.YthohmpjoeffckaaGreatDoorMem
namespace Go.Proofs.YthohmpjoeffckaaGreatDoor
namespace Pix

/-- A rounded part, halves up. -/
def rnd (n d : Int) : Int := (2 * n + d) / (2 * d)

/-- 255 times what two colors make. -/
def blend (m s d : Int) : Int :=
  if m = 1 then s * d else if m = 2 then 255 * (s + d) - s * d else if m = 3 then 255 * min s d else if m = 4 then 255 * max s d else if m = 5 then 255 * max (s - d) (d - s) else 255 * s

/-- How much two pixels cover, 255 times. -/
def covers (a b : Int) : Int := 255 * a + b * (255 - a)
/-- The top of a color's part. -/
def num (m a b s d : Int) : Int := 255 * (a * (255 - b) * s + b * (255 - a) * d) + a * b * blend m s d
/-- A color of one pixel over another one. -/
def col (m a b s d : Int) : Int := rnd (num m a b s d) (255 * covers a b)
def u8 (n : Int) : UInt8 := UInt8.ofNat n.toNat
def nil : Px := ⟨0, 0, 0, 0⟩
def over (m : Int) (t u : Px) : Px :=
  if covers t.a.toNat u.a.toNat = 0 then nil else
  ⟨u8 (col m t.a.toNat u.a.toNat t.r.toNat u.r.toNat), u8 (col m t.a.toNat u.a.toNat t.g.toNat u.g.toNat), u8 (col m t.a.toNat u.a.toNat t.b.toNat u.b.toNat), u8 (rnd (covers t.a.toNat u.a.toNat) 255)⟩
def fade (p : Px) (o : Int) : Px := if rnd (p.a.toNat * o) 255 = 0 then nil else ⟨p.r, p.g, p.b, u8 (rnd (p.a.toNat * o) 255)⟩

end Pix
end Go.Proofs.YthohmpjoeffckaaGreatDoor
namespace Go.Proofs.YthohmpjoeffckaaGreatDoor
namespace Lay

structure Layer where
  name : ByteArray
  x : Int
  y : Int
  hidden : Bool
  opacity : Int
  mode : Int
  wide : Int
  high : Int
  ps : List Px
instance : Inhabited Layer := ⟨⟨default, 0, 0, false, 0, 0, 0, 0, []⟩⟩

/-- Does a layer show at a place? -/
def seen (l : Layer) (x y : Int) : Bool := !l.hidden && decide (0 ≤ x - l.x) && decide (x - l.x < l.wide) && decide (0 ≤ y - l.y) && decide (y - l.y < l.high)
/-- Its pixel there. -/
def spot (l : Layer) (x y : Int) : Px := l.ps.getD ((y - l.y) * l.wide + (x - l.x)).toNat default
/-- One layer more. -/
def put (x y : Int) (p : Px) (l : Layer) : Px := if seen l x y = true then Pix.over l.mode (Pix.fade (spot l x y) l.opacity) p else p

end Lay
end Go.Proofs.YthohmpjoeffckaaGreatDoor
namespace Go.Proofs.YthohmpjoeffckaaGreatDoor
namespace Lay
def sideP (n : Int) : Bool := decide (1 ≤ n) && decide (n ≤ 256)
def nearP (n : Int) : Bool := decide (-10000 ≤ n) && decide (n ≤ 10000)
def modeP (m : Int) : Bool := decide (0 ≤ m) && decide (m < 6)
def opacP (n : Int) : Bool := decide (0 ≤ n) && decide (n ≤ 255)
def lowB (c : UInt8) : Bool := decide (97 ≤ (c.toNat : Int)) && decide ((c.toNat : Int) ≤ 122)
def isName (s : ByteArray) : Bool := decide (1 ≤ s.size) && decide (s.size ≤ 12) && s.data.toList.all lowB
/-- The number of the first layer of that name, or -1. -/
def find : List Layer → ByteArray → Int
  | [], _ => -1
  | l :: r, s => if l.name = s then 0 else if find r s < 0 then -1 else find r s + 1
def rightL (l : Layer) : Bool := sideP l.wide && sideP l.high && decide ((l.ps.length : Int) = l.wide * l.high)
/-- What is wrong with a layer that stands at a place: 0 nothing. -/
def faultAt (ls : List Layer) (i : Nat) (l : Layer) : Nat :=
  if !isName l.name || decide (find ls l.name < i) then 5
  else if !nearP l.x || !nearP l.y || !opacP l.opacity || !modeP l.mode then 2
  else if !rightL l then 3 else 0
def checkFrom (ls : List Layer) : List Layer → Nat → Nat × Int
  | [], _ => (0, -1)
  | l :: r, i => if faultAt ls i l = 0 then checkFrom ls r (i + 1) else (faultAt ls i l, i)
/-- The first fault of a document: its number, its place. -/
def check (W H : Int) (ls : List Layer) : Nat × Int := if !sideP W || !sideP H || decide (8 < ls.length) then (2, -1) else checkFrom ls ls 0

/-- No layer below k has the name, the k-th has it. -/
theorem find_of : ∀ (ls : List Layer) (s : ByteArray) (k : Nat) (hk : k < ls.length), (∀ j, (hj : j < k) → ls[j].name ≠ s) → ls[k].name = s → find ls s = k
  | [], s, k, hk, _, _ => by simp at hk
  | l :: r, s, 0, hk, _, h => by simp [find, show l.name = s from h]
  | l :: r, s, k + 1, hk, hn, h => by
    have h0 : l.name ≠ s := hn 0 (by omega)
    have ih := find_of r s k (Nat.lt_of_succ_lt_succ hk) (fun j hj => hn (j + 1) (by omega)) h
    rw [find, if_neg h0, ih]
    rw [if_neg (by omega)]
    omega
/-- A name that stands at a place is found there or before it. -/
theorem find_le (ls : List Layer) (k : Nat) (hk : k < ls.length) : 0 ≤ find ls ls[k].name ∧ find ls ls[k].name ≤ k := by
  induction ls generalizing k with
  | nil => simp at hk
  | cons l r ih =>
    rw [find]
    split
    · omega
    · rename_i e
      cases k with
      | zero => exact absurd rfl e
      | succ k =>
        obtain ⟨h1, h2⟩ := ih k (by simpa using hk)
        have hk' : k < r.length := Nat.lt_of_succ_lt_succ hk
        have e2 : (l :: r)[k + 1].name = r[k].name := rfl
        rw [e2]
        rw [if_neg (by omega)]
        omega

theorem checkFrom_good (ls : List Layer) : ∀ (r : List Layer) (i : Nat), (∀ j, (hj : j < r.length) → faultAt ls (i + j) r[j] = 0) → checkFrom ls r i = (0, -1)
  | [], i, _ => rfl
  | l :: r, i, h => by
    have h0 : faultAt ls i l = 0 := h 0 (Nat.succ_pos _)
    rw [checkFrom, if_pos h0]
    refine checkFrom_good ls r (i + 1) fun j hj => ?_
    have := h (j + 1) (Nat.succ_lt_succ hj)
    rw [show i + 1 + j = i + (j + 1) by omega]
    exact this
theorem check_good {W H : Int} {ls : List Layer} (hW : sideP W = true) (hH : sideP H = true) (hn : ls.length ≤ 8) (h : ∀ j, (hj : j < ls.length) → faultAt ls j ls[j] = 0) : check W H ls = (0, -1) := by
  rw [check, hW, hH, if_neg (by simpa using hn)]
  exact checkFrom_good ls ls 0 fun j hj => by simpa using h j hj

/-- A document without a fault. -/
structure Good (W H : Int) (ls : List Layer) : Prop where
  wd : sideP W = true
  hg : sideP H = true
  n : ls.length ≤ 8
  at_ : ∀ j, (hj : j < ls.length) → faultAt ls j ls[j] = 0
theorem Good.check {W H : Int} {ls : List Layer} (h : Good W H ls) : Lay.check W H ls = (0, -1) := check_good h.wd h.hg h.n h.at_

theorem fault_zero {ls : List Layer} {i : Nat} {l : Layer} (h : faultAt ls i l = 0) :
    isName l.name = true ∧ (i : Int) ≤ find ls l.name ∧ nearP l.x = true ∧ nearP l.y = true ∧ opacP l.opacity = true ∧ modeP l.mode = true ∧ rightL l = true := by
  unfold faultAt at h
  split at h
  · simp at h
  · rename_i h1
    split at h
    · simp at h
    · rename_i h2
      split at h
      · simp at h
      · rename_i h3
        simp at h1 h2 h3
        exact ⟨h1.1, by omega, h2.1.1.1, h2.1.1.2, h2.1.2, h2.2, h3⟩
theorem fault_mk {ls : List Layer} {i : Nat} {l : Layer} (h1 : isName l.name = true) (h2 : (i : Int) ≤ find ls l.name) (h3 : nearP l.x = true) (h4 : nearP l.y = true) (h5 : opacP l.opacity = true) (h6 : modeP l.mode = true) (h7 : rightL l = true) : faultAt ls i l = 0 := by
  unfold faultAt
  rw [if_neg (by simp [h1]; omega), if_neg (by simp [h3, h4, h5, h6]), if_neg (by simp [h7])]
/-- In a good document every name is found where it stands. -/
theorem Good.find {W H : Int} {ls : List Layer} (h : Good W H ls) (k : Nat) (hk : k < ls.length) : find ls ls[k].name = k := by
  have h1 := (fault_zero (h.at_ k hk)).2.1
  have h2 := find_le ls k hk
  omega
/-- No two names are the same: told by names alone. -/
theorem Good.ne {W H : Int} {ls : List Layer} (h : Good W H ls) (i j : Nat) (hi : i < ls.length) (hj : j < i) : ls[j].name ≠ ls[i].name := by
  intro e
  have h1 := h.find i hi
  have h2 := h.find j (by omega)
  rw [e, h1] at h2
  omega
theorem good_mk {W H : Int} {ls : List Layer} (hW : sideP W = true) (hH : sideP H = true) (hn : ls.length ≤ 8) (hne : ∀ i j, (hi : i < ls.length) → (hj : j < i) → ls[j].name ≠ ls[i].name)
    (h : ∀ l ∈ ls, isName l.name = true ∧ nearP l.x = true ∧ nearP l.y = true ∧ opacP l.opacity = true ∧ modeP l.mode = true ∧ rightL l = true) : Good W H ls := by
  refine ⟨hW, hH, hn, fun k hk => ?_⟩
  obtain ⟨h1, h3, h4, h5, h6, h7⟩ := h _ (List.getElem_mem hk)
  refine fault_mk h1 ?_ h3 h4 h5 h6 h7
  rw [find_of ls _ k hk (fun j hj => hne k j hk hj) rfl]
  omega
theorem Good.all {W H : Int} {ls : List Layer} (h : Good W H ls) : ∀ l ∈ ls, isName l.name = true ∧ nearP l.x = true ∧ nearP l.y = true ∧ opacP l.opacity = true ∧ modeP l.mode = true ∧ rightL l = true := by
  intro l hl
  obtain ⟨k, hk, rfl⟩ := List.getElem_of_mem hl
  obtain ⟨h1, _, h3⟩ := fault_zero (h.at_ k hk)
  exact ⟨h1, h3⟩
/-- Layers that differ in nothing that is asked: a good document stays good. -/
theorem Good.congr {W H : Int} {ls ms : List Layer} (h : Good W H ls) (hl : ms.length = ls.length) (e : ∀ k, (hk : k < ls.length) → (ms[k]'(by omega)).name = ls[k].name ∧
    (isName (ms[k]'(by omega)).name = true ∧ nearP (ms[k]'(by omega)).x = true ∧ nearP (ms[k]'(by omega)).y = true ∧ opacP (ms[k]'(by omega)).opacity = true ∧ modeP (ms[k]'(by omega)).mode = true ∧ rightL (ms[k]'(by omega)) = true)) : Good W H ms := by
  refine good_mk h.wd h.hg (by rw [hl]; exact h.n) (fun i j hi hj => ?_) (fun l hm => ?_)
  · rw [(e i (by omega)).1, (e j (by omega)).1]
    exact h.ne i j (by omega) hj
  · obtain ⟨k, hk, rfl⟩ := List.getElem_of_mem hm
    exact (e k (by omega)).2
end Lay
end Go.Proofs.YthohmpjoeffckaaGreatDoor
namespace Go.Proofs.YthohmpjoeffckaaGreatDoor
namespace Lay
/-- Pixels, row by row. -/
def grid (f : Nat → Nat → Px) (wide high : Nat) : List Px := (List.range high).flatMap fun y : Nat => (List.range wide).map fun x : Nat => f x y
/-- The first rows, and the first places of the next one. -/
def gridTo (f : Nat → Nat → Px) (wide k j : Nat) : List Px := grid f wide k ++ (List.range j).map fun x : Nat => f x k
theorem grid_length (f : Nat → Nat → Px) (wide high : Nat) : (grid f wide high).length = high * wide := by
  unfold grid
  induction high with
  | zero => simp
  | succ n ih => rw [List.range_succ, List.flatMap_append, List.length_append, ih]; simp [Nat.succ_mul]
theorem gridTo_length (f : Nat → Nat → Px) (wide k j : Nat) : (gridTo f wide k j).length = k * wide + j := by simp [gridTo, grid_length]
theorem gridTo_zero (f : Nat → Nat → Px) (wide k : Nat) : gridTo f wide k 0 = grid f wide k := by simp [gridTo]
theorem gridTo_succ (f : Nat → Nat → Px) (wide k j : Nat) : gridTo f wide k (j + 1) = gridTo f wide k j ++ [f j k] := by simp [gridTo, List.range_succ]
theorem gridTo_full (f : Nat → Nat → Px) (wide k : Nat) : gridTo f wide k wide = grid f wide (k + 1) := by
  unfold gridTo grid
  rw [List.range_succ, List.flatMap_append]
  simp
theorem grid_at (f : Nat → Nat → Px) (wide : Nat) : ∀ (high x y : Nat), x < wide → y < high → (grid f wide high)[y * wide + x]? = some (f x y) := by
  intro high
  induction high with
  | zero => intro x y _ hy; omega
  | succ n ih =>
    intro x y hx hy
    rw [← gridTo_full]
    unfold gridTo
    rcases Nat.lt_or_ge y n with h | h
    · have hm : (y + 1) * wide ≤ n * wide := Nat.mul_le_mul_right _ h
      rw [Nat.succ_mul] at hm
      rw [List.getElem?_append_left (by rw [grid_length]; omega), ih x y hx h]
    · have hy' : y = n := by omega
      subst hy'
      rw [List.getElem?_append_right (by rw [grid_length]; omega), grid_length]
      have e2 : y * wide + x - y * wide = x := by omega
      rw [e2]
      simp [hx]
theorem grid_congr (f g : Nat → Nat → Px) (wide high : Nat) (h : ∀ x y : Nat, x < wide → y < high → f x y = g x y) : grid f wide high = grid g wide high := by
  induction high with
  | zero => rfl
  | succ n ih =>
    rw [← gridTo_full, ← gridTo_full, gridTo, gridTo, ih fun x y hx hy => h x y hx (by omega)]
    congr 1
    exact List.map_congr_left fun x hx => h x n (List.mem_range.1 hx) (by omega)
/-- What is done in place: the places that were reached are new, the others as they were. -/
def mixTo (f : Nat → Nat → Px) (ps : List Px) (wide k j : Nat) : List Px := gridTo f wide k j ++ ps.drop (k * wide + j)
theorem mixTo_start (f : Nat → Nat → Px) (ps : List Px) (wide : Nat) : mixTo f ps wide 0 0 = ps := by simp [mixTo, gridTo, grid]
theorem mixTo_full (f : Nat → Nat → Px) (ps : List Px) (wide k : Nat) : mixTo f ps wide k wide = mixTo f ps wide (k + 1) 0 := by
  rw [mixTo, mixTo, gridTo_full, gridTo_zero]
  congr 2
  rw [Nat.succ_mul]; omega
theorem mixTo_end (f : Nat → Nat → Px) (ps : List Px) (wide high : Nat) (h : ps.length = high * wide) : mixTo f ps wide high 0 = grid f wide high := by
  rw [mixTo, gridTo_zero, List.drop_eq_nil_of_le (by omega), List.append_nil]
theorem mixTo_set (f : Nat → Nat → Px) (ps : List Px) (wide k j : Nat) (h : k * wide + j < ps.length) : (mixTo f ps wide k j).set (k * wide + j) (f j k) = mixTo f ps wide k (j + 1) := by
  rw [mixTo, mixTo, List.set_append_right _ _ (by rw [gridTo_length]; omega), gridTo_length, Nat.sub_self, List.drop_eq_getElem_cons h, List.set_cons_zero, gridTo_succ, List.append_assoc]
  rfl
theorem mixTo_keep (f : Nat → Nat → Px) (ps : List Px) (wide k j : Nat) (h : k * wide + j < ps.length) (e : f j k = ps.getD (k * wide + j) default) : mixTo f ps wide k j = mixTo f ps wide k (j + 1) := by
  rw [← mixTo_set f ps wide k j h, e, mixTo]
  rw [List.set_append_right _ _ (by rw [gridTo_length]; omega), gridTo_length, Nat.sub_self, List.drop_eq_getElem_cons h, List.set_cons_zero, List.getD_eq_getElem?_getD, List.getElem?_eq_getElem h]
  rfl

/-- Does a place lie in a picture? -/
def inP (W H x y : Int) : Bool := decide (0 ≤ x) && decide (0 ≤ y) && decide (x < W) && decide (y < H)
end Lay

namespace Pix
end Pix
end Go.Proofs.YthohmpjoeffckaaGreatDoor
