/- Rectangles and tiles in memory. -/
import Derived.Test.YthohmpjoeffckaaGreatDoorTileLaw
import Derived.Test.YthohmpjoeffckaaGreatDoorRow
import Derived.Test.YthohmpjoeffckaaGreatDoorMem
import Derived.Test.YthohmpjoeffckaaGreatDoorProg
namespace Go.Proofs.YthohmpjoeffckaaGreatDoor
open Go Go.RowKit

def rcCs (r : Til.R) : List Value := [.int .i64 r.x, .int .i64 r.y, .int .i64 r.w, .int .i64 r.h]
def rcCells (l : List Til.R) : List Value := l.flatMap rcCs
theorem rcCells_length (l : List Til.R) : (rcCells l).length = l.length * 4 := flatCells_length rcCs 4 (fun _ => rfl) l
theorem rcCells_at (l : List Til.R) (k : Nat) (hk : k < l.length) (j : Nat) (hj : j < 4) : (rcCells l)[k * 4 + j]? = (rcCs l[k])[j]? := flatCells_at rcCs 4 (fun _ => rfl) l k hk j hj
theorem rcCells_append (a b : List Til.R) : rcCells (a ++ b) = rcCells a ++ rcCells b := by simp [rcCells]
theorem rcCells_single (r : Til.R) : rcCells [r] = rcCs r := by simp [rcCells]
theorem rcCells_one (l : List Til.R) : ∀ u ∈ rcCells l, u.oneCell' = true := by
  intro u hu
  obtain ⟨r, _, hr⟩ := List.mem_flatMap.1 hu
  simp only [rcCs, List.mem_cons, List.not_mem_nil, or_false] at hr
  rcases hr with rfl | rfl | rfl | rfl <;> rfl
/-- One rectangle's four cells. -/
theorem Reads.rc {w : World} {B n b off : Nat} {l : List Til.R} (h : Reads w B 4 (some ⟨b, off, none⟩) n (rcCells l)) (k : Nat) (hk : k < l.length) :
    w.cell? ⟨b, off + k * 4, none⟩ = some (.int .i64 l[k].x) ∧ w.cell? ⟨b, off + k * 4 + 1, none⟩ = some (.int .i64 l[k].y) ∧ w.cell? ⟨b, off + k * 4 + 2, none⟩ = some (.int .i64 l[k].w) ∧ w.cell? ⟨b, off + k * 4 + 3, none⟩ = some (.int .i64 l[k].h) := by
  have hn : n = l.length := by have := h.1; rw [rcCells_length] at this; omega
  have key : ∀ j, j < 4 → w.cell? ⟨b, off + k * 4 + j, none⟩ = (rcCs l[k])[j]? := fun j hj => by
    rw [Nat.add_assoc, h.cell rfl _ (by omega), rcCells_at l k hk j hj]
  exact ⟨key 0 (by omega), key 1 (by omega), key 2 (by omega), key 3 (by omega)⟩
theorem Reads.rcLen {w : World} {B n : Nat} {A : Option Addr} {l : List Til.R} (h : Reads w B 4 A n (rcCells l)) : n = l.length := by
  have := h.1
  rw [rcCells_length] at this
  omega

/-- A tile and where it lies. -/
structure TM where
  b : Nat
  w : Nat
  h : Nat
  A : Option Addr
  n : Nat
  c : Nat
  l : List Px
def tmPtr (t : TM) : Value := .pointer (some ⟨t.b, 0, none⟩)
def tmCells (ts : List TM) : List Value := ts.map tmPtr
theorem tmCells_length (ts : List TM) : (tmCells ts).length = ts.length := by simp [tmCells]
theorem tmCells_one (ts : List TM) : ∀ u ∈ tmCells ts, u.oneCell' = true := by
  intro u hu
  obtain ⟨t, _, rfl⟩ := List.mem_map.1 hu
  rfl
theorem tmCells_append (a b : List TM) : tmCells (a ++ b) = tmCells a ++ tmCells b := by simp [tmCells]
/-- A tile as it stands in memory. -/
structure TileIn (w : World) (t : TM) : Prop where
  blk : Blk w t.b 63 #[.int .i64 t.w, .int .i64 t.h, .slice t.A t.n t.c]
  px : Reads w w.heap.size 4 t.A t.n (pxCells t.l)
theorem TileIn.step {w w' : World} {t : TM} (h : TileIn w t) (hb : Below w.heap.size w w') : TileIn w' t := ⟨h.blk.below hb h.blk.lt, (h.px.below hb (Nat.le_refl _)).more hb.size⟩
/-- A tile lies above a block. -/
structure Above (B : Nat) (t : TM) : Prop where
  b : B ≤ t.b
  A : ∀ b off, t.A = some ⟨b, off, none⟩ → B ≤ b
theorem Above.mono {B C : Nat} {t : TM} (h : Above B t) (hC : C ≤ B) : Above C t := ⟨Nat.le_trans hC h.b, fun b off e => Nat.le_trans hC (h.A b off e)⟩
/-- A tile lies in no block of a row. -/
structure Off (row : Option Nat) (t : TM) : Prop where
  b : row ≠ some t.b
  A : ∀ b off, t.A = some ⟨b, off, none⟩ → 0 < t.n → row ≠ some b
theorem TileIn.grown {w w' : World} {t : TM} {row : Option Nat} (h : TileIn w t) (hg : w.grownBy w' row) (ho : Off row t) : TileIn w' t :=
  ⟨h.blk.grown hg (fun e => ho.b e.symm), h.px.keepAt hg.size fun b off e hb hn => hg.block b hb (fun e2 => ho.A b off e (by omega) e2.symm)⟩
theorem TileIn.set_ {w : World} {t : TM} (h : TileIn w t) {p : Addr} (ho : Off (some p.block) t) (u : Value) : TileIn (w.setCell p u) t :=
  ⟨h.blk.far (fun e => ho.b (by rw [e])) u, h.px.keepAt (by simp [World.setCell]) fun b off e _ hn => Below.heap_setCell w p u b (fun e2 => ho.A b off e (by omega) (by rw [e2]))⟩
/-- What stands below a block's number is none that was made later. -/
theorem TileIn.off {w : World} {t : TM} (h : TileIn w t) {g : Nat} (hg : w.heap.size ≤ g) : Off (some g) t :=
  ⟨fun e => by have := h.blk.lt; injection e with e; omega, fun b off e hn e2 => by
    injection e2 with e2
    have h0 := h.px
    rw [e] at h0
    obtain ⟨b2, o2, e3, hb, _⟩ := h0.2 (by omega)
    injection e3 with e3
    injection e3 with e3
    omega⟩
theorem Above.off {B g : Nat} {t : TM} (h : Above B t) (hg : g < B) : Off (some g) t :=
  ⟨fun e => by have := h.b; injection e with e; omega, fun b off e _ e2 => by have := h.A b off e; injection e2 with e2; omega⟩
theorem Off.none_ (t : TM) : Off none t := ⟨(fun e => by cases e), (fun _ _ _ _ e => by cases e)⟩
/-- A grid as it stands in memory. -/
structure Gd (w : World) (gb : Nat) (W H : Nat) (ts : List TM) : Prop where
  ex : ∃ A c, Blk w gb 50 #[.int .i64 W, .int .i64 H, .slice A ts.length c] ∧ Reads w w.heap.size 1 A ts.length (tmCells ts)
  ti : ∀ t ∈ ts, TileIn w t
theorem Gd.step {w w' : World} {gb W H : Nat} {ts : List TM} (h : Gd w gb W H ts) (hb : Below w.heap.size w w') : Gd w' gb W H ts := by
  obtain ⟨A, c, h1, h2⟩ := h.ex
  exact ⟨⟨A, c, h1.below hb h1.lt, (h2.below hb (Nat.le_refl _)).more hb.size⟩, fun t ht => (h.ti t ht).step hb⟩
/-- The tiles of a picture. -/
structure TsOf (ps : List Px) (W H : Nat) (ts : List TM) : Prop where
  px : ts.map (·.l) = Til.tilesOf ps W H
  wd : ts.map (·.w) = (Til.rects W H).map (·.w)
theorem TsOf.len {ps : List Px} {W H : Nat} {ts : List TM} (h : TsOf ps W H ts) : ts.length = Til.cols H * Til.cols W := by
  have := congrArg List.length h.wd
  rw [List.length_map, List.length_map, Til.rects_length] at this
  exact this
end Go.Proofs.YthohmpjoeffckaaGreatDoor
