/- Paintings, grids and pictures beside each other in memory. An argument that is a list of paintings. -/
import Derived.Test.YtcdbhcjiimdhhaaDoorGridChg
import Derived.Test.YtcdbhcjiimdhhaaDoorMem
namespace Go.Proofs.YtcdbhcjiimdhhaaDoor
open Go Go.RowKit

/-- A painting as it stands in memory. -/
structure PaintM where
  st : Bool
  x : Int
  y : Int
  w : Int
  h : Int
  c : Px
  wide : Int
  high : Int
  A : Option Addr
  n : Nat
  cap : Nat
  qs : List Px
  mode : Int
instance : Inhabited PaintM := ⟨⟨false, 0, 0, 0, 0, default, 0, 0, none, 0, 0, [], 0⟩⟩
def paintCs (m : PaintM) : List Value := [.bool m.st, .int .i64 m.x, .int .i64 m.y, .int .i64 m.w, .int .i64 m.h, .int .u8 m.c.r.toNat, .int .u8 m.c.g.toNat, .int .u8 m.c.b.toNat, .int .u8 m.c.a.toNat, .int .i64 m.wide, .int .i64 m.high, .slice m.A m.n m.cap, .int .i64 m.mode]
def paintCells (l : List PaintM) : List Value := l.flatMap paintCs
theorem paintCells_length (l : List PaintM) : (paintCells l).length = l.length * 13 := flatCells_length paintCs 13 (fun _ => rfl) l
theorem Reads.paint {w : World} {B n b off : Nat} {l : List PaintM} (h : Reads w B 13 (some ⟨b, off, none⟩) n (paintCells l)) (k : Nat) (hk : k < l.length) (j : Nat) (hj : j < 13) : w.cell? ⟨b, off + k * 13 + j, none⟩ = (paintCs l[k])[j]? := by
  have hn : n = l.length := by have := h.1; rw [paintCells_length] at this; omega
  rw [Nat.add_assoc, h.cell rfl _ (by omega)]
  exact flatCells_at paintCs 13 (fun _ => rfl) l k hk j hj

/-- A grid and its picture: where they lie. -/
structure GM where
  gb : Nat
  A : Option Addr
  c : Nat
  ts : List TM
  ps : List Px
  pA : Option Addr
  pc : Nat
instance : Inhabited GM := ⟨⟨0, none, 0, [], [], none, 0⟩⟩
def gmPtr (m : GM) : Value := .pointer (some ⟨m.gb, 0, none⟩)
def gmCells (l : List GM) : List Value := l.map gmPtr
theorem gmCells_length (l : List GM) : (gmCells l).length = l.length := by simp [gmCells]
theorem gmCells_one (l : List GM) : ∀ u ∈ gmCells l, u.oneCell' = true := by
  intro u hu
  obtain ⟨t, _, rfl⟩ := List.mem_map.1 hu
  rfl
theorem gmCells_snoc (l : List GM) (m : GM) : gmCells l ++ [gmPtr m] = gmCells (l ++ [m]) := by simp [gmCells]
theorem gmCells_at (l : List GM) (k : Nat) (hk : k < l.length) : (gmCells l)[k]? = some (gmPtr l[k]) := by simp [gmCells, hk]
def gpCs (W H : Nat) (m : GM) : List Value := [.int .i64 W, .int .i64 H, .slice m.pA (H * W) m.pc]
def gpCells (W H : Nat) (l : List GM) : List Value := l.flatMap (gpCs W H)
theorem gpCells_length (W H : Nat) (l : List GM) : (gpCells W H l).length = l.length * 3 := flatCells_length (gpCs W H) 3 (fun _ => rfl) l
theorem gpCells_one (W H : Nat) (l : List GM) : ∀ u ∈ gpCells W H l, u.oneCell' = true := by
  intro u hu
  obtain ⟨r, _, hr⟩ := List.mem_flatMap.1 hu
  simp only [gpCs, List.mem_cons, List.not_mem_nil, or_false] at hr
  rcases hr with rfl | rfl | rfl <;> rfl
theorem gpCells_snoc (W H : Nat) (l : List GM) (m : GM) : gpCells W H l ++ gpCs W H m = gpCells W H (l ++ [m]) := by simp [gpCells]
theorem gpCells_at (W H : Nat) (l : List GM) (k : Nat) (hk : k < l.length) (j : Nat) (hj : j < 3) : (gpCells W H l)[k * 3 + j]? = (gpCs W H l[k])[j]? := flatCells_at (gpCs W H) 3 (fun _ => rfl) l k hk j hj
/-- They stand in memory. -/
structure GIn (w : World) (W H : Nat) (m : GM) : Prop where
  blk : Blk w m.gb 66 #[.int .i64 W, .int .i64 H, .slice m.A m.ts.length m.c]
  rd : Reads w w.heap.size 1 m.A m.ts.length (tmCells m.ts)
  ti : ∀ t ∈ m.ts, TileIn w t
  px : Reads w w.heap.size 4 m.pA (H * W) (pxCells m.ps)
/-- And say the same. -/
structure GSays (W H : Nat) (m : GM) : Prop where
  of : TsOf m.ps W H m.ts
  pl : m.ps.length = H * W
/-- They lie in no block of a row. -/
structure GOff (row : Option Nat) (m : GM) : Prop where
  g : row ≠ some m.gb
  a : ∀ b off, m.A = some ⟨b, off, none⟩ → 0 < m.ts.length → row ≠ some b
  t : ∀ t ∈ m.ts, Off row t
  p : ∀ b off, m.pA = some ⟨b, off, none⟩ → 0 < m.ps.length → row ≠ some b
section
variable {w w' : World} {W H : Nat} {m : GM} {row : Option Nat}
theorem GIn.gd (h : GIn w W H m) : Gd w m.gb W H m.ts := ⟨⟨m.A, m.c, h.blk, h.rd⟩, h.ti⟩
theorem GIn.step (h : GIn w W H m) (hb : Below w.heap.size w w') : GIn w' W H m :=
  ⟨h.blk.below hb h.blk.lt, (h.rd.below hb (Nat.le_refl _)).more hb.size, fun t ht => (h.ti t ht).step hb, (h.px.below hb (Nat.le_refl _)).more hb.size⟩
theorem GIn.grown (h : GIn w W H m) (hg : w.grownBy w' row) (ho : GOff row m) : GIn w' W H m := by
  refine ⟨h.blk.grown hg (fun e => ho.g e.symm), ?_, fun t ht => (h.ti t ht).grown hg (ho.t t ht), ?_⟩
  · exact h.rd.keepAt hg.size fun b off e hb hn => hg.block b hb (fun e2 => ho.a b off e (by omega) e2.symm)
  · exact h.px.keepAt hg.size fun b off e hb hn => hg.block b hb (fun e2 => ho.p b off e (by have := h.px.1; rw [pxCells_length] at this; rw [← this] at hn; omega) e2.symm)
theorem GIn.off (h : GIn w W H m) {g : Nat} (hg : w.heap.size ≤ g) : GOff (some g) m := by
  refine ⟨fun e => by have := h.blk.lt; injection e with e; omega, fun b off e hn e2 => ?_, fun t ht => (h.ti t ht).off hg, fun b off e hn e2 => ?_⟩
  · injection e2 with e2
    obtain ⟨b2, o2, e3, hb, _⟩ := h.rd.2 (by omega)
    rw [e] at e3
    injection e3 with e3
    injection e3 with e3
    omega
  · injection e2 with e2
    have h1 := h.px.1
    rw [pxCells_length] at h1
    obtain ⟨b2, o2, e3, hb, _⟩ := h.px.2 (by rw [← h1]; omega)
    rw [e] at e3
    injection e3 with e3
    injection e3 with e3
    omega
theorem GOff.none_ (m : GM) : GOff none m := ⟨(fun e => by cases e), (fun _ _ _ _ e => by cases e), fun t _ => Off.none_ t, (fun _ _ _ _ e => by cases e)⟩
/-- A grid made out of another one's tiles lies in no row in which the other one does not lie. -/
theorem GOff.of_new {B W H : Nat} {ts ts' : List TM} {gG : Nat} {A : Option Addr} {c : Nat} {ps : List Px} {pA : Option Addr} {pc : Nat} (h : GdNew B w ts gG W H A c ts') (hr : ∀ g, row = some g → g < B) (ht : ∀ t ∈ ts, Off row t) (hp : ∀ b off, pA = some ⟨b, off, none⟩ → B ≤ b) : GOff row ⟨gG, A, c, ts', ps, pA, pc⟩ := by
  refine ⟨fun e => by have h1 : gG < B := hr _ e; have := h.g; omega, fun b off e _ e2 => by have := hr _ e2; have := h.a b off e; omega, fun t htt => ?_, fun b off e _ e2 => by have := hr _ e2; have := hp b off e; omega⟩
  rcases h.mem t htt with h1 | h1
  · exact ht t h1
  · cases row with
    | none => exact Off.none_ t
    | some g => exact h1.off (hr g rfl)
end

/-- What stands through the loop over paintings. -/
structure PaR (W H : Nat) (A : Option Addr) (n c : Nat) (w : World) (v8 v9 : Value) (ms : List GM) (wr : World) : Prop where
  b2 : Blk wr w.heap.size 24 #[.int .i64 W, .int .i64 H, .slice A n c]
  own8 : Own wr (w.heap.size + 1) 1 v8 ms.length (gmCells ms)
  own9 : Own wr (w.heap.size + 1) 3 v9 ms.length (gpCells W H ms)
  n89 : ∀ g, v8.ownBlock = some g → v9.ownBlock ≠ some g
  gi : ∀ m ∈ ms, GIn wr W H m
  gs : ∀ m ∈ ms, GSays W H m
  off8 : ∀ m ∈ ms, GOff v8.ownBlock m
  off9 : ∀ m ∈ ms, GOff v9.ownBlock m
  bel : Below w.heap.size w wr
section
variable {W H : Nat} {A : Option Addr} {n c : Nat} {w wr w' : World} {v8 v9 v' : Value} {ms : List GM}
theorem PaR.step (h : PaR W H A n c w v8 v9 ms wr) (hb : Below wr.heap.size wr w') : PaR W H A n c w v8 v9 ms w' :=
  ⟨h.b2.below hb h.b2.lt, h.own8.below hb (Nat.le_refl _), h.own9.below hb (Nat.le_refl _), h.n89, fun m hm => (h.gi m hm).step hb, h.gs, h.off8, h.off9, h.bel.trans (hb.mono h.bel.size)⟩
/-- One grid more, not yet its picture. -/
structure PaG (W H : Nat) (A : Option Addr) (n c : Nat) (w : World) (v8 v9 : Value) (ms : List GM) (gb : Nat) (wr : World) : Prop where
  b2 : Blk wr w.heap.size 24 #[.int .i64 W, .int .i64 H, .slice A n c]
  own8 : Own wr (w.heap.size + 1) 1 v8 (ms.length + 1) (gmCells ms ++ [.pointer (some ⟨gb, 0, none⟩)])
  own9 : Own wr (w.heap.size + 1) 3 v9 ms.length (gpCells W H ms)
  n89 : ∀ g, v8.ownBlock = some g → v9.ownBlock ≠ some g
  gi : ∀ m ∈ ms, GIn wr W H m
  gs : ∀ m ∈ ms, GSays W H m
  off8 : ∀ m ∈ ms, GOff v8.ownBlock m
  off9 : ∀ m ∈ ms, GOff v9.ownBlock m
  bel : Below w.heap.size w wr
theorem PaR.push8 {gb : Nat} (h : PaR W H A n c w v8 v9 ms wr) (ho : Own w' (w.heap.size + 1) 1 v' (ms.length + 1) (gmCells ms ++ [.pointer (some ⟨gb, 0, none⟩)])) (hg : wr.grownBy w' v8.ownBlock) (hat : v'.ownBlock = v8.ownBlock ∨ v'.ownBlock = some wr.heap.size) :
    PaG W H A n c w v' v9 ms gb w' := by
  refine ⟨h.b2.grown hg (fun e => by have := (h.own8.lt _ e.symm).1; omega), ho, h.own9.kept hg ?_, fun g e => ?_, fun m hm => (h.gi m hm).grown hg (h.off8 m hm), h.gs, fun m hm => ?_, h.off9, h.bel.grown hg h.bel.size (fun g e => by have := (h.own8.lt g e).1; omega)⟩
  · cases hv : v9.ownBlock with
    | none => exact .inl rfl
    | some g => exact .inr fun e => h.n89 g e.symm hv
  · rcases hat with e2 | e2
    · rw [e2] at e
      exact h.n89 g e
    · rw [e2] at e
      injection e with e
      intro e3
      have := (h.own9.lt g e3).2
      omega
  · rcases hat with e2 | e2
    · rw [e2]; exact h.off8 m hm
    · rw [e2]; exact (h.gi m hm).off (Nat.le_refl _)
theorem PaG.step {gb : Nat} (h : PaG W H A n c w v8 v9 ms gb wr) (hb : Below wr.heap.size wr w') : PaG W H A n c w v8 v9 ms gb w' :=
  ⟨h.b2.below hb h.b2.lt, h.own8.below hb (Nat.le_refl _), h.own9.below hb (Nat.le_refl _), h.n89, fun m hm => (h.gi m hm).step hb, h.gs, h.off8, h.off9, h.bel.trans (hb.mono h.bel.size)⟩
theorem PaG.push9 {m : GM} {cs : List Value} (h : PaG W H A n c w v8 v9 ms m.gb wr) (hm : GIn wr W H m) (hs : GSays W H m) (ho8 : GOff v8.ownBlock m) (ho9 : GOff v9.ownBlock m) (hcs : gpCs W H m = cs)
    (ho : Own w' (w.heap.size + 1) 3 v' (ms.length + 1) (gpCells W H ms ++ cs)) (hg : wr.grownBy w' v9.ownBlock) (hat : v'.ownBlock = v9.ownBlock ∨ v'.ownBlock = some wr.heap.size) :
    PaR W H A n c w v8 v' (ms ++ [m]) w' := by
  have hall : ∀ x ∈ ms ++ [m], GIn wr W H x ∧ GSays W H x ∧ GOff v8.ownBlock x ∧ GOff v9.ownBlock x := by
    intro x hx
    rcases List.mem_append.1 hx with hx | hx
    · exact ⟨h.gi x hx, h.gs x hx, h.off8 x hx, h.off9 x hx⟩
    · rw [List.mem_singleton.1 hx]
      exact ⟨hm, hs, ho8, ho9⟩
  have hlen : (ms ++ [m]).length = ms.length + 1 := by simp
  refine ⟨h.b2.grown hg (fun e => by have := (h.own9.lt _ e.symm).1; omega), ?_, ?_, fun g e => ?_, fun x hx => (hall x hx).1.grown hg (hall x hx).2.2.2, fun x hx => (hall x hx).2.1, fun x hx => (hall x hx).2.2.1, fun x hx => ?_, h.bel.grown hg h.bel.size (fun g e => by have := (h.own9.lt g e).1; omega)⟩
  · rw [hlen, ← gmCells_snoc]
    refine h.own8.kept hg ?_
    cases hv : v8.ownBlock with
    | none => exact .inl rfl
    | some g => exact .inr fun e => h.n89 g hv e.symm
  · rw [hlen, ← gpCells_snoc, hcs]
    exact ho
  · rcases hat with e2 | e2
    · rw [e2]
      exact h.n89 g e
    · rw [e2]
      intro e3
      injection e3 with e3
      have := (h.own8.lt g e).2
      omega
  · rcases hat with e2 | e2
    · rw [e2]; exact (hall x hx).2.2.2
    · rw [e2]; exact (hall x hx).1.off (Nat.le_refl _)
/-- The grid's part of it. -/
structure GgOff (row : Option Nat) (gG : Nat) (A : Option Addr) (ts : List TM) : Prop where
  g : row ≠ some gG
  a : ∀ b off, A = some ⟨b, off, none⟩ → 0 < ts.length → row ≠ some b
  t : ∀ t ∈ ts, Off row t
theorem GdNew.off_old {B : Nat} {w : World} {ts : List TM} {gG : Nat} {A : Option Addr} {c : Nat} {ts' : List TM} {row : Option Nat} (h : GdNew B w ts gG W H A c ts') (hr : ∀ g, row = some g → g < B) (ht : ∀ t ∈ ts, Off row t) : GgOff row gG A ts' := by
  refine ⟨fun e => by have := hr _ e; have := h.g; omega, fun b off e _ e2 => by have := hr _ e2; have := h.a b off e; omega, fun t htt => ?_⟩
  rcases h.mem t htt with h1 | h1
  · exact ht t h1
  · cases row with
    | none => exact Off.none_ t
    | some g => exact h1.off (hr g rfl)
theorem GdNew.off_new {B : Nat} {w : World} {ts : List TM} {gG : Nat} {A : Option Addr} {c : Nat} {ts' : List TM} {g : Nat} (h : GdNew B w ts gG W H A c ts') (hg : w.heap.size ≤ g) : GgOff (some g) gG A ts' := by
  refine ⟨fun e => by have := h.blk.lt; injection e with e; omega, fun b off e hn e2 => ?_, fun t htt => (h.ti t htt).off hg⟩
  injection e2 with e2
  obtain ⟨b2, o2, e3, hb, _⟩ := h.rd.2 (by omega)
  rw [e] at e3
  injection e3 with e3
  injection e3 with e3
  omega
theorem GdNew.grown {B : Nat} {w w' : World} {ts : List TM} {gG : Nat} {A : Option Addr} {c : Nat} {ts' : List TM} {row : Option Nat} (h : GdNew B w ts gG W H A c ts') (hg : w.grownBy w' row) (ho : GgOff row gG A ts') : GdNew B w' ts gG W H A c ts' :=
  ⟨h.g, h.blk.grown hg (fun e => ho.g e.symm), h.rd.keepAt hg.size fun b off e hb hn => hg.block b hb (fun e2 => ho.a b off e (by omega) e2.symm), h.a, fun t ht => (h.ti t ht).grown hg (ho.t t ht), h.mem⟩
/-- Behind the first append: a grid more. -/
structure PaH (W H : Nat) (A : Option Addr) (n c : Nat) (w : World) (v8 v9 : Value) (ms : List GM) (B gG : Nat) (A9 : Option Addr) (c9 : Nat) (ts0 ts' : List TM) (wr : World) : Prop where
  pa : PaG W H A n c w v8 v9 ms gG wr
  nw : GdNew B wr ts0 gG W H A9 c9 ts'
  o8 : GgOff v8.ownBlock gG A9 ts'
  o9 : GgOff v9.ownBlock gG A9 ts'
theorem PaH.step {B gG : Nat} {A9 : Option Addr} {c9 : Nat} {ts0 ts' : List TM} (h : PaH W H A n c w v8 v9 ms B gG A9 c9 ts0 ts' wr) (hb : Below wr.heap.size wr w') : PaH W H A n c w v8 v9 ms B gG A9 c9 ts0 ts' w' := ⟨h.pa.step hb, h.nw.step hb, h.o8, h.o9⟩
theorem PaR.addGrid {B gG : Nat} {A9 : Option Addr} {c9 : Nat} {ts0 ts' : List TM} {o : Obj} (h : PaR W H A n c w v8 v9 ms wr) (hN : GdNew B wr ts0 gG W H A9 c9 ts') (h8 : ∀ g, v8.ownBlock = some g → g < B) (h9 : ∀ g, v9.ownBlock = some g → g < B) (t8 : ∀ t ∈ ts0, Off v8.ownBlock t) (t9 : ∀ t ∈ ts0, Off v9.ownBlock t)
    (ho : Own w' (w.heap.size + 1) 1 v' (ms.length + 1) (gmCells ms ++ [.pointer (some ⟨gG, 0, none⟩)])) (hg : (wr.alloc o).grownBy w' v8.ownBlock) (hat : v'.ownBlock = v8.ownBlock ∨ v'.ownBlock = some (wr.alloc o).heap.size) :
    PaH W H A n c w v' v9 ms B gG A9 c9 ts0 ts' w' := by
  have hb := Below.alloc (Below.refl wr.heap.size wr) (Nat.le_refl _) o
  have h1 := h.step hb
  have hN1 := hN.step hb
  refine ⟨h1.push8 ho hg hat, hN1.grown hg (hN1.off_old h8 t8), ?_, hN1.off_old h9 t9⟩
  rcases hat with e | e
  · rw [e]; exact hN1.off_old h8 t8
  · rw [e]; exact hN1.off_new (Nat.le_refl _)
/-- Behind the second one: its picture, too. -/
theorem PaH.addPic {B gG : Nat} {A9 : Option Addr} {c9 : Nat} {ts0 ts' : List TM} {ps : List Px} {pA : Option Addr} {pc S : Nat} {cs : List Value} {o : Obj} (h : PaH W H A n c w v8 v9 ms B gG A9 c9 ts0 ts' wr) (hof : TsOf ps W H ts') (hpl : ps.length = H * W)
    (hpx : Reads wr wr.heap.size 4 pA (H * W) (pxCells ps)) (hpA : ∀ b off, pA = some ⟨b, off, none⟩ → S ≤ b) (h8 : ∀ g, v8.ownBlock = some g → g < S) (h9 : ∀ g, v9.ownBlock = some g → g < S) (hcs : gpCs W H ⟨gG, A9, c9, ts', ps, pA, pc⟩ = cs)
    (ho : Own w' (w.heap.size + 1) 3 v' (ms.length + 1) (gpCells W H ms ++ cs)) (hg : (wr.alloc o).grownBy w' v9.ownBlock) (hat : v'.ownBlock = v9.ownBlock ∨ v'.ownBlock = some (wr.alloc o).heap.size) :
    PaR W H A n c w v8 v' (ms ++ [⟨gG, A9, c9, ts', ps, pA, pc⟩]) w' := by
  have h1 := h.step (Below.alloc (Below.refl wr.heap.size wr) (Nat.le_refl _) o)
  have hpx1 := (hpx.alloc (Nat.le_refl _) o).more (show wr.heap.size ≤ (wr.alloc o).heap.size by simp)
  refine h1.pa.push9 ⟨h1.nw.blk, h1.nw.rd, h1.nw.ti, hpx1⟩ ⟨hof, hpl⟩ ⟨h1.o8.g, h1.o8.a, h1.o8.t, fun b off e _ e2 => ?_⟩ ⟨h1.o9.g, h1.o9.a, h1.o9.t, fun b off e _ e2 => ?_⟩ hcs ho hg hat
  · have := h8 _ e2
    have := hpA b off e
    omega
  · have := h9 _ e2
    have := hpA b off e
    omega
theorem PaR.blk8 (h : PaR W H A n c w v8 v9 ms wr) : ∀ g, v8.ownBlock = some g → w.heap.size + 1 ≤ g ∧ g < wr.heap.size := h.own8.lt
end
/-- A block that is known whole, as a slice of one's own. -/
theorem Own.of_blk {w : World} {g : Nat} {t : TypeId} {cs : List Value} {base size n : Nat} (h : Blk w g t cs.toArray) (hl : cs.length = n * size) (hb : base ≤ g) (hm : n ≤ maxLen) : Own w base size (.slice (some ⟨g, 0, none⟩) n n) n cs := by
  refine ⟨hl, .inr ⟨g, 0, n, rfl, hb, h.lt, Nat.le_refl _, hm, fun j _ => ?_, fun j hj => ⟨?_, h.free _⟩⟩⟩
  · rw [Nat.zero_add, h.cell]; simp
  · rw [Nat.zero_add, h.cell]
    simp
    omega
end Go.Proofs.YtcdbhcjiimdhhaaDoor
namespace Go.Proofs.YtcdbhcjiimdhhaaDoor
open Go Go.RowKit Go.ChangeShapes Go.WideShapes Go.Deep Go.Joins

namespace pga
theorem pxT : PxT Tryd.prog 41 := ⟨⟨_, _, _, _, Tryd.underlying41, by kernel_rfl, Tryd.underlying5, Tryd.underlying5, Tryd.underlying5, Tryd.underlying5⟩, by kernel_rfl⟩
theorem picT : PicT Tryd.prog 24 41 := ⟨⟨_, _, _, Tryd.underlying24, by kernel_rfl, Tryd.underlying3, Tryd.underlying3, Tryd.underlying22⟩, by kernel_rfl, pxT⟩
theorem rcRow : ∃ f0 f1 f2 f3, Tryd.prog.underlying 49 = some (.struct #[f0, f1, f2, f3]) ∧ oneCellFields Tryd.prog #[f0, f1, f2, f3] = true ∧ Tryd.prog.underlying f0.type = some (.int .i64) ∧ Tryd.prog.underlying f1.type = some (.int .i64) ∧
    Tryd.prog.underlying f2.type = some (.int .i64) ∧ Tryd.prog.underlying f3.type = some (.int .i64) :=
  ⟨_, _, _, _, Tryd.underlying49, by kernel_rfl, Tryd.underlying3, Tryd.underlying3, Tryd.underlying3, Tryd.underlying3⟩
theorem rcCellsN : Tryd.prog.cellsOf 49 = 4 := by kernel_rfl
theorem paintRow : ∃ f0 f1 f2 f3 f4, Tryd.prog.underlying 51 = some (.struct #[f0, f1, f2, f3, f4]) ∧
    (f0.offset = 0 ∧ Tryd.prog.cellsOf f0.type = 1 ∧ Tryd.prog.underlying f0.type = some .bool) ∧ (f1.offset = 1 ∧ f1.type = 49) ∧ (f2.offset = 5 ∧ f2.type = 41) ∧ (f3.offset = 9 ∧ f3.type = 24) ∧
    f4.offset = 12 ∧ Tryd.prog.cellsOf f4.type = 1 ∧ Tryd.prog.underlying f4.type = some (.int .i64) :=
  ⟨_, _, _, _, _, Tryd.underlying51, ⟨by kernel_rfl, by kernel_rfl, Tryd.underlying4⟩, ⟨by kernel_rfl, by kernel_rfl⟩, ⟨by kernel_rfl, by kernel_rfl⟩, ⟨by kernel_rfl, by kernel_rfl⟩, by kernel_rfl, by kernel_rfl, Tryd.underlying3⟩
theorem paintCellsN : Tryd.prog.cellsOf 51 = 13 := by kernel_rfl
end pga

section
variable {H : Type} {enc : TypeId × Value → H} {w : World} {base : Nat} {spare : Nat → Bool} {held : Bool}
/-- Three cells that are a picture. -/
theorem pga_pic {fuel : Nat} {c0 c1 c2 : Value} {x : DataW H × List MemPlace} (ht : DataW.trod enc Tryd.prog w base spare held fuel 24 [c0, c1, c2] = some x) :
    ∃ (W H' : Int) (A : Option Addr) (len cap : Nat) (l : List Px), c0 = .int .i64 W ∧ c1 = .int .i64 H' ∧ c2 = .slice A len cap ∧ Reads w w.heap.size 4 A len (pxCells l) := by
  obtain ⟨f0, f1, f2, hs, hone, t0, t1, t2⟩ := pga.picT.row
  obtain ⟨y0, y1, y2, n, _, _, h0, h1, h2⟩ := trod_struct3 hs ht
  obtain ⟨o0, k0⟩ := hone_of hone 0 f0 rfl
  obtain ⟨o1, k1⟩ := hone_of hone 1 f1 rfl
  obtain ⟨o2, k2⟩ := hone_of hone 2 f2 rfl
  rw [o0, k0] at h0
  rw [o1, k1] at h1
  rw [o2, k2] at h2
  obtain ⟨n0, e0, _, _⟩ := DataW.trod_int t0 h0
  obtain ⟨n1, e1, _, _⟩ := DataW.trod_int t1 h1
  obtain ⟨A, len, cap, l, e2, hr⟩ := pxs_field pga.pxT t2 (c := c2) (by simpa using h2)
  simp at e0 e1
  exact ⟨n0, n1, A, len, cap, l, e0, e1, e2, hr⟩
/-- Four cells that are a rectangle. -/
theorem pga_rc {fuel : Nat} {c0 c1 c2 c3 : Value} {x : DataW H × List MemPlace} (ht : DataW.trod enc Tryd.prog w base spare held fuel 49 [c0, c1, c2, c3] = some x) :
    ∃ a b c d : Int, c0 = .int .i64 a ∧ c1 = .int .i64 b ∧ c2 = .int .i64 c ∧ c3 = .int .i64 d := by
  obtain ⟨f0, f1, f2, f3, hs, hone, t0, t1, t2, t3⟩ := pga.rcRow
  obtain ⟨y0, y1, y2, y3, n, _, _, h0, h1, h2, h3⟩ := trod_struct4 hs ht
  obtain ⟨o0, k0⟩ := hone_of hone 0 f0 rfl
  obtain ⟨o1, k1⟩ := hone_of hone 1 f1 rfl
  obtain ⟨o2, k2⟩ := hone_of hone 2 f2 rfl
  obtain ⟨o3, k3⟩ := hone_of hone 3 f3 rfl
  rw [o0, k0] at h0
  rw [o1, k1] at h1
  rw [o2, k2] at h2
  rw [o3, k3] at h3
  obtain ⟨n0, e0, _, _⟩ := DataW.trod_int t0 h0
  obtain ⟨n1, e1, _, _⟩ := DataW.trod_int t1 h1
  obtain ⟨n2, e2, _, _⟩ := DataW.trod_int t2 h2
  obtain ⟨n3, e3, _, _⟩ := DataW.trod_int t3 h3
  simp at e0 e1 e2 e3
  exact ⟨n0, n1, n2, n3, e0, e1, e2, e3⟩
set_option maxRecDepth 100000 in
theorem paint_cells {fuel : Nat} {cs : List Value} {x : DataW H × List MemPlace} (ht : DataW.trod enc Tryd.prog w base spare held fuel 51 cs = some x) : ∃ m : PaintM, cs = paintCs m ∧ Reads w w.heap.size 4 m.A m.n (pxCells m.qs) := by
  obtain ⟨f0, f1, f2, f3, f4, hs, ⟨o0, k0, t0⟩, ⟨o1, t1⟩, ⟨o2, t2⟩, ⟨o3, t3⟩, o4, k4, t4⟩ := pga.paintRow
  obtain ⟨xs, n, _, _, hl, hlen, hf⟩ := DataW.trod_struct hs ht
  rw [pga.paintCellsN] at hl
  match cs, hl with
  | [c0, c1, c2, c3, c4, c5, c6, c7, c8, c9, c10, c11, c12], _ =>
    match xs, hlen with
    | [y0, y1, y2, y3, y4], _ =>
      have h0 := hf 0 f0 rfl
      have h1 := hf 1 f1 rfl
      have h2 := hf 2 f2 rfl
      have h3 := hf 3 f3 rfl
      have h4 := hf 4 f4 rfl
      rw [o0, k0] at h0
      rw [o1, t1, pga.rcCellsN] at h1
      rw [o2, t2, pga.pxT.cells] at h2
      rw [o3, t3, pga.picT.cells] at h3
      rw [o4, k4] at h4
      obtain ⟨b0, e0, _⟩ := DataW.trod_bool t0 h0
      obtain ⟨a, b, c, d, e1, e2, e3, e4⟩ := pga_rc h1
      obtain ⟨p, e5⟩ := px_cells pga.pxT h2
      obtain ⟨W, H', A, len, cap, l, e9, e10, e11, hr⟩ := pga_pic h3
      obtain ⟨n4, e12, _, _⟩ := DataW.trod_int t4 h4
      simp at e0 e12
      simp [pxCs] at e5
      obtain ⟨e5, e6, e7, e8⟩ := e5
      subst e0; subst e1; subst e2; subst e3; subst e4; subst e5; subst e6; subst e7; subst e8; subst e9; subst e10; subst e11; subst e12
      exact ⟨⟨b0, a, b, c, d, p, W, H', A, len, cap, l, n4⟩, rfl, hr⟩
set_option maxRecDepth 100000 in
/-- The list: its paintings. -/
theorem paints_arg {r : Reach} {b0 : Nat} {v : Value} {d : DataW H} {p : List MemPlace} (hv : Value.okWide Tryd.prog w r b0 45 v) (ht : DataW.Trod enc Tryd.prog w base spare held 45 v d p) :
    ∃ (A : Option Addr) (n c : Nat) (l : List PaintM), v = .slice A n c ∧ Reads w w.heap.size 13 A n (paintCells l) ∧ ∀ m ∈ l, Reads w w.heap.size 4 m.A m.n (pxCells m.qs) := by
  obtain ⟨A, len, cap, rfl⟩ := okWide_slice Tryd.underlying45 hv
  obtain ⟨fuel, hf⟩ := ht
  obtain ⟨A', len', cap', l, e, hr, _, hq⟩ := slice_field (κ := PaintM) Tryd.underlying45 13 paintCs (fun _ => rfl) (by decide) pga.paintCellsN (fun m => Reads w w.heap.size 4 m.A m.n (pxCells m.qs)) (fun _ _ _ h => paint_cells h) (c := .slice A len cap) (by simpa [Value.cells] using hf)
  injection e with e1 e2 e3
  subst e1; subst e2; subst e3
  exact ⟨A, len, cap, l, rfl, hr, hq⟩
end
end Go.Proofs.YtcdbhcjiimdhhaaDoor
