/- A tile's pixel, a grid's pixel: the walks. -/
import Derived.Test.YtcdbhcjiimdhhaaDoorGridOf
namespace Go.Proofs.YtcdbhcjiimdhhaaDoor
open Go Go.RowKit

set_option maxRecDepth 100000 in
set_option maxHeartbeats 1000000 in
theorem tat_one (t : TM) (x y : Nat) (q : Px) (w : World) (ht : TileIn w t) (h1 : t.l.length = 1) (hq : t.l.getD 0 default = q) :
    Calls Tryd.prog 48 #[.pointer (some ⟨t.b, 0, none⟩), .int .i64 x, .int .i64 y] w fun e w' => e = .returned (.agg #[.int .u8 q.r.toNat, .int .u8 q.g.toNat, .int .u8 q.b.toNat, .int .u8 q.a.toNat]) ∧ Below w.heap.size w w' := by
  have hn : t.n = 1 := by rw [ht.px.pxLen, h1]
  obtain ⟨tb, tw, th, tA, tn, tc, tl⟩ := t
  simp only at hn h1 hq ⊢
  subst hn
  obtain ⟨b, off, hA, hb⟩ := ht.px.addr (by simp)
  simp only at hA
  subst hA
  have hp := ht.px
  have c0 := (ht.blk.alloc (.cells #[.int .u8 0, .int .u8 0, .int .u8 0, .int .u8 0] 41)).cell
  simp only at hp c0
  obtain ⟨y0, y1, y2, y3⟩ := (hp.alloc (Nat.le_refl _) (.cells #[.int .u8 0, .int .u8 0, .int .u8 0, .int .u8 0] 41)).px 0 (by omega)
  rw [show tl[0] = q by rw [← hq, List.getD_eq_getElem?_getD, List.getElem?_eq_getElem (by omega)]; rfl, Nat.zero_mul, Nat.add_zero] at y0 y1 y2 y3
  have lb := ht.blk.lt
  simp only at lb
  clear hq h1 hp ht
  go_enter Tryd.func48, Tryd.ntmps48
  go_wp2_with fail
  refine bodyPost_ret (v := .agg #[.int .u8 q.r.toNat, .int .u8 q.g.toNat, .int .u8 q.b.toNat, .int .u8 q.a.toNat]) (by simp [results, Tryd.results48, go_sem]) rfl ⟨rfl, by go_grown⟩

set_option maxRecDepth 100000 in
set_option maxHeartbeats 2000000 in
theorem tat_many (t : TM) (x y i : Nat) (q : Px) (w : World) (ht : TileIn w t) (h1 : ¬ t.l.length = 1) (hi : y * t.w + x = i) (hq : t.l[i]? = some q) (hb1 : t.l.length ≤ 1048576) :
    Calls Tryd.prog 48 #[.pointer (some ⟨t.b, 0, none⟩), .int .i64 x, .int .i64 y] w fun e w' => e = .returned (.agg #[.int .u8 q.r.toNat, .int .u8 q.g.toNat, .int .u8 q.b.toNat, .int .u8 q.a.toNat]) ∧ Below w.heap.size w w' := by
  obtain ⟨hil, hqe⟩ := List.getElem?_eq_some_iff.1 hq
  have hn := ht.px.pxLen
  obtain ⟨tb, tw, th, tA, tn, tc, tl⟩ := t
  simp only at hn h1 hq hi hil hqe hb1 ⊢
  obtain ⟨b, off, hA, hb⟩ := ht.px.addr (by simp only; omega)
  simp only at hA
  subst hA
  have hp := ht.px
  have c0 := (ht.blk.alloc (.cells #[.int .u8 0, .int .u8 0, .int .u8 0, .int .u8 0] 41)).cell
  simp only at hp c0
  obtain ⟨y0, y1, y2, y3⟩ := (hp.alloc (Nat.le_refl _) (.cells #[.int .u8 0, .int .u8 0, .int .u8 0, .int .u8 0] 41)).px i hil
  rw [hqe] at y0 y1 y2 y3
  have lb := ht.blk.lt
  obtain ⟨z, hz⟩ : ∃ z, y * tw = z := ⟨_, rfl⟩
  rw [hz] at hi
  have hz' : (y : Int) * (tw : Int) = (z : Int) := by rw [← hz, Int.natCast_mul]
  have hw1 : IntKind.i64.wrap ((y : Int) * (tw : Int)) = (z : Int) := by rw [hz']; exact IntWalk.i64_in _ (by omega)
  have hp4 : (z : Int) + (x : Int) = (i : Int) := by rw [← hi, Int.natCast_add]
  have hw2 : IntKind.i64.wrap ((z : Int) + (x : Int)) = (i : Int) := by rw [hp4]; exact IntWalk.i64_in _ (by omega)
  have hw3 : IntKind.i64.wrap (z : Int) = (z : Int) := IntWalk.i64_in _ (by omega)
  have hw4 : IntKind.i64.wrap (i : Int) = (i : Int) := IntWalk.i64_in _ (by omega)
  have i0 : (0 : Int) ≤ (i : Int) := by omega
  have i1 : (i : Int) < (tn : Int) := by omega
  have n1 : ¬ (tn : Int) = 1 := by omega
  simp only at lb
  clear hqe hq hz hi hp ht h1 hn
  go_enter Tryd.func48, Tryd.ntmps48
  go_wp2_with fail
  go_region
  all_goals
    go_wp2_with fail
    refine bodyPost_ret (v := .agg #[.int .u8 q.r.toNat, .int .u8 q.g.toNat, .int .u8 q.b.toNat, .int .u8 q.a.toNat]) (by simp [results, Tryd.results48, go_sem]) rfl ⟨rfl, by first | go_grown | go_show⟩

theorem tmCells_at (ts : List TM) (k : Nat) (hk : k < ts.length) : (tmCells ts)[k]? = some (tmPtr ts[k]) := by simp [tmCells, hk]
/-- A tile's pixel, however many pixels it keeps. -/
theorem tat_any (t : TM) (x y : Nat) (q : Px) (w : World) (ht : TileIn w t) (hq : Til.tileAt t.l t.w x y = q) (hi : t.l.length = 1 ∨ y * t.w + x < t.l.length) (hb1 : t.l.length ≤ 1048576) :
    Calls Tryd.prog 48 #[.pointer (some ⟨t.b, 0, none⟩), .int .i64 x, .int .i64 y] w fun e w' => e = .returned (.agg #[.int .u8 q.r.toNat, .int .u8 q.g.toNat, .int .u8 q.b.toNat, .int .u8 q.a.toNat]) ∧ Below w.heap.size w w' := by
  unfold Til.tileAt at hq
  by_cases h1 : t.l.length = 1
  · rw [if_pos h1] at hq
    exact tat_one t x y q w ht h1 hq
  · rw [if_neg h1] at hq
    have h2 : y * t.w + x < t.l.length := by
      rcases hi with h | h
      · exact absurd h h1
      · exact h
    refine tat_many t x y _ q w ht h1 rfl ?_ hb1
    rw [List.getD_eq_getElem?_getD, List.getElem?_eq_getElem h2] at hq
    rw [List.getElem?_eq_getElem h2]
    exact congrArg some hq

set_option maxRecDepth 100000 in
set_option maxHeartbeats 2000000 in
theorem gpixel_any (gb W H : Nat) (ts : List TM) (ps : List Px) (x y : Nat) (q : Px) (w : World) (hg : Gd w gb W H ts) (ht : TsOf ps W H ts) (hW : 1 ≤ W ∧ W ≤ 256) (hH : 1 ≤ H ∧ H ≤ 256) (hx : x < W) (hy : y < H) (hq : ps.getD (y * W + x) default = q) :
    Calls Tryd.prog 33 #[.pointer (some ⟨gb, 0, none⟩), .int .i64 x, .int .i64 y] w fun e w' => e = .returned (.agg #[.int .u8 q.r.toNat, .int .u8 q.g.toNat, .int .u8 q.b.toNat, .int .u8 q.a.toNat]) ∧ Below w.heap.size w w' := by
  obtain ⟨hW1, hW2⟩ := hW
  obtain ⟨hH1, hH2⟩ := hH
  have hrg := Til.rects_get W H x y hx hy
  obtain ⟨r, hr⟩ : ∃ r, Til.rectAt W H (x / 16) (y / 16) = r := ⟨_, rfl⟩
  have hpix := Til.pixelOf_tiles ps W H x y hx hy
  obtain ⟨k, hk⟩ : ∃ k, y / 16 * Til.cols W + x / 16 = k := ⟨_, rfl⟩
  rw [hk, hr] at hrg
  obtain ⟨hkl, hkr⟩ := List.getElem?_eq_some_iff.1 hrg
  have hkt : k < ts.length := by rw [ht.len, ← Til.rects_length]; exact hkl
  have htl : ts[k].l = Til.small (Til.crop ps W r) := by
    have h1 := congrArg (fun l => l[k]?) ht.px
    simp only [List.getElem?_map, Til.tilesOf, hrg, List.getElem?_eq_getElem hkt, Option.map_some] at h1
    exact Option.some.inj h1
  have htw : ts[k].w = r.w := by
    have h1 := congrArg (fun l => l[k]?) ht.wd
    simp only [List.getElem?_map, hrg, List.getElem?_eq_getElem hkt, Option.map_some] at h1
    exact Option.some.inj h1
  have hin := Til.rects_in (List.mem_of_getElem? hrg)
  have hxr : x % 16 < r.w := by rw [← hr]; simp only [Til.rectAt]; omega
  have hyr : y % 16 < r.h := by rw [← hr]; simp only [Til.rectAt]; omega
  have hcl := Til.crop_length ps W r
  have hil := Til.index_lt hxr hyr
  have hta : Til.tileAt ts[k].l ts[k].w (x % 16) (y % 16) = q := by
    rw [htl, htw, ← hq, ← hpix, Til.pixelOf, hr, hk]
    have h1 : (Til.tilesOf ps W H).getD k [] = Til.small (Til.crop ps W r) := by
      rw [List.getD_eq_getElem?_getD, Til.tilesOf, List.getElem?_map, hrg]
      rfl
    rw [h1]
  have hsl : ts[k].l.length = 1 ∨ y % 16 * ts[k].w + x % 16 < ts[k].l.length := by
    rw [htl, htw]
    unfold Til.small
    split
    · left
      rw [List.length_take]
      omega
    · right
      rw [hcl]
      exact hil
  have hsz : ts[k].l.length ≤ 1048576 := by
    have h16 := Nat.mul_le_mul hin.h16 hin.w16
    rw [htl]
    unfold Til.small
    split
    · rw [List.length_take]; omega
    · rw [hcl]; omega
  obtain ⟨A, c, hbG, hrd⟩ := hg.ex
  obtain ⟨b, off, rfl, hb⟩ := hrd.addr (by omega)
  have hz0 := (hrd.alloc (Nat.le_refl _) (.cells #[.int .u8 0, .int .u8 0, .int .u8 0, .int .u8 0] 41)).cell rfl k (by omega)
  rw [tmCells_at ts k hkt] at hz0
  have hti := hg.ti ts[k] (List.getElem_mem hkt)
  obtain ⟨t, hte⟩ : ∃ t, ts[k] = t := ⟨_, rfl⟩
  rw [hte] at hz0 hti hta hsl hsz
  unfold tmPtr at hz0
  have cG := (hbG.alloc (.cells #[.int .u8 0, .int .u8 0, .int .u8 0, .int .u8 0] 41)).cell
  have lG := hbG.lt
  have HTA := Lib.hid hta
  have HSL := Lib.hid hsl
  have HSZ := Lib.hid hsz
  have HTI := Lib.hid (hti.step (Below.alloc (Below.refl _ _) (Nat.le_refl _) (.cells #[.int .u8 0, .int .u8 0, .int .u8 0, .int .u8 0] 41)))
  obtain ⟨N, hN⟩ : ∃ N, ts.length = N := ⟨_, rfl⟩
  rw [hN] at hkt cG
  obtain ⟨cw, hcw⟩ : ∃ cw, Til.cols W = cw := ⟨_, rfl⟩
  rw [hcw] at hk
  have e1 : ((W : Int) + 16 - 1) / 16 = (cw : Int) := by rw [← hcw]; unfold Til.cols; omega
  have hcw16 : cw ≤ 16 := by rw [← hcw]; unfold Til.cols; omega
  obtain ⟨jy, hjy⟩ : ∃ jy, y / 16 = jy := ⟨_, rfl⟩
  obtain ⟨ix, hix⟩ : ∃ ix, x / 16 = ix := ⟨_, rfl⟩
  rw [hjy, hix] at hk
  have e2 : (y : Int) / 16 = (jy : Int) := by rw [← hjy]; omega
  have e3 : (x : Int) / 16 = (ix : Int) := by rw [← hix]; omega
  obtain ⟨rx, hrx⟩ : ∃ rx, x % 16 = rx := ⟨_, rfl⟩
  obtain ⟨ry, hry⟩ : ∃ ry, y % 16 = ry := ⟨_, rfl⟩
  rw [hrx, hry] at HTA HSL
  have e4 : (x : Int) % 16 = (rx : Int) := by rw [← hrx]; omega
  have e5 : (y : Int) % 16 = (ry : Int) := by rw [← hry]; omega
  obtain ⟨z, hz⟩ : ∃ z, jy * cw = z := ⟨_, rfl⟩
  rw [hz] at hk
  have hzb : z ≤ 256 := by rw [← hz]; have := Nat.mul_le_mul (show jy ≤ 16 by omega) hcw16; omega
  have hzz : (jy : Int) * (cw : Int) = (z : Int) := by rw [← hz, Int.natCast_mul]
  have hw1 : IntKind.i64.wrap ((jy : Int) * (cw : Int)) = (z : Int) := by rw [hzz]; exact IntWalk.i64_in _ (by omega)
  have e6 : (z : Int) + (ix : Int) = (k : Int) := by rw [← hk, Int.natCast_add]
  have hw2 : IntKind.i64.wrap ((z : Int) + (ix : Int)) = (k : Int) := by rw [e6]; exact IntWalk.i64_in _ (by omega)
  have k0 : (0 : Int) ≤ (k : Int) := by omega
  have k1 : (k : Int) < (N : Int) := by omega
  clear hta hsl hsz hti hte hrg hr hpix hk hkl hkr htl htw hin hxr hyr hcl hil hq hN hcw hjy hix hrx hry hz hrd hbG
  go_enter Tryd.func33, Tryd.ntmps33
  go_wp2_with fail
  refine (tat_any t rx ry q _ HTI.out HTA.out HSL.out HSZ.out).mono ?_
  rintro e w2 ⟨rfl, hb2⟩
  have B2 := (Blk.new w 41 #[.int .u8 0, .int .u8 0, .int .u8 0, .int .u8 0] rfl).below hb2 (by simp)
  have c2 := B2.cell
  have f2 := B2.free
  have hbw : Below w.heap.size w w2 := Below.trans (by go_grown) (hb2.mono (by simp))
  clear hb2
  go_wp2_with fail
  refine bodyPost_ret (v := .agg #[.int .u8 q.r.toNat, .int .u8 q.g.toNat, .int .u8 q.b.toNat, .int .u8 q.a.toNat]) (by simp [results, Tryd.results33, go_sem, c2]) rfl ⟨rfl, ?_⟩
  exact ((((hbw.setCell (Nat.le_refl _) _).setCell (Nat.le_refl _) _).setCell (Nat.le_refl _) _).setCell (Nat.le_refl _) _)
end Go.Proofs.YtcdbhcjiimdhhaaDoor
