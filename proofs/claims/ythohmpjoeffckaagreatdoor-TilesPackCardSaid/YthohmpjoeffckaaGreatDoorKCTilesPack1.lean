/- GridPix, TChanged, One: put together. -/
import Derived.Test.YthohmpjoeffckaaGreatDoorGridOf
import Derived.Test.YthohmpjoeffckaaGreatDoorTileLaw
import Derived.Test.YthohmpjoeffckaaGreatDoorBase
import Derived.Deep.RegionHeld3
import Derived.IntWalk
import Derived.Deep.QuietTactic
import Derived.BigQuiet
import Derived.LaidEqlPtr
import Derived.Test.YthohmpjoeffckaaGreatDoorPxKey
import Derived.Test.YthohmpjoeffckaaGreatDoorMem
/- A tile's pixel, a grid's pixel: the walks. Plain, Size, At of a grid; Of of a picture that is not right: the walks. A grid's picture: the walk. -/
namespace Go.Proofs.YthohmpjoeffckaaGreatDoor
open Go Go.RowKit

set_option maxRecDepth 100000 in
set_option maxHeartbeats 1000000 in
theorem tat_one (t : TM) (x y : Nat) (q : Px) (w : World) (ht : TileIn w t) (h1 : t.l.length = 1) (hq : t.l.getD 0 default = q) :
    Calls Tryz.prog 42 #[.pointer (some ⟨t.b, 0, none⟩), .int .i64 x, .int .i64 y] w fun e w' => e = .returned (.agg #[.int .u8 q.r.toNat, .int .u8 q.g.toNat, .int .u8 q.b.toNat, .int .u8 q.a.toNat]) ∧ Below w.heap.size w w' := by
  have hn : t.n = 1 := by rw [ht.px.pxLen, h1]
  obtain ⟨tb, tw, th, tA, tn, tc, tl⟩ := t
  simp only at hn h1 hq ⊢
  subst hn
  obtain ⟨b, off, hA, hb⟩ := ht.px.addr (by simp)
  simp only at hA
  subst hA
  have hp := ht.px
  have c0 := (ht.blk.alloc (.cells #[.int .u8 0, .int .u8 0, .int .u8 0, .int .u8 0] 47)).cell
  simp only at hp c0
  obtain ⟨y0, y1, y2, y3⟩ := (hp.alloc (Nat.le_refl _) (.cells #[.int .u8 0, .int .u8 0, .int .u8 0, .int .u8 0] 47)).px 0 (by omega)
  rw [show tl[0] = q by rw [← hq, List.getD_eq_getElem?_getD, List.getElem?_eq_getElem (by omega)]; rfl, Nat.zero_mul, Nat.add_zero] at y0 y1 y2 y3
  have lb := ht.blk.lt
  simp only at lb
  clear hq h1 hp ht
  go_enter Tryz.func42, Tryz.ntmps42
  go_wp2_with fail
  refine bodyPost_ret (v := .agg #[.int .u8 q.r.toNat, .int .u8 q.g.toNat, .int .u8 q.b.toNat, .int .u8 q.a.toNat]) (by simp [results, Tryz.results42, go_sem]) rfl ⟨rfl, by go_grown⟩

set_option maxRecDepth 100000 in
set_option maxHeartbeats 2000000 in
theorem tat_many (t : TM) (x y i : Nat) (q : Px) (w : World) (ht : TileIn w t) (h1 : ¬ t.l.length = 1) (hi : y * t.w + x = i) (hq : t.l[i]? = some q) (hb1 : t.l.length ≤ 1048576) :
    Calls Tryz.prog 42 #[.pointer (some ⟨t.b, 0, none⟩), .int .i64 x, .int .i64 y] w fun e w' => e = .returned (.agg #[.int .u8 q.r.toNat, .int .u8 q.g.toNat, .int .u8 q.b.toNat, .int .u8 q.a.toNat]) ∧ Below w.heap.size w w' := by
  obtain ⟨hil, hqe⟩ := List.getElem?_eq_some_iff.1 hq
  have hn := ht.px.pxLen
  obtain ⟨tb, tw, th, tA, tn, tc, tl⟩ := t
  simp only at hn h1 hq hi hil hqe hb1 ⊢
  obtain ⟨b, off, hA, hb⟩ := ht.px.addr (by simp only; omega)
  simp only at hA
  subst hA
  have hp := ht.px
  have c0 := (ht.blk.alloc (.cells #[.int .u8 0, .int .u8 0, .int .u8 0, .int .u8 0] 47)).cell
  simp only at hp c0
  obtain ⟨y0, y1, y2, y3⟩ := (hp.alloc (Nat.le_refl _) (.cells #[.int .u8 0, .int .u8 0, .int .u8 0, .int .u8 0] 47)).px i hil
  rw [hqe] at y0 y1 y2 y3
  have lb := ht.blk.lt
  obtain ⟨z, hz⟩ : ∃ z, y * tw = z := ⟨_, rfl⟩
  rw [hz] at hi
  have hz' : (y : Int) * (tw : Int) = (z : Int) := by rw [← hz, Int.natCast_mul]
  have hw1 : IntKind.i64.wrap ((y : Int) * (tw : Int)) = (z : Int) := by rw [hz']; exact IntWalk.i64_in _ (by omega)
  have hp4 : (z : Int) + (x : Int) = (i : Int) := by rw [← hi, Int.natCast_add]
  have hw2 : IntKind.i64.wrap ((z : Int) + (x : Int)) = (i : Int) := by rw [hp4]; exact IntWalk.i64_in _ (by omega)
  have hw3 : IntKind.i64.wrap (z : Int) = (z : Int) := IntWalk.i64_in _ (by omega)
  have hw4 : IntKind.i64.wrap (i : Int) = (i : Int) := IntWalk.i64_in _ (by omega)
  have i0 : (0 : Int) ≤ (i : Int) := by omega
  have i1 : (i : Int) < (tn : Int) := by omega
  have n1 : ¬ (tn : Int) = 1 := by omega
  simp only at lb
  clear hqe hq hz hi hp ht h1 hn
  go_enter Tryz.func42, Tryz.ntmps42
  go_wp2_with fail
  go_region
  all_goals
    go_wp2_with fail
    refine bodyPost_ret (v := .agg #[.int .u8 q.r.toNat, .int .u8 q.g.toNat, .int .u8 q.b.toNat, .int .u8 q.a.toNat]) (by simp [results, Tryz.results42, go_sem]) rfl ⟨rfl, by first | go_grown | go_show⟩

theorem tmCells_at (ts : List TM) (k : Nat) (hk : k < ts.length) : (tmCells ts)[k]? = some (tmPtr ts[k]) := by simp [tmCells, hk]
/-- A tile's pixel, however many pixels it keeps. -/
theorem tat_any (t : TM) (x y : Nat) (q : Px) (w : World) (ht : TileIn w t) (hq : Til.tileAt t.l t.w x y = q) (hi : t.l.length = 1 ∨ y * t.w + x < t.l.length) (hb1 : t.l.length ≤ 1048576) :
    Calls Tryz.prog 42 #[.pointer (some ⟨t.b, 0, none⟩), .int .i64 x, .int .i64 y] w fun e w' => e = .returned (.agg #[.int .u8 q.r.toNat, .int .u8 q.g.toNat, .int .u8 q.b.toNat, .int .u8 q.a.toNat]) ∧ Below w.heap.size w w' := by
  unfold Til.tileAt at hq
  by_cases h1 : t.l.length = 1
  · rw [if_pos h1] at hq
    exact tat_one t x y q w ht h1 hq
  · rw [if_neg h1] at hq
    have h2 : y * t.w + x < t.l.length := by
      rcases hi with h | h
      · exact absurd h h1
      · exact h
    refine tat_many t x y _ q w ht h1 rfl ?_ hb1
    rw [List.getD_eq_getElem?_getD, List.getElem?_eq_getElem h2] at hq
    rw [List.getElem?_eq_getElem h2]
    exact congrArg some hq

set_option maxRecDepth 100000 in
set_option maxHeartbeats 2000000 in
theorem gpixel_any (gb W H : Nat) (ts : List TM) (ps : List Px) (x y : Nat) (q : Px) (w : World) (hg : Gd w gb W H ts) (ht : TsOf ps W H ts) (hW : 1 ≤ W ∧ W ≤ 256) (hH : 1 ≤ H ∧ H ≤ 256) (hx : x < W) (hy : y < H) (hq : ps.getD (y * W + x) default = q) :
    Calls Tryz.prog 28 #[.pointer (some ⟨gb, 0, none⟩), .int .i64 x, .int .i64 y] w fun e w' => e = .returned (.agg #[.int .u8 q.r.toNat, .int .u8 q.g.toNat, .int .u8 q.b.toNat, .int .u8 q.a.toNat]) ∧ Below w.heap.size w w' := by
  obtain ⟨hW1, hW2⟩ := hW
  obtain ⟨hH1, hH2⟩ := hH
  have hrg := Til.rects_get W H x y hx hy
  obtain ⟨r, hr⟩ : ∃ r, Til.rectAt W H (x / 16) (y / 16) = r := ⟨_, rfl⟩
  have hpix := Til.pixelOf_tiles ps W H x y hx hy
  obtain ⟨k, hk⟩ : ∃ k, y / 16 * Til.cols W + x / 16 = k := ⟨_, rfl⟩
  rw [hk, hr] at hrg
  obtain ⟨hkl, hkr⟩ := List.getElem?_eq_some_iff.1 hrg
  have hkt : k < ts.length := by rw [ht.len, ← Til.rects_length]; exact hkl
  have htl : ts[k].l = Til.small (Til.crop ps W r) := by
    have h1 := congrArg (fun l => l[k]?) ht.px
    simp only [List.getElem?_map, Til.tilesOf, hrg, List.getElem?_eq_getElem hkt, Option.map_some] at h1
    exact Option.some.inj h1
  have htw : ts[k].w = r.w := by
    have h1 := congrArg (fun l => l[k]?) ht.wd
    simp only [List.getElem?_map, hrg, List.getElem?_eq_getElem hkt, Option.map_some] at h1
    exact Option.some.inj h1
  have hin := Til.rects_in (List.mem_of_getElem? hrg)
  have hxr : x % 16 < r.w := by rw [← hr]; simp only [Til.rectAt]; omega
  have hyr : y % 16 < r.h := by rw [← hr]; simp only [Til.rectAt]; omega
  have hcl := Til.crop_length ps W r
  have hil := Til.index_lt hxr hyr
  have hta : Til.tileAt ts[k].l ts[k].w (x % 16) (y % 16) = q := by
    rw [htl, htw, ← hq, ← hpix, Til.pixelOf, hr, hk]
    have h1 : (Til.tilesOf ps W H).getD k [] = Til.small (Til.crop ps W r) := by
      rw [List.getD_eq_getElem?_getD, Til.tilesOf, List.getElem?_map, hrg]
      rfl
    rw [h1]
  have hsl : ts[k].l.length = 1 ∨ y % 16 * ts[k].w + x % 16 < ts[k].l.length := by
    rw [htl, htw]
    unfold Til.small
    split
    · left
      rw [List.length_take]
      omega
    · right
      rw [hcl]
      exact hil
  have hsz : ts[k].l.length ≤ 1048576 := by
    have h16 := Nat.mul_le_mul hin.h16 hin.w16
    rw [htl]
    unfold Til.small
    split
    · rw [List.length_take]; omega
    · rw [hcl]; omega
  obtain ⟨A, c, hbG, hrd⟩ := hg.ex
  obtain ⟨b, off, rfl, hb⟩ := hrd.addr (by omega)
  have hz0 := (hrd.alloc (Nat.le_refl _) (.cells #[.int .u8 0, .int .u8 0, .int .u8 0, .int .u8 0] 47)).cell rfl k (by omega)
  rw [tmCells_at ts k hkt] at hz0
  have hti := hg.ti ts[k] (List.getElem_mem hkt)
  obtain ⟨t, hte⟩ : ∃ t, ts[k] = t := ⟨_, rfl⟩
  rw [hte] at hz0 hti hta hsl hsz
  unfold tmPtr at hz0
  have cG := (hbG.alloc (.cells #[.int .u8 0, .int .u8 0, .int .u8 0, .int .u8 0] 47)).cell
  have lG := hbG.lt
  have HTA := Lib.hid hta
  have HSL := Lib.hid hsl
  have HSZ := Lib.hid hsz
  have HTI := Lib.hid (hti.step (Below.alloc (Below.refl _ _) (Nat.le_refl _) (.cells #[.int .u8 0, .int .u8 0, .int .u8 0, .int .u8 0] 47)))
  obtain ⟨N, hN⟩ : ∃ N, ts.length = N := ⟨_, rfl⟩
  rw [hN] at hkt cG
  obtain ⟨cw, hcw⟩ : ∃ cw, Til.cols W = cw := ⟨_, rfl⟩
  rw [hcw] at hk
  have e1 : ((W : Int) + 16 - 1) / 16 = (cw : Int) := by rw [← hcw]; unfold Til.cols; omega
  have hcw16 : cw ≤ 16 := by rw [← hcw]; unfold Til.cols; omega
  obtain ⟨jy, hjy⟩ : ∃ jy, y / 16 = jy := ⟨_, rfl⟩
  obtain ⟨ix, hix⟩ : ∃ ix, x / 16 = ix := ⟨_, rfl⟩
  rw [hjy, hix] at hk
  have e2 : (y : Int) / 16 = (jy : Int) := by rw [← hjy]; omega
  have e3 : (x : Int) / 16 = (ix : Int) := by rw [← hix]; omega
  obtain ⟨rx, hrx⟩ : ∃ rx, x % 16 = rx := ⟨_, rfl⟩
  obtain ⟨ry, hry⟩ : ∃ ry, y % 16 = ry := ⟨_, rfl⟩
  rw [hrx, hry] at HTA HSL
  have e4 : (x : Int) % 16 = (rx : Int) := by rw [← hrx]; omega
  have e5 : (y : Int) % 16 = (ry : Int) := by rw [← hry]; omega
  obtain ⟨z, hz⟩ : ∃ z, jy * cw = z := ⟨_, rfl⟩
  rw [hz] at hk
  have hzb : z ≤ 256 := by rw [← hz]; have := Nat.mul_le_mul (show jy ≤ 16 by omega) hcw16; omega
  have hzz : (jy : Int) * (cw : Int) = (z : Int) := by rw [← hz, Int.natCast_mul]
  have hw1 : IntKind.i64.wrap ((jy : Int) * (cw : Int)) = (z : Int) := by rw [hzz]; exact IntWalk.i64_in _ (by omega)
  have e6 : (z : Int) + (ix : Int) = (k : Int) := by rw [← hk, Int.natCast_add]
  have hw2 : IntKind.i64.wrap ((z : Int) + (ix : Int)) = (k : Int) := by rw [e6]; exact IntWalk.i64_in _ (by omega)
  have k0 : (0 : Int) ≤ (k : Int) := by omega
  have k1 : (k : Int) < (N : Int) := by omega
  clear hta hsl hsz hti hte hrg hr hpix hk hkl hkr htl htw hin hxr hyr hcl hil hq hN hcw hjy hix hrx hry hz hrd hbG
  go_enter Tryz.func28, Tryz.ntmps28
  go_wp2_with fail
  refine (tat_any t rx ry q _ HTI.out HTA.out HSL.out HSZ.out).mono ?_
  rintro e w2 ⟨rfl, hb2⟩
  have B2 := (Blk.new w 47 #[.int .u8 0, .int .u8 0, .int .u8 0, .int .u8 0] rfl).below hb2 (by simp)
  have c2 := B2.cell
  have f2 := B2.free
  have hbw : Below w.heap.size w w2 := Below.trans (by go_grown) (hb2.mono (by simp))
  clear hb2
  go_wp2_with fail
  refine bodyPost_ret (v := .agg #[.int .u8 q.r.toNat, .int .u8 q.g.toNat, .int .u8 q.b.toNat, .int .u8 q.a.toNat]) (by simp [results, Tryz.results28, go_sem, c2]) rfl ⟨rfl, ?_⟩
  exact ((((hbw.setCell (Nat.le_refl _) _).setCell (Nat.le_refl _) _).setCell (Nat.le_refl _) _).setCell (Nat.le_refl _) _)
end Go.Proofs.YthohmpjoeffckaaGreatDoor
namespace Go.Proofs.YthohmpjoeffckaaGreatDoor
open Go Go.RowKit

set_option maxRecDepth 100000 in
set_option maxHeartbeats 1000000 in
theorem gplain_any (gb W H : Nat) (ts : List TM) (ps : List Px) (w : World) (hg : Gd w gb W H ts) (ht : TsOf ps W H ts) (hn : ts.length ≤ 1000) :
    Calls Tryz.prog 14 #[.pointer (some ⟨gb, 0, none⟩)] w fun e w' => e = .returned (.int .i64 (Til.plain (Til.tilesOf ps W H))) ∧ w' = w := by
  obtain ⟨A, c, hbG, hrd⟩ := hg.ex
  have HP := Lib.hid (show Til.plain (Til.tilesOf ps W H) = Til.plain ((ts.map (·.l)).take ts.length) by rw [← ht.px, List.take_of_length_le (by simp)])
  have HG := Lib.hid hg
  have d2 : w.cell? ⟨gb, 2, none⟩ = some (.slice A ts.length c) := (hbG.cell 2).trans rfl
  obtain ⟨N, hN⟩ : ∃ N, ts.length = N := ⟨_, rfl⟩
  rw [hN] at d2 hn HP
  have HN := Lib.hid hN
  have HRD := Lib.hid hrd
  clear hg hbG hrd hN ht
  go_enter Tryz.func14, Tryz.ntmps14
  go_wp2_with fail
  go_loopw [3, 13] (fun z i wr => ∃ k p : Nat, k ≤ N ∧ p ≤ k ∧ i = .int .i64 k ∧ z = .int .i64 p ∧ wr = w ∧ p = Til.plain ((ts.map (·.l)).take k)) (fun _ i _ => N - (intOf i).toNat)
  case atStart => exact ⟨0, 0, Nat.zero_le _, Nat.le_refl _, rfl, rfl, rfl, rfl⟩
  case round =>
    obtain ⟨k, p, hk, hpk, rfl, rfl, rfl, hp⟩ := hrel
    have HPK := Lib.hid hp
    clear hp
    by_cases hlt : k < N
    · have hkt : k < ts.length := by rw [HN.out]; exact hlt
      have hrd := HRD.out
      obtain ⟨b, off, rfl, hb⟩ := hrd.addr (by omega)
      have z0 := hrd.cell rfl k (by omega)
      rw [tmCells_at ts k hkt] at z0
      unfold tmPtr at z0
      have hti := HG.out.ti ts[k] (List.getElem_mem hkt)
      have HTK := Lib.hid (show (ts.map (·.l)).take (k + 1) = (ts.map (·.l)).take k ++ [ts[k].l] by rw [List.take_succ_eq_append_getElem (by simpa using hkt)]; simp)
      obtain ⟨t, hte⟩ : ∃ t, ts[k] = t := ⟨_, rfl⟩
      rw [hte] at z0 hti HTK
      have t2 : wr.cell? ⟨t.b, 2, none⟩ = some (.slice t.A t.n t.c) := (hti.blk.cell 2).trans rfl
      have hln := hti.px.pxLen
      have HLN := Lib.hid hln
      clear hrd hti hte hln hkt
      by_cases h1 : t.n = 1
      · rw [h1] at t2
        have HS := Lib.hid (show p + 1 = Til.plain ((ts.map (·.l)).take (k + 1)) by rw [HTK.out, Til.plain_snoc, ← HPK.out, if_pos (by rw [← HLN.out]; exact h1)])
        clear h1
        go_wp2_with fail
        go_roundw
        case rel => exact ⟨k + 1, p + 1, by omega, by omega, by go_num, by go_num, trivial, HS.out⟩
        case measure => simp [intOf]; omega
      · have h1' : ¬ (t.n : Int) = 1 := by omega
        have HS := Lib.hid (show p = Til.plain ((ts.map (·.l)).take (k + 1)) by rw [HTK.out, Til.plain_snoc, ← HPK.out, if_neg (by rw [← HLN.out]; exact h1)]; rfl)
        clear h1
        go_wp2_with fail
        go_roundw
        case rel => exact ⟨k + 1, p, by omega, by omega, by go_num, rfl, trivial, HS.out⟩
        case measure => simp [intOf]; omega
    · have e : k = N := by omega
      have HE := Lib.hid (show p = Til.plain (Til.tilesOf ps W H) by rw [HP.out, HPK.out, e])
      go_wp2_with fail
      go_ret
      exact ⟨(by rw [← HE.out]; rfl), rfl⟩




end Go.Proofs.YthohmpjoeffckaaGreatDoor
namespace Go.Proofs.YthohmpjoeffckaaGreatDoor
open Go Go.RowKit

set_option maxRecDepth 100000 in
set_option maxHeartbeats 4000000 in
theorem gpicture_any (gb W H : Nat) (ts : List TM) (ps : List Px) (w : World) (hg : Gd w gb W H ts) (ht : TsOf ps W H ts) (hn : ps.length = H * W) (hW : 1 ≤ W ∧ W ≤ 256) (hH : 1 ≤ H ∧ H ≤ 256) :
    Calls Tryz.prog 12 #[.pointer (some ⟨gb, 0, none⟩)] w
      fun e w' => ∃ A' c', e = .returned (.agg #[.int .i64 W, .int .i64 H, .slice A' ps.length c']) ∧ Own w' w.heap.size 4 (.slice A' ps.length c') ps.length (pxCells ps) ∧ Below w.heap.size w w' := by
  obtain ⟨i0, hi, hz0, hz1, hz2⟩ := info_parts pxInfo
  obtain ⟨f, hf⟩ : ∃ f : Nat → Nat → Px, f = fun x y => ps.getD (y * W + x) default := ⟨_, rfl⟩
  have HGR := Lib.hid (show Lay.grid f W H = ps by rw [hf]; exact Til.grid_of ps W H hn)
  have HF := Lib.hid hf
  have HG := Lib.hid hg
  have HT := Lib.hid ht
  obtain ⟨hW1, hW2⟩ := hW
  obtain ⟨hH1, hH2⟩ := hH
  obtain ⟨A, c, hbG, _⟩ := hg.ex
  have HBG := Lib.hid hbG
  have hlg := hbG.lt
  have d0 : w.cell? ⟨gb, 0, none⟩ = some (.int .i64 W) := (hbG.cell 0).trans rfl
  have d1 : w.cell? ⟨gb, 1, none⟩ = some (.int .i64 H) := (hbG.cell 1).trans rfl
  have p0 := fun o => cell_past (w := w) o d0
  have p1 := fun o => cell_past (w := w) o d1
  have q0 := fun o o2 => cell_past (w := w.alloc o) o2 (cell_past (w := w) o d0)
  have q1 := fun o o2 => cell_past (w := w.alloc o) o2 (cell_past (w := w) o d1)
  clear hg ht hn hf hbG
  go_enter Tryz.func12, Tryz.ntmps12
  go_wp2_with fail
  go_region
  obtain ⟨w2, hw2⟩ : ∃ w2, w2 = ((w.alloc (.cells #[.int .i64 0, .int .i64 0, .slice none 0 0] 24)).alloc (.cells #[.int .i64 W, .int .i64 H, .slice none 0 0] 24)).drew := ⟨_, rfl⟩
  have F0 : EaR W H w (.slice none 0 0) [] w2 := by
    rw [hw2]
    exact ⟨((Blk.new _ _ _ rfl).alloc _).drew, (Blk.new _ _ _ (by simp)).drew, Own.nil _ _ _, (show Below w.heap.size w ((w.alloc (.cells #[.int .i64 0, .int .i64 0, .slice none 0 0] 24)).alloc (.cells #[.int .i64 W, .int .i64 H, .slice none 0 0] 24)) by go_grown).drew⟩
  rw [← hw2]
  clear hw2 p0 p1 q0 q1
  have e1 : w2.cell? ⟨gb, 1, none⟩ = some (.int .i64 H) := bkeep F0.bel d1
  go_wp2_with fail
  go_loopw [22] (fun i wr => ∃ (k : Nat) (v : Value), k ≤ H ∧ i = .int .i64 k ∧ EaR W H w v (Lay.grid f W k) wr) (fun i _ => H - (intOf i).toNat)
  case atStart => exact ⟨0, _, Nat.zero_le _, rfl, F0⟩
  case round =>
    clear F0 e1
    obtain ⟨k, v0, hk, rfl, F0⟩ := hrel
    obtain ⟨wo, rfl⟩ : ∃ wo : World, wo = wr := ⟨_, rfl⟩
    have e0 : wo.cell? ⟨gb, 0, none⟩ = some (.int .i64 W) := bkeep F0.bel d0
    have c5 := F0.b5.cell
    have c1' := F0.b1.cell
    have f1 := F0.b1.free
    by_cases hlt : k < H
    · go_wp2_with fail
      go_loopw [29] (fun i wr => ∃ (j : Nat) (v : Value), j ≤ W ∧ i = .int .i64 j ∧ EaR W H w v (Lay.gridTo f W k j) wr) (fun i _ => W - (intOf i).toNat)
      case atStart => exact ⟨0, v0, Nat.zero_le _, rfl, by rw [Lay.gridTo_zero]; exact F0⟩
      case round =>
        clear F0 c5 c1' f1 e0
        obtain ⟨j, v, hj, rfl, F⟩ := hrel
        obtain ⟨wi, rfl⟩ : ∃ wi : World, wi = wr := ⟨_, rfl⟩
        by_cases hjl : j < W
        · obtain ⟨Av, cv, rfl, hcv, _⟩ := F.own.form
          have hlen := Lay.gridTo_length f W k j
          obtain ⟨l, hl⟩ : ∃ l, l = Lay.gridTo f W k j := ⟨_, rfl⟩
          rw [← hl] at F hlen
          have hll : l.length ≤ 131072 := by
            have := Nat.mul_le_mul hk hW2
            have : H * 256 ≤ 65536 := by omega
            omega
          have HL := Lib.hid hl
          clear hl hlen
          obtain ⟨q, hq⟩ : ∃ q, f j k = q := ⟨_, rfl⟩
          have HQ := Lib.hid hq
          clear hq
          have HC := Lib.hid (gpixel_any gb W H ts ps j k q wi.drew ((HG.out.step F.bel).step (Below.here wi)) HT.out ⟨hW1, hW2⟩ ⟨hH1, hH2⟩ hjl hlt (by rw [← HQ.out, HF.out]))
          have s5 : wi.cell? ⟨w.heap.size + 1, 2, none⟩ = some (.slice Av l.length cv) := (F.b5.cell 2).trans rfl
          have h5l := F.b5.lt
          go_wp2_with fail
          have p5 := fun o => cell_past (w := wi) o s5
          go_region_law
            (first
              | (refine step_append_Own _ rfl (.tmp 33) (.tmp 38) 22 22 rfl (w.heap.size + 2) 47 i0 _ 4 4 Tryz.underlying22 hi hz0 hz1 hz2 rfl (by decide) (.slice Av l.length cv) l.length (pxCells l) rfl ((F.own.below (Below.fromDrew hbA) (Nat.le_refl _)).alloc _) (pxCells_one _) 1 (pxCs q) (Src.blk Tryz.underlying22 (Blk.new _ _ _ rfl) rfl (pxCells_one [q])) (by unfold maxLen; omega) (by omega) (by simp; omega) ?_; intro vT wT hownT hgT hatT; obtain ⟨AT, cT, rfl, hcT, _⟩ := hownT.form; have t5 : wT.cell? ⟨w.heap.size + 1, 2, none⟩ = some (.slice Av l.length cv) := (hgT.cell_far ⟨w.heap.size + 1, 2, none⟩ (by simp; omega) (fun e => F.n5 e.symm)).trans (cell_past _ (bkeep hbA s5)); have f5 : wT.frozen? ⟨w.heap.size + 1, 2, none⟩ = false := (hgT.frozen_far ⟨w.heap.size + 1, 2, none⟩ (by simp; omega) (fun e => F.n5 e.symm)).trans (free_past _ (by simp; omega) (bfree_ hbA h5l (F.b5.free 2))))
              | (go_simp; go_at_call 28; refine HC.out.mono ?_; rintro e wA ⟨rfl, hbA⟩; have hzA : wi.heap.size ≤ wA.heap.size := hbA.size; have a5 := bkeep hbA s5; have r5 := fun o => cell_past (w := wA) o a5))
          all_goals
            have F9 := F.push (Below.fromDrew hbA) hownT hgT
            have HF9 := Lib.hid F9
            clear F9 hownT hgT hatT t5 f5 a5 r5 p5 s5
            go_wp2_with fail
            go_roundw
            case rel => exact ⟨j + 1, _, by omega, by go_num, by rw [Lay.gridTo_succ, HQ.out, ← HL.out]; exact HF9.out⟩
            case measure => simp [intOf]; omega
        · go_wp2_with fail
          have e : j = W := by omega
          subst e
          rw [Lay.gridTo_full] at F
          go_roundw
          case rel => exact ⟨k + 1, v, by omega, by go_num, F⟩
          case measure => simp [intOf]; omega
    · have e : k = H := by omega
      rw [e] at F0
      have ho := F0.own
      rw [HGR.out] at ho
      obtain ⟨Av, cv, hv, hcv, _⟩ := ho.form
      subst hv
      have n1 : (Value.slice Av ps.length cv).ownBlock ≠ some w.heap.size := fun e => by have := (ho.lt _ e).1; omega
      have HO := Lib.hid ho
      have HN1 := Lib.hid n1
      clear ho n1 e
      go_wp2_with fail
      refine bodyPost_ret (v := .agg #[.int .i64 W, .int .i64 H, .slice Av ps.length cv]) (by simp [results, Tryz.results12, go_sem, c1']) rfl ⟨Av, cv, rfl, ?_, ?_⟩
      · exact (((HO.out.setCell HN1.out _).setCell HN1.out _).setCell HN1.out _).mono (by omega)
      · exact (((F0.bel.setCell (Nat.le_refl _) _).setCell (Nat.le_refl _) _).setCell (Nat.le_refl _) _)
end Go.Proofs.YthohmpjoeffckaaGreatDoor
/- Grid.changed: the walk. Grid.changed: the walk. Are two pictures of one size the same? slices.Equal of pixels: the walks. The reference's CropOf: the walk. The reference's ChangedOf; sameRects: the walks. tile.same, tiles.Changed: the walks. -/
namespace Go.Proofs.YthohmpjoeffckaaGreatDoor
open Go Go.RowKit


theorem tmCells_set (ts : List TM) (k : Nat) (t : TM) : tmCells (ts.set k t) = (tmCells ts).set k (tmPtr t) := by simp [tmCells, List.map_set]
theorem Own.setTm {w : World} {base n c g off : Nat} {ts : List TM} (h : Own w base 1 (.slice (some ⟨g, off, none⟩) n c) n (tmCells ts)) (k : Nat) (hk : k < n) (t : TM) :
    Own (w.setCell ⟨g, off + k, none⟩ (tmPtr t)) base 1 (.slice (some ⟨g, off, none⟩) n c) n (tmCells (ts.set k t)) := by
  have hl : n = ts.length := by have := h.1; rw [tmCells_length] at this; omega
  have := h.setOne k hk [tmPtr t] (tmCells (ts.set k t)) rfl (by rw [tmCells_length, List.length_set, hl]; omega)
    (fun j hj => by
      have e : j = 0 := by omega
      subst e
      rw [tmCells_set, Nat.mul_one, Nat.add_zero, List.getElem?_set_self (by rw [tmCells_length]; omega)]
      rfl)
    (fun j hj => by rw [tmCells_set, List.getElem?_set_ne (by omega)])
  rw [Nat.mul_one] at this
  exact this
/-- A grid that was made above a block out of the tiles of another one. -/
structure GdNew (B : Nat) (w : World) (ts : List TM) (gG W H : Nat) (A : Option Addr) (c : Nat) (ts' : List TM) : Prop where
  g : B ≤ gG
  blk : Blk w gG 50 #[.int .i64 W, .int .i64 H, .slice A ts'.length c]
  rd : Reads w w.heap.size 1 A ts'.length (tmCells ts')
  a : ∀ b off, A = some ⟨b, off, none⟩ → B ≤ b
  ti : ∀ t ∈ ts', TileIn w t
  mem : ∀ t ∈ ts', t ∈ ts ∨ Above B t
theorem GdNew.gd {B : Nat} {w : World} {ts : List TM} {gG W H : Nat} {A : Option Addr} {c : Nat} {ts' : List TM} (h : GdNew B w ts gG W H A c ts') : Gd w gG W H ts' := ⟨⟨A, c, h.blk, h.rd⟩, h.ti⟩
theorem GdNew.low {B C : Nat} {w : World} {ts : List TM} {gG W H : Nat} {A : Option Addr} {c : Nat} {ts' : List TM} (h : GdNew B w ts gG W H A c ts') (hC : C ≤ B) : GdNew C w ts gG W H A c ts' :=
  ⟨Nat.le_trans hC h.g, h.blk, h.rd, fun b off e => Nat.le_trans hC (h.a b off e), h.ti, fun t ht => (h.mem t ht).imp id fun a => a.mono hC⟩
theorem GdNew.step {B : Nat} {w w' : World} {ts : List TM} {gG W H : Nat} {A : Option Addr} {c : Nat} {ts' : List TM} (h : GdNew B w ts gG W H A c ts') (hb : Below w.heap.size w w') : GdNew B w' ts gG W H A c ts' :=
  ⟨h.g, h.blk.below hb h.blk.lt, (h.rd.below hb (Nat.le_refl _)).more hb.size, h.a, fun t ht => (h.ti t ht).step hb, h.mem⟩
/-- What stands through changed's loop. -/
structure GcR (W H : Nat) (A : Option Addr) (n c : Nat) (X Y Wr Hr : Int) (w : World) (gG ga oa c' N : Nat) (Ar : Option Addr) (ts0 ts : List TM) (wr : World) : Prop where
  b1 : Blk wr w.heap.size 24 #[.int .i64 W, .int .i64 H, .slice A n c]
  b2 : Blk wr (w.heap.size + 1) 52 #[.int .i64 X, .int .i64 Y, .int .i64 Wr, .int .i64 Hr]
  bG : Blk wr gG 50 #[.int .i64 W, .int .i64 H, .slice (some ⟨ga, oa, none⟩) N c']
  own : Own wr (w.heap.size + 2) 1 (.slice (some ⟨ga, oa, none⟩) N c') N (tmCells ts)
  rd : Reads wr wr.heap.size 4 Ar N (rcCells (Til.rects W H))
  rne : ∀ b off, Ar = some ⟨b, off, none⟩ → ga < b
  ti : ∀ t ∈ ts, TileIn wr t
  off : ∀ t ∈ ts, Off (some ga) t
  ne : ga ≠ gG
  gh : w.heap.size + 2 ≤ gG
  mem : ∀ t ∈ ts, t ∈ ts0 ∨ Above w.heap.size t
  bel : Below w.heap.size w wr
section
variable {W H : Nat} {A : Option Addr} {n c : Nat} {X Y Wr Hr : Int} {w wr w' : World} {gG ga oa c' N : Nat} {Ar : Option Addr} {ts0 ts : List TM}
theorem GcR.step (h : GcR W H A n c X Y Wr Hr w gG ga oa c' N Ar ts0 ts wr) (hb : Below wr.heap.size wr w') : GcR W H A n c X Y Wr Hr w gG ga oa c' N Ar ts0 ts w' :=
  ⟨h.b1.below hb h.b1.lt, h.b2.below hb h.b2.lt, h.bG.below hb h.bG.lt, h.own.below hb (Nat.le_refl _), (h.rd.below hb (Nat.le_refl _)).more hb.size, h.rne, fun t ht => (h.ti t ht).step hb, h.off, h.ne, h.gh, h.mem, h.bel.trans (hb.mono h.bel.size)⟩
theorem GcR.put (h : GcR W H A n c X Y Wr Hr w gG ga oa c' N Ar ts0 ts wr) (k : Nat) (hk : k < N) (t : TM) (ht : TileIn wr t) (hta : Off (some ga) t) (hab : Above w.heap.size t) : GcR W H A n c X Y Wr Hr w gG ga oa c' N Ar ts0 (ts.set k t) (wr.setCell ⟨ga, oa + k, none⟩ (tmPtr t)) := by
  have hg := (h.own.lt ga rfl).1
  have hall : ∀ s ∈ ts.set k t, TileIn wr s ∧ Off (some ga) s := by
    intro s hs
    rcases List.mem_or_eq_of_mem_set hs with hs | rfl
    · exact ⟨h.ti s hs, h.off s hs⟩
    · exact ⟨ht, hta⟩
  refine ⟨h.b1.far (by simp; omega) _, h.b2.far (by simp; omega) _, h.bG.far (fun e => h.ne e.symm) _, h.own.setTm k hk t, ?_, h.rne, fun s hs => (hall s hs).1.set_ (hall s hs).2 _, fun s hs => (hall s hs).2, h.ne, h.gh, fun s hs => ?_, h.bel.setCell (by simp; omega) _⟩
  · exact h.rd.keepAt (by simp [World.setCell]) fun b off e _ _ => Below.heap_setCell wr _ _ b (fun e2 => by have := h.rne b off e; simp at e2; omega)
  · rcases List.mem_or_eq_of_mem_set hs with hs | rfl
    · exact h.mem s hs
    · exact .inr hab
theorem GcR.new (h : GcR W H A n c X Y Wr Hr w gG ga oa c' N Ar ts0 ts wr) (hn : N = ts.length) : GdNew w.heap.size wr ts0 gG W H (some ⟨ga, oa, none⟩) c' ts := by
  subst hn
  exact ⟨by have := h.gh; omega, h.bG, h.own.reads.2, fun b off e => by injection e with e; injection e with e; have := (h.own.lt ga rfl).1; omega, h.ti, h.mem⟩
end
/-- What the tiles are, the first k made anew where they are touched. -/
def ChgTo (ps qs : List Px) (W H : Nat) (X Y Wr Hr : Int) (k : Nat) (ts : List TM) : Prop :=
  ts.map (·.w) = (Til.rects W H).map (·.w) ∧ ∀ i r, (Til.rects W H)[i]? = some r → ts[i]?.map (·.l) = some (if i < k ∧ Til.touches r X Y Wr Hr = true then Til.small (Til.crop qs W r) else Til.small (Til.crop ps W r))
theorem ChgTo.zero {ps qs : List Px} {W H : Nat} {X Y Wr Hr : Int} {ts : List TM} (h : TsOf ps W H ts) : ChgTo ps qs W H X Y Wr Hr 0 ts := by
  refine ⟨h.wd, fun i r hr => ?_⟩
  have := congrArg (fun l => l[i]?) h.px
  simp only [List.getElem?_map, Til.tilesOf, hr, Option.map_some] at this
  rw [this, if_neg (by omega)]
theorem ChgTo.keep {ps qs : List Px} {W H : Nat} {X Y Wr Hr : Int} {k : Nat} {ts : List TM} {r : Til.R} (h : ChgTo ps qs W H X Y Wr Hr k ts) (hr : (Til.rects W H)[k]? = some r) (ht : Til.touches r X Y Wr Hr = false) : ChgTo ps qs W H X Y Wr Hr (k + 1) ts := by
  refine ⟨h.1, fun i s hs => ?_⟩
  rw [h.2 i s hs]
  by_cases e : i = k
  · subst e
    rw [hr] at hs
    injection hs with hs
    subst hs
    rw [ht]
    simp
  · have : (i < k ∧ Til.touches s X Y Wr Hr = true) ↔ (i < k + 1 ∧ Til.touches s X Y Wr Hr = true) := by
      constructor
      · rintro ⟨a, b⟩; exact ⟨by omega, b⟩
      · rintro ⟨a, b⟩; exact ⟨by omega, b⟩
    simp only [this]
theorem ChgTo.put {ps qs : List Px} {W H : Nat} {X Y Wr Hr : Int} {k : Nat} {ts : List TM} {r : Til.R} {t : TM} (h : ChgTo ps qs W H X Y Wr Hr k ts) (hr : (Til.rects W H)[k]? = some r) (ht : Til.touches r X Y Wr Hr = true) (htw : t.w = r.w) (htl : t.l = Til.small (Til.crop qs W r)) : ChgTo ps qs W H X Y Wr Hr (k + 1) (ts.set k t) := by
  have hl : ts.length = (Til.rects W H).length := by have := congrArg List.length h.1; simpa using this
  have hk := (List.getElem?_eq_some_iff.1 hr).1
  refine ⟨?_, fun i s hs => ?_⟩
  · rw [List.map_set, h.1, htw]
    apply List.ext_getElem?
    intro i
    by_cases e : k = i
    · subst e
      rw [List.getElem?_set_self (by simpa using hk), List.getElem?_map, hr]
      rfl
    · rw [List.getElem?_set_ne e]
  · by_cases e : k = i
    · subst e
      rw [hr] at hs
      injection hs with hs
      subst hs
      rw [List.getElem?_set_self (by omega), if_pos ⟨by omega, ht⟩, ← htl]
      rfl
    · rw [List.getElem?_set_ne e, h.2 i s hs]
      have : (i < k ∧ Til.touches s X Y Wr Hr = true) ↔ (i < k + 1 ∧ Til.touches s X Y Wr Hr = true) := by
        constructor
        · rintro ⟨a, b⟩; exact ⟨by omega, b⟩
        · rintro ⟨a, b⟩; exact ⟨by omega, b⟩
      simp only [this]
theorem ChgTo.full {ps qs : List Px} {W H : Nat} {X Y Wr Hr : Int} {ts : List TM} (h : ChgTo ps qs W H X Y Wr Hr (Til.rects W H).length ts)
    (ho : ∀ x y : Nat, x < W → y < H → (X ≤ x ∧ (x : Int) < X + Wr ∧ Y ≤ y ∧ (y : Int) < Y + Hr) ∨ qs.getD (y * W + x) default = ps.getD (y * W + x) default) : TsOf qs W H ts := by
  have hl : ts.length = (Til.rects W H).length := by have := congrArg List.length h.1; simpa using this
  refine ⟨?_, h.1⟩
  rw [← Til.changed_tiles ps qs W H X Y Wr Hr ho]
  apply List.ext_getElem?
  intro i
  by_cases hi : i < (Til.rects W H).length
  · rw [List.getElem?_map, List.getElem?_map, h.2 i _ (List.getElem?_eq_getElem hi), List.getElem?_eq_getElem hi, Option.map_some]
    have : (i < (Til.rects W H).length ∧ Til.touches (Til.rects W H)[i] X Y Wr Hr = true) ↔ Til.touches (Til.rects W H)[i] X Y Wr Hr = true := ⟨fun a => a.2, fun a => ⟨hi, a⟩⟩
    simp only [this]
  · rw [List.getElem?_eq_none (by simp; omega), List.getElem?_eq_none (by simp; omega)]
end Go.Proofs.YthohmpjoeffckaaGreatDoor
namespace Go.Proofs.YthohmpjoeffckaaGreatDoor
open Go Go.RowKit


end Go.Proofs.YthohmpjoeffckaaGreatDoor
namespace Go.Proofs.YthohmpjoeffckaaGreatDoor
open Go Go.RowKit


end Go.Proofs.YthohmpjoeffckaaGreatDoor
namespace Go.Proofs.YthohmpjoeffckaaGreatDoor
open Go Go.RowKit

/-- What stands through CropOf's loops. -/
structure CrR (W H : Int) (A : Option Addr) (n c : Nat) (r : Til.R) (w : World) (g5 ga oa m c' : Nat) (l : List Px) (wr : World) : Prop where
  b1 : Blk wr w.heap.size 24 #[.int .i64 W, .int .i64 H, .slice A n c]
  b2 : Blk wr (w.heap.size + 1) 52 #[.int .i64 r.x, .int .i64 r.y, .int .i64 r.w, .int .i64 r.h]
  b10 : Blk wr (w.heap.size + 1 + 1) 24 #[.int .i64 0, .int .i64 0, .slice none 0 0]
  b11 : Blk wr g5 24 #[.int .i64 r.w, .int .i64 r.h, .slice (some ⟨ga, oa, none⟩) m c']
  own : Own wr (w.heap.size + 3) 4 (.slice (some ⟨ga, oa, none⟩) m c') m (pxCells l)
  ne : ga ≠ g5
  g5h : w.heap.size + 3 ≤ g5
  bel : Below w.heap.size w wr
section
variable {W H : Int} {A : Option Addr} {n c : Nat} {r : Til.R} {w wr w' : World} {g5 ga oa m c' : Nat} {l : List Px}
theorem CrR.step (h : CrR W H A n c r w g5 ga oa m c' l wr) (hb : Below wr.heap.size wr w') : CrR W H A n c r w g5 ga oa m c' l w' :=
  ⟨h.b1.below hb h.b1.lt, h.b2.below hb h.b2.lt, h.b10.below hb h.b10.lt, h.b11.below hb h.b11.lt, h.own.below hb (Nat.le_refl _), h.ne, h.g5h, h.bel.trans (hb.mono (by have := h.b1.lt; omega))⟩
theorem CrR.put (h : CrR W H A n c r w g5 ga oa m c' l wr) (i : Nat) (hi : i < m) (q : Px) : CrR W H A n c r w g5 ga oa m c' (l.set i q) (wr.setCells ga (oa + i * 4) (pxCs q)) := by
  have hg := (h.own.lt ga rfl).1
  exact ⟨h.b1.setCells_ (by omega) _ _, h.b2.setCells_ (by omega) _ _, h.b10.setCells_ (by omega) _ _, h.b11.setCells_ (fun e => h.ne e.symm) _ _, h.own.setPx i hi q, h.ne, h.g5h, Below.setCells_ h.bel (by omega) _ _⟩
end

end Go.Proofs.YthohmpjoeffckaaGreatDoor
namespace Go.Proofs.YthohmpjoeffckaaGreatDoor
open Go Go.RowKit


/-- What stands through the loops that collect tiles. -/
structure ChR (W H : Nat) (A1 : Option Addr) (n c1 : Nat) (A2 : Option Addr) (c2 : Nat) (w : World) (Ar : Option Addr) (N B0 : Nat) (v : Value) (l : List Til.R) (wr : World) : Prop where
  b1 : Blk wr w.heap.size 24 #[.int .i64 W, .int .i64 H, .slice A1 n c1]
  b2 : Blk wr (w.heap.size + 1) 24 #[.int .i64 W, .int .i64 H, .slice A2 n c2]
  rd : Reads wr B0 4 Ar N (rcCells (Til.rects W H))
  own : Own wr B0 4 v l.length (rcCells l)
  hB : w.heap.size + 2 ≤ B0
  lB : B0 ≤ wr.heap.size
  bel : Below w.heap.size w wr
section
variable {W H : Nat} {A1 : Option Addr} {n c1 : Nat} {A2 : Option Addr} {c2 : Nat} {w wr w' : World} {Ar : Option Addr} {N B0 : Nat} {v v' : Value} {l : List Til.R}
theorem ChR.step (h : ChR W H A1 n c1 A2 c2 w Ar N B0 v l wr) (hb : Below wr.heap.size wr w') : ChR W H A1 n c1 A2 c2 w Ar N B0 v l w' :=
  ⟨h.b1.below hb h.b1.lt, h.b2.below hb h.b2.lt, h.rd.below hb h.lB, h.own.below hb (Nat.le_refl _), h.hB, Nat.le_trans h.lB hb.size, h.bel.trans (hb.mono h.bel.size)⟩
theorem ChR.push (h : ChR W H A1 n c1 A2 c2 w Ar N B0 v l wr) (r : Til.R) (ho : Own w' B0 4 v' (l.length + 1) (rcCells (l ++ [r]))) (hg : wr.grownBy w' v.ownBlock) : ChR W H A1 n c1 A2 c2 w Ar N B0 v' (l ++ [r]) w' := by
  have hr : ∀ g, v.ownBlock = some g → B0 ≤ g := fun g e => (h.own.lt g e).1
  have hB := h.hB
  refine ⟨h.b1.grown hg (fun e => by have := hr _ e.symm; omega), h.b2.grown hg (fun e => by have := hr _ e.symm; omega), h.rd.grown hg h.lB hr, ?_, h.hB, Nat.le_trans h.lB hg.size, h.bel.grown hg h.bel.size (fun g e => by have := hr g e; omega)⟩
  rw [List.length_append]
  exact ho
end


end Go.Proofs.YthohmpjoeffckaaGreatDoor
namespace Go.Proofs.YthohmpjoeffckaaGreatDoor
open Go Go.RowKit

theorem pxCells_inj {l m : List Px} (h : pxCells l = pxCells m) : l = m := by
  have hl : l.length = m.length := by
    have := congrArg List.length h
    rw [pxCells_length, pxCells_length] at this
    omega
  apply List.ext_getElem hl
  intro i h1 h2
  have key : ∀ j, j < 4 → (pxCs l[i])[j]? = (pxCs m[i])[j]? := fun j hj => by rw [← pxCells_at l i h1 j hj, ← pxCells_at m i h2 j hj, h]
  have k0 := key 0 (by omega)
  have k1 := key 1 (by omega)
  have k2 := key 2 (by omega)
  have k3 := key 3 (by omega)
  simp [pxCs] at k0 k1 k2 k3
  exact Px.ext' (UInt8.toNat_inj.1 (Int.ofNat.inj k0)) (UInt8.toNat_inj.1 (Int.ofNat.inj k1)) (UInt8.toNat_inj.1 (Int.ofNat.inj k2)) (UInt8.toNat_inj.1 (Int.ofNat.inj k3))
/-- A tile tells what it holds. -/
theorem TileIn.inj {w : World} {t u : TM} (ht : TileIn w t) (hu : TileIn w u) (h : t.b = u.b) : t.l = u.l := by
  have h1 := ht.blk
  have h2 := hu.blk
  rw [h] at h1
  unfold Blk at h1 h2
  rw [h1] at h2
  injection h2 with h2
  injection h2 with h2 _ _
  have ha : t.A = u.A ∧ t.n = u.n := by
    have := congrArg (fun a : Array Value => a[2]?) h2
    simp at this
    exact ⟨this.1, this.2.1⟩
  have hp := ht.px
  have hq := hu.px
  rw [ha.1, ha.2] at hp
  apply pxCells_inj
  apply List.ext_getElem?
  intro j
  by_cases hj : j < u.n * 4
  · obtain ⟨b, off, e, _⟩ := hp.addr (by omega)
    rw [← hp.cell e j hj, ← hq.cell e j hj]
  · rw [List.getElem?_eq_none (by have := hp.1; omega), List.getElem?_eq_none (by have := hq.1; omega)]


/-- What stands through Changed's loop. -/
structure CdR (W H : Nat) (w : World) (Ar : Option Addr) (N B0 : Nat) (v : Value) (l : List Til.R) (wr : World) : Prop where
  rd : Reads wr B0 4 Ar N (rcCells (Til.rects W H))
  own : Own wr B0 4 v l.length (rcCells l)
  hB : w.heap.size ≤ B0
  lB : B0 ≤ wr.heap.size
  bel : Below w.heap.size w wr
section
variable {W H : Nat} {w wr w' : World} {Ar : Option Addr} {N B0 : Nat} {v v' : Value} {l : List Til.R}
theorem CdR.step (h : CdR W H w Ar N B0 v l wr) (hb : Below wr.heap.size wr w') : CdR W H w Ar N B0 v l w' :=
  ⟨h.rd.below hb h.lB, h.own.below hb (Nat.le_refl _), h.hB, Nat.le_trans h.lB hb.size, h.bel.trans (hb.mono h.bel.size)⟩
theorem CdR.push (h : CdR W H w Ar N B0 v l wr) (r : Til.R) (ho : Own w' B0 4 v' (l.length + 1) (rcCells (l ++ [r]))) (hg : wr.grownBy w' v.ownBlock) : CdR W H w Ar N B0 v' (l ++ [r]) w' := by
  have hr : ∀ g, v.ownBlock = some g → B0 ≤ g := fun g e => (h.own.lt g e).1
  have hB := h.hB
  refine ⟨h.rd.grown hg h.lB hr, ?_, h.hB, Nat.le_trans h.lB hg.size, h.bel.grown hg h.bel.size (fun g e => by have := hr g e; omega)⟩
  rw [List.length_append]
  exact ho
end
theorem TsOf.at_ {ps : List Px} {W H : Nat} {ts : List TM} (h : TsOf ps W H ts) {k : Nat} (hk : k < ts.length) {r : Til.R} (hr : (Til.rects W H)[k]? = some r) : ts[k].l = Til.small (Til.crop ps W r) := by
  have h1 := congrArg (fun l => l[k]?) h.px
  simp only [List.getElem?_map, Til.tilesOf, hr, List.getElem?_eq_getElem hk, Option.map_some] at h1
  exact Option.some.inj h1

end Go.Proofs.YthohmpjoeffckaaGreatDoor
/- one: the walk. -/
namespace Go.Proofs.YthohmpjoeffckaaGreatDoor
open Go Go.RowKit

theorem onePlain : Til.plain (Til.tilesOf (List.replicate 4 ⟨5, 0, 0, 0⟩) 2 2) = 1 := by decide
set_option maxRecDepth 100000 in
set_option maxHeartbeats 1000000 in
theorem lawOne_any (w : World) : Calls Tryz.prog 5 #[] w fun e w' => e = .returned (.bool true) ∧ Below w.heap.size w w' := by
  go_enter Tryz.func5, Tryz.ntmps5
  go_wp2_with fail
  refine (blank_any 2 2 4 ⟨5, 0, 0, 0⟩ _ (by omega) (by omega) (by omega) (by omega)).mono ?_
  rintro e w1 ⟨A1, c1, rfl, hO1, hb1⟩
  go_wp2_with fail
  refine (of_good 2 2 A1 4 c1 (List.replicate 4 ⟨5, 0, 0, 0⟩) _ hO1.reads.2 (by omega) (by omega) (by simp)).mono ?_
  rintro e w2 ⟨gG, ts, rfl, hG, hT, hb2⟩
  have hbw := hb1.trans (hb2.mono hb1.size)
  have hl : ts.length ≤ 1000 := by rw [hT.len]; decide
  have HG := Lib.hid hG
  have HT := Lib.hid hT
  clear hO1 hb1 hb2 hG hT
  go_wp2_with fail
  refine (gplain_any gG 2 2 ts (List.replicate 4 ⟨5, 0, 0, 0⟩) _ HG.out HT.out hl).mono ?_
  rw [onePlain]
  rintro e w3 ⟨rfl, rfl⟩
  go_wp2_with fail
  refine (gpicture_any gG 2 2 ts (List.replicate 4 ⟨5, 0, 0, 0⟩) _ HG.out HT.out (by simp) (by omega) (by omega)).mono ?_
  rintro e w4 ⟨A4, c4, rfl, hO4, hb4⟩
  rw [List.length_replicate] at hO4 ⊢
  have hbw4 := hbw.trans (hb4.mono hbw.size)
  have R4 := hO4.reads.2
  clear hO4 hb4 hbw
  go_wp2_with fail
  refine (blank_any 2 2 4 ⟨5, 0, 0, 0⟩ _ (by omega) (by omega) (by omega) (by omega)).mono ?_
  rintro e w5 ⟨A5, c5, rfl, hO5, hb5⟩
  have R5 := hO5.reads.2
  have R45 := (R4.below hb5 (Nat.le_refl _)).more hb5.size
  have hbw5 := hbw4.trans (hb5.mono hbw4.size)
  clear hO5 hb5 R4 hbw4
  go_wp2_with fail
  refine (samePicture_same 2 2 A4 4 c4 A5 c5 (List.replicate 4 ⟨5, 0, 0, 0⟩) _ R45 R5 (by omega)).mono ?_
  rintro e w6 ⟨rfl, hb6⟩
  have hbw6 := hbw5.trans (hb6.mono hbw5.size)
  go_wp2_with fail
  go_ret
  exact ⟨rfl, hbw6⟩
end Go.Proofs.YthohmpjoeffckaaGreatDoor
