/- A tile's pixel, a grid's pixel: the walks. Plain, Size, At of a grid; Of of a picture that is not right: the walks. A grid's picture: the walk. -/
import Derived.Test.YthohmpjoeffckaaDoorGridOf
namespace Go.Proofs.YthohmpjoeffckaaDoor
open Go Go.RowKit

set_option maxRecDepth 100000 in
set_option maxHeartbeats 1000000 in
theorem tat_one (t : TM) (x y : Nat) (q : Px) (w : World) (ht : TileIn w t) (h1 : t.l.length = 1) (hq : t.l.getD 0 default = q) :
    Calls Tryd.prog 33 #[.pointer (some ⟨t.b, 0, none⟩), .int .i64 x, .int .i64 y] w fun e w' => e = .returned (.agg #[.int .u8 q.r.toNat, .int .u8 q.g.toNat, .int .u8 q.b.toNat, .int .u8 q.a.toNat]) ∧ Below w.heap.size w w' := by
  have hn : t.n = 1 := by rw [ht.px.pxLen, h1]
  obtain ⟨tb, tw, th, tA, tn, tc, tl⟩ := t
  simp only at hn h1 hq ⊢
  subst hn
  obtain ⟨b, off, hA, hb⟩ := ht.px.addr (by simp)
  simp only at hA
  subst hA
  have hp := ht.px
  have c0 := (ht.blk.alloc (.cells #[.int .u8 0, .int .u8 0, .int .u8 0, .int .u8 0] 43)).cell
  simp only at hp c0
  obtain ⟨y0, y1, y2, y3⟩ := (hp.alloc (Nat.le_refl _) (.cells #[.int .u8 0, .int .u8 0, .int .u8 0, .int .u8 0] 43)).px 0 (by omega)
  rw [show tl[0] = q by rw [← hq, List.getD_eq_getElem?_getD, List.getElem?_eq_getElem (by omega)]; rfl, Nat.zero_mul, Nat.add_zero] at y0 y1 y2 y3
  have lb := ht.blk.lt
  simp only at lb
  clear hq h1 hp ht
  go_enter Tryd.func33, Tryd.ntmps33
  go_wp2_with fail
  refine bodyPost_ret (v := .agg #[.int .u8 q.r.toNat, .int .u8 q.g.toNat, .int .u8 q.b.toNat, .int .u8 q.a.toNat]) (by simp [results, Tryd.results33, go_sem]) rfl ⟨rfl, by go_grown⟩

set_option maxRecDepth 100000 in
set_option maxHeartbeats 2000000 in
theorem tat_many (t : TM) (x y i : Nat) (q : Px) (w : World) (ht : TileIn w t) (h1 : ¬ t.l.length = 1) (hi : y * t.w + x = i) (hq : t.l[i]? = some q) (hb1 : t.l.length ≤ 1048576) :
    Calls Tryd.prog 33 #[.pointer (some ⟨t.b, 0, none⟩), .int .i64 x, .int .i64 y] w fun e w' => e = .returned (.agg #[.int .u8 q.r.toNat, .int .u8 q.g.toNat, .int .u8 q.b.toNat, .int .u8 q.a.toNat]) ∧ Below w.heap.size w w' := by
  obtain ⟨hil, hqe⟩ := List.getElem?_eq_some_iff.1 hq
  have hn := ht.px.pxLen
  obtain ⟨tb, tw, th, tA, tn, tc, tl⟩ := t
  simp only at hn h1 hq hi hil hqe hb1 ⊢
  obtain ⟨b, off, hA, hb⟩ := ht.px.addr (by simp only; omega)
  simp only at hA
  subst hA
  have hp := ht.px
  have c0 := (ht.blk.alloc (.cells #[.int .u8 0, .int .u8 0, .int .u8 0, .int .u8 0] 43)).cell
  simp only at hp c0
  obtain ⟨y0, y1, y2, y3⟩ := (hp.alloc (Nat.le_refl _) (.cells #[.int .u8 0, .int .u8 0, .int .u8 0, .int .u8 0] 43)).px i hil
  rw [hqe] at y0 y1 y2 y3
  have lb := ht.blk.lt
  obtain ⟨z, hz⟩ : ∃ z, y * tw = z := ⟨_, rfl⟩
  rw [hz] at hi
  have hz' : (y : Int) * (tw : Int) = (z : Int) := by rw [← hz, Int.natCast_mul]
  have hw1 : IntKind.i64.wrap ((y : Int) * (tw : Int)) = (z : Int) := by rw [hz']; exact IntWalk.i64_in _ (by omega)
  have hp4 : (z : Int) + (x : Int) = (i : Int) := by rw [← hi, Int.natCast_add]
  have hw2 : IntKind.i64.wrap ((z : Int) + (x : Int)) = (i : Int) := by rw [hp4]; exact IntWalk.i64_in _ (by omega)
  have hw3 : IntKind.i64.wrap (z : Int) = (z : Int) := IntWalk.i64_in _ (by omega)
  have hw4 : IntKind.i64.wrap (i : Int) = (i : Int) := IntWalk.i64_in _ (by omega)
  have i0 : (0 : Int) ≤ (i : Int) := by omega
  have i1 : (i : Int) < (tn : Int) := by omega
  have n1 : ¬ (tn : Int) = 1 := by omega
  simp only at lb
  clear hqe hq hz hi hp ht h1 hn
  go_enter Tryd.func33, Tryd.ntmps33
  go_wp2_with fail
  go_region
  all_goals
    go_wp2_with fail
    refine bodyPost_ret (v := .agg #[.int .u8 q.r.toNat, .int .u8 q.g.toNat, .int .u8 q.b.toNat, .int .u8 q.a.toNat]) (by simp [results, Tryd.results33, go_sem]) rfl ⟨rfl, by first | go_grown | go_show⟩

theorem tmCells_at (ts : List TM) (k : Nat) (hk : k < ts.length) : (tmCells ts)[k]? = some (tmPtr ts[k]) := by simp [tmCells, hk]
/-- A tile's pixel, however many pixels it keeps. -/
theorem tat_any (t : TM) (x y : Nat) (q : Px) (w : World) (ht : TileIn w t) (hq : Til.tileAt t.l t.w x y = q) (hi : t.l.length = 1 ∨ y * t.w + x < t.l.length) (hb1 : t.l.length ≤ 1048576) :
    Calls Tryd.prog 33 #[.pointer (some ⟨t.b, 0, none⟩), .int .i64 x, .int .i64 y] w fun e w' => e = .returned (.agg #[.int .u8 q.r.toNat, .int .u8 q.g.toNat, .int .u8 q.b.toNat, .int .u8 q.a.toNat]) ∧ Below w.heap.size w w' := by
  unfold Til.tileAt at hq
  by_cases h1 : t.l.length = 1
  · rw [if_pos h1] at hq
    exact tat_one t x y q w ht h1 hq
  · rw [if_neg h1] at hq
    have h2 : y * t.w + x < t.l.length := by
      rcases hi with h | h
      · exact absurd h h1
      · exact h
    refine tat_many t x y _ q w ht h1 rfl ?_ hb1
    rw [List.getD_eq_getElem?_getD, List.getElem?_eq_getElem h2] at hq
    rw [List.getElem?_eq_getElem h2]
    exact congrArg some hq

set_option maxRecDepth 100000 in
set_option maxHeartbeats 2000000 in
theorem gpixel_any (gb W H : Nat) (ts : List TM) (ps : List Px) (x y : Nat) (q : Px) (w : World) (hg : Gd w gb W H ts) (ht : TsOf ps W H ts) (hW : 1 ≤ W ∧ W ≤ 256) (hH : 1 ≤ H ∧ H ≤ 256) (hx : x < W) (hy : y < H) (hq : ps.getD (y * W + x) default = q) :
    Calls Tryd.prog 18 #[.pointer (some ⟨gb, 0, none⟩), .int .i64 x, .int .i64 y] w fun e w' => e = .returned (.agg #[.int .u8 q.r.toNat, .int .u8 q.g.toNat, .int .u8 q.b.toNat, .int .u8 q.a.toNat]) ∧ Below w.heap.size w w' := by
  obtain ⟨hW1, hW2⟩ := hW
  obtain ⟨hH1, hH2⟩ := hH
  have hrg := Til.rects_get W H x y hx hy
  obtain ⟨r, hr⟩ : ∃ r, Til.rectAt W H (x / 16) (y / 16) = r := ⟨_, rfl⟩
  have hpix := Til.pixelOf_tiles ps W H x y hx hy
  obtain ⟨k, hk⟩ : ∃ k, y / 16 * Til.cols W + x / 16 = k := ⟨_, rfl⟩
  rw [hk, hr] at hrg
  obtain ⟨hkl, hkr⟩ := List.getElem?_eq_some_iff.1 hrg
  have hkt : k < ts.length := by rw [ht.len, ← Til.rects_length]; exact hkl
  have htl : ts[k].l = Til.small (Til.crop ps W r) := by
    have h1 := congrArg (fun l => l[k]?) ht.px
    simp only [List.getElem?_map, Til.tilesOf, hrg, List.getElem?_eq_getElem hkt, Option.map_some] at h1
    exact Option.some.inj h1
  have htw : ts[k].w = r.w := by
    have h1 := congrArg (fun l => l[k]?) ht.wd
    simp only [List.getElem?_map, hrg, List.getElem?_eq_getElem hkt, Option.map_some] at h1
    exact Option.some.inj h1
  have hin := Til.rects_in (List.mem_of_getElem? hrg)
  have hxr : x % 16 < r.w := by rw [← hr]; simp only [Til.rectAt]; omega
  have hyr : y % 16 < r.h := by rw [← hr]; simp only [Til.rectAt]; omega
  have hcl := Til.crop_length ps W r
  have hil := Til.index_lt hxr hyr
  have hta : Til.tileAt ts[k].l ts[k].w (x % 16) (y % 16) = q := by
    rw [htl, htw, ← hq, ← hpix, Til.pixelOf, hr, hk]
    have h1 : (Til.tilesOf ps W H).getD k [] = Til.small (Til.crop ps W r) := by
      rw [List.getD_eq_getElem?_getD, Til.tilesOf, List.getElem?_map, hrg]
      rfl
    rw [h1]
  have hsl : ts[k].l.length = 1 ∨ y % 16 * ts[k].w + x % 16 < ts[k].l.length := by
    rw [htl, htw]
    unfold Til.small
    split
    · left
      rw [List.length_take]
      omega
    · right
      rw [hcl]
      exact hil
  have hsz : ts[k].l.length ≤ 1048576 := by
    have h16 := Nat.mul_le_mul hin.h16 hin.w16
    rw [htl]
    unfold Til.small
    split
    · rw [List.length_take]; omega
    · rw [hcl]; omega
  obtain ⟨A, c, hbG, hrd⟩ := hg.ex
  obtain ⟨b, off, rfl, hb⟩ := hrd.addr (by omega)
  have hz0 := (hrd.alloc (Nat.le_refl _) (.cells #[.int .u8 0, .int .u8 0, .int .u8 0, .int .u8 0] 43)).cell rfl k (by omega)
  rw [tmCells_at ts k hkt] at hz0
  have hti := hg.ti ts[k] (List.getElem_mem hkt)
  obtain ⟨t, hte⟩ : ∃ t, ts[k] = t := ⟨_, rfl⟩
  rw [hte] at hz0 hti hta hsl hsz
  unfold tmPtr at hz0
  have cG := (hbG.alloc (.cells #[.int .u8 0, .int .u8 0, .int .u8 0, .int .u8 0] 43)).cell
  have lG := hbG.lt
  have HTA := Lib.hid hta
  have HSL := Lib.hid hsl
  have HSZ := Lib.hid hsz
  have HTI := Lib.hid (hti.step (Below.alloc (Below.refl _ _) (Nat.le_refl _) (.cells #[.int .u8 0, .int .u8 0, .int .u8 0, .int .u8 0] 43)))
  obtain ⟨N, hN⟩ : ∃ N, ts.length = N := ⟨_, rfl⟩
  rw [hN] at hkt cG
  obtain ⟨cw, hcw⟩ : ∃ cw, Til.cols W = cw := ⟨_, rfl⟩
  rw [hcw] at hk
  have e1 : ((W : Int) + 16 - 1) / 16 = (cw : Int) := by rw [← hcw]; unfold Til.cols; omega
  have hcw16 : cw ≤ 16 := by rw [← hcw]; unfold Til.cols; omega
  obtain ⟨jy, hjy⟩ : ∃ jy, y / 16 = jy := ⟨_, rfl⟩
  obtain ⟨ix, hix⟩ : ∃ ix, x / 16 = ix := ⟨_, rfl⟩
  rw [hjy, hix] at hk
  have e2 : (y : Int) / 16 = (jy : Int) := by rw [← hjy]; omega
  have e3 : (x : Int) / 16 = (ix : Int) := by rw [← hix]; omega
  obtain ⟨rx, hrx⟩ : ∃ rx, x % 16 = rx := ⟨_, rfl⟩
  obtain ⟨ry, hry⟩ : ∃ ry, y % 16 = ry := ⟨_, rfl⟩
  rw [hrx, hry] at HTA HSL
  have e4 : (x : Int) % 16 = (rx : Int) := by rw [← hrx]; omega
  have e5 : (y : Int) % 16 = (ry : Int) := by rw [← hry]; omega
  obtain ⟨z, hz⟩ : ∃ z, jy * cw = z := ⟨_, rfl⟩
  rw [hz] at hk
  have hzb : z ≤ 256 := by rw [← hz]; have := Nat.mul_le_mul (show jy ≤ 16 by omega) hcw16; omega
  have hzz : (jy : Int) * (cw : Int) = (z : Int) := by rw [← hz, Int.natCast_mul]
  have hw1 : IntKind.i64.wrap ((jy : Int) * (cw : Int)) = (z : Int) := by rw [hzz]; exact IntWalk.i64_in _ (by omega)
  have e6 : (z : Int) + (ix : Int) = (k : Int) := by rw [← hk, Int.natCast_add]
  have hw2 : IntKind.i64.wrap ((z : Int) + (ix : Int)) = (k : Int) := by rw [e6]; exact IntWalk.i64_in _ (by omega)
  have k0 : (0 : Int) ≤ (k : Int) := by omega
  have k1 : (k : Int) < (N : Int) := by omega
  clear hta hsl hsz hti hte hrg hr hpix hk hkl hkr htl htw hin hxr hyr hcl hil hq hN hcw hjy hix hrx hry hz hrd hbG
  go_enter Tryd.func18, Tryd.ntmps18
  go_wp2_with fail
  refine (tat_any t rx ry q _ HTI.out HTA.out HSL.out HSZ.out).mono ?_
  rintro e w2 ⟨rfl, hb2⟩
  have B2 := (Blk.new w 43 #[.int .u8 0, .int .u8 0, .int .u8 0, .int .u8 0] rfl).below hb2 (by simp)
  have c2 := B2.cell
  have f2 := B2.free
  have hbw : Below w.heap.size w w2 := Below.trans (by go_grown) (hb2.mono (by simp))
  clear hb2
  go_wp2_with fail
  refine bodyPost_ret (v := .agg #[.int .u8 q.r.toNat, .int .u8 q.g.toNat, .int .u8 q.b.toNat, .int .u8 q.a.toNat]) (by simp [results, Tryd.results18, go_sem, c2]) rfl ⟨rfl, ?_⟩
  exact ((((hbw.setCell (Nat.le_refl _) _).setCell (Nat.le_refl _) _).setCell (Nat.le_refl _) _).setCell (Nat.le_refl _) _)
end Go.Proofs.YthohmpjoeffckaaDoor
namespace Go.Proofs.YthohmpjoeffckaaDoor
open Go Go.RowKit

set_option maxRecDepth 100000 in
set_option maxHeartbeats 1000000 in
theorem gplain_any (gb W H : Nat) (ts : List TM) (ps : List Px) (w : World) (hg : Gd w gb W H ts) (ht : TsOf ps W H ts) (hn : ts.length ≤ 1000) :
    Calls Tryd.prog 11 #[.pointer (some ⟨gb, 0, none⟩)] w fun e w' => e = .returned (.int .i64 (Til.plain (Til.tilesOf ps W H))) ∧ w' = w := by
  obtain ⟨A, c, hbG, hrd⟩ := hg.ex
  have HP := Lib.hid (show Til.plain (Til.tilesOf ps W H) = Til.plain ((ts.map (·.l)).take ts.length) by rw [← ht.px, List.take_of_length_le (by simp)])
  have HG := Lib.hid hg
  have d2 : w.cell? ⟨gb, 2, none⟩ = some (.slice A ts.length c) := (hbG.cell 2).trans rfl
  obtain ⟨N, hN⟩ : ∃ N, ts.length = N := ⟨_, rfl⟩
  rw [hN] at d2 hn HP
  have HN := Lib.hid hN
  have HRD := Lib.hid hrd
  clear hg hbG hrd hN ht
  go_enter Tryd.func11, Tryd.ntmps11
  go_wp2_with fail
  go_loopw [3, 13] (fun z i wr => ∃ k p : Nat, k ≤ N ∧ p ≤ k ∧ i = .int .i64 k ∧ z = .int .i64 p ∧ wr = w ∧ p = Til.plain ((ts.map (·.l)).take k)) (fun _ i _ => N - (intOf i).toNat)
  case atStart => exact ⟨0, 0, Nat.zero_le _, Nat.le_refl _, rfl, rfl, rfl, rfl⟩
  case round =>
    obtain ⟨k, p, hk, hpk, rfl, rfl, rfl, hp⟩ := hrel
    have HPK := Lib.hid hp
    clear hp
    by_cases hlt : k < N
    · have hkt : k < ts.length := by rw [HN.out]; exact hlt
      have hrd := HRD.out
      obtain ⟨b, off, rfl, hb⟩ := hrd.addr (by omega)
      have z0 := hrd.cell rfl k (by omega)
      rw [tmCells_at ts k hkt] at z0
      unfold tmPtr at z0
      have hti := HG.out.ti ts[k] (List.getElem_mem hkt)
      have HTK := Lib.hid (show (ts.map (·.l)).take (k + 1) = (ts.map (·.l)).take k ++ [ts[k].l] by rw [List.take_succ_eq_append_getElem (by simpa using hkt)]; simp)
      obtain ⟨t, hte⟩ : ∃ t, ts[k] = t := ⟨_, rfl⟩
      rw [hte] at z0 hti HTK
      have t2 : wr.cell? ⟨t.b, 2, none⟩ = some (.slice t.A t.n t.c) := (hti.blk.cell 2).trans rfl
      have hln := hti.px.pxLen
      have HLN := Lib.hid hln
      clear hrd hti hte hln hkt
      by_cases h1 : t.n = 1
      · rw [h1] at t2
        have HS := Lib.hid (show p + 1 = Til.plain ((ts.map (·.l)).take (k + 1)) by rw [HTK.out, Til.plain_snoc, ← HPK.out, if_pos (by rw [← HLN.out]; exact h1)])
        clear h1
        go_wp2_with fail
        go_roundw
        case rel => exact ⟨k + 1, p + 1, by omega, by omega, by go_num, by go_num, trivial, HS.out⟩
        case measure => simp [intOf]; omega
      · have h1' : ¬ (t.n : Int) = 1 := by omega
        have HS := Lib.hid (show p = Til.plain ((ts.map (·.l)).take (k + 1)) by rw [HTK.out, Til.plain_snoc, ← HPK.out, if_neg (by rw [← HLN.out]; exact h1)]; rfl)
        clear h1
        go_wp2_with fail
        go_roundw
        case rel => exact ⟨k + 1, p, by omega, by omega, by go_num, rfl, trivial, HS.out⟩
        case measure => simp [intOf]; omega
    · have e : k = N := by omega
      have HE := Lib.hid (show p = Til.plain (Til.tilesOf ps W H) by rw [HP.out, HPK.out, e])
      go_wp2_with fail
      go_ret
      exact ⟨(by rw [← HE.out]; rfl), rfl⟩




end Go.Proofs.YthohmpjoeffckaaDoor
namespace Go.Proofs.YthohmpjoeffckaaDoor
open Go Go.RowKit

set_option maxRecDepth 100000 in
set_option maxHeartbeats 4000000 in
theorem gpicture_any (gb W H : Nat) (ts : List TM) (ps : List Px) (w : World) (hg : Gd w gb W H ts) (ht : TsOf ps W H ts) (hn : ps.length = H * W) (hW : 1 ≤ W ∧ W ≤ 256) (hH : 1 ≤ H ∧ H ≤ 256) :
    Calls Tryd.prog 8 #[.pointer (some ⟨gb, 0, none⟩)] w
      fun e w' => ∃ A' c', e = .returned (.agg #[.int .i64 W, .int .i64 H, .slice A' ps.length c']) ∧ Own w' w.heap.size 4 (.slice A' ps.length c') ps.length (pxCells ps) ∧ Below w.heap.size w w' := by
  obtain ⟨i0, hi, hz0, hz1, hz2⟩ := info_parts pxInfo
  obtain ⟨f, hf⟩ : ∃ f : Nat → Nat → Px, f = fun x y => ps.getD (y * W + x) default := ⟨_, rfl⟩
  have HGR := Lib.hid (show Lay.grid f W H = ps by rw [hf]; exact Til.grid_of ps W H hn)
  have HF := Lib.hid hf
  have HG := Lib.hid hg
  have HT := Lib.hid ht
  obtain ⟨hW1, hW2⟩ := hW
  obtain ⟨hH1, hH2⟩ := hH
  obtain ⟨A, c, hbG, _⟩ := hg.ex
  have HBG := Lib.hid hbG
  have hlg := hbG.lt
  have d0 : w.cell? ⟨gb, 0, none⟩ = some (.int .i64 W) := (hbG.cell 0).trans rfl
  have d1 : w.cell? ⟨gb, 1, none⟩ = some (.int .i64 H) := (hbG.cell 1).trans rfl
  have p0 := fun o => cell_past (w := w) o d0
  have p1 := fun o => cell_past (w := w) o d1
  have q0 := fun o o2 => cell_past (w := w.alloc o) o2 (cell_past (w := w) o d0)
  have q1 := fun o o2 => cell_past (w := w.alloc o) o2 (cell_past (w := w) o d1)
  clear hg ht hn hf hbG
  go_enter Tryd.func8, Tryd.ntmps8
  go_wp2_with fail
  go_region
  obtain ⟨w2, hw2⟩ : ∃ w2, w2 = ((w.alloc (.cells #[.int .i64 0, .int .i64 0, .slice none 0 0] 24)).alloc (.cells #[.int .i64 W, .int .i64 H, .slice none 0 0] 24)).drew := ⟨_, rfl⟩
  have F0 : EaR W H w (.slice none 0 0) [] w2 := by
    rw [hw2]
    exact ⟨((Blk.new _ _ _ rfl).alloc _).drew, (Blk.new _ _ _ (by simp)).drew, Own.nil _ _ _, (show Below w.heap.size w ((w.alloc (.cells #[.int .i64 0, .int .i64 0, .slice none 0 0] 24)).alloc (.cells #[.int .i64 W, .int .i64 H, .slice none 0 0] 24)) by go_grown).drew⟩
  rw [← hw2]
  clear hw2 p0 p1 q0 q1
  have e1 : w2.cell? ⟨gb, 1, none⟩ = some (.int .i64 H) := bkeep F0.bel d1
  go_wp2_with fail
  go_loopw [22] (fun i wr => ∃ (k : Nat) (v : Value), k ≤ H ∧ i = .int .i64 k ∧ EaR W H w v (Lay.grid f W k) wr) (fun i _ => H - (intOf i).toNat)
  case atStart => exact ⟨0, _, Nat.zero_le _, rfl, F0⟩
  case round =>
    clear F0 e1
    obtain ⟨k, v0, hk, rfl, F0⟩ := hrel
    obtain ⟨wo, rfl⟩ : ∃ wo : World, wo = wr := ⟨_, rfl⟩
    have e0 : wo.cell? ⟨gb, 0, none⟩ = some (.int .i64 W) := bkeep F0.bel d0
    have c5 := F0.b5.cell
    have c1' := F0.b1.cell
    have f1 := F0.b1.free
    by_cases hlt : k < H
    · go_wp2_with fail
      go_loopw [29] (fun i wr => ∃ (j : Nat) (v : Value), j ≤ W ∧ i = .int .i64 j ∧ EaR W H w v (Lay.gridTo f W k j) wr) (fun i _ => W - (intOf i).toNat)
      case atStart => exact ⟨0, v0, Nat.zero_le _, rfl, by rw [Lay.gridTo_zero]; exact F0⟩
      case round =>
        clear F0 c5 c1' f1 e0
        obtain ⟨j, v, hj, rfl, F⟩ := hrel
        obtain ⟨wi, rfl⟩ : ∃ wi : World, wi = wr := ⟨_, rfl⟩
        by_cases hjl : j < W
        · obtain ⟨Av, cv, rfl, hcv, _⟩ := F.own.form
          have hlen := Lay.gridTo_length f W k j
          obtain ⟨l, hl⟩ : ∃ l, l = Lay.gridTo f W k j := ⟨_, rfl⟩
          rw [← hl] at F hlen
          have hll : l.length ≤ 131072 := by
            have := Nat.mul_le_mul hk hW2
            have : H * 256 ≤ 65536 := by omega
            omega
          have HL := Lib.hid hl
          clear hl hlen
          obtain ⟨q, hq⟩ : ∃ q, f j k = q := ⟨_, rfl⟩
          have HQ := Lib.hid hq
          clear hq
          have HC := Lib.hid (gpixel_any gb W H ts ps j k q wi.drew ((HG.out.step F.bel).step (Below.here wi)) HT.out ⟨hW1, hW2⟩ ⟨hH1, hH2⟩ hjl hlt (by rw [← HQ.out, HF.out]))
          have s5 : wi.cell? ⟨w.heap.size + 1, 2, none⟩ = some (.slice Av l.length cv) := (F.b5.cell 2).trans rfl
          have h5l := F.b5.lt
          go_wp2_with fail
          have p5 := fun o => cell_past (w := wi) o s5
          go_region_law
            (first
              | (refine step_append_Own _ rfl (.tmp 33) (.tmp 38) 22 22 rfl (w.heap.size + 2) 43 i0 _ 4 4 Tryd.underlying22 hi hz0 hz1 hz2 rfl (by decide) (.slice Av l.length cv) l.length (pxCells l) rfl ((F.own.below (Below.fromDrew hbA) (Nat.le_refl _)).alloc _) (pxCells_one _) 1 (pxCs q) (Src.blk Tryd.underlying22 (Blk.new _ _ _ rfl) rfl (pxCells_one [q])) (by unfold maxLen; omega) (by omega) (by simp; omega) ?_; intro vT wT hownT hgT hatT; obtain ⟨AT, cT, rfl, hcT, _⟩ := hownT.form; have t5 : wT.cell? ⟨w.heap.size + 1, 2, none⟩ = some (.slice Av l.length cv) := (hgT.cell_far ⟨w.heap.size + 1, 2, none⟩ (by simp; omega) (fun e => F.n5 e.symm)).trans (cell_past _ (bkeep hbA s5)); have f5 : wT.frozen? ⟨w.heap.size + 1, 2, none⟩ = false := (hgT.frozen_far ⟨w.heap.size + 1, 2, none⟩ (by simp; omega) (fun e => F.n5 e.symm)).trans (free_past _ (by simp; omega) (bfree_ hbA h5l (F.b5.free 2))))
              | (go_simp; go_at_call 18; refine HC.out.mono ?_; rintro e wA ⟨rfl, hbA⟩; have hzA : wi.heap.size ≤ wA.heap.size := hbA.size; have a5 := bkeep hbA s5; have r5 := fun o => cell_past (w := wA) o a5))
          all_goals
            have F9 := F.push (Below.fromDrew hbA) hownT hgT
            have HF9 := Lib.hid F9
            clear F9 hownT hgT hatT t5 f5 a5 r5 p5 s5
            go_wp2_with fail
            go_roundw
            case rel => exact ⟨j + 1, _, by omega, by go_num, by rw [Lay.gridTo_succ, HQ.out, ← HL.out]; exact HF9.out⟩
            case measure => simp [intOf]; omega
        · go_wp2_with fail
          have e : j = W := by omega
          subst e
          rw [Lay.gridTo_full] at F
          go_roundw
          case rel => exact ⟨k + 1, v, by omega, by go_num, F⟩
          case measure => simp [intOf]; omega
    · have e : k = H := by omega
      rw [e] at F0
      have ho := F0.own
      rw [HGR.out] at ho
      obtain ⟨Av, cv, hv, hcv, _⟩ := ho.form
      subst hv
      have n1 : (Value.slice Av ps.length cv).ownBlock ≠ some w.heap.size := fun e => by have := (ho.lt _ e).1; omega
      have HO := Lib.hid ho
      have HN1 := Lib.hid n1
      clear ho n1 e
      go_wp2_with fail
      refine bodyPost_ret (v := .agg #[.int .i64 W, .int .i64 H, .slice Av ps.length cv]) (by simp [results, Tryd.results8, go_sem, c1']) rfl ⟨Av, cv, rfl, ?_, ?_⟩
      · exact (((HO.out.setCell HN1.out _).setCell HN1.out _).setCell HN1.out _).mono (by omega)
      · exact (((F0.bel.setCell (Nat.le_refl _) _).setCell (Nat.le_refl _) _).setCell (Nat.le_refl _) _)
end Go.Proofs.YthohmpjoeffckaaDoor
