/- Grid.changed: the walk. Grid.changed: the walk. Are two pictures of one size the same? slices.Equal of pixels: the walks. The reference's CropOf: the walk. The reference's ChangedOf; sameRects: the walks. tile.same, tiles.Changed: the walks. -/
import Derived.Test.YthohmpjoeffckaaDoorGridPix
import Derived.Test.YthohmpjoeffckaaDoorTileLaw
import Derived.Test.YthohmpjoeffckaaDoorBase
import Derived.Deep.RegionHeld3
import Derived.Test.YthohmpjoeffckaaDoorGridOf
import Derived.IntWalk
import Derived.Deep.QuietTactic
import Derived.BigQuiet
import Derived.LaidEqlPtr
namespace Go.Proofs.YthohmpjoeffckaaDoor
open Go Go.RowKit


theorem tmCells_set (ts : List TM) (k : Nat) (t : TM) : tmCells (ts.set k t) = (tmCells ts).set k (tmPtr t) := by simp [tmCells, List.map_set]
theorem Own.setTm {w : World} {base n c g off : Nat} {ts : List TM} (h : Own w base 1 (.slice (some ⟨g, off, none⟩) n c) n (tmCells ts)) (k : Nat) (hk : k < n) (t : TM) :
    Own (w.setCell ⟨g, off + k, none⟩ (tmPtr t)) base 1 (.slice (some ⟨g, off, none⟩) n c) n (tmCells (ts.set k t)) := by
  have hl : n = ts.length := by have := h.1; rw [tmCells_length] at this; omega
  have := h.setOne k hk [tmPtr t] (tmCells (ts.set k t)) rfl (by rw [tmCells_length, List.length_set, hl]; omega)
    (fun j hj => by
      have e : j = 0 := by omega
      subst e
      rw [tmCells_set, Nat.mul_one, Nat.add_zero, List.getElem?_set_self (by rw [tmCells_length]; omega)]
      rfl)
    (fun j hj => by rw [tmCells_set, List.getElem?_set_ne (by omega)])
  rw [Nat.mul_one] at this
  exact this
/-- A grid that was made above a block out of the tiles of another one. -/
structure GdNew (B : Nat) (w : World) (ts : List TM) (gG W H : Nat) (A : Option Addr) (c : Nat) (ts' : List TM) : Prop where
  g : B ≤ gG
  blk : Blk w gG 47 #[.int .i64 W, .int .i64 H, .slice A ts'.length c]
  rd : Reads w w.heap.size 1 A ts'.length (tmCells ts')
  a : ∀ b off, A = some ⟨b, off, none⟩ → B ≤ b
  ti : ∀ t ∈ ts', TileIn w t
  mem : ∀ t ∈ ts', t ∈ ts ∨ Above B t
theorem GdNew.gd {B : Nat} {w : World} {ts : List TM} {gG W H : Nat} {A : Option Addr} {c : Nat} {ts' : List TM} (h : GdNew B w ts gG W H A c ts') : Gd w gG W H ts' := ⟨⟨A, c, h.blk, h.rd⟩, h.ti⟩
theorem GdNew.low {B C : Nat} {w : World} {ts : List TM} {gG W H : Nat} {A : Option Addr} {c : Nat} {ts' : List TM} (h : GdNew B w ts gG W H A c ts') (hC : C ≤ B) : GdNew C w ts gG W H A c ts' :=
  ⟨Nat.le_trans hC h.g, h.blk, h.rd, fun b off e => Nat.le_trans hC (h.a b off e), h.ti, fun t ht => (h.mem t ht).imp id fun a => a.mono hC⟩
theorem GdNew.step {B : Nat} {w w' : World} {ts : List TM} {gG W H : Nat} {A : Option Addr} {c : Nat} {ts' : List TM} (h : GdNew B w ts gG W H A c ts') (hb : Below w.heap.size w w') : GdNew B w' ts gG W H A c ts' :=
  ⟨h.g, h.blk.below hb h.blk.lt, (h.rd.below hb (Nat.le_refl _)).more hb.size, h.a, fun t ht => (h.ti t ht).step hb, h.mem⟩
/-- What stands through changed's loop. -/
structure GcR (W H : Nat) (A : Option Addr) (n c : Nat) (X Y Wr Hr : Int) (w : World) (gG ga oa c' N : Nat) (Ar : Option Addr) (ts0 ts : List TM) (wr : World) : Prop where
  b1 : Blk wr w.heap.size 24 #[.int .i64 W, .int .i64 H, .slice A n c]
  b2 : Blk wr (w.heap.size + 1) 50 #[.int .i64 X, .int .i64 Y, .int .i64 Wr, .int .i64 Hr]
  bG : Blk wr gG 47 #[.int .i64 W, .int .i64 H, .slice (some ⟨ga, oa, none⟩) N c']
  own : Own wr (w.heap.size + 2) 1 (.slice (some ⟨ga, oa, none⟩) N c') N (tmCells ts)
  rd : Reads wr wr.heap.size 4 Ar N (rcCells (Til.rects W H))
  rne : ∀ b off, Ar = some ⟨b, off, none⟩ → ga < b
  ti : ∀ t ∈ ts, TileIn wr t
  off : ∀ t ∈ ts, Off (some ga) t
  ne : ga ≠ gG
  gh : w.heap.size + 2 ≤ gG
  mem : ∀ t ∈ ts, t ∈ ts0 ∨ Above w.heap.size t
  bel : Below w.heap.size w wr
section
variable {W H : Nat} {A : Option Addr} {n c : Nat} {X Y Wr Hr : Int} {w wr w' : World} {gG ga oa c' N : Nat} {Ar : Option Addr} {ts0 ts : List TM}
theorem GcR.step (h : GcR W H A n c X Y Wr Hr w gG ga oa c' N Ar ts0 ts wr) (hb : Below wr.heap.size wr w') : GcR W H A n c X Y Wr Hr w gG ga oa c' N Ar ts0 ts w' :=
  ⟨h.b1.below hb h.b1.lt, h.b2.below hb h.b2.lt, h.bG.below hb h.bG.lt, h.own.below hb (Nat.le_refl _), (h.rd.below hb (Nat.le_refl _)).more hb.size, h.rne, fun t ht => (h.ti t ht).step hb, h.off, h.ne, h.gh, h.mem, h.bel.trans (hb.mono h.bel.size)⟩
theorem GcR.put (h : GcR W H A n c X Y Wr Hr w gG ga oa c' N Ar ts0 ts wr) (k : Nat) (hk : k < N) (t : TM) (ht : TileIn wr t) (hta : Off (some ga) t) (hab : Above w.heap.size t) : GcR W H A n c X Y Wr Hr w gG ga oa c' N Ar ts0 (ts.set k t) (wr.setCell ⟨ga, oa + k, none⟩ (tmPtr t)) := by
  have hg := (h.own.lt ga rfl).1
  have hall : ∀ s ∈ ts.set k t, TileIn wr s ∧ Off (some ga) s := by
    intro s hs
    rcases List.mem_or_eq_of_mem_set hs with hs | rfl
    · exact ⟨h.ti s hs, h.off s hs⟩
    · exact ⟨ht, hta⟩
  refine ⟨h.b1.far (by simp; omega) _, h.b2.far (by simp; omega) _, h.bG.far (fun e => h.ne e.symm) _, h.own.setTm k hk t, ?_, h.rne, fun s hs => (hall s hs).1.set_ (hall s hs).2 _, fun s hs => (hall s hs).2, h.ne, h.gh, fun s hs => ?_, h.bel.setCell (by simp; omega) _⟩
  · exact h.rd.keepAt (by simp [World.setCell]) fun b off e _ _ => Below.heap_setCell wr _ _ b (fun e2 => by have := h.rne b off e; simp at e2; omega)
  · rcases List.mem_or_eq_of_mem_set hs with hs | rfl
    · exact h.mem s hs
    · exact .inr hab
theorem GcR.new (h : GcR W H A n c X Y Wr Hr w gG ga oa c' N Ar ts0 ts wr) (hn : N = ts.length) : GdNew w.heap.size wr ts0 gG W H (some ⟨ga, oa, none⟩) c' ts := by
  subst hn
  exact ⟨by have := h.gh; omega, h.bG, h.own.reads.2, fun b off e => by injection e with e; injection e with e; have := (h.own.lt ga rfl).1; omega, h.ti, h.mem⟩
end
/-- What the tiles are, the first k made anew where they are touched. -/
def ChgTo (ps qs : List Px) (W H : Nat) (X Y Wr Hr : Int) (k : Nat) (ts : List TM) : Prop :=
  ts.map (·.w) = (Til.rects W H).map (·.w) ∧ ∀ i r, (Til.rects W H)[i]? = some r → ts[i]?.map (·.l) = some (if i < k ∧ Til.touches r X Y Wr Hr = true then Til.small (Til.crop qs W r) else Til.small (Til.crop ps W r))
theorem ChgTo.zero {ps qs : List Px} {W H : Nat} {X Y Wr Hr : Int} {ts : List TM} (h : TsOf ps W H ts) : ChgTo ps qs W H X Y Wr Hr 0 ts := by
  refine ⟨h.wd, fun i r hr => ?_⟩
  have := congrArg (fun l => l[i]?) h.px
  simp only [List.getElem?_map, Til.tilesOf, hr, Option.map_some] at this
  rw [this, if_neg (by omega)]
theorem ChgTo.keep {ps qs : List Px} {W H : Nat} {X Y Wr Hr : Int} {k : Nat} {ts : List TM} {r : Til.R} (h : ChgTo ps qs W H X Y Wr Hr k ts) (hr : (Til.rects W H)[k]? = some r) (ht : Til.touches r X Y Wr Hr = false) : ChgTo ps qs W H X Y Wr Hr (k + 1) ts := by
  refine ⟨h.1, fun i s hs => ?_⟩
  rw [h.2 i s hs]
  by_cases e : i = k
  · subst e
    rw [hr] at hs
    injection hs with hs
    subst hs
    rw [ht]
    simp
  · have : (i < k ∧ Til.touches s X Y Wr Hr = true) ↔ (i < k + 1 ∧ Til.touches s X Y Wr Hr = true) := by
      constructor
      · rintro ⟨a, b⟩; exact ⟨by omega, b⟩
      · rintro ⟨a, b⟩; exact ⟨by omega, b⟩
    simp only [this]
theorem ChgTo.put {ps qs : List Px} {W H : Nat} {X Y Wr Hr : Int} {k : Nat} {ts : List TM} {r : Til.R} {t : TM} (h : ChgTo ps qs W H X Y Wr Hr k ts) (hr : (Til.rects W H)[k]? = some r) (ht : Til.touches r X Y Wr Hr = true) (htw : t.w = r.w) (htl : t.l = Til.small (Til.crop qs W r)) : ChgTo ps qs W H X Y Wr Hr (k + 1) (ts.set k t) := by
  have hl : ts.length = (Til.rects W H).length := by have := congrArg List.length h.1; simpa using this
  have hk := (List.getElem?_eq_some_iff.1 hr).1
  refine ⟨?_, fun i s hs => ?_⟩
  · rw [List.map_set, h.1, htw]
    apply List.ext_getElem?
    intro i
    by_cases e : k = i
    · subst e
      rw [List.getElem?_set_self (by simpa using hk), List.getElem?_map, hr]
      rfl
    · rw [List.getElem?_set_ne e]
  · by_cases e : k = i
    · subst e
      rw [hr] at hs
      injection hs with hs
      subst hs
      rw [List.getElem?_set_self (by omega), if_pos ⟨by omega, ht⟩, ← htl]
      rfl
    · rw [List.getElem?_set_ne e, h.2 i s hs]
      have : (i < k ∧ Til.touches s X Y Wr Hr = true) ↔ (i < k + 1 ∧ Til.touches s X Y Wr Hr = true) := by
        constructor
        · rintro ⟨a, b⟩; exact ⟨by omega, b⟩
        · rintro ⟨a, b⟩; exact ⟨by omega, b⟩
      simp only [this]
theorem ChgTo.full {ps qs : List Px} {W H : Nat} {X Y Wr Hr : Int} {ts : List TM} (h : ChgTo ps qs W H X Y Wr Hr (Til.rects W H).length ts)
    (ho : ∀ x y : Nat, x < W → y < H → (X ≤ x ∧ (x : Int) < X + Wr ∧ Y ≤ y ∧ (y : Int) < Y + Hr) ∨ qs.getD (y * W + x) default = ps.getD (y * W + x) default) : TsOf qs W H ts := by
  have hl : ts.length = (Til.rects W H).length := by have := congrArg List.length h.1; simpa using this
  refine ⟨?_, h.1⟩
  rw [← Til.changed_tiles ps qs W H X Y Wr Hr ho]
  apply List.ext_getElem?
  intro i
  by_cases hi : i < (Til.rects W H).length
  · rw [List.getElem?_map, List.getElem?_map, h.2 i _ (List.getElem?_eq_getElem hi), List.getElem?_eq_getElem hi, Option.map_some]
    have : (i < (Til.rects W H).length ∧ Til.touches (Til.rects W H)[i] X Y Wr Hr = true) ↔ Til.touches (Til.rects W H)[i] X Y Wr Hr = true := ⟨fun a => a.2, fun a => ⟨hi, a⟩⟩
    simp only [this]
  · rw [List.getElem?_eq_none (by simp; omega), List.getElem?_eq_none (by simp; omega)]
end Go.Proofs.YthohmpjoeffckaaDoor
namespace Go.Proofs.YthohmpjoeffckaaDoor
open Go Go.RowKit

theorem rects_len (W H N : Nat) (w : World) (hW : W ≤ 256) (hH : H ≤ 256) (hN : (Til.rects W H).length = N) :
    Calls Tryd.prog 16 #[.int .i64 W, .int .i64 H] w
      fun e w' => ∃ A c, e = .returned (.slice A N c) ∧ Own w' w.heap.size 4 (.slice A N c) N (rcCells (Til.rects W H)) ∧ Below w.heap.size w w' := by
  subst hN
  exact rects_any W H w hW hH
theorem rects_small (W H : Nat) (hW : W ≤ 256) (hH : H ≤ 256) : (Til.rects W H).length ≤ 1000 := by
  rw [Til.rects_length]
  have h1 : Til.cols W ≤ 16 := by unfold Til.cols; omega
  have h2 : Til.cols H ≤ 16 := by unfold Til.cols; omega
  have := Nat.mul_le_mul h2 h1
  omega
theorem rects_pos (W H : Nat) (hW : 1 ≤ W) (hH : 1 ≤ H) : 0 < (Til.rects W H).length := by
  rw [Til.rects_length]
  exact Nat.mul_pos (by unfold Til.cols; omega) (by unfold Til.cols; omega)

end Go.Proofs.YthohmpjoeffckaaDoor
namespace Go.Proofs.YthohmpjoeffckaaDoor
open Go Go.RowKit

theorem take_same {α : Type} {l m : List α} {k : Nat} (h : l.take k = m.take k) (hl : k < l.length) (hm : k < m.length) (e : l[k] = m[k]) : l.take (k + 1) = m.take (k + 1) := by
  rw [List.take_succ_eq_append_getElem hl, List.take_succ_eq_append_getElem hm, h, e]
theorem take_other {α : Type} {l m : List α} {k : Nat} (hl : k < l.length) (hm : k < m.length) (e : ¬ l[k] = m[k]) : ¬ l = m := by
  intro h
  subst h
  exact e rfl
set_option maxRecDepth 100000 in
set_option maxHeartbeats 1000000 in
theorem samePicture_eq (W H : Int) (A1 : Option Addr) (n c1 : Nat) (A2 : Option Addr) (c2 : Nat) (l m : List Px) (w : World) (h1 : Reads w w.heap.size 4 A1 n (pxCells l)) (h2 : Reads w w.heap.size 4 A2 n (pxCells m)) (hn : n ≤ 1048576) :
    Calls Tryd.prog 14 #[.agg #[.int .i64 W, .int .i64 H, .slice A1 n c1], .agg #[.int .i64 W, .int .i64 H, .slice A2 n c2]] w fun e w' => e = .returned (.bool (decide (l = m))) ∧ Below w.heap.size w w' := by
  obtain rfl := h1.pxLen
  have hlm := h2.pxLen
  have HLM := Lib.hid hlm
  clear hlm
  go_enter Tryd.func14, Tryd.ntmps14
  go_wp2_with fail
  have k1 := ((h1.alloc (Nat.le_refl _) (.cells #[.int .i64 W, .int .i64 H, .slice A1 l.length c1] 24)).alloc (by first | omega | (simp; done) | (simp; omega)) (.cells #[.int .i64 W, .int .i64 H, .slice A2 l.length c2] 24))
  have k2 := ((h2.alloc (Nat.le_refl _) (.cells #[.int .i64 W, .int .i64 H, .slice A1 l.length c1] 24)).alloc (by first | omega | (simp; done) | (simp; omega)) (.cells #[.int .i64 W, .int .i64 H, .slice A2 l.length c2] 24))
  have d1 : ((w.alloc (.cells #[.int .i64 W, .int .i64 H, .slice A1 l.length c1] 24)).alloc (.cells #[.int .i64 W, .int .i64 H, .slice A2 l.length c2] 24)).cell? ⟨w.heap.size, 2, none⟩ = some (.slice A1 l.length c1) := cell_past _ (cell_made _ _ _ rfl rfl)
  have d2 : ((w.alloc (.cells #[.int .i64 W, .int .i64 H, .slice A1 l.length c1] 24)).alloc (.cells #[.int .i64 W, .int .i64 H, .slice A2 l.length c2] 24)).cell? ⟨w.heap.size + 1, 2, none⟩ = some (.slice A2 l.length c2) := cell_made _ _ _ (by simp) rfl
  have hb : Below w.heap.size w ((w.alloc (.cells #[.int .i64 W, .int .i64 H, .slice A1 l.length c1] 24)).alloc (.cells #[.int .i64 W, .int .i64 H, .slice A2 l.length c2] 24)) := by go_grown
  generalize (w.alloc (.cells #[.int .i64 W, .int .i64 H, .slice A1 l.length c1] 24)).alloc (.cells #[.int .i64 W, .int .i64 H, .slice A2 l.length c2] 24) = w2 at *
  go_loopw [5] (fun i wr => ∃ k q, k ≤ l.length ∧ i = .int .i64 k ∧ l.take k = m.take k ∧ wr = w2.drewN q) (fun i _ => l.length - (intOf i).toNat)
  case atStart => exact ⟨0, 0, Nat.zero_le _, rfl, rfl, rfl⟩
  case round =>
    obtain ⟨k, q, hk, rfl, ht, rfl⟩ := hrel
    have HT := Lib.hid ht
    clear ht
    by_cases hlt : k < l.length
    · obtain ⟨b1, o1, rfl, _⟩ := k1.addr (by omega)
      obtain ⟨b2, o2, rfl, _⟩ := k2.addr (by omega)
      have hmk : k < m.length := by have := HLM.out; omega
      obtain ⟨y0, y1, y2, y3⟩ := k1.px k hlt
      obtain ⟨z0, z1, z2, z3⟩ := k2.px k hmk
      obtain ⟨x, hx⟩ : ∃ x, l[k] = x := ⟨_, rfl⟩
      obtain ⟨y, hy⟩ : ∃ y, m[k] = y := ⟨_, rfl⟩
      rw [hx] at y0 y1 y2 y3
      rw [hy] at z0 z1 z2 z3
      have HX := Lib.hid hx
      have HY := Lib.hid hy
      clear hx hy
      have hnq := fun w => run_neq_px w x y
      unfold pxV at hnq
      by_cases e : x = y
      · have HS := Lib.hid (take_same HT.out hlt hmk (by rw [HX.out, HY.out]; exact e))
        have hd : (!decide (x = y)) = false := by simp [e]
        rw [hd] at hnq
        clear e
        go_wp2_with fail
        go_quiet (fail)
        go_wp2_with fail
        go_roundw
        case rel => exact ⟨k + 1, _, by omega, by go_num, HS.out, rfl⟩
        case measure => simp [intOf]; omega
      · have HS := Lib.hid (take_other hlt hmk (by rw [HX.out, HY.out]; exact e))
        have hd : (!decide (x = y)) = true := by simp [e]
        rw [hd] at hnq
        clear e
        go_wp2_with fail
        go_quiet (fail)
        go_wp2_with fail
        go_ret
        exact ⟨by rw [decide_eq_false HS.out]; rfl, below_drewN (below_drewN hb _) _⟩
    · have HS := Lib.hid (show l = m by
        have h := HT.out
        have := HLM.out
        rwa [List.take_of_length_le (by omega), List.take_of_length_le (by omega)] at h)
      go_wp2_with fail
      go_ret
      exact ⟨by rw [decide_eq_true HS.out]; rfl, below_drewN hb q⟩

set_option maxRecDepth 100000 in
set_option maxHeartbeats 1000000 in
theorem equalPx_any (A1 : Option Addr) (n c1 : Nat) (A2 : Option Addr) (n2 c2 : Nat) (l m : List Px) (w : World) (h1 : Reads w w.heap.size 4 A1 n (pxCells l)) (h2 : Reads w w.heap.size 4 A2 n2 (pxCells m)) (hn : n ≤ 1048576) (hn2 : n2 ≤ 1048576) :
    Calls Tryd.prog 35 #[.slice A1 n c1, .slice A2 n2 c2] w fun e w' => e = .returned (.bool (decide (l = m))) ∧ Below w.heap.size w w' := by
  obtain rfl := h1.pxLen
  obtain rfl := h2.pxLen
  by_cases hln : l.length = m.length
  · have HLM := Lib.hid hln
    rw [← hln]
    rw [← hln] at h2
    clear hln
    go_enter Tryd.func35, Tryd.ntmps35
    go_wp2_with fail
    go_loopw [13] (fun i wr => ∃ k q, k ≤ l.length ∧ i = .int .i64 k ∧ l.take k = m.take k ∧ wr = w.drewN q) (fun i _ => l.length - (intOf i).toNat)
    case atStart => exact ⟨0, 0, Nat.zero_le _, rfl, rfl, rfl⟩
    case round =>
      obtain ⟨k, q, hk, rfl, ht, rfl⟩ := hrel
      have HT := Lib.hid ht
      clear ht
      by_cases hlt : k < l.length
      · obtain ⟨b1, o1, rfl, _⟩ := h1.addr (by omega)
        obtain ⟨b2, o2, rfl, _⟩ := h2.addr (by omega)
        have hmk : k < m.length := by have := HLM.out; omega
        obtain ⟨y0, y1, y2, y3⟩ := h1.px k hlt
        obtain ⟨z0, z1, z2, z3⟩ := h2.px k hmk
        obtain ⟨x, hx⟩ : ∃ x, l[k] = x := ⟨_, rfl⟩
        obtain ⟨y, hy⟩ : ∃ y, m[k] = y := ⟨_, rfl⟩
        rw [hx] at y0 y1 y2 y3
        rw [hy] at z0 z1 z2 z3
        have HX := Lib.hid hx
        have HY := Lib.hid hy
        clear hx hy
        have hnq := fun w => run_neq_px w x y
        unfold pxV at hnq
        by_cases e : x = y
        · have HS := Lib.hid (take_same HT.out hlt hmk (by rw [HX.out, HY.out]; exact e))
          have hd : (!decide (x = y)) = false := by simp [e]
          rw [hd] at hnq
          clear e
          go_wp2_with fail
          go_quiet (fail)
          go_wp2_with fail
          go_roundw
          case rel => exact ⟨k + 1, _, by omega, by go_num, HS.out, rfl⟩
          case measure => simp [intOf]; omega
        · have HS := Lib.hid (take_other hlt hmk (by rw [HX.out, HY.out]; exact e))
          have hd : (!decide (x = y)) = true := by simp [e]
          rw [hd] at hnq
          clear e
          go_wp2_with fail
          go_quiet (fail)
          go_wp2_with fail
          go_ret
          exact ⟨by rw [decide_eq_false HS.out]; rfl, below_drewN (below_drewN (Below.refl _ _) _) _⟩
      · have HS := Lib.hid (show l = m by
          have h := HT.out
          have := HLM.out
          rwa [List.take_of_length_le (by omega), List.take_of_length_le (by omega)] at h)
        go_wp2_with fail
        go_ret
        exact ⟨by rw [decide_eq_true HS.out]; rfl, below_drewN (Below.refl _ _) q⟩
  · have HS := Lib.hid (show ¬ l = m from fun e => hln (by rw [e]))
    have hi : ¬ (l.length : Int) = (m.length : Int) := by omega
    clear hln
    go_enter Tryd.func35, Tryd.ntmps35
    go_wp2_with fail
    go_ret
    exact ⟨by rw [decide_eq_false HS.out]; rfl, Below.refl _ _⟩
end Go.Proofs.YthohmpjoeffckaaDoor
namespace Go.Proofs.YthohmpjoeffckaaDoor
open Go Go.RowKit

/-- What stands through CropOf's loops. -/
structure CrR (W H : Int) (A : Option Addr) (n c : Nat) (r : Til.R) (w : World) (g5 ga oa m c' : Nat) (l : List Px) (wr : World) : Prop where
  b1 : Blk wr w.heap.size 24 #[.int .i64 W, .int .i64 H, .slice A n c]
  b2 : Blk wr (w.heap.size + 1) 50 #[.int .i64 r.x, .int .i64 r.y, .int .i64 r.w, .int .i64 r.h]
  b10 : Blk wr (w.heap.size + 1 + 1) 24 #[.int .i64 0, .int .i64 0, .slice none 0 0]
  b11 : Blk wr g5 24 #[.int .i64 r.w, .int .i64 r.h, .slice (some ⟨ga, oa, none⟩) m c']
  own : Own wr (w.heap.size + 3) 4 (.slice (some ⟨ga, oa, none⟩) m c') m (pxCells l)
  ne : ga ≠ g5
  g5h : w.heap.size + 3 ≤ g5
  bel : Below w.heap.size w wr
section
variable {W H : Int} {A : Option Addr} {n c : Nat} {r : Til.R} {w wr w' : World} {g5 ga oa m c' : Nat} {l : List Px}
theorem CrR.step (h : CrR W H A n c r w g5 ga oa m c' l wr) (hb : Below wr.heap.size wr w') : CrR W H A n c r w g5 ga oa m c' l w' :=
  ⟨h.b1.below hb h.b1.lt, h.b2.below hb h.b2.lt, h.b10.below hb h.b10.lt, h.b11.below hb h.b11.lt, h.own.below hb (Nat.le_refl _), h.ne, h.g5h, h.bel.trans (hb.mono (by have := h.b1.lt; omega))⟩
theorem CrR.put (h : CrR W H A n c r w g5 ga oa m c' l wr) (i : Nat) (hi : i < m) (q : Px) : CrR W H A n c r w g5 ga oa m c' (l.set i q) (wr.setCells ga (oa + i * 4) (pxCs q)) := by
  have hg := (h.own.lt ga rfl).1
  exact ⟨h.b1.setCells_ (by omega) _ _, h.b2.setCells_ (by omega) _ _, h.b10.setCells_ (by omega) _ _, h.b11.setCells_ (fun e => h.ne e.symm) _ _, h.own.setPx i hi q, h.ne, h.g5h, Below.setCells_ h.bel (by omega) _ _⟩
end

end Go.Proofs.YthohmpjoeffckaaDoor
namespace Go.Proofs.YthohmpjoeffckaaDoor
open Go Go.RowKit

theorem samePicture_is (W H : Int) (A1 : Option Addr) (n c1 : Nat) (A2 : Option Addr) (c2 : Nat) (l m : List Px) (b : Bool) (w : World) (h1 : Reads w w.heap.size 4 A1 n (pxCells l)) (h2 : Reads w w.heap.size 4 A2 n (pxCells m)) (hn : n ≤ 1048576) (hb : decide (l = m) = b) :
    Calls Tryd.prog 14 #[.agg #[.int .i64 W, .int .i64 H, .slice A1 n c1], .agg #[.int .i64 W, .int .i64 H, .slice A2 n c2]] w fun e w' => e = .returned (.bool b) ∧ Below w.heap.size w w' := by
  subst hb
  exact samePicture_eq W H A1 n c1 A2 c2 l m w h1 h2 hn

/-- What stands through the loops that collect tiles. -/
structure ChR (W H : Nat) (A1 : Option Addr) (n c1 : Nat) (A2 : Option Addr) (c2 : Nat) (w : World) (Ar : Option Addr) (N B0 : Nat) (v : Value) (l : List Til.R) (wr : World) : Prop where
  b1 : Blk wr w.heap.size 24 #[.int .i64 W, .int .i64 H, .slice A1 n c1]
  b2 : Blk wr (w.heap.size + 1) 24 #[.int .i64 W, .int .i64 H, .slice A2 n c2]
  rd : Reads wr B0 4 Ar N (rcCells (Til.rects W H))
  own : Own wr B0 4 v l.length (rcCells l)
  hB : w.heap.size + 2 ≤ B0
  lB : B0 ≤ wr.heap.size
  bel : Below w.heap.size w wr
section
variable {W H : Nat} {A1 : Option Addr} {n c1 : Nat} {A2 : Option Addr} {c2 : Nat} {w wr w' : World} {Ar : Option Addr} {N B0 : Nat} {v v' : Value} {l : List Til.R}
theorem ChR.step (h : ChR W H A1 n c1 A2 c2 w Ar N B0 v l wr) (hb : Below wr.heap.size wr w') : ChR W H A1 n c1 A2 c2 w Ar N B0 v l w' :=
  ⟨h.b1.below hb h.b1.lt, h.b2.below hb h.b2.lt, h.rd.below hb h.lB, h.own.below hb (Nat.le_refl _), h.hB, Nat.le_trans h.lB hb.size, h.bel.trans (hb.mono h.bel.size)⟩
theorem ChR.push (h : ChR W H A1 n c1 A2 c2 w Ar N B0 v l wr) (r : Til.R) (ho : Own w' B0 4 v' (l.length + 1) (rcCells (l ++ [r]))) (hg : wr.grownBy w' v.ownBlock) : ChR W H A1 n c1 A2 c2 w Ar N B0 v' (l ++ [r]) w' := by
  have hr : ∀ g, v.ownBlock = some g → B0 ≤ g := fun g e => (h.own.lt g e).1
  have hB := h.hB
  refine ⟨h.b1.grown hg (fun e => by have := hr _ e.symm; omega), h.b2.grown hg (fun e => by have := hr _ e.symm; omega), h.rd.grown hg h.lB hr, ?_, h.hB, Nat.le_trans h.lB hg.size, h.bel.grown hg h.bel.size (fun g e => by have := hr g e; omega)⟩
  rw [List.length_append]
  exact ho
end


theorem rcEqIn (w : World) (x y a b : Int) : (Op.equalIn 10000 50 (.agg #[.int .i64 x, .int .i64 y, .int .i64 a, .int .i64 b]) (.agg #[.int .i64 x, .int .i64 y, .int .i64 a, .int .i64 b])).run Tryd.prog w = .ok true w := by
  have hS : Tryd.prog.underlying 50 = some (.struct (Tryd.prog.fieldsOf 50)) := by kernel_rfl
  have hp : Tryd.prog.stoodInHeld 50 = false := by kernel_rfl
  have u5 := Tryd.underlying3
  have a5 : ∀ w, (isAgg 3).run Tryd.prog w = .ok false w := fun _ => by kernel_rfl
  have z5 : ∀ w, (sizeOf 3).run Tryd.prog w = .ok 1 w := fun _ => by kernel_rfl
  rw [show (10000 : Nat) = 9999 + 1 from rfl, run_equalIn_agg w 9999 50 _ _ hS hp]
  simp only [Program.fieldsOf, Tryd.underlying50]
  go_simp
theorem run_neq_rc (w : World) (x y a b : Int) : (binOp .neq 50 (.agg #[.int .i64 x, .int .i64 y, .int .i64 a, .int .i64 b]) (.agg #[.int .i64 x, .int .i64 y, .int .i64 a, .int .i64 b])).run Tryd.prog w = .ok (.bool false) w := by
  have h : (Op.equalIn Op.maxDepth 50 (.agg #[.int .i64 x, .int .i64 y, .int .i64 a, .int .i64 b]) (.agg #[.int .i64 x, .int .i64 y, .int .i64 a, .int .i64 b])).run Tryd.prog w = .ok true w := rcEqIn w x y a b
  simp [binOp, Op.equal, h]
end Go.Proofs.YthohmpjoeffckaaDoor
namespace Go.Proofs.YthohmpjoeffckaaDoor
open Go Go.RowKit

theorem pxCells_inj {l m : List Px} (h : pxCells l = pxCells m) : l = m := by
  have hl : l.length = m.length := by
    have := congrArg List.length h
    rw [pxCells_length, pxCells_length] at this
    omega
  apply List.ext_getElem hl
  intro i h1 h2
  have key : ∀ j, j < 4 → (pxCs l[i])[j]? = (pxCs m[i])[j]? := fun j hj => by rw [← pxCells_at l i h1 j hj, ← pxCells_at m i h2 j hj, h]
  have k0 := key 0 (by omega)
  have k1 := key 1 (by omega)
  have k2 := key 2 (by omega)
  have k3 := key 3 (by omega)
  simp [pxCs] at k0 k1 k2 k3
  exact Px.ext' (UInt8.toNat_inj.1 (Int.ofNat.inj k0)) (UInt8.toNat_inj.1 (Int.ofNat.inj k1)) (UInt8.toNat_inj.1 (Int.ofNat.inj k2)) (UInt8.toNat_inj.1 (Int.ofNat.inj k3))
/-- A tile tells what it holds. -/
theorem TileIn.inj {w : World} {t u : TM} (ht : TileIn w t) (hu : TileIn w u) (h : t.b = u.b) : t.l = u.l := by
  have h1 := ht.blk
  have h2 := hu.blk
  rw [h] at h1
  unfold Blk at h1 h2
  rw [h1] at h2
  injection h2 with h2
  injection h2 with h2 _ _
  have ha : t.A = u.A ∧ t.n = u.n := by
    have := congrArg (fun a : Array Value => a[2]?) h2
    simp at this
    exact ⟨this.1, this.2.1⟩
  have hp := ht.px
  have hq := hu.px
  rw [ha.1, ha.2] at hp
  apply pxCells_inj
  apply List.ext_getElem?
  intro j
  by_cases hj : j < u.n * 4
  · obtain ⟨b, off, e, _⟩ := hp.addr (by omega)
    rw [← hp.cell e j hj, ← hq.cell e j hj]
  · rw [List.getElem?_eq_none (by have := hp.1; omega), List.getElem?_eq_none (by have := hq.1; omega)]

theorem equalPx_is (A1 : Option Addr) (n c1 : Nat) (A2 : Option Addr) (n2 c2 : Nat) (l m : List Px) (b : Bool) (w : World) (h1 : Reads w w.heap.size 4 A1 n (pxCells l)) (h2 : Reads w w.heap.size 4 A2 n2 (pxCells m)) (hn : n ≤ 1048576) (hn2 : n2 ≤ 1048576) (hb : decide (l = m) = b) :
    Calls Tryd.prog 35 #[.slice A1 n c1, .slice A2 n2 c2] w fun e w' => e = .returned (.bool b) ∧ Below w.heap.size w w' := by
  subst hb
  exact equalPx_any A1 n c1 A2 n2 c2 l m w h1 h2 hn hn2
theorem tmSize : (Tryd.prog.info? 58).map (·.size) = some 3 := by kernel_rfl
set_option maxRecDepth 100000 in
set_option maxHeartbeats 1000000 in
theorem tsame_one (t u : TM) (w : World) (h : t.b = u.b) :
    Calls Tryd.prog 23 #[.pointer (some ⟨t.b, 0, none⟩), .pointer (some ⟨u.b, 0, none⟩)] w fun e w' => e = .returned (.bool true) ∧ Below w.heap.size w w' := by
  rw [h]
  obtain ⟨b, hb⟩ : ∃ b, u.b = b := ⟨_, rfl⟩
  rw [hb]
  obtain ⟨j, hj, _⟩ := Option.map_eq_some_iff.1 tmSize
  have heq := fun w => run_eql_ptr_same (P := Tryd.prog) w (⟨b, 0, none⟩ : Addr) Tryd.underlying51 hj
  clear hb h hj
  go_enter Tryd.func23, Tryd.ntmps23
  go_wp2_with fail
  go_quiet (fail)
  go_wp2_with fail
  go_ret
  exact ⟨rfl, below_drewN (Below.refl _ _) _⟩
set_option maxRecDepth 100000 in
set_option maxHeartbeats 1000000 in
theorem tsame_any (t u : TM) (b : Bool) (w : World) (ht : TileIn w t) (hu : TileIn w u) (hn : t.n ≤ 1048576) (hn2 : u.n ≤ 1048576) (hb : decide (t.l = u.l) = b) :
    Calls Tryd.prog 23 #[.pointer (some ⟨t.b, 0, none⟩), .pointer (some ⟨u.b, 0, none⟩)] w fun e w' => e = .returned (.bool b) ∧ Below w.heap.size w w' := by
  by_cases h : t.b = u.b
  · have e : b = true := by rw [← hb]; simpa using ht.inj hu h
    rw [e]
    exact tsame_one t u w h
  · have HE := Lib.hid (equalPx_is t.A t.n t.c u.A u.n u.c t.l u.l b w.drew (ht.px.more (by simp)) (hu.px.more (by simp)) hn hn2 hb)
    have s0 : w.cell? ⟨t.b, 2, none⟩ = some (.slice t.A t.n t.c) := (ht.blk.cell 2).trans rfl
    have s1 : w.cell? ⟨u.b, 2, none⟩ = some (.slice u.A u.n u.c) := (hu.blk.cell 2).trans rfl
    obtain ⟨tb, htb⟩ : ∃ tb, t.b = tb := ⟨_, rfl⟩
    obtain ⟨ub, hub⟩ : ∃ ub, u.b = ub := ⟨_, rfl⟩
    have B1 := ht.blk
    have B2 := hu.blk
    rw [htb] at s0 h B1 ⊢
    rw [hub] at s1 h B2 ⊢
    obtain ⟨j, hj, hjs⟩ := Option.map_eq_some_iff.1 tmSize
    have heq : ∀ w' : World, w'.heap[tb]? = some (.cells #[.int .i64 t.w, .int .i64 t.h, .slice t.A t.n t.c] 58 (0, 0)) → w'.heap[ub]? = some (.cells #[.int .i64 u.w, .int .i64 u.h, .slice u.A u.n u.c] 58 (0, 0)) →
        (binOp .eql 51 (.pointer (some ⟨tb, 0, none⟩)) (.pointer (some ⟨ub, 0, none⟩))).run Tryd.prog w' = .ok (.bool false) w' :=
      fun w' h1 h2 => run_eql_ptr_other (P := Tryd.prog) w' (a := ⟨tb, 0, none⟩) (b := ⟨ub, 0, none⟩) Tryd.underlying51 hj (by rw [hjs]; decide) (fun e => h (by injection e)) h1 h2
    have b1 : w.heap[tb]? = some (.cells #[.int .i64 t.w, .int .i64 t.h, .slice t.A t.n t.c] 58 (0, 0)) := B1
    have b2 : w.heap[ub]? = some (.cells #[.int .i64 u.w, .int .i64 u.h, .slice u.A u.n u.c] 58 (0, 0)) := B2
    have HB1 := Lib.hid B1
    have HB2 := Lib.hid B2
    clear ht hu hb htb hub hj hjs B1 B2
    go_enter Tryd.func23, Tryd.ntmps23
    go_wp2_with fail
    go_region_held3 (fun w' => w'.cell? ⟨tb, 2, none⟩ = some (.slice t.A t.n t.c) ∧ w'.cell? ⟨ub, 2, none⟩ = some (.slice u.A u.n u.c) ∧ w'.heap[tb]? = some (.cells #[.int .i64 t.w, .int .i64 t.h, .slice t.A t.n t.c] 58 (0, 0)) ∧ w'.heap[ub]? = some (.cells #[.int .i64 u.w, .int .i64 u.h, .slice u.A u.n u.c] 58 (0, 0)))
      ((go_split_ands
        refine ⟨?_, ?_, ?_, ?_⟩
        · ((repeat' (first | (with_reducible exact s0) | (with_reducible refine bkeep hbA ?_))) <;> exact s0)
        · ((repeat' (first | (with_reducible exact s1) | (with_reducible refine bkeep hbA ?_))) <;> exact s1)
        · (first | exact HB1.out.below (Below.fromDrew hbA) HB1.out.lt | exact b1)
        · (first | exact HB2.out.below (Below.fromDrew hbA) HB2.out.lt | exact b2)))
      (first
        | (go_at_call 35; refine HE.out.mono ?_; rintro e wA ⟨rfl, hbA⟩))
    go_wp2_with fail
    go_ret
    exact ⟨rfl, Below.fromDrew hbA⟩

/-- What stands through Changed's loop. -/
structure CdR (W H : Nat) (w : World) (Ar : Option Addr) (N B0 : Nat) (v : Value) (l : List Til.R) (wr : World) : Prop where
  rd : Reads wr B0 4 Ar N (rcCells (Til.rects W H))
  own : Own wr B0 4 v l.length (rcCells l)
  hB : w.heap.size ≤ B0
  lB : B0 ≤ wr.heap.size
  bel : Below w.heap.size w wr
section
variable {W H : Nat} {w wr w' : World} {Ar : Option Addr} {N B0 : Nat} {v v' : Value} {l : List Til.R}
theorem CdR.step (h : CdR W H w Ar N B0 v l wr) (hb : Below wr.heap.size wr w') : CdR W H w Ar N B0 v l w' :=
  ⟨h.rd.below hb h.lB, h.own.below hb (Nat.le_refl _), h.hB, Nat.le_trans h.lB hb.size, h.bel.trans (hb.mono h.bel.size)⟩
theorem CdR.push (h : CdR W H w Ar N B0 v l wr) (r : Til.R) (ho : Own w' B0 4 v' (l.length + 1) (rcCells (l ++ [r]))) (hg : wr.grownBy w' v.ownBlock) : CdR W H w Ar N B0 v' (l ++ [r]) w' := by
  have hr : ∀ g, v.ownBlock = some g → B0 ≤ g := fun g e => (h.own.lt g e).1
  have hB := h.hB
  refine ⟨h.rd.grown hg h.lB hr, ?_, h.hB, Nat.le_trans h.lB hg.size, h.bel.grown hg h.bel.size (fun g e => by have := hr g e; omega)⟩
  rw [List.length_append]
  exact ho
end
theorem tm_small {w : World} {t : TM} {ps : List Px} {W H : Nat} {r : Til.R} (ht : TileIn w t) (hr : Til.In W H r) (hl : t.l = Til.small (Til.crop ps W r)) : t.n ≤ 1048576 := by
  have h1 := ht.px.pxLen
  have h16 := Nat.mul_le_mul hr.h16 hr.w16
  rw [h1, hl]
  unfold Til.small
  split
  · rw [List.length_take]; omega
  · rw [Til.crop_length]; omega
theorem TsOf.at_ {ps : List Px} {W H : Nat} {ts : List TM} (h : TsOf ps W H ts) {k : Nat} (hk : k < ts.length) {r : Til.R} (hr : (Til.rects W H)[k]? = some r) : ts[k].l = Til.small (Til.crop ps W r) := by
  have h1 := congrArg (fun l => l[k]?) h.px
  simp only [List.getElem?_map, Til.tilesOf, hr, List.getElem?_eq_getElem hk, Option.map_some] at h1
  exact Option.some.inj h1

set_option maxRecDepth 100000 in
set_option maxHeartbeats 4000000 in
theorem tchanged_any (g1 g2 W H : Nat) (ts us : List TM) (ps qs : List Px) (w : World) (hg1 : Gd w g1 W H ts) (ht1 : TsOf ps W H ts) (hg2 : Gd w g2 W H us) (ht2 : TsOf qs W H us) (hW : 1 ≤ W ∧ W ≤ 256) (hH : 1 ≤ H ∧ H ≤ 256) :
    Calls Tryd.prog 10 #[.pointer (some ⟨g1, 0, none⟩), .pointer (some ⟨g2, 0, none⟩)] w
      fun e w' => ∃ A c, e = .returned (.tuple #[.slice A (Til.diff ps qs W (Til.rects W H)).length c, .nilIface]) ∧ Reads w' w'.heap.size 4 A (Til.diff ps qs W (Til.rects W H)).length (rcCells (Til.diff ps qs W (Til.rects W H))) ∧ Below w.heap.size w w' := by
  obtain ⟨i0, hi, hz0, hz1, hz2⟩ := info_parts rcInfo
  have hl1 : ts.length = (Til.rects W H).length := by rw [Til.rects_length]; exact ht1.len
  have hl2 : us.length = (Til.rects W H).length := by rw [Til.rects_length]; exact ht2.len
  obtain ⟨N, hN⟩ : ∃ N, (Til.rects W H).length = N := ⟨_, rfl⟩
  have hN1 := rects_small W H hW.2 hH.2
  have hN0 := rects_pos W H hW.1 hH.1
  rw [hN] at hl1 hl2 hN1 hN0
  obtain ⟨A1, c1, hb1, hr1⟩ := hg1.ex
  obtain ⟨A2, c2, hb2, hr2⟩ := hg2.ex
  rw [hl1] at hb1 hr1
  rw [hl2] at hb2 hr2
  obtain ⟨a1, o1, rfl, _⟩ := hr1.addr (by omega)
  obtain ⟨a2, o2, rfl, _⟩ := hr2.addr (by omega)
  obtain ⟨D, hD⟩ : ∃ D, Til.diff ps qs W (Til.rects W H) = D := ⟨_, rfl⟩
  rw [hD]
  have HD := Lib.hid hD
  have HNN := Lib.hid hN
  have HL1 := Lib.hid hl1
  have HL2 := Lib.hid hl2
  have HT1 := Lib.hid ht1
  have HT2 := Lib.hid ht2
  have HI1 := Lib.hid hg1.ti
  have HI2 := Lib.hid hg2.ti
  have HB1 := Lib.hid hb1
  have HB2 := Lib.hid hb2
  have HR1 := Lib.hid hr1
  have HR2 := Lib.hid hr2
  obtain ⟨hW1, hW2⟩ := hW
  obtain ⟨hH1, hH2⟩ := hH
  have s0 : w.cell? ⟨g1, 0, none⟩ = some (.int .i64 W) := (hb1.cell 0).trans rfl
  have s1 : w.cell? ⟨g1, 1, none⟩ = some (.int .i64 H) := (hb1.cell 1).trans rfl
  have t0 : w.cell? ⟨g2, 0, none⟩ = some (.int .i64 W) := (hb2.cell 0).trans rfl
  have t1 : w.cell? ⟨g2, 1, none⟩ = some (.int .i64 H) := (hb2.cell 1).trans rfl
  clear hD hg1 ht1 hg2 ht2 hN hl1 hl2 hb1 hb2 hr1 hr2
  go_enter Tryd.func10, Tryd.ntmps10
  go_wp2_with fail
  go_quiet (fail)
  obtain ⟨w0, hw0⟩ : ∃ w0, w0 = w.drewN nq := ⟨_, rfl⟩
  have hbw0 : Below w.heap.size w w0 := by rw [hw0]; exact below_drewN (Below.refl _ _) _
  rw [← hw0]
  clear hw0
  have r0 : w0.cell? ⟨g1, 0, none⟩ = some (.int .i64 W) := bkeep hbw0 s0
  have r1 : w0.cell? ⟨g1, 1, none⟩ = some (.int .i64 H) := bkeep hbw0 s1
  clear s0 s1 t0 t1
  go_wp2_with fail
  go_region_held3 (fun w' => w'.cell? ⟨g1, 0, none⟩ = some (.int .i64 W) ∧ w'.cell? ⟨g1, 1, none⟩ = some (.int .i64 H))
    ((go_split_ands
      refine ⟨?_, ?_⟩
      · ((repeat' (first | (with_reducible exact r0) | (with_reducible refine bkeep hbB ?_))) <;> exact r0)
      · ((repeat' (first | (with_reducible exact r1) | (with_reducible refine bkeep hbB ?_))) <;> exact r1)))
    (first
      | (go_at_call 16; refine (rects_len W H N w0.drew hW2 hH2 HNN.out).mono ?_; rintro e wB ⟨Ar, cr, rfl, hOr, hbB⟩))
  have hbI := Below.fromDrew hbB
  have hbwB := hbw0.trans (hbI.mono hbw0.size)
  obtain ⟨B0, hB0⟩ : ∃ B0, B0 = wB.heap.size := ⟨_, rfl⟩
  have F0 : CdR W H w Ar N B0 (.slice none 0 0) [] wB := by
    rw [hB0]
    exact ⟨hOr.reads.2, Own.nil _ _ _, hbwB.size, Nat.le_refl _, hbwB⟩
  clear hbI hbB hOr r0 r1 hbw0 hbwB hB0
  go_wp2_with fail
  go_loopw [6, 48] (fun v i wr => ∃ (k : Nat), k ≤ N ∧ i = .int .i64 k ∧ CdR W H w Ar N B0 v (Til.diff ps qs W ((Til.rects W H).take k)) wr) (fun _ i _ => N - (intOf i).toNat)
  case atStart => exact ⟨0, Nat.zero_le _, rfl, F0⟩
  case round =>
    clear F0
    obtain ⟨k, hk, rfl, F⟩ := hrel
    obtain ⟨wi, rfl⟩ : ∃ wi : World, wi = wr := ⟨_, rfl⟩
    by_cases hlt : k < N
    · obtain ⟨br, orr, rfl, hbrr⟩ := F.rd.addr (by omega)
      have hkl : k < (Til.rects W H).length := by rw [HNN.out]; exact hlt
      obtain ⟨x0, x1, x2, x3⟩ := F.rd.rc k hkl
      have hrin := Til.rects_in (List.getElem_mem hkl)
      have hrk := List.getElem?_eq_getElem hkl
      have HTK := Lib.hid (List.take_succ_eq_append_getElem hkl)
      obtain ⟨r, hr⟩ : ∃ r, (Til.rects W H)[k] = r := ⟨_, rfl⟩
      rw [hr] at x0 x1 x2 x3 hrin hrk HTK
      obtain ⟨l, hl⟩ : ∃ l, Til.diff ps qs W ((Til.rects W H).take k) = l := ⟨_, rfl⟩
      have hll : l.length ≤ 1000 := by
        rw [← hl]
        have h1 := Til.diff_length ps qs W ((Til.rects W H).take k)
        rw [List.length_take] at h1
        omega
      rw [hl] at F
      have HL := Lib.hid hl
      obtain ⟨Av, cv, hv, hcv, _⟩ := F.own.form
      subst hv
      have hk1 : k < ts.length := by rw [HL1.out]; exact hlt
      have hk2 : k < us.length := by rw [HL2.out]; exact hlt
      have e1 := HT1.out.at_ hk1 hrk
      have e2 := HT2.out.at_ hk2 hrk
      have F' := F.step (Below.alloc (Below.refl _ _) (Nat.le_refl _) (.cells #[.int .i64 r.x, .int .i64 r.y, .int .i64 r.w, .int .i64 r.h] 50))
      have y1 := ((HR1.out.below F'.bel (Nat.le_refl _)).cell rfl k (by omega)).trans (tmCells_at ts k hk1)
      have y2 := ((HR2.out.below F'.bel (Nat.le_refl _)).cell rfl k (by omega)).trans (tmCells_at us k hk2)
      have i1 := (HI1.out ts[k] (List.getElem_mem hk1)).step F'.bel
      have i2 := (HI2.out us[k] (List.getElem_mem hk2)).step F'.bel
      obtain ⟨t, ht⟩ : ∃ t, ts[k] = t := ⟨_, rfl⟩
      obtain ⟨u, hu⟩ : ∃ u, us[k] = u := ⟨_, rfl⟩
      rw [ht] at y1 i1 e1
      rw [hu] at y2 i2 e2
      unfold tmPtr at y1 y2
      obtain ⟨bd, hbd⟩ : ∃ b, decide (t.l = u.l) = b := ⟨_, rfl⟩
      have HBD := Lib.hid (show decide (Til.crop ps W r = Til.crop qs W r) = bd by
        rw [← hbd, e1, e2, decide_eq_decide]
        exact (Til.small_same hrin).symm)
      have hn1 := tm_small i1 hrin e1
      have hn2 := tm_small i2 hrin e2
      have k0 : (0 : Int) ≤ (k : Int) := by omega
      have k1 : (k : Int) < (N : Int) := by omega
      have hbwi := F.bel
      clear hr hkl hl hcv e1 e2 ht hu hk1 hk2 hrk
      go_wp2_with fail
      obtain ⟨gB, hgB⟩ : ∃ gB, gB = wi.heap.size := ⟨_, rfl⟩
      obtain ⟨wB, hwB⟩ : ∃ wB, wB = wi.alloc (.cells #[.int .i64 r.x, .int .i64 r.y, .int .i64 r.w, .int .i64 r.h] 50) := ⟨_, rfl⟩
      have BB : Blk wB gB 50 #[.int .i64 r.x, .int .i64 r.y, .int .i64 r.w, .int .i64 r.h] := by rw [hwB, hgB]; exact Blk.new _ _ _ rfl
      rw [← hwB] at F' y1 y2 i1 i2
      rw [← hwB, ← hgB]
      have s0 : wB.cell? ⟨g1, 2, none⟩ = some (.slice (some ⟨a1, o1, none⟩) N c1) := bkeep F'.bel ((HB1.out.cell 2).trans rfl)
      have s1 : wB.cell? ⟨g2, 2, none⟩ = some (.slice (some ⟨a2, o2, none⟩) N c2) := bkeep F'.bel ((HB2.out.cell 2).trans rfl)
      have HSM := Lib.hid (tsame_any t u bd wB.drew (i1.step (Below.here wB)) (i2.step (Below.here wB)) hn1 hn2 hbd)
      have HF := Lib.hid F'
      have HBB := Lib.hid BB
      clear hwB hgB BB F' F x0 x1 x2 x3 hbd i1 i2 hrin hn1 hn2 hbwi
      go_region_held3 (fun w' => w'.cell? ⟨g1, 2, none⟩ = some (.slice (some ⟨a1, o1, none⟩) N c1) ∧ w'.cell? ⟨g2, 2, none⟩ = some (.slice (some ⟨a2, o2, none⟩) N c2) ∧ w'.cell? ⟨a1, o1 + k, none⟩ = some (.pointer (some ⟨t.b, 0, none⟩)) ∧ w'.cell? ⟨a2, o2 + k, none⟩ = some (.pointer (some ⟨u.b, 0, none⟩)))
        ((go_split_ands
          refine ⟨?_, ?_, ?_, ?_⟩
          · ((repeat' (first | (with_reducible exact s0) | (with_reducible refine bkeep hbA ?_))) <;> exact s0)
          · ((repeat' (first | (with_reducible exact s1) | (with_reducible refine bkeep hbA ?_))) <;> exact s1)
          · ((repeat' (first | (with_reducible exact y1) | (with_reducible refine bkeep hbA ?_))) <;> exact y1)
          · ((repeat' (first | (with_reducible exact y2) | (with_reducible refine bkeep hbA ?_))) <;> exact y2)))
        (first
          | (go_at_call 23; with_reducible refine HSM.out.mono ?_; rintro e wA ⟨rfl, hbA⟩))
      have hbI := Below.fromDrew hbA
      have HG := Lib.hid (HF.out.step hbI)
      have BB := HBB.out.below hbI HBB.out.lt
      have cB := BB.cell
      have lB := BB.lt
      clear hbA hbI s0 s1 y1 y2
      cases bd with
      | true =>
        have HE := Lib.hid (show l = Til.diff ps qs W ((Til.rects W H).take (k + 1)) by rw [HTK.out, Til.diff_yes (by simpa using HBD.out), HL.out])
        go_wp2_with fail
        go_roundw
        case rel => exact ⟨k + 1, by omega, by go_num, by rw [← HE.out]; exact HG.out⟩
        case measure => simp [intOf]; omega
      | false =>
        have HE := Lib.hid (show l ++ [r] = Til.diff ps qs W ((Til.rects W H).take (k + 1)) by rw [HTK.out, Til.diff_no (by simpa using HBD.out), HL.out])
        have HO := Lib.hid HG.out.own
        obtain ⟨m, hm⟩ : ∃ m, l.length = m := ⟨_, rfl⟩
        have HM := Lib.hid hm
        rw [hm] at HO hll ⊢
        have HLB := HG.out.lB
        clear hm
        go_wp2_with (at_builtin; refine wpList_append_S rfl (.tmp 69) (.tmp 71) 36 36 rfl (B0) 50 i0 _ 4 32 Tryd.underlying36 hi hz0 hz1 hz2 rfl (by decide) (.slice Av m cv) (m) (rcCells (l)) rfl (HO.out.alloc _) (rcCells_one _) (1) ([.int .i64 r.x, .int .i64 r.y, .int .i64 r.w, .int .i64 r.h]) (Src.made Tryd.underlying36 (by first | rfl | simp) rfl (fun u hu => rcCells_one [r] u (by rw [rcCells_single]; exact hu))) (m + 1) (by omega) (rcCells (l ++ [r])) (by rw [rcCells_append, rcCells_single]; rfl) (by unfold maxLen; omega) (by omega) (by first | omega | (simp; done) | (simp; omega)) ?_; intro A' c' w4 hown4 hg4 hat4)
        have G4 := (HG.out.step (Below.alloc (Below.refl _ _) (Nat.le_refl _) _)).push r (by rw [HM.out]; exact hown4) (by rw [HM.out]; exact hg4)
        have HG4 := Lib.hid G4
        clear G4 hown4 hg4 hat4
        go_roundw
        case rel => exact ⟨k + 1, by omega, by go_num, by rw [← HE.out]; exact HG4.out⟩
        case measure => simp [intOf]; omega
    · have e : k = N := by omega
      rw [e, ← HNN.out, List.take_length, HD.out] at F
      obtain ⟨Av, cv, hv, hcv, hr⟩ := F.own.form
      subst hv
      have hbw := F.bel
      have HR := Lib.hid hr
      clear hr e
      go_wp2_with fail
      go_ret2
      exact ⟨Av, cv, rfl, HR.out, hbw⟩
end Go.Proofs.YthohmpjoeffckaaDoor
