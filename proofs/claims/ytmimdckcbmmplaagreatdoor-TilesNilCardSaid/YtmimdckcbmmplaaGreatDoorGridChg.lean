/- Grid.changed: the walk. Grid.changed: the walk. -/
import Derived.Test.YtmimdckcbmmplaaGreatDoorGridPix
import Derived.Test.YtmimdckcbmmplaaGreatDoorTileLaw
import Derived.Test.YtmimdckcbmmplaaGreatDoorBase
import Derived.Deep.RegionHeld3
namespace Go.Proofs.YtmimdckcbmmplaaGreatDoor
open Go Go.RowKit

set_option maxRecDepth 100000 in
theorem cloneTm_any (b off n c : Nat) (ts : List TM) (w : World) (h : Reads w w.heap.size 1 (some ⟨b, off, none⟩) n (tmCells ts)) (hn : n ≤ 1048576) :
    Calls Tryz.prog 45 #[.slice (some ⟨b, off, none⟩) n c] w fun e w' => ∃ A' c', e = .returned (.slice A' n c') ∧ Own w' w.heap.size 1 (.slice A' n c') n (tmCells ts) ∧ Below w.heap.size w w' := by
  obtain ⟨i0, hi, hz0, hz1, hz2⟩ := info_parts tmInfo
  have hnil := @Lib.run_eql_slice_nil Tryz.prog
  go_enter Tryz.func45, Tryz.ntmps45
  go_wp2_with (at_builtin; refine wpList_append_S rfl (.tmp 5) (.tmp 6) 54 54 rfl (w.heap.size) 58 i0 _ 1 8 Tryz.underlying54 hi hz0 hz1 hz2 rfl (by decide) (.slice (some ⟨w.heap.size, 0, none⟩) 0 0) (0) (tmCells ([])) rfl (Own.emptyRow _ _ _ _ _ (Nat.le_refl _) rfl) (tmCells_one _) (n) (tmCells ts) ((h.alloc (Nat.le_refl _) _).src Tryz.underlying54 (by decide) (tmCells_one _) _) (n) (by omega) (tmCells (ts)) (rfl) (by unfold maxLen; omega) (by omega) (by first | omega | (simp; done) | (simp; omega)) ?_; intro A' c' w1 hown1 hg1 hat1)
  go_ret
  refine ⟨A', c', rfl, hown1, Below.grown (by go_grown) hg1 (by first | omega | (simp; done) | (simp; omega)) (fun g hg => by simp [Value.ownBlock] at hg; omega)⟩

theorem tmCells_set (ts : List TM) (k : Nat) (t : TM) : tmCells (ts.set k t) = (tmCells ts).set k (tmPtr t) := by simp [tmCells, List.map_set]
theorem Own.setTm {w : World} {base n c g off : Nat} {ts : List TM} (h : Own w base 1 (.slice (some ⟨g, off, none⟩) n c) n (tmCells ts)) (k : Nat) (hk : k < n) (t : TM) :
    Own (w.setCell ⟨g, off + k, none⟩ (tmPtr t)) base 1 (.slice (some ⟨g, off, none⟩) n c) n (tmCells (ts.set k t)) := by
  have hl : n = ts.length := by have := h.1; rw [tmCells_length] at this; omega
  have := h.setOne k hk [tmPtr t] (tmCells (ts.set k t)) rfl (by rw [tmCells_length, List.length_set, hl]; omega)
    (fun j hj => by
      have e : j = 0 := by omega
      subst e
      rw [tmCells_set, Nat.mul_one, Nat.add_zero, List.getElem?_set_self (by rw [tmCells_length]; omega)]
      rfl)
    (fun j hj => by rw [tmCells_set, List.getElem?_set_ne (by omega)])
  rw [Nat.mul_one] at this
  exact this
/-- A grid that was made above a block out of the tiles of another one. -/
structure GdNew (B : Nat) (w : World) (ts : List TM) (gG W H : Nat) (A : Option Addr) (c : Nat) (ts' : List TM) : Prop where
  g : B ≤ gG
  blk : Blk w gG 56 #[.int .i64 W, .int .i64 H, .slice A ts'.length c]
  rd : Reads w w.heap.size 1 A ts'.length (tmCells ts')
  a : ∀ b off, A = some ⟨b, off, none⟩ → B ≤ b
  ti : ∀ t ∈ ts', TileIn w t
  mem : ∀ t ∈ ts', t ∈ ts ∨ Above B t
theorem GdNew.gd {B : Nat} {w : World} {ts : List TM} {gG W H : Nat} {A : Option Addr} {c : Nat} {ts' : List TM} (h : GdNew B w ts gG W H A c ts') : Gd w gG W H ts' := ⟨⟨A, c, h.blk, h.rd⟩, h.ti⟩
theorem GdNew.low {B C : Nat} {w : World} {ts : List TM} {gG W H : Nat} {A : Option Addr} {c : Nat} {ts' : List TM} (h : GdNew B w ts gG W H A c ts') (hC : C ≤ B) : GdNew C w ts gG W H A c ts' :=
  ⟨Nat.le_trans hC h.g, h.blk, h.rd, fun b off e => Nat.le_trans hC (h.a b off e), h.ti, fun t ht => (h.mem t ht).imp id fun a => a.mono hC⟩
theorem GdNew.step {B : Nat} {w w' : World} {ts : List TM} {gG W H : Nat} {A : Option Addr} {c : Nat} {ts' : List TM} (h : GdNew B w ts gG W H A c ts') (hb : Below w.heap.size w w') : GdNew B w' ts gG W H A c ts' :=
  ⟨h.g, h.blk.below hb h.blk.lt, (h.rd.below hb (Nat.le_refl _)).more hb.size, h.a, fun t ht => (h.ti t ht).step hb, h.mem⟩
/-- What stands through changed's loop. -/
structure GcR (W H : Nat) (A : Option Addr) (n c : Nat) (X Y Wr Hr : Int) (w : World) (gG ga oa c' N : Nat) (Ar : Option Addr) (ts0 ts : List TM) (wr : World) : Prop where
  b1 : Blk wr w.heap.size 24 #[.int .i64 W, .int .i64 H, .slice A n c]
  b2 : Blk wr (w.heap.size + 1) 35 #[.int .i64 X, .int .i64 Y, .int .i64 Wr, .int .i64 Hr]
  bG : Blk wr gG 56 #[.int .i64 W, .int .i64 H, .slice (some ⟨ga, oa, none⟩) N c']
  own : Own wr (w.heap.size + 2) 1 (.slice (some ⟨ga, oa, none⟩) N c') N (tmCells ts)
  rd : Reads wr wr.heap.size 4 Ar N (rcCells (Til.rects W H))
  rne : ∀ b off, Ar = some ⟨b, off, none⟩ → ga < b
  ti : ∀ t ∈ ts, TileIn wr t
  off : ∀ t ∈ ts, Off (some ga) t
  ne : ga ≠ gG
  gh : w.heap.size + 2 ≤ gG
  mem : ∀ t ∈ ts, t ∈ ts0 ∨ Above w.heap.size t
  bel : Below w.heap.size w wr
section
variable {W H : Nat} {A : Option Addr} {n c : Nat} {X Y Wr Hr : Int} {w wr w' : World} {gG ga oa c' N : Nat} {Ar : Option Addr} {ts0 ts : List TM}
theorem GcR.step (h : GcR W H A n c X Y Wr Hr w gG ga oa c' N Ar ts0 ts wr) (hb : Below wr.heap.size wr w') : GcR W H A n c X Y Wr Hr w gG ga oa c' N Ar ts0 ts w' :=
  ⟨h.b1.below hb h.b1.lt, h.b2.below hb h.b2.lt, h.bG.below hb h.bG.lt, h.own.below hb (Nat.le_refl _), (h.rd.below hb (Nat.le_refl _)).more hb.size, h.rne, fun t ht => (h.ti t ht).step hb, h.off, h.ne, h.gh, h.mem, h.bel.trans (hb.mono h.bel.size)⟩
theorem GcR.put (h : GcR W H A n c X Y Wr Hr w gG ga oa c' N Ar ts0 ts wr) (k : Nat) (hk : k < N) (t : TM) (ht : TileIn wr t) (hta : Off (some ga) t) (hab : Above w.heap.size t) : GcR W H A n c X Y Wr Hr w gG ga oa c' N Ar ts0 (ts.set k t) (wr.setCell ⟨ga, oa + k, none⟩ (tmPtr t)) := by
  have hg := (h.own.lt ga rfl).1
  have hall : ∀ s ∈ ts.set k t, TileIn wr s ∧ Off (some ga) s := by
    intro s hs
    rcases List.mem_or_eq_of_mem_set hs with hs | rfl
    · exact ⟨h.ti s hs, h.off s hs⟩
    · exact ⟨ht, hta⟩
  refine ⟨h.b1.far (by simp; omega) _, h.b2.far (by simp; omega) _, h.bG.far (fun e => h.ne e.symm) _, h.own.setTm k hk t, ?_, h.rne, fun s hs => (hall s hs).1.set_ (hall s hs).2 _, fun s hs => (hall s hs).2, h.ne, h.gh, fun s hs => ?_, h.bel.setCell (by simp; omega) _⟩
  · exact h.rd.keepAt (by simp [World.setCell]) fun b off e _ _ => Below.heap_setCell wr _ _ b (fun e2 => by have := h.rne b off e; simp at e2; omega)
  · rcases List.mem_or_eq_of_mem_set hs with hs | rfl
    · exact h.mem s hs
    · exact .inr hab
theorem GcR.new (h : GcR W H A n c X Y Wr Hr w gG ga oa c' N Ar ts0 ts wr) (hn : N = ts.length) : GdNew w.heap.size wr ts0 gG W H (some ⟨ga, oa, none⟩) c' ts := by
  subst hn
  exact ⟨by have := h.gh; omega, h.bG, h.own.reads.2, fun b off e => by injection e with e; injection e with e; have := (h.own.lt ga rfl).1; omega, h.ti, h.mem⟩
end
/-- What the tiles are, the first k made anew where they are touched. -/
def ChgTo (ps qs : List Px) (W H : Nat) (X Y Wr Hr : Int) (k : Nat) (ts : List TM) : Prop :=
  ts.map (·.w) = (Til.rects W H).map (·.w) ∧ ∀ i r, (Til.rects W H)[i]? = some r → ts[i]?.map (·.l) = some (if i < k ∧ Til.touches r X Y Wr Hr = true then Til.small (Til.crop qs W r) else Til.small (Til.crop ps W r))
theorem ChgTo.zero {ps qs : List Px} {W H : Nat} {X Y Wr Hr : Int} {ts : List TM} (h : TsOf ps W H ts) : ChgTo ps qs W H X Y Wr Hr 0 ts := by
  refine ⟨h.wd, fun i r hr => ?_⟩
  have := congrArg (fun l => l[i]?) h.px
  simp only [List.getElem?_map, Til.tilesOf, hr, Option.map_some] at this
  rw [this, if_neg (by omega)]
theorem ChgTo.keep {ps qs : List Px} {W H : Nat} {X Y Wr Hr : Int} {k : Nat} {ts : List TM} {r : Til.R} (h : ChgTo ps qs W H X Y Wr Hr k ts) (hr : (Til.rects W H)[k]? = some r) (ht : Til.touches r X Y Wr Hr = false) : ChgTo ps qs W H X Y Wr Hr (k + 1) ts := by
  refine ⟨h.1, fun i s hs => ?_⟩
  rw [h.2 i s hs]
  by_cases e : i = k
  · subst e
    rw [hr] at hs
    injection hs with hs
    subst hs
    rw [ht]
    simp
  · have : (i < k ∧ Til.touches s X Y Wr Hr = true) ↔ (i < k + 1 ∧ Til.touches s X Y Wr Hr = true) := by
      constructor
      · rintro ⟨a, b⟩; exact ⟨by omega, b⟩
      · rintro ⟨a, b⟩; exact ⟨by omega, b⟩
    simp only [this]
theorem ChgTo.put {ps qs : List Px} {W H : Nat} {X Y Wr Hr : Int} {k : Nat} {ts : List TM} {r : Til.R} {t : TM} (h : ChgTo ps qs W H X Y Wr Hr k ts) (hr : (Til.rects W H)[k]? = some r) (ht : Til.touches r X Y Wr Hr = true) (htw : t.w = r.w) (htl : t.l = Til.small (Til.crop qs W r)) : ChgTo ps qs W H X Y Wr Hr (k + 1) (ts.set k t) := by
  have hl : ts.length = (Til.rects W H).length := by have := congrArg List.length h.1; simpa using this
  have hk := (List.getElem?_eq_some_iff.1 hr).1
  refine ⟨?_, fun i s hs => ?_⟩
  · rw [List.map_set, h.1, htw]
    apply List.ext_getElem?
    intro i
    by_cases e : k = i
    · subst e
      rw [List.getElem?_set_self (by simpa using hk), List.getElem?_map, hr]
      rfl
    · rw [List.getElem?_set_ne e]
  · by_cases e : k = i
    · subst e
      rw [hr] at hs
      injection hs with hs
      subst hs
      rw [List.getElem?_set_self (by omega), if_pos ⟨by omega, ht⟩, ← htl]
      rfl
    · rw [List.getElem?_set_ne e, h.2 i s hs]
      have : (i < k ∧ Til.touches s X Y Wr Hr = true) ↔ (i < k + 1 ∧ Til.touches s X Y Wr Hr = true) := by
        constructor
        · rintro ⟨a, b⟩; exact ⟨by omega, b⟩
        · rintro ⟨a, b⟩; exact ⟨by omega, b⟩
      simp only [this]
theorem ChgTo.full {ps qs : List Px} {W H : Nat} {X Y Wr Hr : Int} {ts : List TM} (h : ChgTo ps qs W H X Y Wr Hr (Til.rects W H).length ts)
    (ho : ∀ x y : Nat, x < W → y < H → (X ≤ x ∧ (x : Int) < X + Wr ∧ Y ≤ y ∧ (y : Int) < Y + Hr) ∨ qs.getD (y * W + x) default = ps.getD (y * W + x) default) : TsOf qs W H ts := by
  have hl : ts.length = (Til.rects W H).length := by have := congrArg List.length h.1; simpa using this
  refine ⟨?_, h.1⟩
  rw [← Til.changed_tiles ps qs W H X Y Wr Hr ho]
  apply List.ext_getElem?
  intro i
  by_cases hi : i < (Til.rects W H).length
  · rw [List.getElem?_map, List.getElem?_map, h.2 i _ (List.getElem?_eq_getElem hi), List.getElem?_eq_getElem hi, Option.map_some]
    have : (i < (Til.rects W H).length ∧ Til.touches (Til.rects W H)[i] X Y Wr Hr = true) ↔ Til.touches (Til.rects W H)[i] X Y Wr Hr = true := ⟨fun a => a.2, fun a => ⟨hi, a⟩⟩
    simp only [this]
  · rw [List.getElem?_eq_none (by simp; omega), List.getElem?_eq_none (by simp; omega)]
end Go.Proofs.YtmimdckcbmmplaaGreatDoor
namespace Go.Proofs.YtmimdckcbmmplaaGreatDoor
open Go Go.RowKit

theorem rects_len (W H N : Nat) (w : World) (hW : W ≤ 256) (hH : H ≤ 256) (hN : (Til.rects W H).length = N) :
    Calls Tryz.prog 22 #[.int .i64 W, .int .i64 H] w
      fun e w' => ∃ A c, e = .returned (.slice A N c) ∧ Own w' w.heap.size 4 (.slice A N c) N (rcCells (Til.rects W H)) ∧ Below w.heap.size w w' := by
  subst hN
  exact rects_any W H w hW hH
theorem rects_small (W H : Nat) (hW : W ≤ 256) (hH : H ≤ 256) : (Til.rects W H).length ≤ 1000 := by
  rw [Til.rects_length]
  have h1 : Til.cols W ≤ 16 := by unfold Til.cols; omega
  have h2 : Til.cols H ≤ 16 := by unfold Til.cols; omega
  have := Nat.mul_le_mul h2 h1
  omega
theorem rects_pos (W H : Nat) (hW : 1 ≤ W) (hH : 1 ≤ H) : 0 < (Til.rects W H).length := by
  rw [Til.rects_length]
  exact Nat.mul_pos (by unfold Til.cols; omega) (by unfold Til.cols; omega)

set_option maxRecDepth 100000 in
set_option maxHeartbeats 4000000 in
theorem gchanged_any (gb W H : Nat) (ts : List TM) (ps qs : List Px) (A : Option Addr) (n c : Nat) (X Y Wr Hr : Int) (w : World) (hg : Gd w gb W H ts) (ht : TsOf ps W H ts) (hp : Reads w w.heap.size 4 A n (pxCells qs)) (hn : qs.length = H * W)
    (hW : 1 ≤ W ∧ W ≤ 256) (hH : 1 ≤ H ∧ H ≤ 256) (hX : -10000 ≤ X ∧ X ≤ 10000) (hY : -10000 ≤ Y ∧ Y ≤ 10000) (hWr : 0 ≤ Wr ∧ Wr ≤ 10000) (hHr : 0 ≤ Hr ∧ Hr ≤ 10000)
    (ho : ∀ x y : Nat, x < W → y < H → (X ≤ x ∧ (x : Int) < X + Wr ∧ Y ≤ y ∧ (y : Int) < Y + Hr) ∨ qs.getD (y * W + x) default = ps.getD (y * W + x) default) :
    Calls Tryz.prog 25 #[.pointer (some ⟨gb, 0, none⟩), .agg #[.int .i64 W, .int .i64 H, .slice A n c], .agg #[.int .i64 X, .int .i64 Y, .int .i64 Wr, .int .i64 Hr]] w
      fun e w' => ∃ gG A1 c1 ts', e = .returned (.pointer (some ⟨gG, 0, none⟩)) ∧ GdNew w.heap.size w' ts gG W H A1 c1 ts' ∧ TsOf qs W H ts' ∧ Below w.heap.size w w' := by
  have HO := Lib.hid ho
  have hl : ts.length = (Til.rects W H).length := by rw [Til.rects_length]; exact ht.len
  obtain ⟨N, hN⟩ : ∃ N, (Til.rects W H).length = N := ⟨_, rfl⟩
  have hN1 := rects_small W H hW.2 hH.2
  have hN0 := rects_pos W H hW.1 hH.1
  rw [hN] at hl hN1 hN0
  obtain ⟨A0, c0, hbG, hrd⟩ := hg.ex
  rw [hl] at hbG hrd
  obtain ⟨b0, off0, rfl, hb0⟩ := hrd.addr (by omega)
  have HNN := Lib.hid hN
  have HL := Lib.hid hl
  have HT := Lib.hid ht
  have HTI := Lib.hid hg.ti
  have HP := Lib.hid hp
  have HN := Lib.hid hn
  have HRD := Lib.hid hrd
  have HCH := Lib.hid (ChgTo.zero (qs := qs) (X := X) (Y := Y) (Wr := Wr) (Hr := Hr) ht)
  obtain ⟨hW1, hW2⟩ := hW
  obtain ⟨hH1, hH2⟩ := hH
  clear ho hg ht hp hn hN hl hrd
  go_enter Tryz.func25, Tryz.ntmps25
  go_wp2_with fail
  obtain ⟨W0, hW0⟩ : ∃ W0, W0 = (w.alloc (.cells #[.int .i64 W, .int .i64 H, .slice A n c] 24)).alloc (.cells #[.int .i64 X, .int .i64 Y, .int .i64 Wr, .int .i64 Hr] 35) := ⟨_, rfl⟩
  have B1 : Blk W0 w.heap.size 24 #[.int .i64 W, .int .i64 H, .slice A n c] := by rw [hW0]; exact (Blk.new _ _ _ rfl).alloc _
  have B2 : Blk W0 (w.heap.size + 1) 35 #[.int .i64 X, .int .i64 Y, .int .i64 Wr, .int .i64 Hr] := by rw [hW0]; exact Blk.new _ _ _ (by simp)
  have hbw0 : Below w.heap.size w W0 := by rw [hW0]; go_grown
  rw [← hW0]
  clear hW0
  have HRD0 := Lib.hid ((HRD.out.below hbw0 (Nat.le_refl _)).more hbw0.size)
  have G0 := hbG.below hbw0 hbG.lt
  have s0 : W0.cell? ⟨gb, 0, none⟩ = some (.int .i64 W) := (G0.cell 0).trans rfl
  have s1 : W0.cell? ⟨gb, 1, none⟩ = some (.int .i64 H) := (G0.cell 1).trans rfl
  have s2 : W0.cell? ⟨gb, 2, none⟩ = some (.slice (some ⟨b0, off0, none⟩) N c0) := (G0.cell 2).trans rfl
  go_region_held3 (fun w' => w'.cell? ⟨gb, 0, none⟩ = some (.int .i64 W) ∧ w'.cell? ⟨gb, 1, none⟩ = some (.int .i64 H) ∧ w'.cell? ⟨gb, 2, none⟩ = some (.slice (some ⟨b0, off0, none⟩) N c0))
    ((go_split_ands
      refine ⟨?_, ?_, ?_⟩
      · ((repeat' (first | (with_reducible exact s0) | (with_reducible refine bkeep hbA ?_) | (with_reducible refine cell_past _ ?_))) <;> exact s0)
      · ((repeat' (first | (with_reducible exact s1) | (with_reducible refine bkeep hbA ?_) | (with_reducible refine cell_past _ ?_))) <;> exact s1)
      · ((repeat' (first | (with_reducible exact s2) | (with_reducible refine bkeep hbA ?_) | (with_reducible refine cell_past _ ?_))) <;> exact s2)))
    (first
      | (go_at_call 45; refine (cloneTm_any b0 off0 N c0 ts W0.drew HRD0.out (Nat.le_trans hN1 (Nat.le_of_ble_eq_true rfl))).mono ?_; rintro e wA ⟨A', c', rfl, hO, hbA⟩))
  obtain ⟨ga, oa, rfl, hga1, hga2⟩ := hO.addr hN0
  have hbI := Below.fromDrew hbA
  obtain ⟨gG, hgG⟩ : ∃ gG, gG = wA.heap.size := ⟨_, rfl⟩
  obtain ⟨W2, hW2'⟩ : ∃ W2, W2 = wA.alloc (.cells #[.int .i64 W, .int .i64 H, .slice (some ⟨ga, oa, none⟩) N c'] 56) := ⟨_, rfl⟩
  have BG : Blk W2 gG 56 #[.int .i64 W, .int .i64 H, .slice (some ⟨ga, oa, none⟩) N c'] := by rw [hW2', hgG]; exact Blk.new _ _ _ rfl
  have OG : Own W2 (w.heap.size + 2) 1 (.slice (some ⟨ga, oa, none⟩) N c') N (tmCells ts) := by
    rw [hW2']
    have := B2.lt
    exact (hO.alloc _).mono (by simp; omega)
  have hb2 : Below W0.heap.size W0 W2 := by rw [hW2']; exact hbI.alloc hbI.size _
  have hwz : w.heap.size + 2 ≤ W0.heap.size := B2.lt
  have hga3 : W0.heap.size ≤ ga := by simpa using hga1
  have hgne : ga ≠ gG := by omega
  have hgh : w.heap.size + 2 ≤ gG := by have := hbI.size; omega
  have hgaS : ga < W2.heap.size := by rw [hW2']; simp; omega
  rw [← hW2']
  try rw [← hgG]
  clear hW2' hgG hO hga1 hga2
  have C1 := B1.below hb2 B1.lt
  have C2 := B2.below hb2 B2.lt
  have hbw2 := hbw0.trans (hb2.mono hbw0.size)
  have r0 : W2.cell? ⟨gb, 0, none⟩ = some (.int .i64 W) := bkeep hb2 s0
  have r1 : W2.cell? ⟨gb, 1, none⟩ = some (.int .i64 H) := bkeep hb2 s1
  clear s0 s1 s2 hbA hbI hb2 B1 B2 G0
  go_wp2_with fail
  go_region_held3 (fun w' => w'.cell? ⟨gb, 0, none⟩ = some (.int .i64 W) ∧ w'.cell? ⟨gb, 1, none⟩ = some (.int .i64 H))
    ((go_split_ands
      refine ⟨?_, ?_⟩
      · ((repeat' (first | (with_reducible exact r0) | (with_reducible refine bkeep hbB ?_))) <;> exact r0)
      · ((repeat' (first | (with_reducible exact r1) | (with_reducible refine bkeep hbB ?_))) <;> exact r1)))
    (first
      | (go_at_call 22; refine (rects_len W H N W2.drew hW2 hH2 HNN.out).mono ?_; rintro e wB ⟨Ar, cr, rfl, hOr, hbB⟩))
  have hbI := Below.fromDrew hbB
  have F0 : GcR W H A n c X Y Wr Hr w gG ga oa c' N Ar ts ts wB := by
    refine ⟨C1.below hbI C1.lt, C2.below hbI C2.lt, BG.below hbI BG.lt, OG.below hbI (Nat.le_refl _), hOr.reads.2, fun b off e => ?_, fun t ht => ?_, fun t ht => ?_, hgne, hgh, fun t ht => .inl ht, hbw2.trans (hbI.mono hbw2.size)⟩
    · have := (hOr.lt b (by rw [e]; rfl)).1
      simp at this
      omega
    · exact ((HTI.out t ht).step hbw2).step (hbI)
    · exact (HTI.out t ht).off (by omega)
  have hch := HCH.out
  clear C1 C2 BG OG hbB hbI hOr r0 r1 HCH hbw0 hbw2
  go_wp2_with fail
  go_loopw [35] (fun i wr => ∃ (k : Nat) (ts' : List TM), k ≤ N ∧ i = .int .i64 k ∧ GcR W H A n c X Y Wr Hr w gG ga oa c' N Ar ts ts' wr ∧ ChgTo ps qs W H X Y Wr Hr k ts') (fun i _ => N - (intOf i).toNat)
  case atStart => exact ⟨0, ts, Nat.zero_le _, rfl, F0, hch⟩
  case round =>
    clear F0 hch
    obtain ⟨k, us, hk, rfl, F, hch⟩ := hrel
    obtain ⟨wi, rfl⟩ : ∃ wi : World, wi = wr := ⟨_, rfl⟩
    have HCK := Lib.hid hch
    clear hch
    by_cases hlt : k < N
    · obtain ⟨br, orr, rfl, hbrr⟩ := F.rd.addr (by omega)
      have hkl : k < (Til.rects W H).length := by rw [HNN.out]; exact hlt
      obtain ⟨x0, x1, x2, x3⟩ := F.rd.rc k hkl
      have hrin := Til.rects_in (List.getElem_mem hkl)
      have hrk := List.getElem?_eq_getElem hkl
      obtain ⟨r, hr⟩ : ∃ r, (Til.rects W H)[k] = r := ⟨_, rfl⟩
      rw [hr] at x0 x1 x2 x3 hrin hrk
      have HRK := Lib.hid hrk
      have hrw := hrin.w16
      have hrh := hrin.h16
      have hrx := hrin.xw
      have hry := hrin.yh
      have HRI := Lib.hid hrin
      have F' := F.step (Below.alloc (Below.refl _ _) (Nat.le_refl _) (.cells #[.int .i64 r.x, .int .i64 r.y, .int .i64 r.w, .int .i64 r.h] 35))
      have HF := Lib.hid F'
      have b2c := F'.b2.cell
      have b2l := F.b2.lt
      clear hrk hr hkl F F' hrin
      rcases (show X + Wr ≤ (r.x : Int) ∨ ((r.x : Int) < X + Wr ∧ (r.x : Int) + r.w ≤ X) ∨ ((r.x : Int) < X + Wr ∧ X < (r.x : Int) + r.w ∧ Y + Hr ≤ (r.y : Int)) ∨ ((r.x : Int) < X + Wr ∧ X < (r.x : Int) + r.w ∧ (r.y : Int) < Y + Hr ∧ (r.y : Int) + r.h ≤ Y) ∨ ((r.x : Int) < X + Wr ∧ X < (r.x : Int) + r.w ∧ (r.y : Int) < Y + Hr ∧ Y < (r.y : Int) + r.h) by omega) with h1 | ⟨h1, h2⟩ | ⟨h1, h2, h3⟩ | ⟨h1, h2, h3, h4⟩ | ⟨h1, h2, h3, h4⟩
      case inr.inr.inr.inr =>
        have HTT := Lib.hid (show Til.touches r X Y Wr Hr = true by simp only [Til.touches, Bool.and_eq_true, decide_eq_true_eq]; omega)
        go_wp2_with fail
        obtain ⟨gB, hgB⟩ : ∃ gB, gB = wi.heap.size := ⟨_, rfl⟩
        obtain ⟨wB, hwB⟩ : ∃ wB, wB = wi.alloc (.cells #[.int .i64 r.x, .int .i64 r.y, .int .i64 r.w, .int .i64 r.h] 35) := ⟨_, rfl⟩
        have BB : Blk wB gB 35 #[.int .i64 r.x, .int .i64 r.y, .int .i64 r.w, .int .i64 r.h] := by rw [hwB, hgB]; exact Blk.new _ _ _ rfl
        have F' := HF.out
        rw [← hwB] at F'
        have hgaw : ga < gB := by
          have h0 := (F'.own.lt ga rfl).2
          have h9 := hbrr
          have := F'.rne br orr rfl
          omega
        rw [← hwB, ← hgB]
        have s0 : wB.cell? ⟨w.heap.size, 0, none⟩ = some (.int .i64 W) := (F'.b1.cell 0).trans rfl
        have s1 : wB.cell? ⟨w.heap.size, 1, none⟩ = some (.int .i64 H) := (F'.b1.cell 1).trans rfl
        have s2 : wB.cell? ⟨w.heap.size, 2, none⟩ = some (.slice A n c) := (F'.b1.cell 2).trans rfl
        have s3 : wB.cell? ⟨gB, 0, none⟩ = some (.int .i64 r.x) := (BB.cell 0).trans rfl
        have s4 : wB.cell? ⟨gB, 1, none⟩ = some (.int .i64 r.y) := (BB.cell 1).trans rfl
        have s5 : wB.cell? ⟨gB, 2, none⟩ = some (.int .i64 r.w) := (BB.cell 2).trans rfl
        have s6 : wB.cell? ⟨gB, 3, none⟩ = some (.int .i64 r.h) := (BB.cell 3).trans rfl
        have s7 : wB.cell? ⟨gG, 2, none⟩ = some (.slice (some ⟨ga, oa, none⟩) N c') := (F'.bG.cell 2).trans rfl
        have RP := (HP.out.below F'.bel (Nat.le_refl _)).more F'.bel.size
        have HCUT := Lib.hid (cut_any W H A n c qs r wB.drew RP hW2 hH2 HN.out HRI.out)
        have HF' := Lib.hid F'
        have hge := (F'.own.lt ga rfl).1
        have HGB := Lib.hid (F'.own.lt ga rfl).2
        have hz1 : w.heap.size < ga := by omega
        have hz5 : ∀ (a o : Nat), (⟨ga, a, none⟩ : Addr) ≠ ⟨gG, o, none⟩ := fun a o e => hgne (by injection e)
        have hz6 : ∀ (a o : Nat), (⟨ga, a, none⟩ : Addr) ≠ ⟨gB, o, none⟩ := fun a o e => by injection e with e _ _; omega
        have HUL := Lib.hid (show us.length = N by have := F'.own.1; rw [tmCells_length] at this; omega)
        have k0 : (0 : Int) ≤ (k : Int) := by omega
        have k1 : (k : Int) < (N : Int) := by omega
        clear hwB hgB BB F' HF x0 x1 x2 x3 RP h1 h2 h3 h4 b2c b2l hge
        go_region_held3 (fun w' => w'.cell? ⟨w.heap.size, 0, none⟩ = some (.int .i64 W) ∧ w'.cell? ⟨w.heap.size, 1, none⟩ = some (.int .i64 H) ∧ w'.cell? ⟨w.heap.size, 2, none⟩ = some (.slice A n c) ∧ w'.cell? ⟨gB, 0, none⟩ = some (.int .i64 r.x) ∧ w'.cell? ⟨gB, 1, none⟩ = some (.int .i64 r.y) ∧ w'.cell? ⟨gB, 2, none⟩ = some (.int .i64 r.w) ∧ w'.cell? ⟨gB, 3, none⟩ = some (.int .i64 r.h) ∧ w'.cell? ⟨gG, 2, none⟩ = some (.slice (some ⟨ga, oa, none⟩) N c'))
          ((go_split_ands
            refine ⟨?_, ?_, ?_, ?_, ?_, ?_, ?_, ?_⟩
            · ((repeat' (first | (with_reducible exact s0) | (with_reducible refine cell_set_other _ (ne_blk hz1 _ _) ?_) | (with_reducible refine bkeep hbA ?_))) <;> exact s0)
            · ((repeat' (first | (with_reducible exact s1) | (with_reducible refine cell_set_other _ (ne_blk hz1 _ _) ?_) | (with_reducible refine bkeep hbA ?_))) <;> exact s1)
            · ((repeat' (first | (with_reducible exact s2) | (with_reducible refine cell_set_other _ (ne_blk hz1 _ _) ?_) | (with_reducible refine bkeep hbA ?_))) <;> exact s2)
            · ((repeat' (first | (with_reducible exact s3) | (with_reducible refine cell_set_other _ (hz6 _ _) ?_) | (with_reducible refine bkeep hbA ?_))) <;> exact s3)
            · ((repeat' (first | (with_reducible exact s4) | (with_reducible refine cell_set_other _ (hz6 _ _) ?_) | (with_reducible refine bkeep hbA ?_))) <;> exact s4)
            · ((repeat' (first | (with_reducible exact s5) | (with_reducible refine cell_set_other _ (hz6 _ _) ?_) | (with_reducible refine bkeep hbA ?_))) <;> exact s5)
            · ((repeat' (first | (with_reducible exact s6) | (with_reducible refine cell_set_other _ (hz6 _ _) ?_) | (with_reducible refine bkeep hbA ?_))) <;> exact s6)
            · ((repeat' (first | (with_reducible exact s7) | (with_reducible refine cell_set_other _ (hz5 _ _) ?_) | (with_reducible refine bkeep hbA ?_))) <;> exact s7)))
          (first
            | (go_at_call 23; refine HCUT.out.mono ?_; rintro e wA ⟨t, rfl, htw, hta, htl, hti, hbA⟩; have hbI := Below.fromDrew hbA; have GC := HF'.out.step hbI; have hth := GC.own.there k hlt; have f0 := (hth 0 (Nat.lt_of_sub_eq_succ rfl)).2; have y0 := (GC.own.reads.2.cell rfl k (Nat.lt_of_lt_of_eq hlt (Nat.mul_one N).symm)).trans (tmCells_at us k (Nat.lt_of_lt_of_eq hlt HUL.out.symm)); simp only [Nat.mul_one, Nat.add_zero] at f0))
        have K := GC.put k hlt t hti (hta.off (by have := HGB.out; simp; omega)) (hta.mono (by have := HF'.out.bel.size; simp; omega))
        have HK := Lib.hid K
        have HCN := Lib.hid (HCK.out.put HRK.out HTT.out htw htl)
        clear K hbA hbI s0 s1 s2 s3 s4 s5 s6 s7 f0 y0 hth hti hta htl htw
        unfold tmPtr at HK
        go_wp2_with fail
        go_roundw
        case rel => exact ⟨k + 1, us.set k t, by omega, by go_num, HK.out, HCN.out⟩
        case measure => simp [intOf]; omega
      all_goals
        have HCN := Lib.hid (HCK.out.keep HRK.out (show Til.touches r X Y Wr Hr = false by
          cases hh : Til.touches r X Y Wr Hr with
          | false => rfl
          | true =>
            exfalso
            simp only [Til.touches, Bool.and_eq_true, decide_eq_true_eq] at hh
            omega))
        go_wp2_with fail
        go_roundw
        case rel => exact ⟨k + 1, us, by omega, by go_num, HF.out, HCN.out⟩
        case measure => simp [intOf]; omega
    · have e : k = N := by omega
      have hch := HCK.out
      rw [e, ← HNN.out] at hch
      have HTS := Lib.hid (hch.full HO.out)
      have HGD := Lib.hid (F.new (by have := F.own.1; rw [tmCells_length] at this; omega))
      have hbw := F.bel
      clear hch e
      go_wp2_with fail
      go_ret
      exact ⟨gG, _, _, us, rfl, HGD.out, HTS.out, hbw⟩
end Go.Proofs.YtmimdckcbmmplaaGreatDoor
