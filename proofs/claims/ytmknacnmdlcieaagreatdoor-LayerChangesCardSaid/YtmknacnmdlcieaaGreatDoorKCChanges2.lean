/- MergeLaw, FlatAs, MergeG, MergeAll, DocIs: put together. -/
import Derived.Test.YtmknacnmdlcieaaGreatDoorPixLaw
import Derived.Test.YtmknacnmdlcieaaGreatDoorFlatten
import Derived.Test.YtmknacnmdlcieaaGreatDoorKCChanges1
import Derived.Test.YtmknacnmdlcieaaGreatDoorKCChanges0
import Derived.IntWalk
import Derived.Test.YtmknacnmdlcieaaGreatDoorSameDoc
import Derived.Test.YtmknacnmdlcieaaGreatDoorWithBad
/- One layer that is the whole: plain. -/
namespace Go.Proofs.YtmknacnmdlcieaaGreatDoor
namespace Lay
def merged (name : ByteArray) (W H : Int) (L : List Px) : Layer := ⟨name, 0, 0, false, 255, 0, W, H, L⟩
theorem put_merged (ls : List Layer) (name : ByteArray) (W H x y : Nat) (hx : x < W) (hy : y < H) : put (x : Int) (y : Int) Pix.nil (merged name W H (flat ls W H)) = dot ls (x : Int) (y : Int) := by
  have hs : seen (merged name W H (flat ls W H)) (x : Int) (y : Int) = true := by
    simp only [seen, merged, Int.sub_zero, Bool.not_false, Bool.true_and, Bool.and_eq_true, decide_eq_true_eq]
    omega
  have hp : spot (merged name W H (flat ls W H)) (x : Int) (y : Int) = dot ls (x : Int) (y : Int) := by
    unfold spot merged
    simp only
    rw [Int.sub_zero, Int.sub_zero, ← Int.natCast_mul, ← Int.natCast_add, Int.toNat_natCast, List.getD_eq_getElem?_getD, flat_at ls W H x y hx hy]
    rfl
  rw [put, if_pos hs, hp]
  show Pix.over 0 (Pix.fade (dot ls (x : Int) (y : Int)) 255) Pix.nil = _
  rw [Pix.fade_full _ (dot_clear ls _ _), Pix.over_on_nil _ (dot_clear ls _ _)]
theorem flat_merged (ls : List Layer) (name : ByteArray) (W H : Nat) : flat [merged name W H (flat ls W H)] W H = flat ls W H :=
  flat_congr _ _ _ _ fun x y hx hy => by
    rw [← put_merged ls name W H x y hx hy]
    rfl
theorem good_merged {W H : Int} (hW : sideP W = true) (hH : sideP H = true) {name : ByteArray} (hn : isName name = true) {L : List Px} (hl : (L.length : Int) = W * H) : Good W H [merged name W H L] := by
  refine good_mk hW hH (by simp) (fun i j hi hj => ?_) (fun l hm => ?_)
  · simp at hi
    omega
  · rw [List.mem_singleton] at hm
    subst hm
    exact ⟨hn, rfl, rfl, rfl, rfl, by simp [rightL, merged, hW, hH, hl]⟩
end Lay
end Go.Proofs.YtmknacnmdlcieaaGreatDoor
/- layer.Flatten at a good document, its pixels named; a field of a fault. -/
namespace Go.Proofs.YtmknacnmdlcieaaGreatDoor
open Go Go.RowKit

theorem flatten_as (W H : Int) (A : Option Addr) (n c : Nat) (ms : List LM) (w : World) (hL : Lays w w.heap.size A n ms) (hG : Lay.Good W H (lsOf ms)) (L : List Px) (hq : Lay.flat (lsOf ms) W.toNat H.toNat = L) :
    Calls Tryz.prog 21 #[.agg #[.int .i64 W, .int .i64 H, .slice A n c]] w
      fun e w' => ∃ A' c', e = .returned (.tuple #[.agg #[.int .i64 W, .int .i64 H, .slice A' L.length c'], .nilIface]) ∧ Own w' w.heap.size 4 (.slice A' L.length c') L.length (pxCells L) ∧ Below w.heap.size w w' := by
  subst hq
  exact flatten_good W H A n c ms w hL hG
theorem run_fault_code (a b : Int) (w : World) : (Instr.field 34 (.agg #[.int .i64 a, .int .i64 b]) 0).run Tryz.prog w = .ok (.int .i64 a) w := by kernel_rfl
end Go.Proofs.YtmknacnmdlcieaaGreatDoor
/- Merge of a layer with all below it, others above or none: its closure; Merge. -/
namespace Go.Proofs.YtmknacnmdlcieaaGreatDoor
open Go Go.RowKit

/-- Replace of the first k + 1 layers, whatever stays behind. -/
theorem replace_any (base g off c gv cv k r : Nat) (ms : List LM) (m : LM) (w : World) (hO : LaysO w base (.slice (some ⟨g, off, none⟩) (k + 1 + r) c) ms) (hn : k + 1 + r ≤ 4096) (hm : Reads w w.heap.size 4 m.A m.n (pxCells m.l.ps))
    (hoff : OffAt m.A m.n (.slice (some ⟨g, off, none⟩) (k + 1 + r) c)) (hv : Blk w gv 45 (layCs m).toArray) :
    Calls Tryz.prog 43 #[.slice (some ⟨g, off, none⟩) (k + 1 + r) c, .int .i64 0, .int .i64 (k + 1), .slice (some ⟨gv, 0, none⟩) 1 cv] w
      fun e w' => e = .returned (.slice (some ⟨g, off, none⟩) (1 + r) c) ∧ LaysO w' base (.slice (some ⟨g, off, none⟩) (1 + r) c) (m :: ms.drop (k + 1)) ∧ w.grownBy w' (some g) := by
  rcases Nat.eq_zero_or_pos r with rfl | hr
  · have h := replace_all base g off (k + 1) c gv cv ms m w hO (by omega) hn hm hoff hv
    rw [List.drop_eq_nil_of_le (by have := hO.lays.len; omega)]
    exact h
  · exact replace_head base g off (k + 1 + r) c gv cv k r ms m w hO rfl hr hn hm hoff hv
theorem Lays.head {w : World} {B n : Nat} {A : Option Addr} {ms : List LM} (h : Lays w B A n ms) (k : Nat) (hk : k ≤ ms.length) : Lays w B A k (ms.take k) :=
  ⟨by
    have hr := h.1.take (k := k) (by have := h.len; omega)
    rw [layCells_take ms k hk] at hr
    exact hr, fun m hm => h.2 m (List.mem_of_mem_take hm)⟩
theorem lsOf_take (ms : List LM) (k : Nat) : lsOf (ms.take k) = (lsOf ms).take k := by simp [lsOf, List.map_take]
theorem lsOf_drop (ms : List LM) (k : Nat) : lsOf (ms.drop k) = (lsOf ms).drop k := by simp [lsOf, List.map_drop]
theorem Lay.Good.take {W H : Int} {ls : List Lay.Layer} (h : Lay.Good W H ls) (k : Nat) : Lay.Good W H (ls.take k) := by
  refine Lay.good_mk h.wd h.hg (by rw [List.length_take]; have := h.n; omega) (fun i j hi hj => ?_) (fun l hm => h.all l (List.mem_of_mem_take hm))
  rw [List.getElem_take, List.getElem_take]
  exact h.ne i j (by rw [List.length_take] at hi; omega) hj

set_option maxRecDepth 100000 in
set_option maxHeartbeats 4000000 in
theorem merge1_good (W H : Int) (base g off c k r pb : Nat) (ms : List LM) (name : ByteArray) (w : World) (hO : LaysO w base (.slice (some ⟨g, off, none⟩) (k + 1 + r) c) ms) (hn : k + 1 + r ≤ 4096) (hB : base ≤ w.heap.size) (hG : Lay.Good W H (lsOf ms))
    (hs : w.cell? ⟨pb, 0, none⟩ = some (.string name)) (L : List Px) (hq : Lay.flat ((lsOf ms).take (k + 1)) W.toNat H.toNat = L) :
    Calls Tryz.prog 42 #[.agg #[.int .i64 W, .int .i64 H, .slice (some ⟨g, off, none⟩) (k + 1 + r) c], .int .i64 k, .pointer (some ⟨pb, 0, none⟩)] w
      (DocNew W H base (Lay.merged name W H L :: (lsOf ms).drop (k + 1)) w) := by
  have hg := hO.own.lt g rfl
  have hml := hO.lays.len
  have hkc : k + 1 ≤ c := by
    obtain ⟨_, _, e, h, _⟩ := hO.own.form
    injection e with _ _ e3
    have := hO.lays.len
    omega
  have z0 : (0 : Int) ≤ (k : Int) + 1 := by omega
  have z1 : (k : Int) + 1 ≤ (c : Int) := by omega
  have HQ := Lib.hid (show Lay.flat (lsOf (ms.take (k + 1))) W.toNat H.toNat = L by rw [lsOf_take]; exact hq)
  have HG := Lib.hid (show Lay.Good W H (lsOf (ms.take (k + 1))) by rw [lsOf_take]; exact hG.take _)
  have HLN := Lib.hid (fun (Ap : Option Addr) (cp : Nat) => (show ((⟨Lay.merged name W H L, Ap, L.length, cp⟩ : LM) :: ms.drop (k + 1)).length = 1 + r by rw [List.length_cons, List.length_drop]; omega))
  have HLS := Lib.hid (fun (Ap : Option Addr) (cp : Nat) => (show lsOf ((⟨Lay.merged name W H L, Ap, L.length, cp⟩ : LM) :: ms.drop (k + 1)) = Lay.merged name W H L :: (lsOf ms).drop (k + 1) by rw [← lsOf_drop]; rfl))
  have z2 : (k : Int) + 1 ≤ (k : Int) + 1 + r := by omega
  clear hq hG hml
  go_enter Tryz.func42, Tryz.ntmps42
  go_wp2_with fail
  obtain ⟨W0, hW0⟩ : ∃ W0, W0 = (w.alloc (.cells #[.int .i64 W, .int .i64 H, .slice (some ⟨g, off, none⟩) (k + 1 + r) c] 39)).alloc (.cells #[.int .i64 0, .int .i64 0, .slice none 0 0] 39) := ⟨_, rfl⟩
  have bD : Blk W0 w.heap.size 39 #[.int .i64 W, .int .i64 H, .slice (some ⟨g, off, none⟩) (k + 1 + r) c] := by rw [hW0]; exact (Blk.new _ _ _ rfl).alloc _
  have bR : Blk W0 (w.heap.size + 1) 39 #[.int .i64 0, .int .i64 0, .slice none 0 0] := by rw [hW0]; exact Blk.new _ _ _ (by simp)
  have hb0 : Below w.heap.size w W0 := by rw [hW0]; go_grown
  have HO := Lib.hid (hO.below hb0 (Nat.le_refl _))
  have LL := Lib.hid (HO.out.lays.head (k + 1) (by have := HO.out.lays.len; omega))
  have hs0 := bkeep hb0 hs
  rw [← hW0]
  clear hW0 hO hs
  have hz1 := bD.lt
  have hw1 : IntKind.i64.wrap ((k : Int) + 1) = (k : Int) + 1 := IntWalk.i64_in _ (by omega)
  have hw2 : ((k : Int) + 1).toNat = k + 1 := by omega
  have s0 : W0.cell? ⟨w.heap.size, 0, none⟩ = some (.int .i64 W) := (bD.cell 0).trans rfl
  have s1 : W0.cell? ⟨w.heap.size, 1, none⟩ = some (.int .i64 H) := (bD.cell 1).trans rfl
  have s2 : W0.cell? ⟨w.heap.size, 2, none⟩ = some (.slice (some ⟨g, off, none⟩) (k + 1 + r) c) := (bD.cell 2).trans rfl
  go_region_held3 (fun w' => w'.cell? ⟨w.heap.size, 0, none⟩ = some (.int .i64 W) ∧ w'.cell? ⟨w.heap.size, 1, none⟩ = some (.int .i64 H) ∧ w'.cell? ⟨w.heap.size, 2, none⟩ = some (.slice (some ⟨g, off, none⟩) (k + 1 + r) c))
    ((go_split_ands
      refine ⟨?_, ?_, ?_⟩
      · (first | (with_reducible exact s0) | ((with_reducible refine bkeep hbA ?_); exact s0) | ((with_reducible refine cell_past _ ?_); exact s0) | ((with_reducible refine bkeep hbA ?_); exact cell_past _ s0) | ((with_reducible refine cell_past _ ?_); (with_reducible refine bkeep hbA ?_); exact s0) | ((with_reducible refine cell_set_other _ (ne_blk hz1 _ _) ?_); (with_reducible refine cell_set_other _ (ne_blk hz1 _ _) ?_); (with_reducible refine cell_set_other _ (ne_blk hz1 _ _) ?_); (with_reducible refine bkeep hbA ?_); exact cell_past _ s0) | exact s0 | exact cell_past _ s0)
      · (first | (with_reducible exact s1) | ((with_reducible refine bkeep hbA ?_); exact s1) | ((with_reducible refine cell_past _ ?_); exact s1) | ((with_reducible refine bkeep hbA ?_); exact cell_past _ s1) | ((with_reducible refine cell_past _ ?_); (with_reducible refine bkeep hbA ?_); exact s1) | ((with_reducible refine cell_set_other _ (ne_blk hz1 _ _) ?_); (with_reducible refine cell_set_other _ (ne_blk hz1 _ _) ?_); (with_reducible refine cell_set_other _ (ne_blk hz1 _ _) ?_); (with_reducible refine bkeep hbA ?_); exact cell_past _ s1) | exact s1 | exact cell_past _ s1)
      · (first | (with_reducible exact s2) | ((with_reducible refine bkeep hbA ?_); exact s2) | ((with_reducible refine cell_past _ ?_); exact s2) | ((with_reducible refine bkeep hbA ?_); exact cell_past _ s2) | ((with_reducible refine cell_past _ ?_); (with_reducible refine bkeep hbA ?_); exact s2) | ((with_reducible refine cell_set_other _ (ne_blk hz1 _ _) ?_); (with_reducible refine cell_set_other _ (ne_blk hz1 _ _) ?_); (with_reducible refine cell_set_other _ (ne_blk hz1 _ _) ?_); (with_reducible refine bkeep hbA ?_); exact cell_past _ s2) | exact s2 | exact cell_past _ s2)))
    (first
      | (go_at_call 21; refine (flatten_as W H _ (k + 1) c (ms.take (k + 1)) (W0.alloc (.cells #[.int .i64 0, .int .i64 0, .slice none 0 0] 27)).drew (LL.out.step (Below.alloc (Below.refl W0.heap.size W0) (Nat.le_refl _) (.cells #[.int .i64 0, .int .i64 0, .slice none 0 0] 27)).drew) HG.out L HQ.out).mono ?_; rintro e wA ⟨Ap, cp, rfl, hoA, hbA⟩; have kB : Blk wA W0.heap.size 27 #[.int .i64 0, .int .i64 0, .slice none 0 0] := (Blk.drew (Blk.new W0 _ _ rfl)).below hbA (by simp); have kc := kB.cell; have kf := kB.free)
      | (go_at_call 21; refine (flatten_as W H _ (k + 1) c (ms.take (k + 1)) W0.drew LL.out HG.out L HQ.out).mono ?_; rintro e wA ⟨Ap, cp, rfl, hoA, hbA⟩))
  · obtain ⟨W7, hW7⟩ : ∃ W7, W7 = wA.alloc (.cells #[.int .i64 W, .int .i64 H, .slice Ap L.length cp] 27) := ⟨_, rfl⟩
    rw [← hW7]
    have P7 : Blk W7 wA.heap.size 27 #[.int .i64 W, .int .i64 H, .slice Ap L.length cp] := by rw [hW7]; exact Blk.new _ _ _ rfl
    have b07 : Below W0.heap.size W0 W7 := by rw [hW7]; exact (((Below.refl W0.heap.size W0).drew.trans hbA).alloc (by have := hbA.size; exact this) _)
    have R7 : Reads W7 W7.heap.size 4 Ap L.length (pxCells L) := by rw [hW7]; exact (hoA.reads.2.alloc (Nat.le_refl _) _).more (by simp)
    clear hW7
    clear s0 s1 s2 hw1 hw2
    have b1 := bD.below b07 bD.lt
    have b2 := bR.below b07 bR.lt
    have c1 := b1.cell
    have f1 := b1.free
    have c7 := P7.cell
    have hs7 := bkeep b07 hs0
    have hO7 := HO.out.below b07 (Nat.le_refl _)
    have hbw := hb0.trans (b07.mono hb0.size)
    have h1l := b1.lt
    have h2l := b2.lt
    have hof : OffAt Ap L.length (.slice (some ⟨g, off, none⟩) (k + 1 + r) c) := fun b o e hn e2 => by
      rw [e] at hoA
      have h5 : W0.heap.size ≤ b := (hoA.lt b rfl).1
      have h6 : g = b := by simpa [Value.ownBlock] using e2
      have h7 := hb0.size
      omega
    have HOF := Lib.hid hof
    have HO7 := Lib.hid hO7
    have HR7 := Lib.hid R7
    clear hof hO7 R7 hoA
    go_wp2_with fail
    refine (replace_any base g off c W7.heap.size 1 k r ms ⟨Lay.merged name W H L, Ap, L.length, cp⟩ _ (HO7.out.alloc _) hn ((HR7.out.alloc (Nat.le_refl _) _).more (by simp)) HOF.out (Blk.new _ _ _ rfl)).mono ?_
    rintro e w8 ⟨rfl, hO8, hgr⟩
    have B1 := (b1.alloc (.cells (layCs ⟨Lay.merged name W H L, Ap, L.length, cp⟩).toArray 45)).grown hgr (by simp; omega)
    have B2 := (b2.alloc (.cells (layCs ⟨Lay.merged name W H L, Ap, L.length, cp⟩).toArray 45)).grown hgr (by simp; omega)
    have o1 : ∀ x ∈ ((⟨Lay.merged name W H L, Ap, L.length, cp⟩ : LM) :: ms.drop (k + 1)), OffB w.heap.size x := fun x hx => OffB.blk (hO8.px x hx) B1
    have o2 : ∀ x ∈ ((⟨Lay.merged name W H L, Ap, L.length, cp⟩ : LM) :: ms.drop (k + 1)), OffB (w.heap.size + 1) x := fun x hx => OffB.blk (hO8.px x hx) B2
    have hz8 := hgr.size
    simp at hz8
    have hbw8 : Below base w w8 := ((hbw.mono hB).alloc (by have := hbw.size; omega) _).grown hgr (by simp; have := hbw.size; omega) (fun g' e => by injection e with e; omega)
    have d1 := B1.cell
    have f1' := B1.free
    have d2 := B2.cell
    have f2 := B2.free
    have HO8 := Lib.hid hO8
    have HO1 := Lib.hid o1
    have HO2 := Lib.hid o2
    have hne : ¬ w.heap.size + 1 = w.heap.size := by omega
    clear hO8 hgr o1 o2 c1 f1 c7 hs7
    go_wp2_with fail
    refine bodyPost_ret (v := .tuple #[.agg #[.int .i64 W, .int .i64 H, .slice (some ⟨g, off, none⟩) (1 + r) c], .nilIface]) (by simp [results, Tryz.results42, go_sem, d2]) rfl ⟨some ⟨g, off, none⟩, c, (⟨Lay.merged name W H L, Ap, L.length, cp⟩ : LM) :: ms.drop (k + 1), by rw [HLN.out Ap cp], ?_, HLS.out Ap cp, ?_⟩
    · rw [HLN.out Ap cp]
      have n1 : ∀ G, w.heap.size ≤ G → (Value.slice (some ⟨g, off, none⟩) (1 + r) c).ownBlock ≠ some G := fun G hG => by simp [Value.ownBlock]; omega
      exact ((((HO8.out.farB (p := ⟨w.heap.size, 2, none⟩) (n1 _ (Nat.le_refl _)) HO1.out _).farB (p := ⟨w.heap.size + 1, 0, none⟩) (n1 _ (by simp)) HO2.out _).farB (p := ⟨w.heap.size + 1, 1, none⟩) (n1 _ (by simp)) HO2.out _).farB (p := ⟨w.heap.size + 1, 2, none⟩) (n1 _ (by simp)) HO2.out _)
    · exact (((hbw8.setCell (by show base ≤ w.heap.size; omega) _).setCell (by show base ≤ w.heap.size + 1; omega) _).setCell (by show base ≤ w.heap.size + 1; omega) _).setCell (by show base ≤ w.heap.size + 1; omega) _
  · obtain ⟨W7, hW7⟩ : ∃ W7, W7 = ((wA.setCell ⟨W0.heap.size, 0, none⟩ (.int .i64 W)).setCell ⟨W0.heap.size, 1, none⟩ (.int .i64 H)).setCell ⟨W0.heap.size, 2, none⟩ (.slice Ap L.length cp) := ⟨_, rfl⟩
    rw [← hW7]
    have P7 : Blk W7 W0.heap.size 27 #[.int .i64 W, .int .i64 H, .slice Ap L.length cp] := by rw [hW7]; exact (by simpa using ((kB.set_ 0 (.int .i64 W)).set_ 1 (.int .i64 H)).set_ 2 (.slice Ap L.length cp))
    have b07 : Below W0.heap.size W0 W7 := by rw [hW7]; exact (((((((Below.refl W0.heap.size W0).alloc (Nat.le_refl _) (.cells #[.int .i64 0, .int .i64 0, .slice none 0 0] 27)).drew.trans (hbA.mono (by simp)))).setCell (Nat.le_refl _) _).setCell (Nat.le_refl _) _).setCell (Nat.le_refl _) _)
    have R7 : Reads W7 W7.heap.size 4 Ap L.length (pxCells L) := by rw [hW7]; exact ((((hoA.setCell (fun e => by have h8 := (hoA.lt _ e).1; simp at h8; omega) _).setCell (fun e => by have h8 := (hoA.lt _ e).1; simp at h8; omega) _).setCell (fun e => by have h8 := (hoA.lt _ e).1; simp at h8; omega) _).reads.2)
    clear hW7 kB kc kf
    clear s0 s1 s2 hw1 hw2
    have b1 := bD.below b07 bD.lt
    have b2 := bR.below b07 bR.lt
    have c1 := b1.cell
    have f1 := b1.free
    have c7 := P7.cell
    have hs7 := bkeep b07 hs0
    have hO7 := HO.out.below b07 (Nat.le_refl _)
    have hbw := hb0.trans (b07.mono hb0.size)
    have h1l := b1.lt
    have h2l := b2.lt
    have hof : OffAt Ap L.length (.slice (some ⟨g, off, none⟩) (k + 1 + r) c) := fun b o e hn e2 => by
      rw [e] at hoA
      have h5 : W0.heap.size ≤ b := by have h8 := (hoA.lt b rfl).1; simp at h8; omega
      have h6 : g = b := by simpa [Value.ownBlock] using e2
      have h7 := hb0.size
      omega
    have HOF := Lib.hid hof
    have HO7 := Lib.hid hO7
    have HR7 := Lib.hid R7
    clear hof hO7 R7 hoA
    go_wp2_with fail
    refine (replace_any base g off c W7.heap.size 1 k r ms ⟨Lay.merged name W H L, Ap, L.length, cp⟩ _ (HO7.out.alloc _) hn ((HR7.out.alloc (Nat.le_refl _) _).more (by simp)) HOF.out (Blk.new _ _ _ rfl)).mono ?_
    rintro e w8 ⟨rfl, hO8, hgr⟩
    have B1 := (b1.alloc (.cells (layCs ⟨Lay.merged name W H L, Ap, L.length, cp⟩).toArray 45)).grown hgr (by simp; omega)
    have B2 := (b2.alloc (.cells (layCs ⟨Lay.merged name W H L, Ap, L.length, cp⟩).toArray 45)).grown hgr (by simp; omega)
    have o1 : ∀ x ∈ ((⟨Lay.merged name W H L, Ap, L.length, cp⟩ : LM) :: ms.drop (k + 1)), OffB w.heap.size x := fun x hx => OffB.blk (hO8.px x hx) B1
    have o2 : ∀ x ∈ ((⟨Lay.merged name W H L, Ap, L.length, cp⟩ : LM) :: ms.drop (k + 1)), OffB (w.heap.size + 1) x := fun x hx => OffB.blk (hO8.px x hx) B2
    have hz8 := hgr.size
    simp at hz8
    have hbw8 : Below base w w8 := ((hbw.mono hB).alloc (by have := hbw.size; omega) _).grown hgr (by simp; have := hbw.size; omega) (fun g' e => by injection e with e; omega)
    have d1 := B1.cell
    have f1' := B1.free
    have d2 := B2.cell
    have f2 := B2.free
    have HO8 := Lib.hid hO8
    have HO1 := Lib.hid o1
    have HO2 := Lib.hid o2
    have hne : ¬ w.heap.size + 1 = w.heap.size := by omega
    clear hO8 hgr o1 o2 c1 f1 c7 hs7
    go_wp2_with fail
    refine bodyPost_ret (v := .tuple #[.agg #[.int .i64 W, .int .i64 H, .slice (some ⟨g, off, none⟩) (1 + r) c], .nilIface]) (by simp [results, Tryz.results42, go_sem, d2]) rfl ⟨some ⟨g, off, none⟩, c, (⟨Lay.merged name W H L, Ap, L.length, cp⟩ : LM) :: ms.drop (k + 1), by rw [HLN.out Ap cp], ?_, HLS.out Ap cp, ?_⟩
    · rw [HLN.out Ap cp]
      have n1 : ∀ G, w.heap.size ≤ G → (Value.slice (some ⟨g, off, none⟩) (1 + r) c).ownBlock ≠ some G := fun G hG => by simp [Value.ownBlock]; omega
      exact ((((HO8.out.farB (p := ⟨w.heap.size, 2, none⟩) (n1 _ (Nat.le_refl _)) HO1.out _).farB (p := ⟨w.heap.size + 1, 0, none⟩) (n1 _ (by simp)) HO2.out _).farB (p := ⟨w.heap.size + 1, 1, none⟩) (n1 _ (by simp)) HO2.out _).farB (p := ⟨w.heap.size + 1, 2, none⟩) (n1 _ (by simp)) HO2.out _)
    · exact (((hbw8.setCell (by show base ≤ w.heap.size; omega) _).setCell (by show base ≤ w.heap.size + 1; omega) _).setCell (by show base ≤ w.heap.size + 1; omega) _).setCell (by show base ≤ w.heap.size + 1; omega) _
end Go.Proofs.YtmknacnmdlcieaaGreatDoor
/- Merge of a layer that is there, with all below it: the walk. -/
namespace Go.Proofs.YtmknacnmdlcieaaGreatDoor
open Go Go.RowKit

set_option maxRecDepth 100000 in
set_option maxHeartbeats 2000000 in
theorem merge_good (W H : Int) (A : Option Addr) (n c k : Nat) (s : ByteArray) (ms : List LM) (L : List Px) (w : World) (hL : Lays w w.heap.size A n ms) (hG : Lay.Good W H (lsOf ms)) (hf : Lay.find (lsOf ms) s = k) (hk : k < n) (hq : Lay.flat ((lsOf ms).take (k + 1)) W.toNat H.toNat = L) :
    Calls Tryz.prog 17 #[.agg #[.int .i64 W, .int .i64 H, .slice A n c], .string s] w (DocNew W H w.heap.size (Lay.merged s W H L :: (lsOf ms).drop (k + 1)) w) := by
  have HF := Lib.hid hf
  have HG := Lib.hid hG
  have HQ := Lib.hid hq
  have hb0 : ∀ o o2 o3, Below w.heap.size w (((w.alloc o).alloc o2).alloc o3) := fun o o2 o3 => by go_grown
  have HL := Lib.hid hL
  have HLN := Lib.hid hL.len
  have hn8 : n ≤ 8 := by have := hG.n; rw [lsOf_len] at this; rw [HLN.out]; exact this
  have HB0 := Lib.hid hb0
  clear hf hG hL hb0 hq
  go_enter Tryz.func17, Tryz.ntmps17
  go_wp2_with fail
  refine (with_merge W H A n c k s ms (w.heap.size + 1) (Lay.merged s W H L :: (lsOf ms).drop (k + 1)) _ (HL.out.step (HB0.out _ _ _)) HG.out HF.out hk (fun w3 base hb hz hB g off c' ns hO hs => ?_)).mono ?_
  · obtain ⟨m, hm⟩ : ∃ m, ns.length = k + 1 + m := ⟨ns.length - (k + 1), by have := same_lays hs; have := HLN.out; omega⟩
    rw [hm] at hO ⊢
    rw [← hs]
    exact merge1_good W H base g off c' k m (w.heap.size + 1) ns s w3 hO (by have := same_lays hs; have := HLN.out; omega) hB (by rw [hs]; exact HG.out) (bkeep hb (((Blk.new (w.alloc (.cells #[.int .i64 W, .int .i64 H, .slice A n c] 39)) 9 #[.string s] (by simp)).alloc (.cells #[.int .i64 0, .int .i64 0, .slice none 0 0] 39)).cell 0)) L (by rw [hs]; exact HQ.out)
  rintro e w4 ⟨A4, cc4, ns4, rfl, hO4, hs4, hb4⟩
  have b24 := (Blk.new ((w.alloc (.cells #[.int .i64 W, .int .i64 H, .slice A n c] 39)).alloc (.cells #[.string s] 9)) 39 #[.int .i64 0, .int .i64 0, .slice none 0 0] rfl).below hb4 (by simp)
  simp at b24
  have c4 := b24.cell
  have f4 := b24.free
  have hbw : Below w.heap.size w w4 := Below.trans (by go_grown) (hb4.mono (by simp; omega))
  have hoff : ∀ y ∈ ns4, OffB (w.heap.size + 1 + 1) y := fun y hy => OffB.blk (hO4.px y hy) b24
  have HOFF := Lib.hid hoff
  have HO4 := Lib.hid hO4
  have HS4 := Lib.hid hs4
  have l4 := b24.lt
  clear hO4 hoff hs4 hb4
  go_wp2_with fail
  refine bodyPost_ret (v := .tuple #[.agg #[.int .i64 W, .int .i64 H, .slice A4 ns4.length cc4], .nilIface]) (by simp [results, Tryz.results17, go_sem, c4]) rfl ⟨A4, cc4, ns4, rfl, ?_, HS4.out, ?_⟩
  · have n1 : (Value.slice A4 ns4.length cc4).ownBlock ≠ some (w.heap.size + 1 + 1) := fun e => by have := (HO4.out.own.lt _ e).1; simp at this; omega
    exact (((HO4.out.farB n1 HOFF.out _).farB n1 HOFF.out _).farB n1 HOFF.out _).mono (by simp; omega)
  · exact ((hbw.setCell (by show w.heap.size ≤ w.heap.size + 1 + 1; omega) _).setCell (by show w.heap.size ≤ w.heap.size + 1 + 1; omega) _).setCell (by show w.heap.size ≤ w.heap.size + 1 + 1; omega) _
end Go.Proofs.YtmknacnmdlcieaaGreatDoor
/- What a change of layers gives: a document, or why there is none; isDoc at it. -/
namespace Go.Proofs.YtmknacnmdlcieaaGreatDoor
open Go Go.RowKit

/-- Layers that are few, of few pixels. -/
def FewLs (ls : List Lay.Layer) : Prop := ls.length ≤ 4096 ∧ ∀ l ∈ ls, l.ps.length ≤ 1048576
theorem FewLs.lm {w : World} {A : Option Addr} {n : Nat} {ns : List LM} {ls : List Lay.Layer} (h : FewLs ls) (hL : Lays w w.heap.size A n ns) (e : lsOf ns = ls) : n ≤ 4096 ∧ ∀ m ∈ ns, m.n ≤ 1048576 := by
  subst e
  refine ⟨by have := h.1; rw [lsOf_len] at this; rw [hL.len]; exact this, fun m hm => ?_⟩
  have := h.2 m.l (List.mem_map.2 ⟨m, hm, rfl⟩)
  rw [(hL.2 m hm).pxLen]
  exact this
/-- The parts of a result that is a document and an error. -/
structure DocIs (E : Nat → Addr) (W H : Int) (f : Nat × Int) (ls : List Lay.Layer) (w : World) (p q : Int) (A : Option Addr) (n c : Nat) (v : Value) : Prop where
  good : f.1 = 0 → p = W ∧ q = H ∧ v = .nilIface ∧ ∃ ns : List LM, Lays w w.heap.size A n ns ∧ lsOf ns = ls
  bad : f.1 ≠ 0 → p = 0 ∧ q = 0 ∧ A = none ∧ n = 0 ∧ c = 0 ∧ ErrIs E w v f
section
variable {E : Nat → Addr} {W H : Int} {f : Nat × Int} {ls : List Lay.Layer} {w w' : World} {p q : Int} {A : Option Addr} {n c : Nat} {v : Value}
theorem DocIs.below (h : DocIs E W H f ls w p q A n c v) (hb : Below w.heap.size w w') : DocIs E W H f ls w' p q A n c v := by
  refine ⟨fun h0 => ?_, fun h0 => ?_⟩
  · obtain ⟨h1, h2, h3, ns, hL, h4⟩ := h.good h0
    exact ⟨h1, h2, h3, ns, hL.step hb, h4⟩
  · obtain ⟨h1, h2, h3, h4, h5, hv⟩ := h.bad h0
    exact ⟨h1, h2, h3, h4, h5, hv.below hb⟩
/-- No layers lie in a block that holds two numbers and a slice. -/
theorem Lays.offDoc {g T : Nat} {a b : Int} {C : Option Addr} {n' c' : Nat} {ns : List LM} (h : Lays w w.heap.size A n ns) (hb : Blk w g T #[.int .i64 a, .int .i64 b, .slice C n' c']) (i : Nat) (u : Value) : Lays (w.setCell ⟨g, i, none⟩ u) (w.setCell ⟨g, i, none⟩ u).heap.size A n ns := by
  have hz : (w.setCell ⟨g, i, none⟩ u).heap.size = w.heap.size := by simp [World.setCell]
  refine ⟨h.1.keepAt (by omega) fun b0 off e hb0 hn => ?_, fun m hm => (h.2 m hm).keepAt (by omega) fun b0 off e hb0 hn => ?_⟩
  · refine Below.heap_setCell w _ u b0 (fun e2 => ?_)
    subst e2
    rw [e] at h
    have hx : ∃ nm, (#[Value.int .i64 a, .int .i64 b, .slice C n' c'] : Array Value)[off]? = some (.string nm) := by
      have h0 := h.at 0 (by have := h.len; omega) 0 (by omega)
      simp only [Nat.zero_mul, Nat.add_zero] at h0
      rw [hb.cell] at h0
      exact ⟨_, h0⟩
    obtain ⟨nm, hx⟩ := hx
    rcases off with _ | _ | _ | k <;> simp at hx
  · exact Below.heap_setCell w _ u b0 (OffB.blk (h.2 m hm) hb b0 off e (by omega))
theorem DocIs.put (h : DocIs E W H f ls w p q A n c v) {g T : Nat} {a b : Int} {C : Option Addr} {n' c' : Nat} (hb : Blk w g T #[.int .i64 a, .int .i64 b, .slice C n' c']) (x y : Int) (D : Option Addr) (k d : Nat) :
    DocIs E W H f ls (((w.setCell ⟨g, 0, none⟩ (.int .i64 x)).setCell ⟨g, 1, none⟩ (.int .i64 y)).setCell ⟨g, 2, none⟩ (.slice D k d)) p q A n c v := by
  have b1 : Blk (w.setCell ⟨g, 0, none⟩ (.int .i64 x)) g T #[.int .i64 x, .int .i64 b, .slice C n' c'] := by simpa using hb.set_ 0 (.int .i64 x)
  have b2 : Blk ((w.setCell ⟨g, 0, none⟩ (.int .i64 x)).setCell ⟨g, 1, none⟩ (.int .i64 y)) g T #[.int .i64 x, .int .i64 y, .slice C n' c'] := by simpa using b1.set_ 1 (.int .i64 y)
  refine ⟨fun h0 => ?_, fun h0 => ?_⟩
  · obtain ⟨h1, h2, h3, ns, hL, h4⟩ := h.good h0
    exact ⟨h1, h2, h3, ns, ((hL.offDoc hb 0 _).offDoc b1 1 _).offDoc b2 2 _, h4⟩
  · obtain ⟨h1, h2, h3, h4, h5, hv⟩ := h.bad h0
    exact ⟨h1, h2, h3, h4, h5, hv.zero3 hb rfl _ _ _⟩
end

/-- A document as it must be, or a fault as it must be: whatever else is said of the wanted one. -/
theorem isDoc_is (E : Nat → Addr) (W H : Int) (f : Nat × Int) (ls : List Lay.Layer) (p q : Int) (A : Option Addr) (n c : Nat) (v : Value) (A2 : Option Addr) (n2 c2 : Nat) (ns : List LM) (w : World) (hE : ErrsAt w E) (hd : DocIs E W H f ls w p q A n c v)
    (hL : Lays w w.heap.size A2 n2 ns) (hl : f.1 = 0 → lsOf ns = ls) (hf : f.1 = 0 → FewLs ls) (h9 : f.1 ≤ 9) (hat : -1 ≤ f.2) :
    Calls Tryz.prog 12 #[.agg #[.int .i64 p, .int .i64 q, .slice A n c], v, .agg #[.int .i64 W, .int .i64 H, .slice A2 n2 c2], .agg #[.int .i64 f.1, .int .i64 f.2]] w fun e w' => e = .returned (.bool true) ∧ Below w.heap.size w w' := by
  by_cases h0 : f.1 = 0
  · obtain ⟨rfl, rfl, rfl, ms, hM, hm⟩ := hd.good h0
    obtain ⟨g1, g2⟩ := (hf h0).lm hM hm
    rw [h0]
    exact isDoc_good _ _ A n c ms A2 n2 c2 ns f.2 w hM hL (hm.trans (hl h0).symm) g1 g2
  · obtain ⟨rfl, rfl, rfl, rfl, rfl, hv⟩ := hd.bad h0
    exact isDoc_fault E v W H A2 n2 c2 f w hE hv h0 h9 hat

theorem isDoc_as (E : Nat → Addr) (W H : Int) (f : Nat × Int) (ls : List Lay.Layer) (p q : Int) (A : Option Addr) (n c : Nat) (v : Value) (A2 : Option Addr) (n2 c2 : Nat) (ns : List LM) (a b : Int) (w : World) (ha : (f.1 : Int) = a) (hb : f.2 = b) (hE : ErrsAt w E) (hd : DocIs E W H f ls w p q A n c v)
    (hL : Lays w w.heap.size A2 n2 ns) (hl : f.1 = 0 → lsOf ns = ls) (hf : f.1 = 0 → FewLs ls) (hc : f.1 ≤ 9 ∧ -1 ≤ f.2) :
    Calls Tryz.prog 12 #[.agg #[.int .i64 p, .int .i64 q, .slice A n c], v, .agg #[.int .i64 W, .int .i64 H, .slice A2 n2 c2], .agg #[.int .i64 a, .int .i64 b]] w fun e w' => e = .returned (.bool true) ∧ Below w.heap.size w w' := by
  subst ha hb
  exact isDoc_is E W H f ls p q A n c v A2 n2 c2 ns w hE hd hL hl hf hc.1 hc.2
/-- What a change leaves. -/
def ResPost (E : Nat → Addr) (W H : Int) (f : Nat × Int) (ls : List Lay.Layer) (w : World) (e : Ending) (w' : World) : Prop :=
  ∃ p q A n c v, e = .returned (.tuple #[.agg #[.int .i64 p, .int .i64 q, .slice A n c], v]) ∧ DocIs E W H f ls w' p q A n c v ∧ Below w.heap.size w w'
theorem ResPost.of_bad {E : Nat → Addr} {W H : Int} {f : Nat × Int} {ls : List Lay.Layer} {w w' : World} {e : Ending} (h : BadPost E f w e w') (h0 : f.1 ≠ 0) : ResPost E W H f ls w e w' := by
  obtain ⟨v, rfl, hv, hb⟩ := h
  exact ⟨0, 0, none, 0, 0, v, rfl, ⟨fun h => absurd h h0, fun _ => ⟨rfl, rfl, rfl, rfl, rfl, hv⟩⟩, hb⟩
theorem ResPost.of_new {E : Nat → Addr} {W H : Int} {f : Nat × Int} {ls : List Lay.Layer} {w w' : World} {e : Ending} (h : DocNew W H w.heap.size ls w e w') (h0 : f.1 = 0) : ResPost E W H f ls w e w' := by
  obtain ⟨A, c, ns, rfl, hO, hs, hb⟩ := h
  exact ⟨W, H, A, ns.length, c, .nilIface, rfl, ⟨fun _ => ⟨rfl, rfl, rfl, ns, hO.lays, hs⟩, fun h => absurd h0 h⟩, hb⟩

/-- The fault of a document with a layer more. -/
def moreF (W H : Int) (ls : List Lay.Layer) (l : Lay.Layer) : Nat × Int := if (Lay.check W H ls).1 = 0 then Lay.check W H (ls ++ [l]) else Lay.check W H ls
theorem add_is (W H : Int) (A : Option Addr) (n c : Nat) (m : LM) (ms : List LM) (E : Nat → Addr) (g : Nat × Int) (w : World) (hA : AddrOk A) (hmA : AddrOk m.A) (hE : ErrsAt w E) (hL : Lays w w.heap.size A n ms) (hm : Reads w w.heap.size 4 m.A m.n (pxCells m.l.ps)) (hmn : m.n ≤ 1048576)
    (hg : moreF W H (lsOf ms) m.l = g) :
    Calls Tryz.prog 9 #[.agg #[.int .i64 W, .int .i64 H, .slice A n c], .agg #[.string m.l.name, .int .i64 m.l.x, .int .i64 m.l.y, .bool m.l.hidden, .int .i64 m.l.opacity, .int .i64 m.l.mode, .int .i64 m.l.wide, .int .i64 m.l.high, .slice m.A m.n m.c]] w (ResPost E W H g (lsOf ms ++ [m.l]) w) := by
  unfold moreF at hg
  by_cases h0 : (Lay.check W H (lsOf ms)).1 = 0
  · rw [if_pos h0] at hg
    refine (add_good W H A n c m ms E g w hA hmA hE hL hm hmn (Lay.good_of h0) hg).mono fun e w' h => ?_
    by_cases g0 : g.1 = 0
    · exact ResPost.of_new (h.1 g0) g0
    · exact ResPost.of_bad (h.2 g0) g0
  · rw [if_neg h0] at hg
    subst hg
    exact (add_bad W H A n c m ms E _ w hE hL rfl h0).mono fun e w' h => ResPost.of_bad h h0

/-- The number of a name's layer, or why a change is not made. -/
def WithAt (W H : Int) (ls : List Lay.Layer) (s : ByteArray) (f : Nat × Int) (k : Nat) : Prop := WithBad W H ls s f ∨ (f = (0, -1) ∧ Lay.Good W H ls ∧ Lay.find ls s = k ∧ k < ls.length)
theorem remove_is (W H : Int) (A : Option Addr) (n c k : Nat) (s : ByteArray) (ms : List LM) (E : Nat → Addr) (f : Nat × Int) (w : World) (hE : ErrsAt w E) (hL : Lays w w.heap.size A n ms) (hf : WithAt W H (lsOf ms) s f k) :
    Calls Tryz.prog 15 #[.agg #[.int .i64 W, .int .i64 H, .slice A n c], .string s] w (ResPost E W H f ((lsOf ms).eraseIdx k) w) := by
  rcases hf with hf | ⟨rfl, hG, hf, hk⟩
  · exact (remove_bad W H A n c s ms E f w hE hL hf).mono fun e w' h => ResPost.of_bad h hf.ne
  · refine (remove_any W H A n c k s ms w hL hG hf (by rw [lsOf_len] at hk; rw [hL.len]; exact hk)).mono fun e w' ⟨g, off, c', ns, he, hO, hs, hb⟩ => ResPost.of_new ⟨_, c', ns, he, hO, hs, hb⟩ rfl
theorem merge_is (W H : Int) (A : Option Addr) (n c k : Nat) (s : ByteArray) (ms : List LM) (L : List Px) (E : Nat → Addr) (f : Nat × Int) (w : World) (hE : ErrsAt w E) (hL : Lays w w.heap.size A n ms) (hf : WithAt W H (lsOf ms) s f k) (hq : Lay.flat ((lsOf ms).take (k + 1)) W.toNat H.toNat = L) :
    Calls Tryz.prog 17 #[.agg #[.int .i64 W, .int .i64 H, .slice A n c], .string s] w (ResPost E W H f (Lay.merged s W H L :: (lsOf ms).drop (k + 1)) w) := by
  rcases hf with hf | ⟨rfl, hG, hf, hk⟩
  · exact (merge_bad W H A n c s ms E f w hE hL hf).mono fun e w' h => ResPost.of_bad h hf.ne
  · exact (merge_good W H A n c k s ms L w hL hG hf (by rw [lsOf_len] at hk; rw [hL.len]; exact hk) hq).mono fun e w' h => ResPost.of_new h rfl
/-- The fault of a move. -/
def moveF (f : Nat × Int) (tt : Int) (n : Nat) : Nat × Int := if f.1 = 0 ∧ (tt < 0 ∨ (n : Int) ≤ tt) then (2, -1) else f
theorem move_is (W H : Int) (A : Option Addr) (n c k : Nat) (s : ByteArray) (tt : Int) (ms : List LM) (x : Lay.Layer) (E : Nat → Addr) (f g : Nat × Int) (w : World) (hE : ErrsAt w E) (hL : Lays w w.heap.size A n ms) (hf : WithAt W H (lsOf ms) s f k) (hx : f.1 = 0 → (lsOf ms)[k]? = some x) (hg : moveF f tt n = g) :
    Calls Tryz.prog 16 #[.agg #[.int .i64 W, .int .i64 H, .slice A n c], .string s, .int .i64 tt] w (ResPost E W H g (movedL (lsOf ms) k tt.toNat x) w) := by
  unfold moveF at hg
  rcases hf with hf | ⟨rfl, hG, hf, hk⟩
  · rw [if_neg (fun h => hf.ne h.1)] at hg
    subst hg
    exact (move_bad W H A n c s tt ms E f w hE hL hf).mono fun e w' h => ResPost.of_bad h hf.ne
  · have hk' : k < n := by rw [lsOf_len] at hk; rw [hL.len]; exact hk
    by_cases ht : tt < 0 ∨ (n : Int) ≤ tt
    · rw [if_pos ⟨rfl, ht⟩] at hg
      subst hg
      exact (move_bound W H A n c k s tt ms E w hE hL hG hf hk' ht).mono fun e w' h => ResPost.of_bad h (by simp)
    · rw [if_neg (fun h => ht h.2)] at hg
      subst hg
      obtain ⟨t, rfl⟩ : ∃ t : Nat, tt = t := ⟨tt.toNat, by omega⟩
      rw [Int.toNat_natCast]
      exact (move_good W H A n c k t s ms x w hL hG hf hk' (by omega) (hx rfl)).mono fun e w' h => ResPost.of_new h rfl
/-- A fault's number and place. -/
theorem check_code (W H : Int) (ls : List Lay.Layer) : (Lay.check W H ls).1 ≤ 9 ∧ -1 ≤ (Lay.check W H ls).2 := by
  have h2 : ∀ (i : Nat) (l : Lay.Layer), Lay.faultAt ls i l ≤ 9 := fun i l => by
    unfold Lay.faultAt
    repeat' split
    all_goals omega
  have hc : ∀ (r : List Lay.Layer) (i : Nat), (Lay.checkFrom ls r i).1 ≤ 9 ∧ -1 ≤ (Lay.checkFrom ls r i).2 := by
    intro r
    induction r with
    | nil => intro i; exact ⟨by simp [Lay.checkFrom], by simp [Lay.checkFrom]⟩
    | cons l r ih =>
      intro i
      rw [Lay.checkFrom]
      split
      · exact ih (i + 1)
      · exact ⟨h2 i l, by simp only; omega⟩
  unfold Lay.check
  split
  · exact ⟨by simp, by simp⟩
  · exact hc ls 0
theorem moreF_code (W H : Int) (ls : List Lay.Layer) (l : Lay.Layer) : (moreF W H ls l).1 ≤ 9 ∧ -1 ≤ (moreF W H ls l).2 := by
  unfold moreF
  split
  · exact check_code ..
  · exact check_code ..
/-- The final fault of a change by name. -/
def nameF (W H : Int) (ls : List Lay.Layer) (s : ByteArray) : Nat × Int := if (Lay.check W H ls).1 = 0 ∧ Lay.find ls s < 0 then (6, -1) else Lay.check W H ls
theorem nameF_at (W H : Int) (ls : List Lay.Layer) (s : ByteArray) : WithAt W H ls s (nameF W H ls s) (Lay.find ls s).toNat := by
  unfold nameF WithAt WithBad
  have hl := Lay.find_lt ls s
  by_cases h0 : (Lay.check W H ls).1 = 0
  · by_cases h1 : Lay.find ls s < 0
    · rw [if_pos ⟨h0, h1⟩]
      exact .inl (.inr ⟨Lay.good_of h0, by omega, rfl⟩)
    · rw [if_neg (fun h => h1 h.2)]
      exact .inr ⟨(Lay.good_of h0).check, Lay.good_of h0, by omega, by omega⟩
  · rw [if_neg (fun h => h0 h.1)]
    exact .inl (.inl ⟨rfl, h0⟩)
theorem nameF_code (W H : Int) (ls : List Lay.Layer) (s : ByteArray) : (nameF W H ls s).1 ≤ 9 ∧ -1 ≤ (nameF W H ls s).2 := by
  unfold nameF
  split
  · exact ⟨by simp, by simp⟩
  · exact check_code ..
theorem moveF_code {f : Nat × Int} (h : f.1 ≤ 9 ∧ -1 ≤ f.2) (tt : Int) (n : Nat) : (moveF f tt n).1 ≤ 9 ∧ -1 ≤ (moveF f tt n).2 := by
  unfold moveF
  split
  · exact ⟨by simp, by simp⟩
  · exact h
end Go.Proofs.YtmknacnmdlcieaaGreatDoor
