/- layer.Flatten of a document without a fault: the walk. -/
import Derived.Test.YtmknacnmdlcieaaGreatDoorDot
import Derived.Test.YtmknacnmdlcieaaGreatDoorCheck
import Derived.Deep.RegionLaw
import Derived.BigRegion
import Derived.Deep.AppendLies
namespace Go.Proofs.YtmknacnmdlcieaaGreatDoor
open Go Go.RowKit

/-- What a cell holds: said of whatever world. -/
def val (a : Addr) (w : World) : Value := (w.cell? a).getD undef
theorem val_of {a : Addr} {w : World} {u : Value} (h : w.cell? a = some u) : w.cell? a = some (val a w) := by unfold val; rw [h]; rfl
theorem val_is {a : Addr} {w : World} {u : Value} (h : w.cell? a = some u) : val a w = u := by unfold val; rw [h]; rfl

theorem dot_agg (W H : Int) (A : Option Addr) (n c : Nat) (ms : List LM) (x y : Int) (w : World) (hL : Lays w w.heap.size A n ms) (hok : ∀ m ∈ ms, LayOK m) (hn : n ≤ 8) (x0 : 0 ≤ x ∧ x ≤ 256) (y0 : 0 ≤ y ∧ y ≤ 256) (q : Px) (hq : Lay.dot (lsOf ms) x y = q) :
    Calls Tryz.prog 45 #[.agg #[.int .i64 W, .int .i64 H, .slice A n c], .int .i64 x, .int .i64 y] w
      fun e w' => e = .returned (.agg #[.int .u8 q.r.toNat, .int .u8 q.g.toNat, .int .u8 q.b.toNat, .int .u8 q.a.toNat]) ∧ Below w.heap.size w w' := by
  subst hq
  exact dot_any W H A n c ms x y w hL hok hn x0 y0
theorem layOK_of {W H : Int} {ms : List LM} {w : World} {B n : Nat} {A : Option Addr} (hG : Lay.Good W H (lsOf ms)) (hL : Lays w B A n ms) : ∀ m ∈ ms, LayOK m := by
  intro m hm
  obtain ⟨_, hx, hy, ho, hmd, hr⟩ := hG.all m.l (List.mem_map.2 ⟨m, hm, rfl⟩)
  have hp := (hL.2 m hm).pxLen
  simp only [Lay.nearP, Lay.opacP, Lay.rightL, Lay.sideP, Bool.and_eq_true, decide_eq_true_eq] at hx hy ho hr
  exact ⟨hx, hy, ho, hmd, hr.1.1, hr.1.2, by rw [hp]; exact hr.2⟩

def rowsTo (ls : List Lay.Layer) (W y x : Nat) : List Px := Lay.flat ls W y ++ (List.range x).map fun x : Nat => Lay.dot ls (x : Int) (y : Int)
theorem rowsTo_zero (ls : List Lay.Layer) (W y : Nat) : rowsTo ls W y 0 = Lay.flat ls W y := by simp [rowsTo]
theorem rowsTo_full (ls : List Lay.Layer) (W y : Nat) : rowsTo ls W y W = Lay.flat ls W (y + 1) := by
  unfold rowsTo Lay.flat
  rw [List.range_succ (n := y), List.flatMap_append]
  simp
theorem rowsTo_succ (ls : List Lay.Layer) (W y x : Nat) : rowsTo ls W y (x + 1) = rowsTo ls W y x ++ [Lay.dot ls (x : Int) (y : Int)] := by simp [rowsTo, List.range_succ]
theorem rowsTo_len (ls : List Lay.Layer) (W y x : Nat) : (rowsTo ls W y x).length = y * W + x := by simp [rowsTo, Lay.flat_length]

/-- What stands through Flatten's loops. -/
structure FlR (W H : Int) (A : Option Addr) (n c : Nat) (w : World) (g5 : Nat) (v : Value) (l : List Px) (wr : World) : Prop where
  b1 : Blk wr w.heap.size 39 #[.int .i64 W, .int .i64 H, .slice A n c]
  b2 : Blk wr (w.heap.size + 1) 27 #[.int .i64 0, .int .i64 0, .slice none 0 0]
  b5 : Blk wr g5 27 #[.int .i64 W, .int .i64 H, v]
  own : Own wr (w.heap.size + 2) 4 v l.length (pxCells l)
  n5 : v.ownBlock ≠ some g5
  g5 : w.heap.size + 2 ≤ g5
  bel : Below w.heap.size w wr
theorem FlR.step {W H : Int} {A : Option Addr} {n c : Nat} {w wr w' : World} {g5 : Nat} {v : Value} {l : List Px} (h : FlR W H A n c w g5 v l wr) (hb : Below wr.heap.size wr w') : FlR W H A n c w g5 v l w' :=
  ⟨h.b1.below hb h.b1.lt, h.b2.below hb h.b2.lt, h.b5.below hb h.b5.lt, h.own.below hb (Nat.le_refl _), h.n5, h.g5, h.bel.trans (hb.mono (by have := h.b1.lt; omega))⟩

theorem FlR.push {W H : Int} {A : Option Addr} {n c : Nat} {w wi wA wT : World} {g5 : Nat} {v v' : Value} {l : List Px} {q : Px} {o : Obj} (F : FlR W H A n c w g5 v l wi) (hb : Below wi.heap.size wi wA) (ho : Own wT (w.heap.size + 2) 4 v' (l.length + 1) (pxCells l ++ pxCs q))
    (hg : (wA.alloc o).grownBy wT v.ownBlock) (hat : v'.ownBlock = v.ownBlock ∨ v'.ownBlock = some (wA.alloc o).heap.size) : FlR W H A n c w g5 v' (l ++ [q]) (wT.setCell ⟨g5, 2, none⟩ v') := by
  have F1 := (F.step hb).step (Below.alloc (Below.refl _ _) (Nat.le_refl _) o)
  have h1 := F1.b1.lt
  have h2 := F1.b2.lt
  have h5 := F1.b5.lt
  have ne : ∀ g, g < w.heap.size + 2 → some g ≠ v.ownBlock := fun g hg' e => by have := (F1.own.lt g e.symm).1; omega
  have n5 : v'.ownBlock ≠ some g5 := by
    intro e
    rcases hat with h | h <;> rw [h] at e
    · exact F.n5 e
    · injection e with e
      omega
  have hge := F.g5
  refine ⟨(F1.b1.grown hg (ne _ (by omega))).far (by simp; omega) _, (F1.b2.grown hg (ne _ (by omega))).far (by simp; omega) _, ?_, ?_, n5, F.g5, ?_⟩
  · have := (F1.b5.grown hg (fun e => F.n5 e.symm)).set_ 2 v'
    simpa using this
  · rw [pxCells_append, List.length_append]
    simp only [pxCells, List.flatMap_cons, List.flatMap_nil, List.append_nil, List.length_singleton] at ho ⊢
    exact ho.setCell n5 _
  · exact (F1.bel.grown hg (by have := F1.b1.lt; omega) (fun g e => by have := (F1.own.lt g e).1; omega)).setCell (by show w.heap.size ≤ g5; omega) _

set_option maxRecDepth 100000 in
set_option maxHeartbeats 4000000 in
theorem flatten_good (W H : Int) (A : Option Addr) (n c : Nat) (ms : List LM) (w : World) (hL : Lays w w.heap.size A n ms) (hG : Lay.Good W H (lsOf ms)) :
    Calls Tryz.prog 21 #[.agg #[.int .i64 W, .int .i64 H, .slice A n c]] w
      fun e w' => ∃ A' c', e = .returned (.tuple #[.agg #[.int .i64 W, .int .i64 H, .slice A' (Lay.flat (lsOf ms) W.toNat H.toNat).length c'], .nilIface]) ∧
        Own w' w.heap.size 4 (.slice A' (Lay.flat (lsOf ms) W.toNat H.toNat).length c') (Lay.flat (lsOf ms) W.toNat H.toNat).length (pxCells (Lay.flat (lsOf ms) W.toNat H.toNat)) ∧ Below w.heap.size w w' := by
  obtain ⟨i0, hi, hz0, hz1, hz2⟩ := info_parts pxInfo
  have hok := layOK_of hG hL
  have hn8 : n ≤ 8 := by have := hG.n; rw [lsOf_len] at this; rw [hL.len]; exact this
  obtain ⟨hW1, hW2⟩ := sideB_true hG.wd
  obtain ⟨hH1, hH2⟩ := sideB_true hG.hg
  obtain ⟨W', rfl⟩ : ∃ W' : Nat, W = W' := ⟨W.toNat, by omega⟩
  obtain ⟨H', rfl⟩ : ∃ H' : Nat, H = H' := ⟨H.toNat, by omega⟩
  rw [Int.toNat_natCast, Int.toNat_natCast]
  have HOK := Lib.hid hok
  have HG := Lib.hid hG
  clear hok hG
  obtain ⟨ls, hls⟩ : ∃ ls, ls = lsOf ms := ⟨_, rfl⟩
  rw [← hls]
  have HLS := Lib.hid hls
  clear hls
  obtain ⟨L, hLL⟩ : ∃ L, L = Lay.flat ls W' H' := ⟨_, rfl⟩
  rw [← hLL]
  have HLL := Lib.hid hLL
  clear hLL
  have hL1 := fun o o2 => (hL.step (Below.alloc (Below.refl _ _) (Nat.le_refl _) o)).step (Below.alloc (Below.refl _ _) (Nat.le_refl _) o2)
  have HL1 := Lib.hid hL1
  clear hL1
  go_enter Tryz.func21, Tryz.ntmps21
  go_wp2_with fail
  refine (check_good W' H' A n c ms _ (HL1.out _ _) HG.out).mono ?_
  rintro e w1 ⟨rfl, hb1⟩
  have B1 := ((Blk.new w 39 #[.int .i64 W', .int .i64 H', .slice A n c] rfl).alloc (.cells #[.int .i64 0, .int .i64 0, .slice none 0 0] 27)).below hb1 (by simp; omega)
  have B2 := (Blk.new (w.alloc (.cells #[.int .i64 W', .int .i64 H', .slice A n c] 39)) 27 #[.int .i64 0, .int .i64 0, .slice none 0 0] rfl).below hb1 (by simp)
  have hbw : Below w.heap.size w w1 := Below.trans (by go_grown) (hb1.mono (by simp; omega))
  have hz1' := hb1.size
  simp at hz1' B2
  clear hb1
  have c1 := B1.cell
  have hlt1 := B1.lt
  go_wp2_with fail
  obtain ⟨g5, hg5⟩ : ∃ g5, g5 = w1.heap.size := ⟨_, rfl⟩
  obtain ⟨w2, hw2⟩ : ∃ w2, w2 = w1.alloc (.cells #[.int .i64 W', .int .i64 H', .slice none 0 0] 27) := ⟨_, rfl⟩
  have F0 : FlR W' H' A n c w g5 (.slice none 0 0) [] w2 := by
    rw [hw2, hg5]
    exact ⟨B1.alloc _, B2.alloc _, Blk.new _ _ _ rfl, Own.nil _ _ _, by simp [Value.ownBlock], by omega, hbw.alloc (by omega) _⟩
  rw [← hw2, ← hg5]
  clear hw2 hg5 B1 B2 hbw c1 hlt1 hz1'
  go_loopw [21] (fun i wr => ∃ (k : Nat) (v : Value), k ≤ H' ∧ i = .int .i64 k ∧ FlR W' H' A n c w g5 v (Lay.flat ls W' k) wr) (fun i _ => H' - (intOf i).toNat)
  case atStart => exact ⟨0, _, Nat.zero_le _, rfl, F0⟩
  case round =>
    clear F0
    obtain ⟨k, v0, hk, rfl, F0⟩ := hrel
    obtain ⟨wo, rfl⟩ : ∃ wo : World, wo = wr := ⟨_, rfl⟩
    have c1 := F0.b1.cell
    have c5 := F0.b5.cell
    have c2 := F0.b2.cell
    have f2 := F0.b2.free
    by_cases hlt : k < H'
    · go_wp2_with fail
      go_loopw [26] (fun i wr => ∃ (j : Nat) (v : Value), j ≤ W' ∧ i = .int .i64 j ∧ FlR W' H' A n c w g5 v (rowsTo ls W' k j) wr) (fun i _ => W' - (intOf i).toNat)
      case atStart => exact ⟨0, v0, Nat.zero_le _, rfl, by rw [rowsTo_zero]; exact F0⟩
      case round =>
        clear F0 c1 c5 c2 f2
        obtain ⟨j, v, hj, rfl, F⟩ := hrel
        obtain ⟨wi, rfl⟩ : ∃ wi : World, wi = wr := ⟨_, rfl⟩
        by_cases hjl : j < W'
        · obtain ⟨Av, cv, rfl, hcv, _⟩ := F.own.form
          have hlen := rowsTo_len ls W' k j
          have HS := Lib.hid (rowsTo_succ ls W' k j)
          obtain ⟨l, hl⟩ : ∃ l, l = rowsTo ls W' k j := ⟨_, rfl⟩
          rw [← hl] at F hlen HS
          have hll : l.length ≤ 131072 := by
            have := Nat.mul_le_mul hk (show W' ≤ 256 by omega)
            have : H' * 256 ≤ 65536 := by omega
            omega
          have HLN := Lib.hid hlen
          have HL := Lib.hid hl
          clear hl hlen
          obtain ⟨q, hq⟩ : ∃ q, Lay.dot ls (j : Int) (k : Int) = q := ⟨_, rfl⟩
          have HQ := Lib.hid hq
          clear hq
          have s1 : wi.cell? ⟨w.heap.size, 0, none⟩ = some (.int .i64 W') := (F.b1.cell 0).trans rfl
          have s2 : wi.cell? ⟨w.heap.size, 1, none⟩ = some (.int .i64 H') := (F.b1.cell 1).trans rfl
          have s3 : wi.cell? ⟨w.heap.size, 2, none⟩ = some (.slice A n c) := (F.b1.cell 2).trans rfl
          have s5 : wi.cell? ⟨g5, 2, none⟩ = some (.slice Av l.length cv) := (F.b5.cell 2).trans rfl
          have h1l := F.b1.lt
          have h5l := F.b5.lt
          have hge := F.g5
          have LL := Lib.hid (hL.here F.bel (Nat.le_refl _) (by omega))
          go_wp2_with fail
          have p5 := fun o => cell_past (w := wi) o s5
          go_region_law
            (first
              | (refine step_append_Own _ rfl (.tmp 30) (.tmp 35) 25 25 rfl (w.heap.size + 2) 60 i0 _ 4 4 Tryz.underlying25 hi hz0 hz1 hz2 rfl (by decide) (.slice Av l.length cv) l.length (pxCells l) rfl ((F.own.below ((Below.here wi).trans hbA) (Nat.le_refl _)).alloc _) (pxCells_one _) 1 (pxCs q) (Src.blk Tryz.underlying25 (Blk.new _ _ _ rfl) rfl (pxCells_one [q])) (by unfold maxLen; omega) (by omega) (by simp; omega) ?_; intro vT wT hownT hgT hatT; obtain ⟨AT, cT, rfl, hcT, _⟩ := hownT.form; have t5 : wT.cell? ⟨g5, 2, none⟩ = some (.slice Av l.length cv) := (hgT.cell_far ⟨g5, 2, none⟩ (by simp; omega) (fun e => F.n5 e.symm)).trans (cell_past _ (bkeep hbA s5)); have f5 : wT.frozen? ⟨g5, 2, none⟩ = false := (hgT.frozen_far ⟨g5, 2, none⟩ (by simp; omega) (fun e => F.n5 e.symm)).trans (free_past _ (by simp; omega) (bfree_ hbA h5l (F.b5.free 2))))
              | (go_simp; go_at_call 45; refine (dot_agg W' H' A n c ms _ _ _ (LL.out.step (Below.here wi)) HOK.out hn8 ⟨by omega, by omega⟩ ⟨by omega, by omega⟩ q (by rw [← HLS.out]; exact HQ.out)).mono ?_; rintro e wA ⟨rfl, hbA⟩; have hzA : wi.heap.size ≤ wA.heap.size := hbA.size; have a5 := bkeep hbA s5; have r5 := fun o => cell_past (w := wA) o a5))
          all_goals
            have F9 := F.push ((Below.here wi).trans hbA) hownT hgT hatT
            have HF9 := Lib.hid F9
            clear F9 hownT hgT hatT t5 f5 a5 r5 p5 s5 s1 s2 s3
            go_wp2_with fail
            go_roundw
            case rel => exact ⟨j + 1, _, by omega, by go_num, by rw [rowsTo_succ, HQ.out, ← HL.out]; exact HF9.out⟩
            case measure => simp [intOf]; omega
        · go_wp2_with fail
          have e : j = W' := by omega
          subst e
          rw [rowsTo_full] at F
          go_roundw
          case rel => exact ⟨k + 1, v, by omega, by go_num, F⟩
          case measure => simp [intOf]; omega
    · have e : k = H' := by omega
      rw [e, ← HLL.out] at F0
      have HE := Lib.hid e
      clear e
      obtain ⟨Av, cv, rfl, hcv, _⟩ := F0.own.form
      have ho := F0.own
      have n1 : (Value.slice Av L.length cv).ownBlock ≠ some (w.heap.size + 1) := fun e => by have := (ho.lt _ e).1; omega
      have HO := Lib.hid ho
      have HN1 := Lib.hid n1
      clear ho n1
      go_wp2_with fail
      refine bodyPost_ret (v := .tuple #[.agg #[.int .i64 W', .int .i64 H', .slice Av L.length cv], .nilIface]) (by simp [results, Tryz.results21, go_sem, c2]) rfl ⟨Av, cv, rfl, ?_, ?_⟩
      · exact (((HO.out.setCell HN1.out _).setCell HN1.out _).setCell HN1.out _).mono (by omega)
      · exact (((F0.bel.setCell (by simp) _).setCell (by simp) _).setCell (by simp) _)
end Go.Proofs.YtmknacnmdlcieaaGreatDoor
