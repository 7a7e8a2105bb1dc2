/- layercakelaw3.layerOf, DocOf: the walks. -/
import Derived.Test.YtmknacnmdlcieaaGreatDoorFlatten
import Derived.Deep.RegionHeld3
namespace Go.Proofs.YtmknacnmdlcieaaGreatDoor
open Go Go.RowKit

set_option maxRecDepth 100000 in
set_option maxHeartbeats 2000000 in
theorem layerOf_any (m : LM) (w : World) (h : Reads w w.heap.size 4 m.A m.n (pxCells m.l.ps)) (hn : m.n ≤ 1048576) :
    Calls Tryz.prog 11 #[.agg #[.string m.l.name, .int .i64 m.l.x, .int .i64 m.l.y, .bool m.l.hidden, .int .i64 m.l.opacity, .int .i64 m.l.mode, .int .i64 m.l.wide, .int .i64 m.l.high, .slice m.A m.n m.c]] w
      fun e w' => ∃ A' c', e = .returned (.agg #[.string m.l.name, .int .i64 m.l.x, .int .i64 m.l.y, .bool m.l.hidden, .int .i64 m.l.opacity, .int .i64 m.l.mode, .int .i64 m.l.wide, .int .i64 m.l.high, .slice A' m.n c']) ∧ Own w' w.heap.size 4 (.slice A' m.n c') m.n (pxCells m.l.ps) ∧ Below w.heap.size w w' := by
  go_enter Tryz.func11, Tryz.ntmps11
  go_wp2_with fail
  obtain ⟨W0, hW0⟩ : ∃ W0, W0 = (w.alloc (.cells #[.string m.l.name, .int .i64 m.l.x, .int .i64 m.l.y, .bool m.l.hidden, .int .i64 m.l.opacity, .int .i64 m.l.mode, .int .i64 m.l.wide, .int .i64 m.l.high, .slice m.A m.n m.c] 29)).alloc (.cells #[.string ⟨#[]⟩, .int .i64 0, .int .i64 0, .bool false, .int .i64 0, .int .i64 0, .int .i64 0, .int .i64 0, .slice none 0 0] 45) := ⟨_, rfl⟩
  have bL : Blk W0 w.heap.size 29 #[.string m.l.name, .int .i64 m.l.x, .int .i64 m.l.y, .bool m.l.hidden, .int .i64 m.l.opacity, .int .i64 m.l.mode, .int .i64 m.l.wide, .int .i64 m.l.high, .slice m.A m.n m.c] := by rw [hW0]; exact (Blk.new _ _ _ rfl).alloc _
  have bR : Blk W0 (w.heap.size + 1) 45 #[.string ⟨#[]⟩, .int .i64 0, .int .i64 0, .bool false, .int .i64 0, .int .i64 0, .int .i64 0, .int .i64 0, .slice none 0 0] := by rw [hW0]; exact Blk.new _ _ _ (by simp)
  have hb0 : Below w.heap.size w W0 := by rw [hW0]; go_grown
  have h0 : Reads W0 W0.heap.size 4 m.A m.n (pxCells m.l.ps) := (h.below hb0 (Nat.le_refl _)).more hb0.size
  have hz0 := bR.lt
  rw [← hW0]
  clear hW0
  have hlt : w.heap.size < w.heap.size + 1 := by omega
  have s0 : W0.cell? ⟨w.heap.size, 0, none⟩ = some (.string m.l.name) := (bL.cell 0).trans rfl
  have s1 : W0.cell? ⟨w.heap.size, 1, none⟩ = some (.int .i64 m.l.x) := (bL.cell 1).trans rfl
  have s2 : W0.cell? ⟨w.heap.size, 2, none⟩ = some (.int .i64 m.l.y) := (bL.cell 2).trans rfl
  have s3 : W0.cell? ⟨w.heap.size, 3, none⟩ = some (.bool m.l.hidden) := (bL.cell 3).trans rfl
  have s4 : W0.cell? ⟨w.heap.size, 4, none⟩ = some (.int .i64 m.l.opacity) := (bL.cell 4).trans rfl
  have s5 : W0.cell? ⟨w.heap.size, 5, none⟩ = some (.int .i64 m.l.mode) := (bL.cell 5).trans rfl
  have s6 : W0.cell? ⟨w.heap.size, 6, none⟩ = some (.int .i64 m.l.wide) := (bL.cell 6).trans rfl
  have s7 : W0.cell? ⟨w.heap.size, 7, none⟩ = some (.int .i64 m.l.high) := (bL.cell 7).trans rfl
  have s8 : W0.cell? ⟨w.heap.size, 8, none⟩ = some (.slice m.A m.n m.c) := (bL.cell 8).trans rfl
  go_region_held3 (fun w' => w'.cell? ⟨w.heap.size, 0, none⟩ = some (.string m.l.name) ∧ w'.cell? ⟨w.heap.size, 1, none⟩ = some (.int .i64 m.l.x) ∧ w'.cell? ⟨w.heap.size, 2, none⟩ = some (.int .i64 m.l.y) ∧ w'.cell? ⟨w.heap.size, 3, none⟩ = some (.bool m.l.hidden) ∧ w'.cell? ⟨w.heap.size, 4, none⟩ = some (.int .i64 m.l.opacity) ∧ w'.cell? ⟨w.heap.size, 5, none⟩ = some (.int .i64 m.l.mode) ∧ w'.cell? ⟨w.heap.size, 6, none⟩ = some (.int .i64 m.l.wide) ∧ w'.cell? ⟨w.heap.size, 7, none⟩ = some (.int .i64 m.l.high) ∧ w'.cell? ⟨w.heap.size, 8, none⟩ = some (.slice m.A m.n m.c))
    ((go_split_ands
      refine ⟨?_, ?_, ?_, ?_, ?_, ?_, ?_, ?_, ?_⟩
      · (first | (with_reducible exact s0) | ((with_reducible refine bkeep hbA ?_); exact s0) | ((with_reducible refine cell_set_other _ (ne_blk hlt _ _) ?_); (with_reducible refine cell_set_other _ (ne_blk hlt _ _) ?_); (with_reducible refine cell_set_other _ (ne_blk hlt _ _) ?_); (with_reducible refine cell_set_other _ (ne_blk hlt _ _) ?_); (with_reducible refine cell_set_other _ (ne_blk hlt _ _) ?_); (with_reducible refine cell_set_other _ (ne_blk hlt _ _) ?_); (with_reducible refine cell_set_other _ (ne_blk hlt _ _) ?_); (with_reducible refine cell_set_other _ (ne_blk hlt _ _) ?_); (with_reducible refine cell_set_other _ (ne_blk hlt _ _) ?_); (with_reducible refine bkeep hbA ?_); exact s0) | exact s0)
      · (first | (with_reducible exact s1) | ((with_reducible refine bkeep hbA ?_); exact s1) | ((with_reducible refine cell_set_other _ (ne_blk hlt _ _) ?_); (with_reducible refine cell_set_other _ (ne_blk hlt _ _) ?_); (with_reducible refine cell_set_other _ (ne_blk hlt _ _) ?_); (with_reducible refine cell_set_other _ (ne_blk hlt _ _) ?_); (with_reducible refine cell_set_other _ (ne_blk hlt _ _) ?_); (with_reducible refine cell_set_other _ (ne_blk hlt _ _) ?_); (with_reducible refine cell_set_other _ (ne_blk hlt _ _) ?_); (with_reducible refine cell_set_other _ (ne_blk hlt _ _) ?_); (with_reducible refine cell_set_other _ (ne_blk hlt _ _) ?_); (with_reducible refine bkeep hbA ?_); exact s1) | exact s1)
      · (first | (with_reducible exact s2) | ((with_reducible refine bkeep hbA ?_); exact s2) | ((with_reducible refine cell_set_other _ (ne_blk hlt _ _) ?_); (with_reducible refine cell_set_other _ (ne_blk hlt _ _) ?_); (with_reducible refine cell_set_other _ (ne_blk hlt _ _) ?_); (with_reducible refine cell_set_other _ (ne_blk hlt _ _) ?_); (with_reducible refine cell_set_other _ (ne_blk hlt _ _) ?_); (with_reducible refine cell_set_other _ (ne_blk hlt _ _) ?_); (with_reducible refine cell_set_other _ (ne_blk hlt _ _) ?_); (with_reducible refine cell_set_other _ (ne_blk hlt _ _) ?_); (with_reducible refine cell_set_other _ (ne_blk hlt _ _) ?_); (with_reducible refine bkeep hbA ?_); exact s2) | exact s2)
      · (first | (with_reducible exact s3) | ((with_reducible refine bkeep hbA ?_); exact s3) | ((with_reducible refine cell_set_other _ (ne_blk hlt _ _) ?_); (with_reducible refine cell_set_other _ (ne_blk hlt _ _) ?_); (with_reducible refine cell_set_other _ (ne_blk hlt _ _) ?_); (with_reducible refine cell_set_other _ (ne_blk hlt _ _) ?_); (with_reducible refine cell_set_other _ (ne_blk hlt _ _) ?_); (with_reducible refine cell_set_other _ (ne_blk hlt _ _) ?_); (with_reducible refine cell_set_other _ (ne_blk hlt _ _) ?_); (with_reducible refine cell_set_other _ (ne_blk hlt _ _) ?_); (with_reducible refine cell_set_other _ (ne_blk hlt _ _) ?_); (with_reducible refine bkeep hbA ?_); exact s3) | exact s3)
      · (first | (with_reducible exact s4) | ((with_reducible refine bkeep hbA ?_); exact s4) | ((with_reducible refine cell_set_other _ (ne_blk hlt _ _) ?_); (with_reducible refine cell_set_other _ (ne_blk hlt _ _) ?_); (with_reducible refine cell_set_other _ (ne_blk hlt _ _) ?_); (with_reducible refine cell_set_other _ (ne_blk hlt _ _) ?_); (with_reducible refine cell_set_other _ (ne_blk hlt _ _) ?_); (with_reducible refine cell_set_other _ (ne_blk hlt _ _) ?_); (with_reducible refine cell_set_other _ (ne_blk hlt _ _) ?_); (with_reducible refine cell_set_other _ (ne_blk hlt _ _) ?_); (with_reducible refine cell_set_other _ (ne_blk hlt _ _) ?_); (with_reducible refine bkeep hbA ?_); exact s4) | exact s4)
      · (first | (with_reducible exact s5) | ((with_reducible refine bkeep hbA ?_); exact s5) | ((with_reducible refine cell_set_other _ (ne_blk hlt _ _) ?_); (with_reducible refine cell_set_other _ (ne_blk hlt _ _) ?_); (with_reducible refine cell_set_other _ (ne_blk hlt _ _) ?_); (with_reducible refine cell_set_other _ (ne_blk hlt _ _) ?_); (with_reducible refine cell_set_other _ (ne_blk hlt _ _) ?_); (with_reducible refine cell_set_other _ (ne_blk hlt _ _) ?_); (with_reducible refine cell_set_other _ (ne_blk hlt _ _) ?_); (with_reducible refine cell_set_other _ (ne_blk hlt _ _) ?_); (with_reducible refine cell_set_other _ (ne_blk hlt _ _) ?_); (with_reducible refine bkeep hbA ?_); exact s5) | exact s5)
      · (first | (with_reducible exact s6) | ((with_reducible refine bkeep hbA ?_); exact s6) | ((with_reducible refine cell_set_other _ (ne_blk hlt _ _) ?_); (with_reducible refine cell_set_other _ (ne_blk hlt _ _) ?_); (with_reducible refine cell_set_other _ (ne_blk hlt _ _) ?_); (with_reducible refine cell_set_other _ (ne_blk hlt _ _) ?_); (with_reducible refine cell_set_other _ (ne_blk hlt _ _) ?_); (with_reducible refine cell_set_other _ (ne_blk hlt _ _) ?_); (with_reducible refine cell_set_other _ (ne_blk hlt _ _) ?_); (with_reducible refine cell_set_other _ (ne_blk hlt _ _) ?_); (with_reducible refine cell_set_other _ (ne_blk hlt _ _) ?_); (with_reducible refine bkeep hbA ?_); exact s6) | exact s6)
      · (first | (with_reducible exact s7) | ((with_reducible refine bkeep hbA ?_); exact s7) | ((with_reducible refine cell_set_other _ (ne_blk hlt _ _) ?_); (with_reducible refine cell_set_other _ (ne_blk hlt _ _) ?_); (with_reducible refine cell_set_other _ (ne_blk hlt _ _) ?_); (with_reducible refine cell_set_other _ (ne_blk hlt _ _) ?_); (with_reducible refine cell_set_other _ (ne_blk hlt _ _) ?_); (with_reducible refine cell_set_other _ (ne_blk hlt _ _) ?_); (with_reducible refine cell_set_other _ (ne_blk hlt _ _) ?_); (with_reducible refine cell_set_other _ (ne_blk hlt _ _) ?_); (with_reducible refine cell_set_other _ (ne_blk hlt _ _) ?_); (with_reducible refine bkeep hbA ?_); exact s7) | exact s7)
      · (first | (with_reducible exact s8) | ((with_reducible refine bkeep hbA ?_); exact s8) | ((with_reducible refine cell_set_other _ (ne_blk hlt _ _) ?_); (with_reducible refine cell_set_other _ (ne_blk hlt _ _) ?_); (with_reducible refine cell_set_other _ (ne_blk hlt _ _) ?_); (with_reducible refine cell_set_other _ (ne_blk hlt _ _) ?_); (with_reducible refine cell_set_other _ (ne_blk hlt _ _) ?_); (with_reducible refine cell_set_other _ (ne_blk hlt _ _) ?_); (with_reducible refine cell_set_other _ (ne_blk hlt _ _) ?_); (with_reducible refine cell_set_other _ (ne_blk hlt _ _) ?_); (with_reducible refine cell_set_other _ (ne_blk hlt _ _) ?_); (with_reducible refine bkeep hbA ?_); exact s8) | exact s8)))
    ((go_at_call 30; refine (own_any _ _ _ _ _ _ W0.drew h0 hn).mono ?_; rintro e wA ⟨A', c', rfl, hoA, hbA⟩; have kB : Blk wA (w.heap.size + 1) 45 #[.string ⟨#[]⟩, .int .i64 0, .int .i64 0, .bool false, .int .i64 0, .int .i64 0, .int .i64 0, .int .i64 0, .slice none 0 0] := bR.drew.below hbA bR.lt; have kc := kB.cell; have kf := kB.free))
  have n1 : (Value.slice A' m.n c').ownBlock ≠ some (w.heap.size + 1) := fun e => by have : W0.heap.size ≤ w.heap.size + 1 := (hoA.lt _ e).1; omega
  have HN1 := Lib.hid n1
  have HO := Lib.hid hoA
  clear n1 hoA
  go_wp2_with fail
  refine bodyPost_ret (v := .agg #[.string m.l.name, .int .i64 m.l.x, .int .i64 m.l.y, .bool m.l.hidden, .int .i64 m.l.opacity, .int .i64 m.l.mode, .int .i64 m.l.wide, .int .i64 m.l.high, .slice A' m.n c']) (by simp [results, Tryz.results11, go_sem, kc]) rfl ⟨A', c', rfl, ?_, ?_⟩
  · exact (((((((((HO.out.setCell HN1.out _).setCell HN1.out _).setCell HN1.out _).setCell HN1.out _).setCell HN1.out _).setCell HN1.out _).setCell HN1.out _).setCell HN1.out _).setCell HN1.out _).mono (by show w.heap.size ≤ W0.heap.size; omega)
  · have hb9 : Below w.heap.size w wA := (hb0.trans ((Below.here W0).mono hb0.size)).trans (hbA.mono hb0.size)
    exact ((((((((hb9.setCell (by simp) _).setCell (by simp) _).setCell (by simp) _).setCell (by simp) _).setCell (by simp) _).setCell (by simp) _).setCell (by simp) _).setCell (by simp) _).setCell (by simp) _

/-- Pixels that lie in no block below B. -/
def HiAt (B : Nat) (m : LM) : Prop := ∀ b off, m.A = some ⟨b, off, none⟩ → 0 < m.n → B ≤ b
theorem HiAt.mono {B C : Nat} {m : LM} (h : HiAt B m) (hC : C ≤ B) : HiAt C m := fun b off e hn => Nat.le_trans hC (h b off e hn)
theorem HiAt.own {w : World} {B : Nat} {m : LM} {cs : List Value} (h : Own w B 4 (.slice m.A m.n m.c) m.n cs) : HiAt B m := fun b off e hn => by
  rw [e] at h
  exact (h.lt b rfl).1
theorem HiAt.off {B : Nat} {m : LM} {v : Value} (h : HiAt B m) (hv : ∀ g, v.ownBlock = some g → g < B) : OffAt m.A m.n v := fun b off e hn e2 => by
  have := h b off e hn
  have := hv b e2
  omega
theorem same_lays {ms ns : List LM} (h : lsOf ns = lsOf ms) : ns.length = ms.length := by rw [← lsOf_len ns, h, lsOf_len]
/-- A store into a block that holds neither the layers nor their pixels. -/
theorem LaysO.far {w : World} {base B : Nat} {v : Value} {ns : List LM} (h : LaysO w base v ns) {p : Addr} (hp : v.ownBlock ≠ some p.block) (hi : ∀ m ∈ ns, HiAt B m) (hB : p.block < B) (u : Value) : LaysO (w.setCell p u) base v ns := by
  have hs : (w.setCell p u).heap.size = w.heap.size := by simp [World.setCell]
  refine ⟨h.own.setCell hp _, fun x hx => (h.px x hx).keepAt (by omega) fun b off e hb hn => Below.heap_setCell _ _ _ _ ?_, h.off⟩
  intro e2
  have := hi x hx b off e (by omega)
  omega
theorem LaysO.mono {w : World} {base base' : Nat} {v : Value} {ns : List LM} (h : LaysO w base v ns) (hb : base' ≤ base) : LaysO w base' v ns := ⟨h.own.mono hb, h.px, h.off⟩
theorem layInfo : (Tryz.prog.info? 45).map (fun i => (i.zero, i.size, i.bytes)) = some (some (.agg #[.string ⟨#[]⟩, .int .i64 0, .int .i64 0, .bool false, .int .i64 0, .int .i64 0, .int .i64 0, .int .i64 0, .slice none 0 0]), 9, 96) := by kernel_rfl
/-- What stands through DocOf's loop. -/
structure DoR (W H : Int) (A : Option Addr) (n c : Nat) (w : World) (v : Value) (ns : List LM) (wr : World) : Prop where
  b1 : Blk wr w.heap.size 24 #[.int .i64 W, .int .i64 H, .slice A n c]
  b2 : Blk wr (w.heap.size + 1) 39 #[.int .i64 0, .int .i64 0, .slice none 0 0]
  b3 : Blk wr (w.heap.size + 2) 39 #[.int .i64 W, .int .i64 H, v]
  own : LaysO wr (w.heap.size + 3) v ns
  hi : ∀ m ∈ ns, HiAt (w.heap.size + 3) m
  bel : Below w.heap.size w wr
theorem DoR.step {W H : Int} {A : Option Addr} {n c : Nat} {w wr w' : World} {v : Value} {ns : List LM} (h : DoR W H A n c w v ns wr) (hb : Below wr.heap.size wr w') : DoR W H A n c w v ns w' :=
  ⟨h.b1.below hb h.b1.lt, h.b2.below hb h.b2.lt, h.b3.below hb h.b3.lt, h.own.below hb (Nat.le_refl _), h.hi, h.bel.trans (hb.mono (by have := h.b1.lt; omega))⟩
theorem DoR.push {W H : Int} {A : Option Addr} {n c : Nat} {w wi wA wT : World} {v v' : Value} {ns : List LM} {m : LM} {o : Obj} (F : DoR W H A n c w v ns wi) (hb : Below wi.heap.size wi wA) (hm : Reads wA wA.heap.size 4 m.A m.n (pxCells m.l.ps)) (hh : HiAt wi.heap.size m)
    (ho : Own wT (w.heap.size + 3) 9 v' (ns.length + 1) (layCells ns ++ layCs m)) (hg : (wA.alloc o).grownBy wT v.ownBlock) (hat : v'.ownBlock = v.ownBlock ∨ v'.ownBlock = some (wA.alloc o).heap.size) : DoR W H A n c w v' (ns ++ [m]) (wT.setCell ⟨w.heap.size + 2, 2, none⟩ v') := by
  have F1 := (F.step hb).step (Below.alloc (Below.refl _ _) (Nat.le_refl _) o)
  have h1 := F1.b1.lt
  have h2 := F1.b2.lt
  have h3 := F1.b3.lt
  have ne : ∀ g, g < w.heap.size + 3 → some g ≠ v.ownBlock := fun g hg' e => by have := (F1.own.own.lt g e.symm).1; omega
  have n3 : v'.ownBlock ≠ some (w.heap.size + 2) := by
    intro e
    rcases hat with h | h <;> rw [h] at e
    · exact ne _ (by omega) e.symm
    · injection e with e
      omega
  have L := F1.own.snoc ho hg hat ((hm.alloc (Nat.le_refl _) o).more (by simp)) (hh.off fun g hg => (F.own.own.lt g hg).2)
  have hz := F.b3.lt
  have HI : ∀ x ∈ ns ++ [m], HiAt (w.heap.size + 3) x := fun x hx => by
    rcases List.mem_append.1 hx with h | h
    · exact F.hi x h
    · rw [List.mem_singleton.1 h]; exact hh.mono (by omega)
  refine ⟨(F1.b1.grown hg (ne _ (by omega))).far (by simp) _, (F1.b2.grown hg (ne _ (by omega))).far (by simp) _, ?_, ?_, HI, ?_⟩
  · have := (F1.b3.grown hg (ne _ (by omega))).set_ 2 v'
    simpa using this
  · have hs : (wT.setCell ⟨w.heap.size + 2, 2, none⟩ v').heap.size = wT.heap.size := by simp [World.setCell]
    refine ⟨L.own.setCell n3 _, fun x hx => (L.px x hx).keepAt (by omega) fun b off e hb' hn => Below.heap_setCell _ _ _ _ ?_, L.off⟩
    intro e2
    have hbx : b = w.heap.size + 2 := e2
    have := HI x hx b off e (by omega)
    omega
  · exact (F1.bel.grown hg (by omega) (fun g e => by have := (F1.own.own.lt g e).1; omega)).setCell (by show w.heap.size ≤ w.heap.size + 2; omega) _

set_option maxRecDepth 100000 in
set_option maxHeartbeats 4000000 in
theorem docOf_any (W H : Int) (A : Option Addr) (n c : Nat) (ms : List LM) (w : World) (hL : Lays w w.heap.size A n ms) (hn : n ≤ 4096) (hp : ∀ m ∈ ms, m.n ≤ 1048576) :
    Calls Tryz.prog 10 #[.agg #[.int .i64 W, .int .i64 H, .slice A n c]] w
      fun e w' => ∃ A' c' ns, e = .returned (.agg #[.int .i64 W, .int .i64 H, .slice A' ns.length c']) ∧ LaysO w' w.heap.size (.slice A' ns.length c') ns ∧ lsOf ns = lsOf ms ∧ (∀ m ∈ ns, HiAt w.heap.size m) ∧ Below w.heap.size w w' := by
  obtain ⟨i0, hi, hz0, hz1, hz2⟩ := info_parts layInfo
  obtain rfl := hL.len
  have HP := Lib.hid hp
  clear hp
  go_enter Tryz.func10, Tryz.ntmps10
  go_wp2_with fail
  go_loopw [4] (fun i wr => ∃ (k : Nat) (v : Value) (ns : List LM), k ≤ ms.length ∧ i = .int .i64 k ∧ lsOf ns = lsOf (ms.take k) ∧ DoR W H A ms.length c w v ns wr) (fun i _ => ms.length - (intOf i).toNat)
  case atStart => exact ⟨0, _, [], Nat.zero_le _, rfl, rfl, ((Blk.new _ _ _ rfl).alloc _).alloc _, (Blk.new _ _ _ (by simp)).alloc _, Blk.new _ _ _ (by simp), LaysO.nil _ _, (fun m h => by cases h), by go_grown⟩
  case round =>
    obtain ⟨k, v, ns, hk, rfl, hns, F⟩ := hrel
    obtain ⟨wi, rfl⟩ : ∃ wi : World, wi = wr := ⟨_, rfl⟩
    have c1 := F.b1.cell
    have c3 := F.b3.cell
    have c2 := F.b2.cell
    have f2 := F.b2.free
    obtain ⟨Av, cv, rfl, hcv, _⟩ := F.own.own.form
    have hnl : ns.length = k := by rw [← lsOf_len, hns, lsOf_len, List.length_take]; omega
    have HNS := Lib.hid hns
    clear hns
    by_cases hlt : k < ms.length
    · obtain ⟨b, off, rfl, hbl⟩ := hL.1.addr (by omega)
      have hLo := hL.below F.bel (Nat.le_refl _)
      have q0 := hLo.at k hlt 0 (by omega)
      have q1 := hLo.at k hlt 1 (by omega)
      have q2 := hLo.at k hlt 2 (by omega)
      have q3 := hLo.at k hlt 3 (by omega)
      have q4 := hLo.at k hlt 4 (by omega)
      have q5 := hLo.at k hlt 5 (by omega)
      have q6 := hLo.at k hlt 6 (by omega)
      have q7 := hLo.at k hlt 7 (by omega)
      have q8 := hLo.at k hlt 8 (by omega)
      have hpx := (hLo.px k hlt).more (show w.heap.size ≤ wi.heap.size by have := F.b1.lt; omega)
      have hpn := HP.out ms[k] (List.getElem_mem hlt)
      have HT := Lib.hid (List.take_succ_eq_append_getElem hlt)
      obtain ⟨m, hm⟩ : ∃ m, m = ms[k] := ⟨_, rfl⟩
      rw [← hm] at q0 q1 q2 q3 q4 q5 q6 q7 q8 hpx hpn HT
      clear hm
      simp only [layCs, List.getElem?_cons_zero, List.getElem?_cons_succ] at q0 q1 q2 q3 q4 q5 q6 q7 q8
      rw [Nat.add_zero] at q0
      have HNL := Lib.hid hnl
      have hnk : ns.length ≤ 4096 := by omega
      have j0 : (0 : Int) ≤ (k : Int) := by omega
      have j1 : (k : Int) < (ms.length : Int) := by omega
      have s3 : wi.cell? ⟨w.heap.size + 2, 2, none⟩ = some (.slice Av ns.length cv) := (F.b3.cell 2).trans rfl
      have s1 : wi.cell? ⟨w.heap.size, 2, none⟩ = some (.slice (some ⟨b, off, none⟩) ms.length c) := (F.b1.cell 2).trans rfl
      have h3l := F.b3.lt
      have p3 := fun o => cell_past (w := wi) o s3
      clear hnl hLo c1 c2 c3 f2
      go_wp2_with fail
      go_region_law
        (first
          | (refine step_append_Own _ rfl (.tmp 18) (.tmp 25) 37 37 rfl (w.heap.size + 3) 45 i0 _ 9 96 Tryz.underlying37 hi hz0 hz1 hz2 rfl (by decide) (.slice Av ns.length cv) ns.length (layCells ns) rfl ((F.own.own.below ((Below.here wi).trans hbA) (Nat.le_refl _)).alloc _) (layCells_one _) 1 (layCs ⟨m.l, Ap, m.n, cp⟩) (Src.blk Tryz.underlying37 (Blk.new _ _ _ rfl) rfl (by intro u hu; exact layCells_one [⟨m.l, Ap, m.n, cp⟩] u (by rw [layCells_single]; exact hu))) (by unfold maxLen; omega) (by omega) (by simp; omega) ?_; intro vT wT hownT hgT hatT; obtain ⟨AT, cT, rfl, hcT, _⟩ := hownT.form; have n3 : some (w.heap.size + 2) ≠ (Value.slice Av ns.length cv).ownBlock := (fun e => by have := (F.own.own.lt _ e.symm).1; omega); have t3 : wT.cell? ⟨w.heap.size + 2, 2, none⟩ = some (.slice Av ns.length cv) := (hgT.cell_far ⟨w.heap.size + 2, 2, none⟩ (by simp; omega) n3).trans (cell_past _ (bkeep hbA s3)); have f3 : wT.frozen? ⟨w.heap.size + 2, 2, none⟩ = false := (hgT.frozen_far ⟨w.heap.size + 2, 2, none⟩ (by simp; omega) n3).trans (free_past _ (by simp; omega) (bfree_ hbA h3l (F.b3.free 2))); clear n3)
          | (go_simp; go_at_call 11; refine (layerOf_any m wi.drew hpx hpn).mono ?_; rintro e wA ⟨Ap, cp, rfl, hoA, hbA⟩; have hzA : wi.heap.size ≤ wA.heap.size := hbA.size; have a3 := bkeep hbA s3; have r3 := fun o => cell_past (w := wA) o a3))
      all_goals
        have F9 := F.push ((Below.here wi).trans hbA) (m := ⟨m.l, Ap, m.n, cp⟩) hoA.reads.2 (HiAt.own hoA) hownT hgT hatT
        have HF9 := Lib.hid F9
        clear F9 hownT hgT hatT t3 f3 a3 r3 p3 s3 s1 hoA
        go_wp2_with fail
        go_roundw
        case rel =>
          refine ⟨k + 1, _, ns ++ [⟨m.l, Ap, m.n, cp⟩], by omega, by go_num, ?_, HF9.out⟩
          rw [HT.out]
          have := HNS.out
          simp only [lsOf, List.map_append] at this ⊢
          rw [this]
          rfl
        case measure => simp [intOf]; omega
    · have e : k = ms.length := by omega
      have HE := Lib.hid (show lsOf ns = lsOf ms by rw [HNS.out, e, List.take_length])
      clear e hnl
      have ho := F.own
      have HO := Lib.hid ho
      have h1 := F.hi
      have HH := Lib.hid h1
      have n1 : (Value.slice Av ns.length cv).ownBlock ≠ some (w.heap.size + 1) := fun e => by have := (ho.own.lt _ e).1; omega
      have HN1 := Lib.hid n1
      clear ho h1 n1
      go_wp2_with fail
      refine bodyPost_ret (v := .agg #[.int .i64 W, .int .i64 H, .slice Av ns.length cv]) (by simp [results, Tryz.results10, go_sem, c2]) rfl ⟨Av, cv, ns, rfl, ?_, HE.out, fun m hm => (HH.out m hm).mono (by omega), ?_⟩
      · exact ((HO.out.far HN1.out HH.out (by show w.heap.size + 1 < w.heap.size + 3; omega) _).far HN1.out HH.out (by show w.heap.size + 1 < w.heap.size + 3; omega) _).far HN1.out HH.out (by show w.heap.size + 1 < w.heap.size + 3; omega) _ |>.mono (by omega)
      · exact ((F.bel.setCell (by simp) _).setCell (by simp) _).setCell (by simp) _
end Go.Proofs.YtmknacnmdlcieaaGreatDoor
