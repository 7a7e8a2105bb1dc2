/- mapped: the walk. -/
import Derived.Test.YtlpcmeodbigpjaaDoorColNear
import Derived.Test.YtlpcmeodbigpjaaDoorPxKey
import Derived.Test.YtlpcmeodbigpjaaDoorMem
namespace Go.Proofs.YtlpcmeodbigpjaaDoor
open Go Go.RowKit

def nearV (pal : List Px) (x : Px) : Value := .agg #[.int .i64 (Col.near x pal).1, .int .i64 (Col.near x pal).2]
def nums (ps pal : List Px) : List Int := ps.map fun x => ((Col.near x pal).1 : Int)


/-- The relation of mapped's loop. -/
structure MR (w : World) (ps pal : List Px) (v s i : Value) (wr : World) (k : Nat) : Prop where
  hk : k ≤ ps.length
  hi : i = .int .i64 k
  hs : s = .int .i64 (Col.farSum (ps.take k) pal)
  own : Own wr (w.heap.size + 2) 1 v k (ints (nums (ps.take k) pal))
  map : ∃ M, MapAt wr (w.heap.size + 1) pxV M ∧ ∀ q ∈ M, q.2 = nearV pal q.1
  bel : Below w.heap.size w wr
  size : w.heap.size + 2 ≤ wr.heap.size

theorem farSum_take (ps pal : List Px) (k : Nat) (hk : k < ps.length) : Col.farSum (ps.take (k + 1)) pal = Col.farSum (ps.take k) pal + (Col.near ps[k] pal).2 := by
  rw [List.take_succ_eq_append_getElem hk]
  simp only [Col.farSum, List.map_append, List.sum_append, List.map_cons, List.map_nil, List.sum_cons, List.sum_nil, Int.add_zero]
theorem nums_take (ps pal : List Px) (k : Nat) (hk : k < ps.length) : ints (nums (ps.take (k + 1)) pal) = ints (nums (ps.take k) pal) ++ [.int .i64 (Col.near ps[k] pal).1] := by
  rw [List.take_succ_eq_append_getElem hk]
  simp only [nums, ints, List.map_append, List.map_cons, List.map_nil]
theorem farSum_bounds (ps pal : List Px) (hp : 0 < pal.length) : 0 ≤ Col.farSum ps pal ∧ Col.farSum ps pal ≤ 260100 * ps.length := by
  have := Col.sum_bound (ps.map fun x => (Col.near x pal).2) 260100 (fun y hy => by
    obtain ⟨x, _, rfl⟩ := List.mem_map.1 hy
    have h := (Col.near_all x pal hp).2.1
    rw [h]
    exact ⟨Col.far_nonneg _ _, Col.far_le _ _⟩)
  simpa [Col.farSum] using this

set_option maxRecDepth 100000 in
set_option maxHeartbeats 1000000 in
theorem mapped_any (W H : Int) (A : Option Addr) (n c : Nat) (ps : List Px) (A2 : Option Addr) (n2 c2 : Nat) (pal : List Px) (w : World)
    (hp : Reads w w.heap.size 4 A n (pxCells ps)) (hq : Reads w w.heap.size 4 A2 n2 (pxCells pal)) (hn : n ≤ 1048576) (hn2 : n2 ≤ 1048576) (hpos : 0 < n2) :
    Calls Tryd.prog 19 #[.agg #[.int .i64 W, .int .i64 H, .slice A n c], .slice A2 n2 c2] w
      fun e w' => ∃ v, e = .returned (.tuple #[v, .int .i64 (Col.farSum ps pal)]) ∧ Own w' w.heap.size 1 v n (ints (nums ps pal)) ∧ Below w.heap.size w w' := by
  obtain rfl := hp.pxLen
  obtain ⟨i0, hi, hz0, hz1, hz2⟩ := info_parts intInfo
  have hmm := @run_makeMap Tryd.prog
  have hzz : ∀ W : World, (zeroValue 63).run Tryd.prog W = .ok (.agg #[.int .i64 0, .int .i64 0]) W := fun _ => by kernel_rfl
  have hpl : 0 < pal.length := by rw [← hq.pxLen]; exact hpos
  go_enter Tryd.func19, Tryd.ntmps19
  go_wp2
  go_loopw [4, 5, 15] (fun v s i wr => ∃ k, MR w ps pal v s i wr k) (fun _ _ i _ => ps.length - (intOf i).toNat)
  case atStart =>
    refine ⟨0, Nat.zero_le _, rfl, rfl, Own.nil _ _ _, ⟨[], ?_, fun q hq => by cases hq⟩, by go_grown, by simp⟩
    have := MapAt.new (w.alloc (Obj.cells #[Value.int IntKind.i64 W, Value.int IntKind.i64 H, Value.slice A ps.length c] 24)) pxV
    simpa using this
  case round =>
    obtain ⟨k, hk, rfl, rfl, hown, ⟨M, hmap, hM⟩, hb, hsz⟩ := hrel
    by_cases hlt : k < ps.length
    · obtain ⟨b, off, rfl, hbl⟩ := hp.addr (by omega)
      obtain ⟨p0, p1, p2, p3⟩ := (hp.below hb (Nat.le_refl _)).px k hlt
      have hfs := Lib.hid (farSum_take ps pal k hlt)
      have hnt := Lib.hid (nums_take ps pal k hlt)
      have fb := farSum_bounds (ps.take k) pal hpl
      have fl : (ps.take k).length ≤ k := List.length_take_le _ _
      have nb := Col.near_bounds ps[k] pal pal.length (Nat.le_refl _)
      rw [List.take_length] at nb
      cases hf : mfind ps[k] M 0 with
      | some q =>
        obtain ⟨j, u⟩ := q
        have hu : u = nearV pal ps[k] := by
          obtain ⟨_, hg, _⟩ := mfind_some hf
          exact hM _ (List.mem_of_getElem? hg)
        subst hu
        have HF := Lib.hid hf
        have HM := Lib.hid hM
        clear hf hM
        go_wp2_with (first
          | (refine wpList_lookup_at rfl (.tmp 20) (.tmp 21) 62 true rfl pxKey Tryd.underlying62 (hzz _) rfl (hmap.alloc _) ps[k] rfl (.tuple #[nearV pal ps[k], .bool true]) (by rw [HF.out]; rfl) ?_; unfold nearV)
          | (at_builtin; go_loud (refine wpList_append_Own _ rfl (.tmp 38) (.tmp 41) 33 33 rfl (w.heap.size + 2) 3 i0 (.int .i64 0) 1 8 Tryd.underlying33 hi hz0 hz1 hz2 rfl (by decide) u4 k _ rfl (((hown.alloc _).alloc _).alloc _) (ints_one _) 1 [.int .i64 (Col.near ps[k] pal).1] (Src.made Tryd.underlying33 (by simp) rfl (by intro u hu; simp at hu; subst hu; rfl)) (by unfold maxLen; omega) (by omega) (by simp; omega) ?_; intro v' w1 hown1 hg1 hat1; have d1 : w1.cell? ⟨wr.heap.size + 1, 1, none⟩ = some (.int .i64 (Col.near ps[k] pal).2) := hg1.cell (cell_past _ (cell_made _ _ _ (by simp) rfl)) (fun e => by have h9 : wr.heap.size + 1 < wr.heap.size := (hown.lt _ e.symm).2; omega))))
        have hs2 := hg1.size
        simp at hs2
        have hblk : ∀ g, u4.ownBlock = some g → w.heap.size + 2 ≤ g := fun g hg => (hown.lt g hg).1
        go_roundw
        case rel =>
          refine ⟨k + 1, by omega, by go_num, by rw [hfs.out], by rw [hnt.out]; exact hown1, ⟨M, (((hmap.alloc _).alloc _).alloc _).grown hg1 (fun e => by have := hblk _ e.symm; omega), HM.out⟩, ?_, by omega⟩
          exact Below.grown (by go_grown) hg1 (by simp; omega) (fun g hg => by have := hblk g hg; omega)
        case measure => simp [intOf]; omega
      | none =>
        have HF := Lib.hid hf
        have HM := Lib.hid hM
        clear hf hM
        have hqr := hq.below hb (Nat.le_refl _)
        have hblk : ∀ g, u4.ownBlock = some g → w.heap.size + 2 ≤ g ∧ g < wr.heap.size := fun g hg => hown.lt g hg
        go_wp2_with (first
          | (refine wpList_lookup_at rfl (.tmp 20) (.tmp 21) 62 true rfl pxKey Tryd.underlying62 (hzz _) rfl (hmap.alloc _) ps[k] rfl (.tuple #[.agg #[.int .i64 0, .int .i64 0], .bool false]) (by rw [HF.out]; rfl) ?_))
        refine (nearest_any _ _ _ _ A2 n2 c2 pal _ ?_ (by omega)).mono ?_
        · exact ((hqr.alloc (by omega) _).alloc (by simp; omega) _).more (by simp; omega)
        rintro e w1 ⟨rfl, hb1⟩
        have e0 : w1.cell? ⟨wr.heap.size + 1, 0, none⟩ = some (.int .i64 0) := bcell_ hb1 (by simp) (cell_made _ _ _ (by simp) rfl)
        have e1 : w1.cell? ⟨wr.heap.size + 1, 1, none⟩ = some (.int .i64 0) := bcell_ hb1 (by simp) (cell_made _ _ _ (by simp) rfl)
        have f0 : w1.frozen? ⟨wr.heap.size + 1, 0, none⟩ = false := bfree_ hb1 (by simp) (free_made _ _ _ (by simp))
        have f1 : w1.frozen? ⟨wr.heap.size + 1, 1, none⟩ = false := bfree_ hb1 (by simp) (free_made _ _ _ (by simp))
        have y0 : w1.cell? ⟨wr.heap.size, 0, none⟩ = some (.int .u8 ps[k].r.toNat) := bcell_ hb1 (by simp; omega) (cell_past _ (cell_made _ _ _ (by simp) rfl))
        have y1 : w1.cell? ⟨wr.heap.size, 1, none⟩ = some (.int .u8 ps[k].g.toNat) := bcell_ hb1 (by simp; omega) (cell_past _ (cell_made _ _ _ (by simp) rfl))
        have y2 : w1.cell? ⟨wr.heap.size, 2, none⟩ = some (.int .u8 ps[k].b.toNat) := bcell_ hb1 (by simp; omega) (cell_past _ (cell_made _ _ _ (by simp) rfl))
        have y3 : w1.cell? ⟨wr.heap.size, 3, none⟩ = some (.int .u8 ps[k].a.toNat) := bcell_ hb1 (by simp; omega) (cell_past _ (cell_made _ _ _ (by simp) rfl))
        have hown1 : Own w1 (w.heap.size + 2) 1 u4 k (ints (nums (ps.take k) pal)) := ((hown.alloc _).alloc _).below hb1 (by simp)
        have hmap1 := ((hmap.alloc _).alloc _).below hb1 (by simp; omega)
        have hzw1 : wr.heap.size + 2 ≤ w1.heap.size := by have := hb1.size; simpa using this
        have hbel1 : Below w.heap.size w w1 := (Below.alloc (Below.alloc hb (by omega) _) (by simp; omega) _).trans (hb1.mono (by simp; omega))
        clear hb1
        go_wp2_with (first
          | (at_mapUpdate; refine wpList_mapUpdate_at rfl (.tmp 35) (.tmp 36) (.tmp 37) 62 rfl pxKey Tryd.underlying62 rfl ((hmap1.setCell (by simp; omega) _).setCell (by simp; omega) _) ps[k] rfl (nearV pal ps[k]) rfl ?_; intro w3 hmap3 hg3; have d0 : w3.cell? ⟨wr.heap.size + 1, 0, none⟩ = some (.int .i64 (Col.near ps[k] pal).1) := hg3.cell (cell_set_other _ (by simp) (cell_set_same _ e0)) (by simp; omega); have d1 : w3.cell? ⟨wr.heap.size + 1, 1, none⟩ = some (.int .i64 (Col.near ps[k] pal).2) := hg3.cell (cell_set_same _ (cell_set_other _ (by simp) e1)) (by simp; omega); have hown3 : Own w3 (w.heap.size + 2) 1 u4 k (ints (nums (ps.take k) pal)) := ((hown1.setCell (fun e => by have h9 : wr.heap.size + 1 < wr.heap.size := (hblk _ e).2; omega) _).setCell (fun e => by have h9 : wr.heap.size + 1 < wr.heap.size := (hblk _ e).2; omega) _).kept hg3 (.inr (fun e => by have h8 := (hblk _ e).1; omega)); have hz3 : wr.heap.size + 2 ≤ w3.heap.size := by have hs3 := hg3.size; simp at hs3; omega)
          | (at_builtin; go_loud (refine wpList_append_Own _ rfl (.tmp 38) (.tmp 41) 33 33 rfl (w.heap.size + 2) 3 i0 (.int .i64 0) 1 8 Tryd.underlying33 hi hz0 hz1 hz2 rfl (by decide) u4 k _ rfl (hown3.alloc _) (ints_one _) 1 [.int .i64 (Col.near ps[k] pal).1] (Src.made Tryd.underlying33 (by first | rfl | simp) rfl (by intro u hu; cases List.mem_singleton.1 hu; rfl)) (by unfold maxLen; omega) (by omega) (by have h7 : (w3.alloc (.cells #[.int .i64 (Col.near ps[k] pal).1] 3)).heap.size = w3.heap.size + 1 := World.size_alloc _ _; omega) ?_; intro v' w4 hown4 hg4 hat4; have d4 : w4.cell? ⟨wr.heap.size + 1, 1, none⟩ = some (.int .i64 (Col.near ps[k] pal).2) := hg4.cell (cell_past _ d1) (fun e => by have h9 : wr.heap.size + 1 < wr.heap.size := (hblk _ e.symm).2; omega))))
        have hs4 := hg4.size
        simp at hs4
        go_roundw
        case rel =>
          refine ⟨k + 1, by omega, by go_num, by rw [hfs.out], by rw [hnt.out]; exact hown4, ⟨mput ps[k] (nearV pal ps[k]) M, (hmap3.alloc _).grown hg4 (fun e => by have := (hblk _ e.symm).1; omega), ?_⟩, ?_, by omega⟩
          · intro q hq
            rw [mput_none _ HF.out] at hq
            rcases List.mem_append.1 hq with h | h
            · exact HM.out q h
            · simp at h; subst h; rfl
          · refine Below.grown (Below.alloc (Below.grown (Below.setCell (Below.setCell hbel1 (by simp; omega) _) (by simp; omega) _) hg3 (by simp; omega) (fun g hg => by simp at hg; omega)) (by omega) _) hg4 (by simp; omega) (fun g hg => by have := (hblk g hg).1; omega)
        case measure => simp [intOf]; omega
    · have e : k = ps.length := by omega
      subst e
      rw [List.take_length] at hown
      simp only [List.take_length]
      go_wp2
      go_ret2
      exact ⟨u4, rfl, hown.mono (by omega), hb⟩
end Go.Proofs.YtlpcmeodbigpjaaDoor
