/- colors.Count: the walk. -/
import Derived.Test.YtlpcmeodbigpjaaDoorColApi
import Derived.Test.YtlpcmeodbigpjaaDoorUses
namespace Go.Proofs.YtlpcmeodbigpjaaDoor
open Go Go.RowKit

theorem useInfo : (Tryd.prog.info? 48).map (fun i => (i.zero, i.size, i.bytes)) = some (some (.agg #[.int .u8 0, .int .u8 0, .int .u8 0, .int .u8 0, .int .i64 0]), 5, 16) := by kernel_rfl

set_option maxRecDepth 100000 in
theorem count_bad (W H : Int) (A : Option Addr) (n c : Nat) (tS : TypeId) (xS : Value) (w : World)
    (hS : w.cell? ⟨1, 0, none⟩ = some (.iface tS xS)) (hr : rightB W H n = false) :
    Calls Tryd.prog 14 #[.agg #[.int .i64 W, .int .i64 H, .slice A n c]] w
      fun e w' => e = .returned (.tuple #[.slice none 0 0, .iface tS xS]) ∧ Below w.heap.size w w' := by
  have lS := cell_lt hS
  go_enter Tryd.func14, Tryd.ntmps14
  go_wp2_with fail
  refine (rright_any W H A n c _).mono ?_
  rintro e w1 ⟨rfl, hb1⟩
  rw [hr]
  have eS := bcell_ hb1 (by first | omega | (simp; done) | (simp; omega)) (cell_past _ hS)
  go_wp2_with fail
  go_quiet (fail)
  go_wp2
  go_ret2
  exact ⟨rfl, below_drewN (Below.trans (by go_grown) (hb1.mono (by first | omega | (simp; done) | (simp; omega)))) _⟩

/-- The relation of Count's loop: how many colors there are, what they are. -/
structure CR (w w1 : World) (ps : List Px) (v i : Value) (wr : World) (k : Nat) : Prop where
  hk : k ≤ ps.length
  hi : i = .int .i64 k
  own : Own wr (w1.heap.size + 1) 5 v (Col.uses (ps.take k)).length (useCells (Col.uses (ps.take k)))
  map : MapAt wr w1.heap.size pxV (useMap (Col.uses (ps.take k)))
  bel : Below w.heap.size w wr

set_option maxRecDepth 100000 in
set_option maxHeartbeats 1000000 in
theorem count_any (W H : Int) (A : Option Addr) (n c : Nat) (ps : List Px) (w : World) (hp : Reads w w.heap.size 4 A n (pxCells ps)) (hr : rightB W H n = true) :
    Calls Tryd.prog 14 #[.agg #[.int .i64 W, .int .i64 H, .slice A n c]] w
      fun e w' => ∃ A' c', e = .returned (.tuple #[.slice A' (Col.uses ps).length c', .nilIface]) ∧ Own w' w.heap.size 5 (.slice A' (Col.uses ps).length c') (Col.uses ps).length (useCells (Col.uses ps)) ∧ Below w.heap.size w w' := by
  have hn := rightB_le hr
  obtain rfl := hp.pxLen
  obtain ⟨i0, hi, hz0, hz1, hz2⟩ := info_parts useInfo
  have hmm := @run_makeMap Tryd.prog
  have hzz : ∀ W : World, (zeroValue 3).run Tryd.prog W = .ok (.int .i64 0) W := fun _ => by kernel_rfl
  go_enter Tryd.func14, Tryd.ntmps14
  go_wp2_with fail
  refine (rright_any W H A ps.length c _).mono ?_
  rintro e w1 ⟨rfl, hb1⟩
  rw [hr]
  have B1 := (Blk.new w 24 #[.int .i64 W, .int .i64 H, .slice A ps.length c] rfl).below hb1 (by first | omega | (simp; done) | (simp; omega))
  have c1 := B1.cell
  have l1 := B1.lt
  have hbw : Below w.heap.size w w1 := Below.trans (by go_grown) (hb1.mono (by first | omega | (simp; done) | (simp; omega)))
  clear hb1
  go_wp2_with fail
  go_loopw [5, 18] (fun v i wr => ∃ k, CR w w1 ps v i wr k) (fun _ i _ => ps.length - (intOf i).toNat)
  case atStart => exact ⟨0, Nat.zero_le _, rfl, Own.nil _ _ _, MapAt.new w1 pxV, Below.alloc hbw (by omega) _⟩
  case round =>
    obtain ⟨k, hk, rfl, hown, hmap, hb⟩ := hrel
    obtain ⟨wo, rfl⟩ : ∃ wo : World, wo = wr := ⟨_, rfl⟩
    have hml := hmap.lt
    by_cases hlt : k < ps.length
    · obtain ⟨b, off, rfl, hbl⟩ := hp.addr (by omega)
      obtain ⟨p0, p1, p2, p3⟩ := (hp.below hb (Nat.le_refl _)).px k hlt
      have hut := Lib.hid (Col.uses_take ps k hlt)
      obtain ⟨ub1, ub2⟩ := Col.uses_take_bounds ps k hk
      obtain ⟨l, hl⟩ : ∃ l, l = Col.uses (ps.take k) := ⟨_, rfl⟩
      rw [← hl] at hown hmap ub1 ub2
      have HL := Lib.hid hl
      clear hl
      cases hf : mfind ps[k] (useMap l) 0 with
      | some q =>
        obtain ⟨j, u⟩ := q
        obtain ⟨hj, rfl, hx, hadd⟩ := useMap_some hf
        have HF := Lib.hid hf
        have HA := Lib.hid hadd
        have HX := Lib.hid hx
        have ht := ub2 l[j] (List.getElem_mem hj)
        clear hf hadd hx ub2
        obtain ⟨Ao, co, rfl, hco, hro⟩ := hown.form
        obtain ⟨go, oo, rfl, hgo1, hgo2⟩ := hown.addr (by omega)
        have d0 : wo.cell? ⟨go, oo + j * 5 + 4, none⟩ = some (.int .i64 l[j].2) := by
          rw [Nat.add_assoc, hro.cell rfl _ (by omega), useCells_at l j hj 4 (by omega)]
          rfl
        have df : wo.frozen? ⟨go, oo + j * 5 + 4, none⟩ = false := (hown.there j hj 4 (by omega)).2
        have hset := hown.setAt (j * 5 + 4) (by omega) (.int .i64 (l[j].2 + 1 : Nat))
        go_wp2_with (first
          | (refine wpList_lookup_at rfl (.tmp 23) (.tmp 24) 59 true rfl pxKey Tryd.underlying59 (hzz _) rfl (hmap.alloc _) ps[k] rfl (.tuple #[.int .i64 j, .bool true]) (by rw [HF.out]; rfl) ?_))
        go_roundw
        case rel =>
          refine ⟨k + 1, by omega, by go_num, ?_, ?_, ?_⟩
          · rw [hut.out, ← HL.out, HA.out, List.length_set, useCells_set l j hj]
            rw [← Nat.add_assoc] at hset
            exact hset.alloc _
          · rw [hut.out, ← HL.out, HA.out, useMap_set l j hj]
            exact (hmap.setCell (by show w1.heap.size ≠ go; omega) _).alloc _
          · exact Below.alloc (Below.setCell hb (by show w.heap.size ≤ go; omega) _) (by simp [World.setCell]; omega) _
        case measure => simp [intOf]; omega
      | none =>
        have HA := Lib.hid (useMap_none hf)
        have HF := Lib.hid hf
        clear hf ub2
        obtain ⟨Ao, co, rfl, hco, hro⟩ := hown.form
        have hblk : ∀ g, (Value.slice Ao l.length co).ownBlock = some g → w1.heap.size + 1 ≤ g ∧ g < wo.heap.size := fun g hg => hown.lt g hg
        go_wp2_with (first
          | (refine wpList_lookup_at rfl (.tmp 23) (.tmp 24) 59 true rfl pxKey Tryd.underlying59 (hzz _) rfl (hmap.alloc _) ps[k] rfl (.tuple #[.int .i64 0, .bool false]) (by rw [HF.out]; rfl) ?_)
          | (at_mapUpdate; refine wpList_mapUpdate_at rfl (.tmp 32) (.tmp 33) (.tmp 34) 59 rfl pxKey Tryd.underlying59 rfl (hmap.alloc _) ps[k] rfl (.int .i64 l.length) rfl ?_; intro w3 hmap3 hg3; have b0 : w3.cell? ⟨wo.heap.size, 0, none⟩ = some (.int .u8 ps[k].r.toNat) := hg3.cell (cell_made _ _ _ rfl rfl) (by simp; omega); have b1 : w3.cell? ⟨wo.heap.size, 1, none⟩ = some (.int .u8 ps[k].g.toNat) := hg3.cell (cell_made _ _ _ rfl rfl) (by simp; omega); have b2 : w3.cell? ⟨wo.heap.size, 2, none⟩ = some (.int .u8 ps[k].b.toNat) := hg3.cell (cell_made _ _ _ rfl rfl) (by simp; omega); have b3 : w3.cell? ⟨wo.heap.size, 3, none⟩ = some (.int .u8 ps[k].a.toNat) := hg3.cell (cell_made _ _ _ rfl rfl) (by simp; omega); have hown3 : Own w3 (w1.heap.size + 1) 5 (.slice Ao l.length co) l.length (useCells l) := (hown.alloc _).kept hg3 (.inr (fun e => by have h8 := (hblk _ e).1; omega)); have hz3 : wo.heap.size + 1 ≤ w3.heap.size := by have hs3 := hg3.size; simpa using hs3)
          | (at_builtin; refine wpList_append_S rfl (.tmp 35) (.tmp 38) 41 41 rfl (w1.heap.size + 1) 48 i0 _ 5 16 Tryd.underlying41 hi hz0 hz1 hz2 rfl (by decide) (.slice Ao l.length co) (l.length) (useCells (l)) rfl (hown3.alloc _) (useCells_one _) (1) ([.int .u8 ps[k].r.toNat, .int .u8 ps[k].g.toNat, .int .u8 ps[k].b.toNat, .int .u8 ps[k].a.toNat, .int .i64 0]) (Src.made Tryd.underlying41 (by first | rfl | simp) rfl (by intro u hu; exact useCells_one [(ps[k], 0)] u hu)) (l.length + 1) (by omega) (useCells (l ++ [(ps[k], 0)])) (by rw [useCells_append]; rfl) (by unfold maxLen; omega) (by omega) (by first | omega | (simp; done) | (simp; omega)) ?_; intro A' c' w4 hown4 hg4 hat4; obtain ⟨gA, oA, rfl, hgA1, hgA2⟩ := hown4.addr (by omega); have d4 : w4.cell? ⟨gA, oA + l.length * 5 + 4, none⟩ = some (.int .i64 0) := (by rw [Nat.add_assoc, hown4.reads.2.cell rfl _ (by omega), useCells_at _ l.length (by simp) 4 (by omega)]; simp [useCs]); have f4 : w4.frozen? ⟨gA, oA + l.length * 5 + 4, none⟩ = false := (hown4.there l.length (by omega) 4 (by omega)).2))
        have hs4 := hg4.size
        simp at hs4
        go_roundw
        case rel =>
          have hlen : l.length < (l ++ [(ps[k], 0)]).length := by simp
          have hset := hown4.setAt (l.length * 5 + 4) (by omega) (.int .i64 (1 : Nat))
          rw [← useCells_set _ l.length hlen 1, ← Nat.add_assoc] at hset
          have hls : (l ++ [(ps[k], 0)]).set l.length ((l ++ [(ps[k], 0)])[l.length].1, 1) = l ++ [(ps[k], 1)] := by simp
          rw [hls] at hset
          refine ⟨k + 1, by omega, by go_num, ?_, ?_, ?_⟩
          · rw [hut.out, ← HL.out, HA.out, List.length_append]
            exact hset
          · rw [hut.out, ← HL.out, HA.out, useMap_snoc, ← mput_none _ HF.out]
            exact ((hmap3.alloc _).grown hg4 (fun e => by have := (hblk _ e.symm).1; omega)).setCell (by show w1.heap.size ≠ gA; omega) _
          · refine Below.setCell (Below.grown (Below.alloc (Below.grown (Below.alloc hb (by omega) _) hg3 (by simp; omega) (fun g hg => by simp at hg; omega)) (by omega) _) hg4 (by simp; omega) (fun g hg => by have := (hblk g hg).1; omega)) (by show w.heap.size ≤ gA; omega) _
        case measure => simp [intOf]; omega
    · have e : k = ps.length := by omega
      subst e
      rw [List.take_length] at hown
      obtain ⟨Ao, co, rfl, hco, hro⟩ := hown.form
      go_wp2_with fail
      go_ret2
      exact ⟨Ao, co, rfl, hown.mono (by omega), hb⟩
end Go.Proofs.YtlpcmeodbigpjaaDoor
