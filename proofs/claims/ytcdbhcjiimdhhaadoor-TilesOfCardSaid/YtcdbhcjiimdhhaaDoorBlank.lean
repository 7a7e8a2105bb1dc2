/- The reference's Blank; grey. -/
import Derived.Test.YtcdbhcjiimdhhaaDoorBase
import Derived.Test.YtcdbhcjiimdhhaaDoorMem4
import Derived.LoopTactic
namespace Go.Proofs.YtcdbhcjiimdhhaaDoor
open Go Go.RowKit

theorem px_zeros (n : Nat) : pxCells (List.replicate n ⟨0, 0, 0, 0⟩) = List.replicate (n * 4) (.int .u8 0) := by
  induction n with
  | zero => rfl
  | succ n ih =>
    rw [List.replicate_succ, pxCells_cons, ih, Nat.succ_mul, Nat.add_comm, ← List.replicate_append_replicate]
    rfl
theorem made_px (n : Nat) : (madeCells (Value.agg #[.int .u8 0, .int .u8 0, .int .u8 0, .int .u8 0]).cells (n * 4)).toList = pxCells (List.replicate n ⟨0, 0, 0, 0⟩) := by
  rw [px_zeros]
  exact made_same _ _ (by simp [Value.cells]) (fun j hj => by simp [Value.cells] at hj ⊢; match j, hj with | 0, _ => rfl | 1, _ => rfl | 2, _ => rfl | 3, _ => rfl) _

def fillTo (c : Px) (m k : Nat) : List Px := (List.range m).map fun j => if j < k then c else ⟨0, 0, 0, 0⟩
theorem fillTo_zero (c : Px) (m : Nat) : fillTo c m 0 = List.replicate m ⟨0, 0, 0, 0⟩ := by
  apply List.ext_getElem (by simp [fillTo])
  intro j h1 h2
  simp [fillTo]
theorem fillTo_all (c : Px) (m : Nat) : fillTo c m m = List.replicate m c := by
  apply List.ext_getElem (by simp [fillTo])
  intro j h1 h2
  have : j < m := by simpa using h2
  simp [fillTo, this]
theorem fillTo_succ (c : Px) (m k : Nat) (_hk : k < m) : fillTo c m (k + 1) = (fillTo c m k).set k c := by
  apply List.ext_getElem (by simp [fillTo])
  intro j h1 h2
  rw [List.getElem_set]
  by_cases e : k = j
  · subst e; simp [fillTo]
  · rw [if_neg e]
    by_cases h3 : j < k
    · have h4 : j < k + 1 := by omega
      simp [fillTo, h3, h4]
    · have h4 : ¬ j < k + 1 := by omega
      simp [fillTo, h3, h4]

/-- The relation of Blank's loop. -/
structure BlR (w : World) (g3 : Nat) (W H : Int) (m : Nat) (p : Px) (i : Value) (wr : World) (k : Nat) : Prop where
  hk : k ≤ m
  hi : i = .int .i64 k
  own : Own wr (w.heap.size + 2) 4 (.slice (some ⟨w.heap.size + 2, 0, none⟩) m m) m (pxCells (fillTo p m k))
  b0 : Blk wr w.heap.size 41 #[.int .u8 p.r.toNat, .int .u8 p.g.toNat, .int .u8 p.b.toNat, .int .u8 p.a.toNat]
  b1 : Blk wr (w.heap.size + 1) 24 #[.int .i64 0, .int .i64 0, .slice none 0 0]
  b3 : Blk wr g3 24 #[.int .i64 W, .int .i64 H, .slice (some ⟨w.heap.size + 2, 0, none⟩) m m]
  bel : Below w.heap.size w wr

set_option maxRecDepth 100000 in
set_option maxHeartbeats 1000000 in
theorem blank_any (W H : Int) (m : Nat) (p : Px) (w : World) (_hW : 0 ≤ W ∧ W ≤ 1048576) (_hH : 0 ≤ H ∧ H ≤ 1048576) (hm : W * H = m) (hb : m ≤ 1048576) :
    Calls Tryd.prog 27 #[.int .i64 W, .int .i64 H, pxV p] w
      fun e w' => ∃ A' c', e = .returned (.agg #[.int .i64 W, .int .i64 H, .slice A' m c']) ∧ Own w' w.heap.size 4 (.slice A' m c') m (pxCells (List.replicate m p)) ∧ Below w.heap.size w w' := by
  obtain ⟨i0, hi, hz0, hz1, hz2⟩ := info_parts pxInfo
  unfold pxV
  go_enter Tryd.func27, Tryd.ntmps27
  have q0 := Blk.new w 41 #[.int .u8 p.r.toNat, .int .u8 p.g.toNat, .int .u8 p.b.toNat, .int .u8 p.a.toNat] rfl
  go_wp2_with (refine wpList_make_full _ rfl (.tmp 13) (.tmp 13) 22 rfl (w.heap.size + 2) 41 i0 _ 4 Tryd.underlying22 hi hz0 hz1 .i64 .i64 _ _ m rfl rfl rfl rfl (by rw [hz2]; omega) (by unfold maxLen; omega) (by simp) ?_; intro w2 hrow2 hg2)
  simp only [World.size_alloc] at hrow2
  have hown2 := Own.of_row hrow2
  rw [made_px, ← fillTo_zero p m] at hown2
  have hs2 : w.heap.size + 2 < w2.heap.size := (hown2.lt _ rfl).2
  have r0 := (q0.alloc _).grown hg2 (by simp)
  have r1 := (Blk.new (w.alloc (.cells #[.int .u8 p.r.toNat, .int .u8 p.g.toNat, .int .u8 p.b.toNat, .int .u8 p.a.toNat] 41)) 24 #[.int .i64 0, .int .i64 0, .slice none 0 0] (g := w.heap.size + 1) (by first | omega | (simp; done) | (simp; omega))).grown hg2 (by simp)
  have hb2 : Below w.heap.size w w2 := Below.grown (by go_grown) hg2 (by first | omega | (simp; done) | (simp; omega)) (fun g hg => by cases hg)
  clear hrow2 hg2 q0
  go_loopw [8] (fun i wr => ∃ k, BlR w w2.heap.size W H m p i wr k) (fun i _ => m - (intOf i).toNat)
  case atStart => exact ⟨0, Nat.zero_le _, rfl, hown2.alloc _, r0.alloc _, r1.alloc _, Blk.new _ _ _ rfl, Below.alloc hb2 (by omega) _⟩
  case round =>
    obtain ⟨k, hk, rfl, hown, s0, s1, s3, hbw⟩ := hrel
    obtain ⟨wo, rfl⟩ : ∃ wo : World, wo = wr := ⟨_, rfl⟩
    have t0 := s0.cell
    have t1 := s1.cell
    have t3 := s3.cell
    have l3 := s3.lt
    by_cases hlt : k < m
    · have hth := hown.there k hlt
      have hset := hown.setPx k hlt p
      rw [← fillTo_succ p m k hlt, Nat.zero_add] at hset
      rw [Nat.zero_add] at hth
      go_wp2_with (refine wpList_store_px rfl 41 (by kernel_rfl) (.tmp 27) (.tmp 26) rfl (w.heap.size + 2) (k * 4) p ?_ ?_ ?_ ?_)
      · kernel_rfl
      · kernel_rfl
      · exact hth
      go_wp2_with fail
      go_roundw
      case rel => exact ⟨k + 1, by omega, by go_num, hset, s0.setCells_ (by omega) _ _, s1.setCells_ (by omega) _ _, s3.setCells_ (by omega) _ _, Below.setCells_ hbw (by omega) _ _⟩
      case measure => simp [intOf]; omega
    · have e : k = m := by omega
      subst e
      have f1 := s1.free
      go_wp2_with fail
      refine bodyPost_ret (v := .agg #[.int .i64 W, .int .i64 H, .slice (some ⟨w.heap.size + 2, 0, none⟩) k k]) (by simp [results, Tryd.results27, go_sem, t1]) rfl ⟨_, _, rfl, ?_, ?_⟩
      · rw [fillTo_all] at hown
        exact (((hown.setCell (by simp [Value.ownBlock]) _).setCell (by simp [Value.ownBlock]) _).setCell (by simp [Value.ownBlock]) _).mono (by omega)
      · exact ((hbw.setCell (by first | omega | (simp; done) | (simp; omega)) _).setCell (by first | omega | (simp; done) | (simp; omega)) _).setCell (by first | omega | (simp; done) | (simp; omega)) _
end Go.Proofs.YtcdbhcjiimdhhaaDoor
