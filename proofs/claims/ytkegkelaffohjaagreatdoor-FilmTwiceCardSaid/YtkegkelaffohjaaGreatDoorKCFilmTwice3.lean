/- Base, RefBase: put together. -/
import Derived.Test.YtkegkelaffohjaaGreatDoorProg
import Derived.Test.YtkegkelaffohjaaGreatDoorKCFilmTwice0
import Derived.WalkSpells
import Derived.WalkLawsBesides
import Derived.Handy
import Derived.Lib.Hide
import Derived.LoopTactic
import Derived.IntWalk
import Derived.Deep.RegionHeld3
import Derived.Test.YtkegkelaffohjaaGreatDoorKCFilmTwice2
import Derived.BigQuiet
import Derived.Deep.QuietTactic
/- Small functions on pictures: the walks. The reference's Near: the walk. The reference's Blank; grey. The reference's In, at: the walks. slices.Clone at []api.Pixel. Pictures that are the same are said to be the same. -/
namespace Go.Proofs.YtkegkelaffohjaaGreatDoor
open Go Go.RowKit
def sideB (n : Int) : Bool := decide (1 ≤ n) && decide (n ≤ 256)
def rightB (W H : Int) (n : Nat) : Bool := sideB W && sideB H && ((n : Int) == W * H)
theorem sideB_true {n : Int} (h : sideB n = true) : 1 ≤ n ∧ n ≤ 256 := by simpa [sideB] using h
theorem mul_side {W H : Int} (hW : sideB W = true) (hH : sideB H = true) : 1 ≤ W * H ∧ W * H ≤ 65536 := by
 obtain ⟨a, b⟩ := sideB_true hW
 obtain ⟨c, d⟩ := sideB_true hH
 have h1 : 1 * 1 ≤ W * H := Int.mul_le_mul a c (by omega) (by omega)
 have h2 : W * H ≤ 256 * 256 := Int.mul_le_mul b d (by omega) (by omega)
 omega
theorem rightB_true {W H : Int} {n : Nat} (h : rightB W H n = true) : (1 ≤ W ∧ W ≤ 256) ∧ (1 ≤ H ∧ H ≤ 256) ∧ (n : Int) = W * H ∧ n ≤ 65536 := by
 simp only [rightB, Bool.and_eq_true, beq_iff_eq] at h
 obtain ⟨⟨h1, h2⟩, h3⟩ := h
 have := mul_side h1 h2
 exact ⟨sideB_true h1, sideB_true h2, h3, by omega⟩
theorem rside_any (n : Int) (w : World) : Calls Tryz.prog 104 #[.int .i64 n] w fun e w' => e = .returned (.bool (sideB n)) ∧ w = w' := by
 go_enter Tryz.func104, Tryz.ntmps104
 go_wp2
 all_goals go_ret
 all_goals exact ⟨by first | (simp [sideB, *]; done) | (simp [sideB, *]; omega), rfl⟩
theorem rright_any (W H : Int) (A : Option Addr) (n c : Nat) (w : World) :
  Calls Tryz.prog 68 #[.agg #[.int .i64 W, .int .i64 H, .slice A n c]] w fun e w' => e = .returned (.bool (rightB W H n)) ∧ Below w.heap.size w w' := by
 cases hW : sideB W with
 | false =>
  have hr : rightB W H n = false := by simp [rightB, hW]
  go_enter Tryz.func68, Tryz.ntmps68
  go_wp2_with (go_at_call 104; refine (rside_any _ _).mono ?_; rintro e w' ⟨rfl, rfl⟩)
  go_ret
  exact ⟨by rw [hr]; rfl, by go_grown⟩
 | true =>
  cases hH : sideB H with
  | false =>
   have hr : rightB W H n = false := by simp [rightB, hW, hH]
   go_enter Tryz.func68, Tryz.ntmps68
   go_wp2_with (go_at_call 104; refine (rside_any _ _).mono ?_; rintro e w' ⟨rfl, rfl⟩)
   go_ret
   exact ⟨by rw [hr]; rfl, by go_grown⟩
  | true =>
   have hm := mul_side hW hH
   have hr := Lib.hid (show rightB W H n = ((n : Int) == W * H) by simp [rightB, hW, hH])
   go_enter Tryz.func68, Tryz.ntmps68
   go_wp2_with (go_at_call 104; refine (rside_any _ _).mono ?_; rintro e w' ⟨rfl, rfl⟩)
   go_ret
   exact ⟨by rw [hr.out]; rfl, by go_grown⟩
theorem pxInfo : (Tryz.prog.info? 53).map (fun i => (i.zero, i.size, i.bytes)) = some (some (.agg #[.int .u8 0, .int .u8 0, .int .u8 0, .int .u8 0]), 4, 4) := by kernel_rfl
set_option maxRecDepth 100000 in
theorem own_any (W H : Int) (A : Option Addr) (n c : Nat) (l : List Px) (w : World) (h : Reads w w.heap.size 4 A n (pxCells l)) (hn : n ≤ 1048576) :
  Calls Tryz.prog 43 #[.agg #[.int .i64 W, .int .i64 H, .slice A n c]] w fun e w' => ∃ A' c', e = .returned (.agg #[.int .i64 W, .int .i64 H, .slice A' n c']) ∧ Own w' w.heap.size 4 (.slice A' n c') n (pxCells l) ∧ Below w.heap.size w w' := by
 obtain ⟨i0, hi, hz0, hz1, hz2⟩ := info_parts pxInfo
 go_enter Tryz.func43, Tryz.ntmps43
 go_wp2_with (at_builtin; refine wpList_append_S rfl (.tmp 10) (.tmp 12) 42 42 rfl (w.heap.size) 53 i0 _ 4 4 Tryz.underlying42 hi hz0 hz1 hz2 rfl (by decide) (.slice none 0 0) (0) (pxCells ([])) rfl (Own.nil _ _ _) (pxCells_one _) (n) (pxCells l) (Reads.src Tryz.underlying42 (((h.alloc (by first | omega | (simp; done) | (simp; omega)) _).alloc (by first | omega | (simp; done) | (simp; omega)) _).alloc (by first | omega | (simp; done) | (simp; omega)) _) (by decide) (pxCells_one _) _) (n) (by omega) (pxCells (l)) (rfl) (by unfold maxLen; omega) (by omega) (by first | omega | (simp; done) | (simp; omega)) ?_; intro A' c' w1 hown1 hg1 hat1; have B1 : Blk w1 (w.heap.size + 1) 44 _ := Blk.grown (((Blk.new _ _ _ (by first | omega | (simp; done) | (simp; omega))).alloc _)) hg1 (by simp [Value.ownBlock]); have B2 : Blk w1 (w.heap.size + 1 + 1) 44 _ := Blk.grown (Blk.new _ _ _ (by first | omega | (simp; done) | (simp; omega))) hg1 (by simp [Value.ownBlock]); have c1 := B1.cell; have c2 := B2.cell; have f1 := B1.free; have f2 := B2.free; have hs1 := hg1.size)
 have hob : ∀ g, (Value.slice A' n c').ownBlock = some g → w.heap.size + 3 ≤ g := by
  intro g hg
  rcases hat1 with e | e <;> rw [e] at hg
  ·simp [Value.ownBlock] at hg
  ·simp at hg; omega
 have hb1 : Below w.heap.size w w1 := Below.grown (by go_grown) hg1 (by first | omega | (simp; done) | (simp; omega)) (fun g hg => by simp [Value.ownBlock] at hg)
 refine bodyPost_ret (v := .agg #[.int .i64 W, .int .i64 H, .slice A' n c']) (by simp [results, Tryz.results43, go_sem, c1]) rfl ⟨A', c', rfl, ?_, ?_⟩
 ·exact (((hown1.setCell (fun e => by have h9 : w.heap.size + 3 ≤ w.heap.size + 1 + 1 := hob _ e; omega) _).setCell (fun e => by have h9 : w.heap.size + 3 ≤ w.heap.size + 1 := hob _ e; omega) _).setCell (fun e => by have h9 : w.heap.size + 3 ≤ w.heap.size + 1 := hob _ e; omega) _).setCell (fun e => by have h9 : w.heap.size + 3 ≤ w.heap.size + 1 := hob _ e; omega) _
 ·exact (((hb1.setCell (by first | omega | (simp; done) | (simp; omega)) _).setCell (by first | omega | (simp; done) | (simp; omega)) _).setCell (by first | omega | (simp; done) | (simp; omega)) _).setCell (by first | omega | (simp; done) | (simp; omega)) _
end Go.Proofs.YtkegkelaffohjaaGreatDoor
namespace Go.Proofs.YtkegkelaffohjaaGreatDoor
open Go Go.RowKit
theorem px_zeros (n : Nat) : pxCells (List.replicate n ⟨0, 0, 0, 0⟩) = List.replicate (n * 4) (.int .u8 0) := by
 induction n with
 | zero => rfl
 | succ n ih =>
  rw [List.replicate_succ, pxCells_cons, ih, Nat.succ_mul, Nat.add_comm, ← List.replicate_append_replicate]
  rfl
theorem made_px (n : Nat) : (madeCells (Value.agg #[.int .u8 0, .int .u8 0, .int .u8 0, .int .u8 0]).cells (n * 4)).toList = pxCells (List.replicate n ⟨0, 0, 0, 0⟩) := by
 rw [px_zeros]
 exact made_same _ _ (by simp [Value.cells]) (fun j hj => by simp [Value.cells] at hj ⊢; match j, hj with | 0, _ => rfl | 1, _ => rfl | 2, _ => rfl | 3, _ => rfl) _
def fillTo (c : Px) (m k : Nat) : List Px := (List.range m).map fun j => if j < k then c else ⟨0, 0, 0, 0⟩
theorem fillTo_zero (c : Px) (m : Nat) : fillTo c m 0 = List.replicate m ⟨0, 0, 0, 0⟩ := by
 apply List.ext_getElem (by simp [fillTo])
 intro j h1 h2
 simp [fillTo]
theorem fillTo_all (c : Px) (m : Nat) : fillTo c m m = List.replicate m c := by
 apply List.ext_getElem (by simp [fillTo])
 intro j h1 h2
 have : j < m := by simpa using h2
 simp [fillTo, this]
theorem fillTo_succ (c : Px) (m k : Nat) (_hk : k < m) : fillTo c m (k + 1) = (fillTo c m k).set k c := by
 apply List.ext_getElem (by simp [fillTo])
 intro j h1 h2
 rw [List.getElem_set]
 by_cases e : k = j
 ·subst e; simp [fillTo]
 ·rw [if_neg e]
  by_cases h3 : j < k
  ·have h4 : j < k + 1 := by omega
   simp [fillTo, h3, h4]
  ·have h4 : ¬ j < k + 1 := by omega
   simp [fillTo, h3, h4]
structure BlR (w : World) (g3 : Nat) (W H : Int) (m : Nat) (p : Px) (i : Value) (wr : World) (k : Nat) : Prop where
 hk : k ≤ m
 hi : i = .int .i64 k
 own : Own wr (w.heap.size + 2) 4 (.slice (some ⟨w.heap.size + 2, 0, none⟩) m m) m (pxCells (fillTo p m k))
 b0 : Blk wr w.heap.size 53 #[.int .u8 p.r.toNat, .int .u8 p.g.toNat, .int .u8 p.b.toNat, .int .u8 p.a.toNat]
 b1 : Blk wr (w.heap.size + 1) 44 #[.int .i64 0, .int .i64 0, .slice none 0 0]
 b3 : Blk wr g3 44 #[.int .i64 W, .int .i64 H, .slice (some ⟨w.heap.size + 2, 0, none⟩) m m]
 bel : Below w.heap.size w wr
set_option maxRecDepth 100000 in
set_option maxHeartbeats 1000000 in
theorem blank_any (W H : Int) (m : Nat) (p : Px) (w : World) (_hW : 0 ≤ W ∧ W ≤ 1048576) (_hH : 0 ≤ H ∧ H ≤ 1048576) (hm : W * H = m) (hb : m ≤ 1048576) :
  Calls Tryz.prog 18 #[.int .i64 W, .int .i64 H, pxV p] w
   fun e w' => ∃ A' c', e = .returned (.agg #[.int .i64 W, .int .i64 H, .slice A' m c']) ∧ Own w' w.heap.size 4 (.slice A' m c') m (pxCells (List.replicate m p)) ∧ Below w.heap.size w w' := by
 obtain ⟨i0, hi, hz0, hz1, hz2⟩ := info_parts pxInfo
 unfold pxV
 go_enter Tryz.func18, Tryz.ntmps18
 have q0 := Blk.new w 53 #[.int .u8 p.r.toNat, .int .u8 p.g.toNat, .int .u8 p.b.toNat, .int .u8 p.a.toNat] rfl
 go_wp2_with (refine wpList_make_full _ rfl (.tmp 13) (.tmp 13) 42 rfl (w.heap.size + 2) 53 i0 _ 4 Tryz.underlying42 hi hz0 hz1 .i64 .i64 _ _ m rfl rfl rfl rfl (by rw [hz2]; omega) (by unfold maxLen; omega) (by simp) ?_; intro w2 hrow2 hg2)
 simp only [World.size_alloc] at hrow2
 have hown2 := Own.of_row hrow2
 rw [made_px, ← fillTo_zero p m] at hown2
 have hs2 : w.heap.size + 2 < w2.heap.size := (hown2.lt _ rfl).2
 have r0 := (q0.alloc _).grown hg2 (by simp)
 have r1 := (Blk.new (w.alloc (.cells #[.int .u8 p.r.toNat, .int .u8 p.g.toNat, .int .u8 p.b.toNat, .int .u8 p.a.toNat] 53)) 44 #[.int .i64 0, .int .i64 0, .slice none 0 0] (g := w.heap.size + 1) (by first | omega | (simp; done) | (simp; omega))).grown hg2 (by simp)
 have hb2 : Below w.heap.size w w2 := Below.grown (by go_grown) hg2 (by first | omega | (simp; done) | (simp; omega)) (fun g hg => by cases hg)
 clear hrow2 hg2 q0
 go_loopw [8] (fun i wr => ∃ k, BlR w w2.heap.size W H m p i wr k) (fun i _ => m - (intOf i).toNat)
 case atStart => exact ⟨0, Nat.zero_le _, rfl, hown2.alloc _, r0.alloc _, r1.alloc _, Blk.new _ _ _ rfl, Below.alloc hb2 (by omega) _⟩
 case round =>
  obtain ⟨k, hk, rfl, hown, s0, s1, s3, hbw⟩ := hrel
  obtain ⟨wo, rfl⟩ : ∃ wo : World, wo = wr := ⟨_, rfl⟩
  have t0 := s0.cell
  have t1 := s1.cell
  have t3 := s3.cell
  have l3 := s3.lt
  by_cases hlt : k < m
  ·have hth := hown.there k hlt
   have hset := hown.setPx k hlt p
   rw [← fillTo_succ p m k hlt, Nat.zero_add] at hset
   rw [Nat.zero_add] at hth
   go_wp2_with (refine wpList_store_px rfl 53 (by kernel_rfl) (.tmp 27) (.tmp 26) rfl (w.heap.size + 2) (k * 4) p ?_ ?_ ?_ ?_)
   ·kernel_rfl
   ·kernel_rfl
   ·exact hth
   go_wp2_with fail
   go_roundw
   case rel => exact ⟨k + 1, by omega, by go_num, hset, s0.setCells_ (by omega) _ _, s1.setCells_ (by omega) _ _, s3.setCells_ (by omega) _ _, Below.setCells_ hbw (by omega) _ _⟩
   case measure => simp [intOf]; omega
  ·have e : k = m := by omega
   subst e
   have f1 := s1.free
   go_wp2_with fail
   refine bodyPost_ret (v := .agg #[.int .i64 W, .int .i64 H, .slice (some ⟨w.heap.size + 2, 0, none⟩) k k]) (by simp [results, Tryz.results18, go_sem, t1]) rfl ⟨_, _, rfl, ?_, ?_⟩
   ·rw [fillTo_all] at hown
    exact (((hown.setCell (by simp [Value.ownBlock]) _).setCell (by simp [Value.ownBlock]) _).setCell (by simp [Value.ownBlock]) _).mono (by omega)
   ·exact ((hbw.setCell (by first | omega | (simp; done) | (simp; omega)) _).setCell (by first | omega | (simp; done) | (simp; omega)) _).setCell (by first | omega | (simp; done) | (simp; omega)) _
end Go.Proofs.YtkegkelaffohjaaGreatDoor
namespace Go.Proofs.YtkegkelaffohjaaGreatDoor
open Go Go.RowKit
theorem Own.emptyRow (w : World) (e : TypeId) (size : Nat) (base g : Nat) (hb : base ≤ w.heap.size) (hg : g = w.heap.size) : Own (w.alloc (.cells #[] e)) base size (.slice (some ⟨g, 0, none⟩) 0 0) 0 [] := by
 subst hg
 exact ⟨by simp, .inr ⟨w.heap.size, 0, 0, rfl, hb, by simp, Nat.le_refl _, Nat.zero_le _, fun j hj => by simp at hj, fun j hj => by simp at hj⟩⟩
end Go.Proofs.YtkegkelaffohjaaGreatDoor
namespace Go.Proofs.YtkegkelaffohjaaGreatDoor
open Go Go.RowKit
set_option maxRecDepth 100000 in
theorem samePicture_same (W H : Int) (A1 : Option Addr) (n c1 : Nat) (A2 : Option Addr) (c2 : Nat) (l : List Px) (w : World) (h1 : Reads w w.heap.size 4 A1 n (pxCells l)) (h2 : Reads w w.heap.size 4 A2 n (pxCells l)) (hn : n ≤ 1048576) :
  Calls Tryz.prog 17 #[.agg #[.int .i64 W, .int .i64 H, .slice A1 n c1], .agg #[.int .i64 W, .int .i64 H, .slice A2 n c2]] w fun e w' => e = .returned (.bool true) ∧ Below w.heap.size w w' := by
 obtain rfl := h1.pxLen
 go_enter Tryz.func17, Tryz.ntmps17
 go_wp2_with fail
 have k1 := ((h1.alloc (Nat.le_refl _) (.cells #[.int .i64 W, .int .i64 H, .slice A1 l.length c1] 44)).alloc (by first | omega | (simp; done) | (simp; omega)) (.cells #[.int .i64 W, .int .i64 H, .slice A2 l.length c2] 44))
 have k2 := ((h2.alloc (Nat.le_refl _) (.cells #[.int .i64 W, .int .i64 H, .slice A1 l.length c1] 44)).alloc (by first | omega | (simp; done) | (simp; omega)) (.cells #[.int .i64 W, .int .i64 H, .slice A2 l.length c2] 44))
 have d1 : ((w.alloc (.cells #[.int .i64 W, .int .i64 H, .slice A1 l.length c1] 44)).alloc (.cells #[.int .i64 W, .int .i64 H, .slice A2 l.length c2] 44)).cell? ⟨w.heap.size, 2, none⟩ = some (.slice A1 l.length c1) := cell_past _ (cell_made _ _ _ rfl rfl)
 have d2 : ((w.alloc (.cells #[.int .i64 W, .int .i64 H, .slice A1 l.length c1] 44)).alloc (.cells #[.int .i64 W, .int .i64 H, .slice A2 l.length c2] 44)).cell? ⟨w.heap.size + 1, 2, none⟩ = some (.slice A2 l.length c2) := cell_made _ _ _ (by simp) rfl
 have hb : Below w.heap.size w ((w.alloc (.cells #[.int .i64 W, .int .i64 H, .slice A1 l.length c1] 44)).alloc (.cells #[.int .i64 W, .int .i64 H, .slice A2 l.length c2] 44)) := by go_grown
 generalize (w.alloc (.cells #[.int .i64 W, .int .i64 H, .slice A1 l.length c1] 44)).alloc (.cells #[.int .i64 W, .int .i64 H, .slice A2 l.length c2] 44) = w2 at *
 go_loopw [5] (fun i wr => ∃ k q, k ≤ l.length ∧ i = .int .i64 k ∧ wr = w2.drewN q) (fun i _ => l.length - (intOf i).toNat)
 case atStart => exact ⟨0, 0, Nat.zero_le _, rfl, rfl⟩
 case round =>
  obtain ⟨k, q, hk, rfl, rfl⟩ := hrel
  by_cases hlt : k < l.length
  ·obtain ⟨b1, o1, rfl, _⟩ := k1.addr (by omega)
   obtain ⟨b2, o2, rfl, _⟩ := k2.addr (by omega)
   obtain ⟨y0, y1, y2, y3⟩ := k1.px k hlt
   obtain ⟨z0, z1, z2, z3⟩ := k2.px k hlt
   have hnq := fun w => run_neq_px w l[k] l[k]
   unfold pxV at hnq
   go_wp2_with fail
   go_quiet (fail)
   go_wp2_with fail
   go_roundw
   case rel => exact ⟨k + 1, _, by omega, by go_num, rfl⟩
   case measure => simp [intOf]; omega
  ·go_wp2_with fail
   go_ret
   exact ⟨rfl, below_drewN hb q⟩
end Go.Proofs.YtkegkelaffohjaaGreatDoor
/- Side, Right, Near, In of the reference: the walks. -/
namespace Go.Proofs.YtkegkelaffohjaaGreatDoor
open Go Go.RowKit
end Go.Proofs.YtkegkelaffohjaaGreatDoor
