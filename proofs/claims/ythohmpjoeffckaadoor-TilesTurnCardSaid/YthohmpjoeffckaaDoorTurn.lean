/- raster.Turn: the walk. Printed by mk.py. -/
import Derived.Test.YthohmpjoeffckaaDoorCrop
import Derived.Test.YthohmpjoeffckaaDoorPakLaw
import Derived.Deep.Cut
import Derived.Deep.DeepCutAuto
import Derived.Deep.CutBlock
namespace Go.Proofs.YthohmpjoeffckaaDoor
open Go Go.RowKit

set_option maxRecDepth 100000 in
set_option maxHeartbeats 4000000 in
theorem eachTurn_any (W' H' : Nat) (c1 : Value) (f : Nat → Nat → Px) (w : World) (hW : W' ≤ 256) (hH : H' ≤ 256)
    (how : ∀ (x y : Nat) (w' : World), x < W' → y < H' → Below w.heap.size w w' → Calls Tryd.prog 22 #[.int .i64 x, .int .i64 y, c1] w' fun e w'' => e = .returned (.agg #[.int .u8 (f x y).r.toNat, .int .u8 (f x y).g.toNat, .int .u8 (f x y).b.toNat, .int .u8 (f x y).a.toNat]) ∧ Below w'.heap.size w' w'') :
    Calls Tryd.prog 21 #[.int .i64 W', .int .i64 H', .func (.func 22) #[] #[c1]] w
      fun e w' => ∃ A' c', e = .returned (.agg #[.int .i64 W', .int .i64 H', .slice A' (H' * W') c']) ∧ Own w' w.heap.size 4 (.slice A' (H' * W') c') (H' * W') (pxCells (Lay.grid f W' H')) ∧ Below w.heap.size w w' := by
  obtain ⟨i0, hi, hz0, hz1, hz2⟩ := info_parts pxInfo
  have HOW := Lib.hid how
  clear how
  have HGL := Lib.hid (Lay.grid_length f W' H')
  go_enter Tryd.func21, Tryd.ntmps21
  go_wp2_with fail
  obtain ⟨w2, hw2⟩ : ∃ w2, w2 = (w.alloc (.cells #[.int .i64 0, .int .i64 0, .slice none 0 0] 24)).alloc (.cells #[.int .i64 W', .int .i64 H', .slice none 0 0] 24) := ⟨_, rfl⟩
  have F0 : EaR W' H' w (.slice none 0 0) [] w2 := by
    rw [hw2]
    exact ⟨(Blk.new _ _ _ rfl).alloc _, Blk.new _ _ _ (by simp), Own.nil _ _ _, by go_grown⟩
  rw [← hw2]
  clear hw2
  go_loopw [14] (fun i wr => ∃ (k : Nat) (v : Value), k ≤ H' ∧ i = .int .i64 k ∧ EaR W' H' w v (Lay.grid f W' k) wr) (fun i _ => H' - (intOf i).toNat)
  case atStart => exact ⟨0, _, Nat.zero_le _, rfl, F0⟩
  case round =>
    clear F0
    obtain ⟨k, v0, hk, rfl, F0⟩ := hrel
    obtain ⟨wo, rfl⟩ : ∃ wo : World, wo = wr := ⟨_, rfl⟩
    have c5 := F0.b5.cell
    have c1' := F0.b1.cell
    have f1 := F0.b1.free
    by_cases hlt : k < H'
    · go_wp2_with fail
      go_loopw [18] (fun i wr => ∃ (j : Nat) (v : Value), j ≤ W' ∧ i = .int .i64 j ∧ EaR W' H' w v (Lay.gridTo f W' k j) wr) (fun i _ => W' - (intOf i).toNat)
      case atStart => exact ⟨0, v0, Nat.zero_le _, rfl, by rw [Lay.gridTo_zero]; exact F0⟩
      case round =>
        clear F0 c5 c1' f1
        obtain ⟨j, v, hj, rfl, F⟩ := hrel
        obtain ⟨wi, rfl⟩ : ∃ wi : World, wi = wr := ⟨_, rfl⟩
        by_cases hjl : j < W'
        · obtain ⟨Av, cv, rfl, hcv, _⟩ := F.own.form
          have hlen := Lay.gridTo_length f W' k j
          have HS := Lib.hid (Lay.gridTo_succ f W' k j)
          obtain ⟨l, hl⟩ : ∃ l, l = Lay.gridTo f W' k j := ⟨_, rfl⟩
          rw [← hl] at F hlen HS
          have hll : l.length ≤ 131072 := by
            have := Nat.mul_le_mul hk hW
            have : H' * 256 ≤ 65536 := by omega
            omega
          have HL := Lib.hid hl
          clear hl hlen
          obtain ⟨q, hq⟩ : ∃ q, f j k = q := ⟨_, rfl⟩
          have HQ := Lib.hid hq
          clear hq
          have hcall := HOW.out j k wi.drew hjl hlt F.bel.drew
          rw [HQ.out] at hcall
          have HC := Lib.hid hcall
          clear hcall
          have s5 : wi.cell? ⟨w.heap.size + 1, 2, none⟩ = some (.slice Av l.length cv) := (F.b5.cell 2).trans rfl
          have h5l := F.b5.lt
          go_wp2_with fail
          have p5 := fun o => cell_past (w := wi) o s5
          go_region_law
            (first
              | (refine step_append_Own _ rfl (.tmp 22) (.tmp 27) 22 22 rfl (w.heap.size + 2) 43 i0 _ 4 4 Tryd.underlying22 hi hz0 hz1 hz2 rfl (by decide) (.slice Av l.length cv) l.length (pxCells l) rfl ((F.own.below (Below.fromDrew hbA) (Nat.le_refl _)).alloc _) (pxCells_one _) 1 (pxCs q) (Src.blk Tryd.underlying22 (Blk.new _ _ _ rfl) rfl (pxCells_one [q])) (by unfold maxLen; omega) (by omega) (by simp; omega) ?_; intro vT wT hownT hgT hatT; obtain ⟨AT, cT, rfl, hcT, _⟩ := hownT.form; have t5 : wT.cell? ⟨w.heap.size + 1, 2, none⟩ = some (.slice Av l.length cv) := (hgT.cell_far ⟨w.heap.size + 1, 2, none⟩ (by simp; omega) (fun e => F.n5 e.symm)).trans (cell_past _ (bkeep hbA s5)); have f5 : wT.frozen? ⟨w.heap.size + 1, 2, none⟩ = false := (hgT.frozen_far ⟨w.heap.size + 1, 2, none⟩ (by simp; omega) (fun e => F.n5 e.symm)).trans (free_past _ (by simp; omega) (bfree_ hbA h5l (F.b5.free 2))))
              | (go_simp; go_at_call 22; refine HC.out.mono ?_; rintro e wA ⟨rfl, hbA⟩; have hzA : wi.heap.size ≤ wA.heap.size := hbA.size; have a5 := bkeep hbA s5; have r5 := fun o => cell_past (w := wA) o a5))
          all_goals
            have F9 := F.push (Below.fromDrew hbA) hownT hgT
            have HF9 := Lib.hid F9
            clear F9 hownT hgT hatT t5 f5 a5 r5 p5 s5
            go_wp2_with fail
            go_roundw
            case rel => exact ⟨j + 1, _, by omega, by go_num, by rw [Lay.gridTo_succ, HQ.out, ← HL.out]; exact HF9.out⟩
            case measure => simp [intOf]; omega
        · go_wp2_with fail
          have e : j = W' := by omega
          subst e
          rw [Lay.gridTo_full] at F
          go_roundw
          case rel => exact ⟨k + 1, v, by omega, by go_num, F⟩
          case measure => simp [intOf]; omega
    · have e : k = H' := by omega
      rw [e] at F0
      have ho := F0.own
      rw [HGL.out] at ho
      obtain ⟨Av, cv, hv, hcv, _⟩ := ho.form
      subst hv
      have n1 : (Value.slice Av (H' * W') cv).ownBlock ≠ some w.heap.size := fun e => by have := (ho.lt _ e).1; omega
      have HO := Lib.hid ho
      have HN1 := Lib.hid n1
      clear ho n1 e
      go_wp2_with fail
      refine bodyPost_ret (v := .agg #[.int .i64 W', .int .i64 H', .slice Av (H' * W') cv]) (by simp [results, Tryd.results21, go_sem, c1']) rfl ⟨Av, cv, rfl, ?_, ?_⟩
      · exact (((HO.out.setCell HN1.out _).setCell HN1.out _).setCell HN1.out _).mono (by omega)
      · exact (((F0.bel.setCell (Nat.le_refl _) _).setCell (Nat.le_refl _) _).setCell (Nat.le_refl _) _)
set_option maxRecDepth 100000 in
set_option maxHeartbeats 1000000 in
theorem turn1_any (W H : Nat) (A : Option Addr) (n c : Nat) (ps : List Px) (qb x y k : Nat) (q : Px) (w : World) (b1 : Blk w qb 24 #[.int .i64 W, .int .i64 H, .slice A n c])
    (hp : Reads w w.heap.size 4 A n (pxCells ps)) (hq : ps[k]? = some q) (hx : x < H) (hH : H ≤ 256) (hW : W ≤ 256) (hy : y < W) (hk : (H - 1 - x) * W + y = k) :
    Calls Tryd.prog 22 #[.int .i64 x, .int .i64 y, .pointer (some ⟨qb, 0, none⟩)] w
      fun e w' => e = .returned (.agg #[.int .u8 q.r.toNat, .int .u8 q.g.toNat, .int .u8 q.b.toNat, .int .u8 q.a.toNat]) ∧ Below w.heap.size w w' := by
  obtain ⟨hl, hlq⟩ := List.getElem?_eq_some_iff.1 hq
  obtain rfl := hp.pxLen
  obtain ⟨b, off, rfl, hb⟩ := hp.addr (by omega)
  have c1 := fun o => (b1.alloc o).cell
  have c1 := c1 (.cells #[.int .u8 0, .int .u8 0, .int .u8 0, .int .u8 0] 43)
  obtain ⟨y0, y1, y2, y3⟩ := (hp.alloc (Nat.le_refl _) (.cells #[.int .u8 0, .int .u8 0, .int .u8 0, .int .u8 0] 43)).px k hl
  rw [hlq] at y0 y1 y2 y3
  have l1 := b1.lt
  obtain ⟨yy, hyy⟩ : ∃ yy : Nat, yy = H - 1 - x := ⟨_, rfl⟩
  obtain ⟨z, hz⟩ : ∃ z : Nat, z = yy * W := ⟨_, rfl⟩
  have hzb : z ≤ 65536 := by rw [hz]; exact Nat.mul_le_mul (show yy ≤ 256 by omega) hW
  rw [← hyy, ← hz] at hk
  have hw1 : (H : Int) - 1 - (x : Int) = yy := by omega
  have hw2 : IntKind.i64.wrap ((yy : Int) * W) = z := by rw [hz, Int.natCast_mul]; exact IntWalk.i64_in _ (by rw [← Int.natCast_mul]; omega)
  have hw3 : IntKind.i64.wrap ((H : Int) - 1) = (H : Int) - 1 := IntWalk.i64_in _ (by omega)
  have hw4 : IntKind.i64.wrap ((H : Int) - 1 - (x : Int)) = yy := by rw [hw1]; exact IntWalk.i64_in _ (by omega)
  have hw5 : IntKind.i64.wrap ((z : Int) + (y : Int)) = (k : Int) := by rw [← hk, Int.natCast_add]; exact IntWalk.i64_in _ (by omega)
  have e2 : (z : Int) + (y : Int) = (k : Int) := by omega
  have k0 : (0 : Int) ≤ (k : Int) := by omega
  have k1 : (k : Int) < (ps.length : Int) := by omega
  clear hlq hq hk hp b1 hyy hz
  go_enter Tryd.func22, Tryd.ntmps22
  go_wp2_with fail
  refine bodyPost_ret (v := .agg #[.int .u8 q.r.toNat, .int .u8 q.g.toNat, .int .u8 q.b.toNat, .int .u8 q.a.toNat]) (by simp [results, Tryd.results22, go_sem]) rfl ⟨rfl, by go_grown⟩
/-- What stands in Turn's loop. -/
structure TuR (w : World) (g4 g7 : Nat) (W H : Nat) (ps : List Px) (wr : World) : Prop where
  b4 : Blk wr g4 24 #[.int .i64 0, .int .i64 0, .slice none 0 0]
  ex : ∃ A c, Blk wr g7 24 #[.int .i64 W, .int .i64 H, .slice A ps.length c] ∧ Own wr w.heap.size 4 (.slice A ps.length c) ps.length (pxCells ps) ∧ (Value.slice A ps.length c).ownBlock ≠ some g4 ∧ (Value.slice A ps.length c).ownBlock ≠ some g7
  bel : Below w.heap.size w wr
set_option maxRecDepth 100000 in
set_option maxHeartbeats 2000000 in
theorem turn_any (W H : Nat) (A : Option Addr) (n c : Nat) (ps : List Px) (w : World) (hp : Reads w w.heap.size 4 A n (pxCells ps)) (hW : 1 ≤ W ∧ W ≤ 256) (hH : 1 ≤ H ∧ H ≤ 256) (hn : ps.length = H * W) :
    Calls Tryd.prog 9 #[.agg #[.int .i64 W, .int .i64 H, .slice A n c], .int .i64 1] w
      fun e w' => ∃ A' c', e = .returned (.tuple #[.agg #[.int .i64 H, .int .i64 W, .slice A' (W * H) c'], .nilIface]) ∧ Own w' w.heap.size 4 (.slice A' (W * H) c') (W * H) (pxCells (Til.turn ps W H)) ∧ Below w.heap.size w w' := by
  have hpl := hp.pxLen
  obtain ⟨hW1, hW2⟩ := hW
  obtain ⟨hH1, hH2⟩ := hH
  have HRB := Lib.hid (show rightB (W : Int) (H : Int) n = true by
    have h1 : sideB (W : Int) = true := by simp [sideB]; omega
    have h2 : sideB (H : Int) = true := by simp [sideB]; omega
    simp only [rightB, h1, h2, Bool.true_and]
    rw [hpl, hn, Int.natCast_mul, Int.mul_comm]
    simp)
  have hpos : 0 < n := by rw [hpl, hn]; exact Nat.mul_pos hH1 hW1
  have hle : n ≤ 65536 := by rw [hpl, hn]; exact Nat.mul_le_mul hH2 hW2
  have HP := Lib.hid hp
  have HN := Lib.hid hn
  have HPL := Lib.hid hpl
  clear hp hn hpl
  go_enter Tryd.func9, Tryd.ntmps9
  go_wp2_with fail
  refine (rcheck_fine W H A n c _ HRB.out).mono ?_
  rintro e w1 ⟨rfl, hb1⟩
  have B1 := ((Blk.new w 24 #[.int .i64 W, .int .i64 H, .slice A n c] rfl).alloc (.cells #[.int .i64 0, .int .i64 0, .slice none 0 0] 24)).below hb1 (by simp; omega)
  have B2 := (Blk.new (w.alloc (.cells #[.int .i64 W, .int .i64 H, .slice A n c] 24)) 24 #[.int .i64 0, .int .i64 0, .slice none 0 0] (g := w.heap.size + 1) (by simp)).below hb1 (by simp)
  have hbw : Below w.heap.size w w1 := Below.trans (by go_grown) (hb1.mono (by simp; omega))
  have c1 := B1.cell
  have hz1 := hbw.size
  have l2 := B2.lt
  clear hb1
  go_wp2_with fail
  refine (rown_any W H A n c ps _ ((HP.out.below hbw (Nat.le_refl _)).more hbw.size) hpos (by omega)).mono ?_
  rintro e w2 ⟨A2, c2, rfl, hO2, hb2⟩
  have C2 := B2.below hb2 B2.lt
  have hbw2 := hbw.trans (hb2.mono hbw.size)
  obtain ⟨g7, hg7⟩ : ∃ g7, g7 = w2.heap.size := ⟨_, rfl⟩
  have n4 : (Value.slice A2 n c2).ownBlock ≠ some (w.heap.size + 1) := fun e => by have := (hO2.lt _ e).1; omega
  have n7 : (Value.slice A2 n c2).ownBlock ≠ some g7 := fun e => by have := (hO2.lt _ e).2; omega
  have F0 : TuR w (w.heap.size + 1) g7 W H ps (w2.alloc (.cells #[.int .i64 W, .int .i64 H, .slice A2 n c2] 24)) := by
    have e := HPL.out
    subst e
    exact ⟨C2.alloc _, ⟨A2, c2, Blk.new _ _ _ hg7, (hO2.alloc _).mono hz1, n4, n7⟩, hbw2.alloc hbw2.size _⟩
  have HF0 := Lib.hid F0
  have HNE := Lib.hid (show w.heap.size + 1 ≠ g7 by have := C2.lt; omega)
  have HGE := Lib.hid (show w.heap.size ≤ g7 by have := hbw2.size; omega)
  clear F0 n4 n7 c1 hO2 hb2
  go_upto_block 0 with (fail)
  rw [← hg7]
  generalize w2.alloc (.cells #[.int .i64 W, .int .i64 H, .slice A2 n c2] 24) = w3 at *
  clear hg7 C2 hbw2 hz1 l2 hbw
  go_wp2_with fail
  go_loopw [21] (fun i wr => (i = .int .i64 0 ∧ TuR w (w.heap.size + 1) g7 W H ps wr) ∨ (i = .int .i64 1 ∧ TuR w (w.heap.size + 1) g7 H W (Til.turn ps W H) wr)) (fun i _ => 1 - (intOf i).toNat)
  case atStart => exact .inl ⟨rfl, HF0.out⟩
  case round =>
    rcases hrel with ⟨rfl, hF⟩ | ⟨rfl, hF⟩
    · obtain ⟨A', c', hB7, hO, n4, n7⟩ := hF.ex
      have k0 : wr.cell? ⟨g7, 0, none⟩ = some (.int .i64 W) := by rw [hB7.cell]; rfl
      have k1 : wr.cell? ⟨g7, 1, none⟩ = some (.int .i64 H) := by rw [hB7.cell]; rfl
      have k2 : wr.cell? ⟨g7, 2, none⟩ = some (.slice A' ps.length c') := by rw [hB7.cell]; rfl
      go_wp2_with fail
      obtain ⟨g8, hg8⟩ : ∃ g8, g8 = wr.heap.size := ⟨_, rfl⟩
      have hba : Below wr.heap.size wr (wr.alloc (.cells #[.int .i64 W, .int .i64 H, .slice A' ps.length c'] 24)) := (Below.refl _ _).alloc (Nat.le_refl _) _
      have B8 := Blk.new wr 24 #[.int .i64 W, .int .i64 H, .slice A' ps.length c'] hg8
      have hl7 := hB7.lt
      have hl4 := hF.b4.lt
      have hB78 := hB7.below hba hB7.lt
      have hB48 := hF.b4.below hba hF.b4.lt
      have hO8 := hO.below hba (Nat.le_refl _)
      have hbe8 := hF.bel.trans (hba.mono hF.bel.size)
      rw [← hg8]
      generalize wr.alloc (.cells #[.int .i64 W, .int .i64 H, .slice A' ps.length c'] 24) = w8 at *
      have HOW := Lib.hid (show ∀ (x y : Nat) (w' : World), x < H → y < W → Below w8.heap.size w8 w' → Calls Tryd.prog 22 #[.int .i64 x, .int .i64 y, .pointer (some ⟨g8, 0, none⟩)] w' fun e w'' => e = .returned (.agg #[.int .u8 (ps.getD ((H - 1 - x) * W + y) default).r.toNat, .int .u8 (ps.getD ((H - 1 - x) * W + y) default).g.toNat, .int .u8 (ps.getD ((H - 1 - x) * W + y) default).b.toNat, .int .u8 (ps.getD ((H - 1 - x) * W + y) default).a.toNat]) ∧ Below w'.heap.size w' w'' from fun x y w' hx hy hb => by
        have hsl := Til.index_lt hy (show H - 1 - x < H by omega)
        rw [← HN.out] at hsl
        exact turn1_any W H A' ps.length c' ps g8 x y ((H - 1 - x) * W + y) _ w' (B8.below hb B8.lt) ((hO8.reads.2.below hb (Nat.le_refl _)).more hb.size) (by rw [List.getD_eq_getElem?_getD, List.getElem?_eq_getElem hsl]; rfl) hx hH2 hW2 hy rfl)
      refine (eachTurn_any H W _ (fun x y => ps.getD ((H - 1 - x) * W + y) default) _ hH2 hW2 HOW.out).mono ?_
      rintro e w9 ⟨A9, c9, rfl, hO9, hb9⟩
      have hz8 := hbe8.size
      have hzz := hba.size
      have b7 := hB78.below hb9 hB78.lt
      have b4 := hB48.below hb9 hB48.lt
      have s0 : w9.cell? ⟨g7, 0, none⟩ = some (.int .i64 W) := by rw [b7.cell]; rfl
      have s1 : w9.cell? ⟨g7, 1, none⟩ = some (.int .i64 H) := by rw [b7.cell]; rfl
      have s2 : w9.cell? ⟨g7, 2, none⟩ = some (.slice A' ps.length c') := by rw [b7.cell]; rfl
      have f0 := b7.free 0
      have f1 := b7.free 1
      have f2 := b7.free 2
      have hbe9 := hbe8.trans (hb9.mono hz8)
      have m4 : (Value.slice A9 (W * H) c9).ownBlock ≠ some (w.heap.size + 1) := fun e => by have := (hO9.lt _ e).1; omega
      have m7 : (Value.slice A9 (W * H) c9).ownBlock ≠ some g7 := fun e => by have := (hO9.lt _ e).1; omega
      have hne47 : w.heap.size + 1 ≠ g7 := HNE.out
      have hge7 : w.heap.size ≤ g7 := by have := HGE.out; omega
      have HF9 := Lib.hid (show TuR w (w.heap.size + 1) g7 H W (Til.turn ps W H) (((w9.setCell ⟨g7, 0, none⟩ (.int .i64 H)).setCell ⟨g7, 1, none⟩ (.int .i64 W)).setCell ⟨g7, 2, none⟩ (.slice A9 (W * H) c9)) from by
        have hl : (Til.turn ps W H).length = W * H := Til.turn_length _ _ _
        refine ⟨((b4.far (p := ⟨g7, 0, none⟩) hne47 _).far (p := ⟨g7, 1, none⟩) hne47 _).far (p := ⟨g7, 2, none⟩) hne47 _, ⟨A9, c9, ?_, ?_, by rw [hl]; exact m4, by rw [hl]; exact m7⟩, ((hbe9.setCell (p := ⟨g7, 0, none⟩) hge7 _).setCell (p := ⟨g7, 1, none⟩) hge7 _).setCell (p := ⟨g7, 2, none⟩) hge7 _⟩
        · rw [hl]
          have := ((b7.set_ 0 (.int .i64 H)).set_ 1 (.int .i64 W)).set_ 2 (.slice A9 (W * H) c9)
          simpa using this
        · rw [hl]
          exact (((hO9.setCell (p := ⟨g7, 0, none⟩) m7 _).setCell (p := ⟨g7, 1, none⟩) m7 _).setCell (p := ⟨g7, 2, none⟩) m7 _).mono (Nat.le_trans hF.bel.size (by omega)))
      clear hO9 hb9 hO8 hB78 hB48 B8 hbe9 m4 m7 k0 k1 k2 hB7 hO n4 n7 b7 b4 hbe8 hba
      go_wp2_with fail
      go_roundw
      case rel => exact .inr ⟨rfl, HF9.out⟩
      case measure => simp [intOf]
    · obtain ⟨A', c', hB7, hO, n4, n7⟩ := hF.ex
      have hl : (Til.turn ps W H).length = W * H := Til.turn_length _ _ _
      rw [hl] at hB7 hO n4 n7
      have k0 : wr.cell? ⟨g7, 0, none⟩ = some (.int .i64 H) := by rw [hB7.cell]; rfl
      have k1 : wr.cell? ⟨g7, 1, none⟩ = some (.int .i64 W) := by rw [hB7.cell]; rfl
      have k2 : wr.cell? ⟨g7, 2, none⟩ = some (.slice A' (W * H) c') := by rw [hB7.cell]; rfl
      have f3 := hF.b4.cell
      have g3 := hF.b4.free
      have l4 := hF.b4.lt
      have HO := Lib.hid hO
      have N4 := Lib.hid n4
      have HF := Lib.hid hF
      have hge : w.heap.size ≤ w.heap.size + 1 := by omega
      clear hO n4 n7 hF hB7 hl
      go_wp2_with fail
      refine bodyPost_ret (v := .tuple #[.agg #[.int .i64 H, .int .i64 W, .slice A' (W * H) c'], .nilIface]) (by simp [results, Tryd.results9, go_sem, f3]) rfl ⟨A', c', rfl, ?_, ?_⟩
      · exact ((HO.out.setCell N4.out _).setCell N4.out _).setCell N4.out _
      · exact ((HF.out.bel.setCell hge _).setCell hge _).setCell hge _
end Go.Proofs.YthohmpjoeffckaaDoor
