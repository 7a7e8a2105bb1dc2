/- The reference's FarOf, MapOf: the walks. -/
import Derived.Test.YtlpcmeodbigpjaaDoorColMapped
import Derived.Deep.RegionHeld3
import Derived.IntWalk
namespace Go.Proofs.YtlpcmeodbigpjaaDoor
open Go Go.RowKit

theorem squared_any (x y : UInt8) (w : World) :
    Calls Tryd.prog 33 #[.int .u8 x.toNat, .int .u8 y.toNat] w fun e w' => e = .returned (.int .i64 (Col.sq x y)) ∧ w' = w := by
  have hx := x.toNat_lt
  have hy := y.toNat_lt
  have hs0 := Col.sq_nonneg x y
  have hs1 := Col.sq_le x y
  unfold Col.sq at hs0 hs1 ⊢
  go_enter Tryd.func33, Tryd.ntmps33
  go_wp2
  go_ret
  exact ⟨rfl, rfl⟩

theorem farOf_any (x y : Px) (w : World) :
    Calls Tryd.prog 23 #[pxV x, pxV y] w
      fun e w' => e = .returned (.int .i64 (Col.far x y)) ∧ Below w.heap.size w w' := by
  have r0 := Col.sq_nonneg x.r y.r
  have r1 := Col.sq_le x.r y.r
  have g0 := Col.sq_nonneg x.g y.g
  have g1 := Col.sq_le x.g y.g
  have b0 := Col.sq_nonneg x.b y.b
  have b1 := Col.sq_le x.b y.b
  have a0 := Col.sq_nonneg x.a y.a
  have a1 := Col.sq_le x.a y.a
  unfold Col.far pxV
  go_enter Tryd.func23, Tryd.ntmps23
  go_wp2
  go_quiet ((go_at_call 33; exact Calls.quiet_of_same (squared_any _ _ _)))
  go_wp2
  go_ret
  exact ⟨rfl, below_drewN (by go_grown) _⟩


/-- The nearest of the first k. -/
def near1 (x : Px) (l : List Px) (k : Nat) : Nat := (Col.near x (l.take k)).1
theorem near1_one (x : Px) (l : List Px) (h : 0 < l.length) : near1 x l 1 = 0 := by
  unfold near1
  rw [Col.near_take x l 0 h]
  rfl
theorem near1_lt (x : Px) (l : List Px) (k : Nat) (h0 : 0 < k) (hk : k ≤ l.length) : near1 x l k < k := (Col.near_spec x l k h0 hk).1
theorem near1_next (x : Px) (l : List Px) (k b : Nat) (h0 : 0 < k) (hk : k < l.length) (hb : near1 x l k = b) (hbl : b < l.length) : near1 x l (k + 1) = if Col.far x l[k] < Col.far x l[b] then k else b := by
  subst hb
  have hs := (Col.near_spec x l k h0 (by omega)).2.1
  unfold near1 at *
  have hg : l.getD (Col.near x (l.take k)).1 default = l[(Col.near x (l.take k)).1] := by simp [hbl]
  rw [hg] at hs
  have hn := Col.far_nonneg x l[(Col.near x (l.take k)).1]
  rw [Col.near_take x l k hk]
  unfold Col.nstep
  rw [hs]
  by_cases h : Col.far x l[k] < Col.far x l[(Col.near x (l.take k)).1]
  · rw [if_pos (.inr h), if_pos h]
  · rw [if_neg (by omega), if_neg h]
theorem near1_all (x : Px) (l : List Px) : near1 x l l.length = (Col.near x l).1 := by rw [near1, List.take_length]
theorem near2_all (x : Px) (l : List Px) (b : Nat) (hl : 0 < l.length) (hb : (Col.near x l).1 = b) (hbl : b < l.length) : (Col.near x l).2 = Col.far x l[b] := by
  subst hb
  rw [(Col.near_all x l hl).2.1]
  simp [hbl]

/-- The relation of MapOf's outer loop. -/
structure MO (w : World) (W H : Int) (A : Option Addr) (n c : Nat) (ps pal : List Px) (v s i : Value) (wr : World) (k : Nat) : Prop where
  hk : k ≤ ps.length
  hi : i = .int .i64 k
  hs : s = .int .i64 (Col.farSum (ps.take k) pal)
  own : Own wr (w.heap.size + 1) 1 v k (ints (nums (ps.take k) pal))
  box : Blk wr w.heap.size 24 #[.int .i64 W, .int .i64 H, .slice A n c]
  bel : Below w.heap.size w wr
/-- The relation of its inner loop. -/
structure MI (wo : World) (x : Px) (pal : List Px) (b t : Value) (wr : World) (k : Nat) : Prop where
  hk : 0 < k ∧ k ≤ pal.length
  ht : t = .int .i64 k
  hb : b = .int .i64 (near1 x pal k)
  bel : Below wo.heap.size wo wr

set_option maxRecDepth 100000 in
set_option maxHeartbeats 2000000 in
theorem mapOf_any (W H : Int) (A : Option Addr) (n c : Nat) (ps : List Px) (A2 : Option Addr) (n2 c2 : Nat) (pal : List Px) (w : World)
    (hp : Reads w w.heap.size 4 A n (pxCells ps)) (hq : Reads w w.heap.size 4 A2 n2 (pxCells pal)) (hn : n ≤ 1048576) (hn2 : n2 ≤ 1048576) (hpos : 0 < n2) :
    Calls Tryd.prog 10 #[.agg #[.int .i64 W, .int .i64 H, .slice A n c], .slice A2 n2 c2] w
      fun e w' => ∃ A' c', e = .returned (.tuple #[.slice A' n c', .int .i64 (Col.farSum ps pal)]) ∧ Own w' w.heap.size 1 (.slice A' n c') n (ints (nums ps pal)) ∧ Below w.heap.size w w' := by
  obtain rfl := hp.pxLen
  obtain rfl := hq.pxLen
  obtain ⟨i0, hi, hz0, hz1, hz2⟩ := info_parts intInfo
  obtain ⟨bq, oq, rfl, hbq⟩ := hq.addr (by omega)
  go_enter Tryd.func10, Tryd.ntmps10
  go_wp2
  go_loopw [6, 7, 8] (fun v s i wr => ∃ k, MO w W H A ps.length c ps pal v s i wr k) (fun _ _ i _ => ps.length - (intOf i).toNat)
  case atStart => exact ⟨0, Nat.zero_le _, rfl, rfl, Own.nil _ _ _, Blk.new _ _ _ rfl, by go_grown⟩
  case round =>
    obtain ⟨k, hk, rfl, rfl, hown, hbox, hb⟩ := hrel
    obtain ⟨wo, rfl⟩ : ∃ wo : World, wo = wr := ⟨_, rfl⟩
    have d2 : wo.cell? ⟨w.heap.size, 2, none⟩ = some (.slice A ps.length c) := by rw [hbox.cell]; rfl
    have hwl := hbox.lt
    by_cases hlt : k < ps.length
    · obtain ⟨bp, op, rfl, hbp⟩ := hp.addr (by omega)
      obtain ⟨p0, p1, p2, p3⟩ := (hp.below hb (Nat.le_refl _)).px k hlt
      have hrq := hq.below hb (Nat.le_refl _)
      have HF := Lib.hid (farSum_take ps pal k hlt)
      have HN := Lib.hid (nums_take ps pal k hlt)
      obtain ⟨fb1, fb2⟩ := farSum_bounds (ps.take k) pal hpos
      have ftl : (ps.take k).length ≤ k := List.length_take_le _ _
      have hk0 : (0 : Int) ≤ k := by omega
      have hk1 : (k : Int) < ps.length := by omega
      obtain ⟨Ao, co, rfl, hco, hro⟩ := hown.form
      have hblk : ∀ g, (Value.slice Ao k co).ownBlock = some g → w.heap.size + 1 ≤ g ∧ g < wo.heap.size := fun g hg => hown.lt g hg
      obtain ⟨x, hx⟩ : ∃ x, x = ps[k] := ⟨_, rfl⟩
      rw [← hx] at p0 p1 p2 p3 HF HN
      clear hx
      go_wp2_with fail
      go_loopw [9, 10] (fun b t wr => ∃ j, MI wo x pal b t wr j) (fun _ t _ => pal.length - (intOf t).toNat)
      case atStart => exact ⟨1, ⟨by omega, by omega⟩, rfl, by rw [near1_one x pal hpos]; rfl, Below.refl _ _⟩
      case round =>
        obtain ⟨j, ⟨hj0, hj1⟩, rfl, rfl, hbi⟩ := hrel
        obtain ⟨wi, rfl⟩ : ∃ wi : World, wi = wr := ⟨_, rfl⟩
        have e2 := bkeep hbi d2
        have q0 := bkeep hbi p0
        have q1 := bkeep hbi p1
        have q2 := bkeep hbi p2
        have q3 := bkeep hbi p3
        have hbl := near1_lt x pal j hj0 hj1
        obtain ⟨b, hbe⟩ : ∃ b, near1 x pal j = b := ⟨_, rfl⟩
        rw [hbe] at hbl ⊢
        have HB := Lib.hid hbe
        clear hbe
        by_cases hjl : j < pal.length
        · obtain ⟨r0, r1, r2, r3⟩ := (hrq.below hbi (by omega)).px j hjl
          obtain ⟨s0, s1, s2, s3⟩ := (hrq.below hbi (by omega)).px b (by omega)
          have hnext := Lib.hid (near1_next x pal j b hj0 hjl HB.out (by omega))
          have hj2 : (0 : Int) ≤ j := by omega
          have hj3 : (j : Int) < pal.length := by omega
          have hb2 : (0 : Int) ≤ b := by omega
          have hb3 : (b : Int) < pal.length := by omega
          generalize pal[j] = y at *
          generalize pal[b] = z at *
          by_cases hd : Col.far x y < Col.far x z
          all_goals
            go_wp2_with fail
            go_region_held3 (fun w' => w'.cell? ⟨w.heap.size, 2, none⟩ = some (.slice (some ⟨bp, op, none⟩) ps.length c) ∧
              w'.cell? ⟨bp, op + k * 4, none⟩ = some (.int .u8 x.r.toNat) ∧ w'.cell? ⟨bp, op + k * 4 + 1, none⟩ = some (.int .u8 x.g.toNat) ∧ w'.cell? ⟨bp, op + k * 4 + 2, none⟩ = some (.int .u8 x.b.toNat) ∧ w'.cell? ⟨bp, op + k * 4 + 3, none⟩ = some (.int .u8 x.a.toNat) ∧
              w'.cell? ⟨bq, oq + j * 4, none⟩ = some (.int .u8 y.r.toNat) ∧ w'.cell? ⟨bq, oq + j * 4 + 1, none⟩ = some (.int .u8 y.g.toNat) ∧ w'.cell? ⟨bq, oq + j * 4 + 2, none⟩ = some (.int .u8 y.b.toNat) ∧ w'.cell? ⟨bq, oq + j * 4 + 3, none⟩ = some (.int .u8 y.a.toNat) ∧
              w'.cell? ⟨bq, oq + b * 4, none⟩ = some (.int .u8 z.r.toNat) ∧ w'.cell? ⟨bq, oq + b * 4 + 1, none⟩ = some (.int .u8 z.g.toNat) ∧ w'.cell? ⟨bq, oq + b * 4 + 2, none⟩ = some (.int .u8 z.b.toNat) ∧ w'.cell? ⟨bq, oq + b * 4 + 3, none⟩ = some (.int .u8 z.a.toNat))
              (first
                | go_keep
                | (go_split_ands
                   refine ⟨?_, ?_, ?_, ?_, ?_, ?_, ?_, ?_, ?_, ?_, ?_, ?_, ?_⟩ <;> first | exact bkeep hbB (by assumption) | exact bkeep hbA (by assumption)))
              ((go_at_call 23; first | (have hbC := hbA; refine (farOf_any _ _ _).mono ?_; rintro e wB ⟨rfl, hbB⟩) | (refine (farOf_any _ _ _).mono ?_; rintro e wA ⟨rfl, hbA⟩)))
            go_wp2_with fail
            go_roundw
            case rel => exact ⟨j + 1, ⟨by omega, by omega⟩, by go_num, by rw [hnext.out]; first | rw [if_pos hd] | rw [if_neg (by omega)], hbi.drew.trans ((hbA.mono hbi.size).trans (hbB.mono (Nat.le_trans hbi.size hbA.size)))⟩
            case measure => simp [intOf]; omega
        · have e : j = pal.length := by omega
          subst e
          have hne : (Col.near x pal).1 = b := by rw [← near1_all]; exact HB.out
          have h2 := Lib.hid (near2_all x pal b hpos hne (by omega))
          have HE := Lib.hid hne
          clear hne
          have hpb : b < pal.length := by omega
          have hfl := Col.far_le x pal[b]
          have hfn := Col.far_nonneg x pal[b]
          have hb2 : (0 : Int) ≤ b := by omega
          have hb3 : (b : Int) < pal.length := by omega
          obtain ⟨s0, s1, s2, s3⟩ := (hrq.below hbi (by omega)).px b (by omega)
          have ho2 := hown.below hbi (Nat.le_refl _)
          have hbx2 := hbox.below hbi hbox.lt
          have hsz := hbi.size
          go_wp2_with (at_builtin; refine wpList_append_S rfl (.tmp 46) (.tmp 48) 33 33 rfl (w.heap.size + 1) 3 i0 (.int .i64 0) 1 8 Tryd.underlying33 hi hz0 hz1 hz2 rfl (by decide) (.slice Ao k co) (k) (ints (nums (ps.take k) pal)) rfl (ho2.alloc _) (ints_one _) (1) ([.int .i64 b]) (Src.made Tryd.underlying33 (by first | rfl | simp) rfl (by intro u hu; cases List.mem_singleton.1 hu; rfl)) (k + 1) (by omega) (ints (nums (ps.take (k + 1)) pal)) (by rw [HN.out, HE.out]) (by unfold maxLen; omega) (by omega) (by first | omega | (simp; done) | (simp; omega)) ?_; intro A' c' w4 hown4 hg4 hat4)
          have hs4 := hg4.size
          simp at hs4
          have hb4 : Below (w.heap.size + 1) wi w4 := Below.grown (Below.alloc (Below.refl _ _) (by omega) _) hg4 (by simp; omega) (fun g hg => (hblk g hg).1)
          have f2 := bcell_ hb4 (by show w.heap.size < _; omega) e2
          have t0 := bcell_ hb4 (by show bp < _; omega) q0
          have t1 := bcell_ hb4 (by show bp < _; omega) q1
          have t2 := bcell_ hb4 (by show bp < _; omega) q2
          have t3 := bcell_ hb4 (by show bp < _; omega) q3
          have u0 := bcell_ hb4 (by show bq < _; omega) s0
          have u1 := bcell_ hb4 (by show bq < _; omega) s1
          have u2 := bcell_ hb4 (by show bq < _; omega) s2
          have u3 := bcell_ hb4 (by show bq < _; omega) s3
          clear q0 q1 q2 q3 s0 s1 s2 s3 e2
          generalize pal[b] = z at *
          go_region_held3 (fun w' => w'.cell? ⟨w.heap.size, 2, none⟩ = some (.slice (some ⟨bp, op, none⟩) ps.length c) ∧
              w'.cell? ⟨bp, op + k * 4, none⟩ = some (.int .u8 x.r.toNat) ∧ w'.cell? ⟨bp, op + k * 4 + 1, none⟩ = some (.int .u8 x.g.toNat) ∧ w'.cell? ⟨bp, op + k * 4 + 2, none⟩ = some (.int .u8 x.b.toNat) ∧ w'.cell? ⟨bp, op + k * 4 + 3, none⟩ = some (.int .u8 x.a.toNat) ∧
              w'.cell? ⟨bq, oq + b * 4, none⟩ = some (.int .u8 z.r.toNat) ∧ w'.cell? ⟨bq, oq + b * 4 + 1, none⟩ = some (.int .u8 z.g.toNat) ∧ w'.cell? ⟨bq, oq + b * 4 + 2, none⟩ = some (.int .u8 z.b.toNat) ∧ w'.cell? ⟨bq, oq + b * 4 + 3, none⟩ = some (.int .u8 z.a.toNat))
            (first
              | go_keep
              | (go_split_ands
                 refine ⟨?_, ?_, ?_, ?_, ?_, ?_, ?_, ?_, ?_⟩ <;> exact bkeep hbA (by assumption)))
            ((go_at_call 23; refine (farOf_any _ _ _).mono ?_; rintro e wA ⟨rfl, hbA⟩))
          go_wp2_with fail
          go_roundw
          case rel =>
            refine ⟨k + 1, by omega, by go_num, by rw [HF.out, h2.out, IntWalk.i64_in _ (by omega)], ?_, ?_, ?_⟩
            · exact hown4.drew.below hbA (Nat.le_refl _)
            · exact (((hbx2.alloc _).grown hg4 (fun e => by have := (hblk _ e.symm).1; omega)).drew).below hbA (by show w.heap.size < w4.heap.size; omega)
            · exact Below.trans (Below.drew (Below.grown (Below.alloc (hb.trans (hbi.mono hb.size)) (by have := hb.size; omega) _) hg4 (by simp; have := hb.size; omega) (fun g hg => by have := (hblk g hg).1; omega))) (hbA.mono (by show w.heap.size ≤ w4.heap.size; omega))
          case measure => simp [intOf]; omega
    · have e : k = ps.length := by omega
      subst e
      rw [List.take_length] at hown ⊢
      obtain ⟨Ao, co, rfl, hco, hro⟩ := hown.form
      go_wp2_with fail
      go_ret2
      exact ⟨_, _, rfl, hown.mono (by omega), hb⟩
end Go.Proofs.YtlpcmeodbigpjaaDoor
