/- layer.Dot: the walk. -/
import Derived.Test.YtmknacnmdlcieaaGreatDoorPixOver
import Derived.Test.YtmknacnmdlcieaaGreatDoorLayMem
import Derived.Deep.RegionHeld3
import Derived.BigRegion
import Derived.Test.YtmknacnmdlcieaaGreatDoorChk
import Derived.BigQuiet
import Derived.Deep.QuietTactic
namespace Go.Proofs.YtmknacnmdlcieaaGreatDoor
open Go Go.RowKit

/-- What Check has made sure of, as far as Dot asks. -/
structure LayOK (m : LM) : Prop where
  x : -10000 ≤ m.l.x ∧ m.l.x ≤ 10000
  y : -10000 ≤ m.l.y ∧ m.l.y ≤ 10000
  op : 0 ≤ m.l.opacity ∧ m.l.opacity ≤ 255
  md : modeB m.l.mode = true
  wd : 1 ≤ m.l.wide ∧ m.l.wide ≤ 256
  hg : 1 ≤ m.l.high ∧ m.l.high ≤ 256
  n : (m.n : Int) = m.l.wide * m.l.high

structure DR (w : World) (ls : List Lay.Layer) (x y : Int) (i : Value) (wr : World) (k : Nat) : Prop where
  hi : i = .int .i64 k
  b6 : Blk wr (w.heap.size + 1) 60 #[.int .u8 0, .int .u8 0, .int .u8 0, .int .u8 0]
  b7 : Blk wr (w.heap.size + 2) 60 #[.int .u8 (Lay.dot (ls.take k) x y).r.toNat, .int .u8 (Lay.dot (ls.take k) x y).g.toNat, .int .u8 (Lay.dot (ls.take k) x y).b.toNat, .int .u8 (Lay.dot (ls.take k) x y).a.toNat]
  bel : Below w.heap.size w wr

theorem unseen_put {l : Lay.Layer} {x y : Int} {p : Px} (h : Lay.seen l x y = false) : Lay.put x y p l = p := by rw [Lay.put, h]; rfl

theorem fade_agg (p : Px) (o : Int) (q : Px) (w : World) (h0 : 0 ≤ o) (h1 : o ≤ 255) (hq : Pix.fade p o = q) :
    Calls Tryz.prog 59 #[.agg #[.int .u8 p.r.toNat, .int .u8 p.g.toNat, .int .u8 p.b.toNat, .int .u8 p.a.toNat], .int .i64 o] w
      fun e w' => e = .returned (.tuple #[.agg #[.int .u8 q.r.toNat, .int .u8 q.g.toNat, .int .u8 q.b.toNat, .int .u8 q.a.toNat], .nilIface]) ∧ Below w.heap.size w w' := by
  subst hq
  exact fade_any p o w h0 h1
theorem over_agg (k : Int) (t u q : Px) (w : World) (hk : modeB k = true) (hq : Pix.over k t u = q) :
    Calls Tryz.prog 60 #[.int .i64 k, .agg #[.int .u8 t.r.toNat, .int .u8 t.g.toNat, .int .u8 t.b.toNat, .int .u8 t.a.toNat], .agg #[.int .u8 u.r.toNat, .int .u8 u.g.toNat, .int .u8 u.b.toNat, .int .u8 u.a.toNat]] w
      fun e w' => e = .returned (.tuple #[.agg #[.int .u8 q.r.toNat, .int .u8 q.g.toNat, .int .u8 q.b.toNat, .int .u8 q.a.toNat], .nilIface]) ∧ Below w.heap.size w w' := by
  subst hq
  exact over_any k t u w hk

set_option maxRecDepth 100000 in
set_option maxHeartbeats 2000000 in
theorem dot_any (W H : Int) (A : Option Addr) (n c : Nat) (ms : List LM) (x y : Int) (w : World) (hL : Lays w w.heap.size A n ms) (hok : ∀ m ∈ ms, LayOK m) (hn : n ≤ 8) (x0 : 0 ≤ x ∧ x ≤ 256) (y0 : 0 ≤ y ∧ y ≤ 256) :
    Calls Tryz.prog 45 #[.agg #[.int .i64 W, .int .i64 H, .slice A n c], .int .i64 x, .int .i64 y] w
      fun e w' => e = .returned (pxV (Lay.dot (ms.map (·.l)) x y)) ∧ Below w.heap.size w w' := by
  obtain rfl := hL.len
  obtain ⟨x1, x2⟩ := x0
  obtain ⟨y1, y2⟩ := y0
  have HOK := Lib.hid hok
  clear hok
  unfold pxV
  go_enter Tryz.func45, Tryz.ntmps45
  go_wp2_with fail
  go_loopw [18] (fun i wr => ∃ k, k ≤ ms.length ∧ DR w (ms.map (·.l)) x y i wr k) (fun i _ => ms.length - (intOf i).toNat)
  case atStart => exact ⟨0, Nat.zero_le _, rfl, (Blk.new _ _ _ (by simp)).alloc _, Blk.new _ _ _ (by simp), by go_grown⟩
  case round =>
    obtain ⟨k, hk, rfl, h6, h7, hb⟩ := hrel
    obtain ⟨wo, rfl⟩ : ∃ wo : World, wo = wr := ⟨_, rfl⟩
    have hsz := h7.lt
    by_cases hlt : k < ms.length
    · obtain ⟨b, off, rfl, hbl⟩ := hL.1.addr (by omega)
      have hLo := hL.below hb (Nat.le_refl _)
      have q0 := hLo.at k hlt 0 (by omega)
      have q1 := hLo.at k hlt 1 (by omega)
      have q2 := hLo.at k hlt 2 (by omega)
      have q3 := hLo.at k hlt 3 (by omega)
      have q4 := hLo.at k hlt 4 (by omega)
      have q5 := hLo.at k hlt 5 (by omega)
      have q6 := hLo.at k hlt 6 (by omega)
      have q7 := hLo.at k hlt 7 (by omega)
      have q8 := hLo.at k hlt 8 (by omega)
      have hrp := hLo.px k hlt
      obtain ⟨⟨ox1, ox2⟩, ⟨oy1, oy2⟩, ⟨oo1, oo2⟩, omd, ⟨ow1, ow2⟩, ⟨oh1, oh2⟩, on⟩ := HOK.out ms[k] (List.getElem_mem hlt)
      have HD := Lib.hid (show Lay.dot ((ms.map (·.l)).take (k + 1)) x y = Lay.put x y (Lay.dot ((ms.map (·.l)).take k) x y) ms[k].l by
        rw [Lay.dot_take _ k (by simpa using hlt)]; simp)
      obtain ⟨m, hm⟩ : ∃ m, m = ms[k] := ⟨_, rfl⟩
      rw [← hm] at q0 q1 q2 q3 q4 q5 q6 q7 q8 hrp ox1 ox2 oy1 oy2 oo1 oo2 omd ow1 ow2 oh1 oh2 on HD
      simp only [layCs, List.getElem?_cons_zero, List.getElem?_cons_succ] at q0 q1 q2 q3 q4 q5 q6 q7 q8
      rw [Nat.add_zero] at q0
      clear hm hLo
      obtain ⟨p, hp⟩ : ∃ p, p = Lay.dot ((ms.map (·.l)).take k) x y := ⟨_, rfl⟩
      rw [← hp] at h7 HD
      clear hp
      by_cases hs : Lay.seen m.l x y = true
      · have hs2 := hs
        simp [Lay.seen] at hs2
        obtain ⟨⟨⟨⟨sh, u1⟩, u2⟩, v1⟩, v2⟩ := hs2
        have u1' : 0 ≤ x - m.l.x := by omega
        have v1' : 0 ≤ y - m.l.y := by omega
        obtain ⟨z1, z2⟩ := mul_bounds v1' (show y - m.l.y ≤ m.l.high - 1 by omega) (show 0 ≤ m.l.wide by omega) (show m.l.wide ≤ m.l.wide by omega)
        have z3 : (m.l.high - 1) * m.l.wide = (m.n : Int) - m.l.wide := by rw [on, Int.sub_mul, Int.mul_comm]; omega
        obtain ⟨z4, z5⟩ := mul_bounds (show 0 ≤ m.l.wide by omega) ow2 (show 0 ≤ m.l.high by omega) oh2
        obtain ⟨j, hj⟩ : ∃ j : Nat, (j : Int) = (y - m.l.y) * m.l.wide + (x - m.l.x) := ⟨((y - m.l.y) * m.l.wide + (x - m.l.x)).toNat, by omega⟩
        have hjn : j < m.n := by omega
        have hjl : j < m.l.ps.length := by have := hrp.pxLen; omega
        obtain ⟨bp, op, hA, hbp⟩ := hrp.addr (by omega)
        have HP := Lib.hid (show Lay.put x y p m.l = Pix.over m.l.mode (Pix.fade m.l.ps[j] m.l.opacity) p by
          rw [Lay.put, if_pos hs, Lay.spot, ← hj]
          simp [hjl])
        rw [hA] at q8 hrp
        obtain ⟨p0, p1, p2, p3⟩ := hrp.px j hjl
        have HJ := Lib.hid hj
        have HON := Lib.hid on
        have HS2 := Lib.hid hs
        have hnb : m.n ≤ 65536 := by omega
        clear on hs hA z3 z5
        rw [sh] at q3
        generalize m.l.ps[j] = s at *
        go_wp2_with fail
        go_quiet (fail)
        go_wp2_with fail
        obtain ⟨W0, hW0⟩ : ∃ W0, W0 = (wo.alloc (.cells #[.string m.l.name, .int .i64 m.l.x, .int .i64 m.l.y, .bool false, .int .i64 m.l.opacity, .int .i64 m.l.mode, .int .i64 m.l.wide, .int .i64 m.l.high, .slice (some ⟨bp, op, none⟩) m.n m.c] 45)).drewN nq := ⟨_, rfl⟩
        rw [← hW0]
        have bL : Blk W0 wo.heap.size 45 #[.string m.l.name, .int .i64 m.l.x, .int .i64 m.l.y, .bool false, .int .i64 m.l.opacity, .int .i64 m.l.mode, .int .i64 m.l.wide, .int .i64 m.l.high, .slice (some ⟨bp, op, none⟩) m.n m.c] := by rw [hW0]; exact (Blk.new _ _ _ rfl).drewN _
        have b6 := (h6.alloc (.cells #[.string m.l.name, .int .i64 m.l.x, .int .i64 m.l.y, .bool false, .int .i64 m.l.opacity, .int .i64 m.l.mode, .int .i64 m.l.wide, .int .i64 m.l.high, .slice (some ⟨bp, op, none⟩) m.n m.c] 45)).drewN nq
        have b7 := (h7.alloc (.cells #[.string m.l.name, .int .i64 m.l.x, .int .i64 m.l.y, .bool false, .int .i64 m.l.opacity, .int .i64 m.l.mode, .int .i64 m.l.wide, .int .i64 m.l.high, .slice (some ⟨bp, op, none⟩) m.n m.c] 45)).drewN nq
        rw [← hW0] at b6 b7
        have hb0 : Below w.heap.size w W0 := by rw [hW0]; exact below_drewN (Below.alloc hb (by omega) _) _
        have s4 : W0.cell? ⟨bp, op + j * 4, none⟩ = some (.int .u8 s.r.toNat) := by rw [hW0]; exact cell_past _ p0
        have s5 : W0.cell? ⟨bp, op + j * 4 + 1, none⟩ = some (.int .u8 s.g.toNat) := by rw [hW0]; exact cell_past _ p1
        have s6 : W0.cell? ⟨bp, op + j * 4 + 2, none⟩ = some (.int .u8 s.b.toNat) := by rw [hW0]; exact cell_past _ p2
        have s7 : W0.cell? ⟨bp, op + j * 4 + 3, none⟩ = some (.int .u8 s.a.toNat) := by rw [hW0]; exact cell_past _ p3
        have s1 : W0.cell? ⟨wo.heap.size, 4, none⟩ = some (.int .i64 m.l.opacity) := (bL.cell 4).trans rfl
        have s2 : W0.cell? ⟨wo.heap.size, 6, none⟩ = some (.int .i64 m.l.wide) := (bL.cell 6).trans rfl
        have s3 : W0.cell? ⟨wo.heap.size, 8, none⟩ = some (.slice (some ⟨bp, op, none⟩) m.n m.c) := (bL.cell 8).trans rfl
        have hz1 : wo.heap.size < W0.heap.size := bL.lt
        have hz2 : bp < W0.heap.size := cell_lt s4
        clear hW0 p0 p1 p2 p3 q0 q1 q2 q3 q4 q5 q6 q7 q8
        have j0 : (0 : Int) ≤ (j : Int) := by omega
        have j1 : (j : Int) < (m.n : Int) := by omega
        have HB := Lib.hid (show 0 ≤ (y - m.l.y) * m.l.wide ∧ (y - m.l.y) * m.l.wide ≤ 65536 by have := HJ.out; omega)
        clear z1 z2 z4 u1 u2 v1 v2 u1' v1'
        generalize hu : x - m.l.x = u at *
        generalize hv : y - m.l.y = v at *
        obtain ⟨z, hz⟩ : ∃ z, z = v * m.l.wide := ⟨_, rfl⟩
        have hzj : (j : Int) = z + u := by rw [hz]; exact HJ.out
        have hzb : 0 ≤ z ∧ z ≤ 65536 := by rw [hz]; exact HB.out
        have hw1 : IntKind.i64.wrap (v * m.l.wide) = z := by rw [hz]; exact IntWalk.i64_in _ (by rw [← hz]; omega)
        have hw2 : IntKind.i64.wrap (z + u) = (j : Int) := by rw [hzj]; exact IntWalk.i64_in _ (by omega)
        have hw3 : v * m.l.wide = z := hz.symm
        have hw4 : z + u = (j : Int) := hzj.symm
        have hw5 : IntKind.i64.wrap z = z := IntWalk.i64_in _ (by omega)
        have hw6 : IntKind.i64.wrap (j : Int) = (j : Int) := IntWalk.i64_in _ (by omega)
        have HU := Lib.hid hu
        have HV := Lib.hid hv
        clear hu hv hz hzj hzb hj
        obtain ⟨q, hq⟩ : ∃ q, Pix.fade s m.l.opacity = q := ⟨_, rfl⟩
        have HQ := Lib.hid hq
        clear hq
        go_region_held3 (fun w' => w'.cell? ⟨wo.heap.size, 4, none⟩ = some (.int .i64 m.l.opacity) ∧ w'.cell? ⟨wo.heap.size, 6, none⟩ = some (.int .i64 m.l.wide) ∧ w'.cell? ⟨wo.heap.size, 8, none⟩ = some (.slice (some ⟨bp, op, none⟩) m.n m.c) ∧ w'.cell? ⟨bp, op + j * 4, none⟩ = some (.int .u8 s.r.toNat) ∧ w'.cell? ⟨bp, op + j * 4 + 1, none⟩ = some (.int .u8 s.g.toNat) ∧ w'.cell? ⟨bp, op + j * 4 + 2, none⟩ = some (.int .u8 s.b.toNat) ∧ w'.cell? ⟨bp, op + j * 4 + 3, none⟩ = some (.int .u8 s.a.toNat))
          ((go_split_ands
            refine ⟨?_, ?_, ?_, ?_, ?_, ?_, ?_⟩
            · (first | (with_reducible exact s1) | ((with_reducible refine bkeep hbA ?_); exact s1) | ((with_reducible refine cell_past _ ?_); exact s1) | ((with_reducible refine bkeep hbA ?_); exact cell_past _ s1) | ((with_reducible refine cell_past _ ?_); (with_reducible refine bkeep hbA ?_); exact s1) | ((with_reducible refine cell_set_other _ (ne_blk hz1 _ _) ?_); (with_reducible refine cell_set_other _ (ne_blk hz1 _ _) ?_); (with_reducible refine cell_set_other _ (ne_blk hz1 _ _) ?_); (with_reducible refine cell_set_other _ (ne_blk hz1 _ _) ?_); (with_reducible refine bkeep hbA ?_); exact cell_past _ s1) | exact s1 | exact cell_past _ s1)
            · (first | (with_reducible exact s2) | ((with_reducible refine bkeep hbA ?_); exact s2) | ((with_reducible refine cell_past _ ?_); exact s2) | ((with_reducible refine bkeep hbA ?_); exact cell_past _ s2) | ((with_reducible refine cell_past _ ?_); (with_reducible refine bkeep hbA ?_); exact s2) | ((with_reducible refine cell_set_other _ (ne_blk hz1 _ _) ?_); (with_reducible refine cell_set_other _ (ne_blk hz1 _ _) ?_); (with_reducible refine cell_set_other _ (ne_blk hz1 _ _) ?_); (with_reducible refine cell_set_other _ (ne_blk hz1 _ _) ?_); (with_reducible refine bkeep hbA ?_); exact cell_past _ s2) | exact s2 | exact cell_past _ s2)
            · (first | (with_reducible exact s3) | ((with_reducible refine bkeep hbA ?_); exact s3) | ((with_reducible refine cell_past _ ?_); exact s3) | ((with_reducible refine bkeep hbA ?_); exact cell_past _ s3) | ((with_reducible refine cell_past _ ?_); (with_reducible refine bkeep hbA ?_); exact s3) | ((with_reducible refine cell_set_other _ (ne_blk hz1 _ _) ?_); (with_reducible refine cell_set_other _ (ne_blk hz1 _ _) ?_); (with_reducible refine cell_set_other _ (ne_blk hz1 _ _) ?_); (with_reducible refine cell_set_other _ (ne_blk hz1 _ _) ?_); (with_reducible refine bkeep hbA ?_); exact cell_past _ s3) | exact s3 | exact cell_past _ s3)
            · (first | (with_reducible exact s4) | ((with_reducible refine bkeep hbA ?_); exact s4) | ((with_reducible refine cell_past _ ?_); exact s4) | ((with_reducible refine bkeep hbA ?_); exact cell_past _ s4) | ((with_reducible refine cell_past _ ?_); (with_reducible refine bkeep hbA ?_); exact s4) | ((with_reducible refine cell_set_other _ (ne_blk hz2 _ _) ?_); (with_reducible refine cell_set_other _ (ne_blk hz2 _ _) ?_); (with_reducible refine cell_set_other _ (ne_blk hz2 _ _) ?_); (with_reducible refine cell_set_other _ (ne_blk hz2 _ _) ?_); (with_reducible refine bkeep hbA ?_); exact cell_past _ s4) | exact s4 | exact cell_past _ s4)
            · (first | (with_reducible exact s5) | ((with_reducible refine bkeep hbA ?_); exact s5) | ((with_reducible refine cell_past _ ?_); exact s5) | ((with_reducible refine bkeep hbA ?_); exact cell_past _ s5) | ((with_reducible refine cell_past _ ?_); (with_reducible refine bkeep hbA ?_); exact s5) | ((with_reducible refine cell_set_other _ (ne_blk hz2 _ _) ?_); (with_reducible refine cell_set_other _ (ne_blk hz2 _ _) ?_); (with_reducible refine cell_set_other _ (ne_blk hz2 _ _) ?_); (with_reducible refine cell_set_other _ (ne_blk hz2 _ _) ?_); (with_reducible refine bkeep hbA ?_); exact cell_past _ s5) | exact s5 | exact cell_past _ s5)
            · (first | (with_reducible exact s6) | ((with_reducible refine bkeep hbA ?_); exact s6) | ((with_reducible refine cell_past _ ?_); exact s6) | ((with_reducible refine bkeep hbA ?_); exact cell_past _ s6) | ((with_reducible refine cell_past _ ?_); (with_reducible refine bkeep hbA ?_); exact s6) | ((with_reducible refine cell_set_other _ (ne_blk hz2 _ _) ?_); (with_reducible refine cell_set_other _ (ne_blk hz2 _ _) ?_); (with_reducible refine cell_set_other _ (ne_blk hz2 _ _) ?_); (with_reducible refine cell_set_other _ (ne_blk hz2 _ _) ?_); (with_reducible refine bkeep hbA ?_); exact cell_past _ s6) | exact s6 | exact cell_past _ s6)
            · (first | (with_reducible exact s7) | ((with_reducible refine bkeep hbA ?_); exact s7) | ((with_reducible refine cell_past _ ?_); exact s7) | ((with_reducible refine bkeep hbA ?_); exact cell_past _ s7) | ((with_reducible refine cell_past _ ?_); (with_reducible refine bkeep hbA ?_); exact s7) | ((with_reducible refine cell_set_other _ (ne_blk hz2 _ _) ?_); (with_reducible refine cell_set_other _ (ne_blk hz2 _ _) ?_); (with_reducible refine cell_set_other _ (ne_blk hz2 _ _) ?_); (with_reducible refine cell_set_other _ (ne_blk hz2 _ _) ?_); (with_reducible refine bkeep hbA ?_); exact cell_past _ s7) | exact s7 | exact cell_past _ s7)))
          (first
            | (go_at_call 59; refine (fade_agg _ _ q _ oo1 oo2 HQ.out).mono ?_; rintro e wA ⟨rfl, hbA⟩; have kB : Blk wA W0.heap.size 60 #[.int .u8 0, .int .u8 0, .int .u8 0, .int .u8 0] := (Blk.drew (Blk.new W0 _ _ rfl)).below hbA (by simp); have kc := kB.cell; have kf := kB.free)
            | (go_at_call 59; refine (fade_agg _ _ q _ oo1 oo2 HQ.out).mono ?_; rintro e wA ⟨rfl, hbA⟩))
        · obtain ⟨W7, hW7⟩ : ∃ W7, W7 = wA.alloc (.cells #[.int .u8 q.r.toNat, .int .u8 q.g.toNat, .int .u8 q.b.toNat, .int .u8 q.a.toNat] 60) := ⟨_, rfl⟩
          rw [← hW7]
          have B12 : Blk W7 wA.heap.size 60 #[.int .u8 q.r.toNat, .int .u8 q.g.toNat, .int .u8 q.b.toNat, .int .u8 q.a.toNat] := by rw [hW7]; exact Blk.new _ _ _ rfl
          have b07 : Below W0.heap.size W0 W7 := by rw [hW7]; exact (((Below.refl W0.heap.size W0).drew.trans hbA).alloc (by have := hbA.size; exact this) _)
          clear hW7
          have c12 := B12.cell
          have bL7 := bL.below b07 bL.lt
          have b77 := b7.below b07 b7.lt
          have b67 := b6.below b07 b6.lt
          have cL := bL7.cell
          have c7 := b77.cell
          obtain ⟨t, ht⟩ : ∃ t, Pix.over m.l.mode q p = t := ⟨_, rfl⟩
          have HT := Lib.hid ht
          clear ht s1 s2 s3 s4 s5 s6 s7 hw1 hw2 hw3 hw4 hw5 hw6
          go_wp2_with fail
          refine (over_agg _ _ _ t _ omd HT.out).mono ?_
          rintro e wB ⟨rfl, hbB⟩
          have b78 := b77.below hbB b77.lt
          have b68 := b67.below hbB b67.lt
          have c8 := b78.cell
          have f8 := b78.free
          have hz7 := b07.size
          have hzw := hb0.size
          go_wp2_with fail
          go_roundw
          case rel =>
            refine ⟨k + 1, by omega, by go_num, ?_, ?_, ?_⟩
            · exact (((b68.far (by simp) _).far (by simp) _).far (by simp) _).far (by simp) _
            · rw [HD.out, HP.out, HQ.out, HT.out]
              have := (((b78.set_ 0 (.int .u8 t.r.toNat)).set_ 1 (.int .u8 t.g.toNat)).set_ 2 (.int .u8 t.b.toNat)).set_ 3 (.int .u8 t.a.toNat)
              simpa using this
            · exact (((((hb0.trans (b07.mono hzw)).trans (hbB.mono (by omega))).setCell (by simp; omega) _).setCell (by simp; omega) _).setCell (by simp; omega) _).setCell (by simp; omega) _
          case measure => simp [intOf]; omega
        · obtain ⟨W7, hW7⟩ : ∃ W7, W7 = (((wA.setCell ⟨W0.heap.size, 0, none⟩ (.int .u8 q.r.toNat)).setCell ⟨W0.heap.size, 1, none⟩ (.int .u8 q.g.toNat)).setCell ⟨W0.heap.size, 2, none⟩ (.int .u8 q.b.toNat)).setCell ⟨W0.heap.size, 3, none⟩ (.int .u8 q.a.toNat) := ⟨_, rfl⟩
          rw [← hW7]
          have B12 : Blk W7 W0.heap.size 60 #[.int .u8 q.r.toNat, .int .u8 q.g.toNat, .int .u8 q.b.toNat, .int .u8 q.a.toNat] := by rw [hW7]; exact (by simpa using (((kB.set_ 0 (.int .u8 q.r.toNat)).set_ 1 (.int .u8 q.g.toNat)).set_ 2 (.int .u8 q.b.toNat)).set_ 3 (.int .u8 q.a.toNat))
          have b07 : Below W0.heap.size W0 W7 := by rw [hW7]; exact ((((((((Below.refl W0.heap.size W0).alloc (Nat.le_refl _) (.cells #[.int .u8 0, .int .u8 0, .int .u8 0, .int .u8 0] 60)).drew.trans (hbA.mono (by simp)))).setCell (Nat.le_refl _) _).setCell (Nat.le_refl _) _).setCell (Nat.le_refl _) _).setCell (Nat.le_refl _) _)
          clear hW7 kB kc kf
          have c12 := B12.cell
          have bL7 := bL.below b07 bL.lt
          have b77 := b7.below b07 b7.lt
          have b67 := b6.below b07 b6.lt
          have cL := bL7.cell
          have c7 := b77.cell
          obtain ⟨t, ht⟩ : ∃ t, Pix.over m.l.mode q p = t := ⟨_, rfl⟩
          have HT := Lib.hid ht
          clear ht s1 s2 s3 s4 s5 s6 s7 hw1 hw2 hw3 hw4 hw5 hw6
          go_wp2_with fail
          refine (over_agg _ _ _ t _ omd HT.out).mono ?_
          rintro e wB ⟨rfl, hbB⟩
          have b78 := b77.below hbB b77.lt
          have b68 := b67.below hbB b67.lt
          have c8 := b78.cell
          have f8 := b78.free
          have hz7 := b07.size
          have hzw := hb0.size
          go_wp2_with fail
          go_roundw
          case rel =>
            refine ⟨k + 1, by omega, by go_num, ?_, ?_, ?_⟩
            · exact (((b68.far (by simp) _).far (by simp) _).far (by simp) _).far (by simp) _
            · rw [HD.out, HP.out, HQ.out, HT.out]
              have := (((b78.set_ 0 (.int .u8 t.r.toNat)).set_ 1 (.int .u8 t.g.toNat)).set_ 2 (.int .u8 t.b.toNat)).set_ 3 (.int .u8 t.a.toNat)
              simpa using this
            · exact (((((hb0.trans (b07.mono hzw)).trans (hbB.mono (by omega))).setCell (by simp; omega) _).setCell (by simp; omega) _).setCell (by simp; omega) _).setCell (by simp; omega) _
          case measure => simp [intOf]; omega
      · have hs' : Lay.seen m.l x y = false := by simpa using hs
        rw [unseen_put hs'] at HD
        have HON := Lib.hid on
        clear on hs
        have hcs : m.l.hidden = true ∨ (m.l.hidden = false ∧ (x - m.l.x < 0 ∨ m.l.wide ≤ x - m.l.x ∨ y - m.l.y < 0 ∨ m.l.high ≤ y - m.l.y)) := by
          cases hh : m.l.hidden with
          | true => exact .inl rfl
          | false =>
            refine .inr ⟨rfl, ?_⟩
            simp [Lay.seen, hh] at hs'
            omega
        have HS' := Lib.hid hs'
        clear hs'
        rcases hcs with hh | ⟨hh, hu⟩
        · rw [hh] at q3
          go_wp2_with fail
          go_quiet (fail)
          go_wp2_with fail
          go_roundw
          case rel => exact ⟨k + 1, by omega, by go_num, ((h6.alloc _).drewN _), by rw [HD.out]; exact ((h7.alloc _).drewN _), below_drewN (Below.alloc hb (by omega) _) _⟩
          case measure => simp [intOf]; omega
        · rw [hh] at q3
          have hu1 : x - m.l.x < 0 ∨ (0 ≤ x - m.l.x ∧ m.l.wide ≤ x - m.l.x) ∨ (0 ≤ x - m.l.x ∧ x - m.l.x < m.l.wide ∧ y - m.l.y < 0) ∨ (0 ≤ x - m.l.x ∧ x - m.l.x < m.l.wide ∧ 0 ≤ y - m.l.y ∧ m.l.high ≤ y - m.l.y) := by omega
          clear hu
          rcases hu1 with hu | ⟨hu, hu2⟩ | ⟨hu, hu2, hu3⟩ | ⟨hu, hu2, hu3, hu4⟩
          all_goals
            go_wp2_with fail
            go_quiet (fail)
            go_wp2_with fail
            go_roundw
            case rel => exact ⟨k + 1, by omega, by go_num, ((h6.alloc _).drewN _), by rw [HD.out]; exact ((h7.alloc _).drewN _), below_drewN (Below.alloc hb (by omega) _) _⟩
            case measure => simp [intOf]; omega
    · have e : k = ms.length := by omega
      subst e
      rw [show (ms.map (·.l)).take ms.length = ms.map (·.l) from List.take_of_length_le (by simp)] at h7
      obtain ⟨p, hp⟩ : ∃ p, p = Lay.dot (ms.map (·.l)) x y := ⟨_, rfl⟩
      rw [← hp] at h7
      have HP := Lib.hid hp
      clear hp
      have x7 := h7.cell
      have x6 := h6.cell
      have f6 := h6.free
      go_wp2_with fail
      refine bodyPost_ret (v := .agg #[.int .u8 p.r.toNat, .int .u8 p.g.toNat, .int .u8 p.b.toNat, .int .u8 p.a.toNat]) (by simp [results, Tryz.results45, go_sem, *]) rfl ⟨by rw [HP.out], ?_⟩
      exact ((((hb.setCell (by first | omega | (simp; done) | (simp; omega)) _).setCell (by first | omega | (simp; done) | (simp; omega)) _).setCell (by first | omega | (simp; done) | (simp; omega)) _).setCell (by first | omega | (simp; done) | (simp; omega)) _)
end Go.Proofs.YtmknacnmdlcieaaGreatDoor
