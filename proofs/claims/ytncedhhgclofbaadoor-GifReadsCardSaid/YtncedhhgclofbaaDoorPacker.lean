/- lzw.packer: code, clear: the walks. -/
import Derived.Test.YtncedhhgclofbaaDoorLzKey
import Derived.RegionCalls
import Derived.Deep.RegionWith
import Derived.Deep.RegionLaw
namespace Go.Proofs.YtncedhhgclofbaaDoor
open Go Go.RowKit

theorem Keeps.fromDrew {S : Nat → Prop} {w w' : World} (h : Keeps S w.drew w') : Keeps S w w' := ⟨h.os, h.tape, h.output, h.size, h.block⟩
theorem Wrote.fromDrew {w w' : World} {B g : Nat} {T : TypeId} {r : List Value} {v : Value} {bs : List Bool} (h : Wrote w.drew B g T r v bs w') : Wrote w B g T r v bs w' := by
  obtain ⟨v', h1, h2, h3⟩ := h
  exact ⟨v', h1, h2, h3.fromDrew⟩
def trieMap (T : List ((Nat × UInt8) × Nat)) : List ((Nat × UInt8) × Value) := T.map fun q => (q.1, .int .i64 q.2)
/-- What a packer is. -/
structure PK (w : World) (B g W size : Nat) (bs : List Bool) (T : List ((Nat × UInt8) × Nat)) (v : Value) (mb : Nat) : Prop where
  bw : BW w B g 115 [.int .i64 W, .int .i64 size, .int .i64 (Lz.base W + T.length : Nat), .map (some mb)] v bs
  mp : MapAt w mb lzV (trieMap T)
  mg : mb ≠ g
  mv : v.ownBlock ≠ some mb
  ml : B ≤ mb
set_option maxHeartbeats 1000000 in
theorem code_any (B g W size n : Nat) (nx m v : Value) (bs : List Bool) (w : World) (h : BW w B g 115 [.int .i64 W, .int .i64 size, nx, m] v bs) (hn : n < 2 ^ size) (hs : size ≤ 12) (hl : bs.length ≤ 549755813888) (hB : B ≤ w.heap.size) :
    Calls Tryd.prog 57 #[.pointer (some ⟨g, 0, none⟩), .int .i64 n] w fun e w' => e = .returned (.tuple #[]) ∧ Wrote w B g 115 [.int .i64 W, .int .i64 size, nx, m] v (bs ++ Bit.low n size) w' := by
  have h12 : (2 : Nat) ^ size ≤ 2 ^ 12 := Nat.pow_le_pow_right (by omega) hs
  have hw : IntKind.u32.wrap (n : Int) = n := IntWalk.u32_in _ (by omega)
  have d2 : w.cell? ⟨g, 3, none⟩ = some (.int .i64 size) := by rw [h.blk.cell]; simp
  go_enter Tryd.func57, Tryd.ntmps57
  go_wp2_with fail
  go_region_with ((go_at_call 71; refine (put_any B g _ _ v bs n size _ ⟨h.blk.drew, h.own.drew, h.ne⟩ (by omega) hn hl hB).mono ?_; rintro e w1 ⟨rfl, hw1⟩))
  go_wp2
  go_end0
  exact ⟨rfl, hw1.fromDrew⟩
set_option maxHeartbeats 1000000 in
theorem clear_any (B g W size : Nat) (nx m v : Value) (bs : List Bool) (w : World) (h : BW w B g 115 [.int .i64 W, .int .i64 size, nx, m] v bs) (h2 : 2 ≤ W) (h8 : W ≤ 8) (hn : W + 1 ≤ size) (hs : size ≤ 12) (hl : bs.length ≤ 549755813888) (hB : B ≤ w.heap.size) :
    Calls Tryd.prog 56 #[.pointer (some ⟨g, 0, none⟩)] w fun e w' => e = .returned (.tuple #[]) ∧ ∃ v' mb, PK w' B g W (W + 1) (bs ++ Bit.low (2 ^ W) size) [] v' mb ∧ Fresh w v v' ∧ w.heap.size ≤ mb ∧ Keeps (fun x => x = g ∨ v.ownBlock = some x) w w' := by
  have h12 : (2 : Nat) ^ W ≤ 2 ^ 8 := Nat.pow_le_pow_right (by omega) h8
  have hlt : 2 ^ W < 2 ^ size := by
    have : (2 : Nat) ^ (W + 1) ≤ 2 ^ size := Nat.pow_le_pow_right (by omega) hn
    rw [Nat.pow_succ] at this
    have := Nat.two_pow_pos W
    omega
  have hmm := @run_makeMap Tryd.prog
  have d1 : w.cell? ⟨g, 2, none⟩ = some (.int .i64 W) := by rw [h.blk.cell]; simp
  have gl := h.blk.lt
  obtain ⟨X, hX⟩ : ∃ X : Nat, X = 2 ^ W := ⟨_, rfl⟩
  have hX2 : (2 : Int) ^ W = X := by rw [hX]; exact (Int.natCast_pow 2 W).symm
  have hXl : X ≤ 256 := by omega
  have hXs : X < 2 ^ size := by omega
  rw [← hX]
  have HX := Lib.hid hX
  clear hX h12 hlt
  go_enter Tryd.func56, Tryd.ntmps56
  go_wp2_with fail
  refine (code_any B g W size X nx m v bs _ h hXs hs hl hB).mono ?_
  rintro e w1 ⟨rfl, v1, hb1, hf1, hk1⟩
  have hs1 := hk1.size
  have gl1 := hb1.blk.lt
  have e1 : w1.cell? ⟨g, 2, none⟩ = some (.int .i64 W) := by rw [hb1.blk.cell]; simp
  have e3 : w1.cell? ⟨g, 3, none⟩ = some (.int .i64 size) := by rw [hb1.blk.cell]; simp
  have e4 : w1.cell? ⟨g, 4, none⟩ = some nx := by rw [hb1.blk.cell]; simp
  have e5 : w1.cell? ⟨g, 5, none⟩ = some m := by rw [hb1.blk.cell]; simp
  have f3 := hb1.blk.free 3
  have f4 := hb1.blk.free 4
  have f5 := hb1.blk.free 5
  clear d1
  go_wp2_with fail
  go_region
  all_goals
    go_wp2
    go_end0
    refine ⟨rfl, v1, w1.heap.size, ⟨⟨?_, ?_, hb1.ne⟩, ?_, by omega, ?_, by omega⟩, hf1, hs1, ?_⟩
    · have := ((((hb1.blk.set_ 3 (.int .i64 (W + 1))).set_ 4 (.int .i64 (X + 2))).set_ 5 (.map (some w1.heap.size))).alloc (.map #[] 0))
      have e : ((Lz.base W + 0 : Nat) : Int) = X + 2 := by unfold Lz.base; rw [← HX.out]; omega
      show Blk _ g _ (v1 :: _ :: [.int .i64 W, .int .i64 (W + 1 : Nat), .int .i64 (Lz.base W + 0 : Nat), .map (some w1.heap.size)]).toArray
      rw [e]
      exact Blk.drew (by simpa using this)
    · exact ((((hb1.own.setCell (p := ⟨g, 3, none⟩) hb1.ne _).setCell (p := ⟨g, 4, none⟩) hb1.ne _).setCell (p := ⟨g, 5, none⟩) hb1.ne _).alloc _).drew
    · have := MapAt.new (((w1.setCell ⟨g, 3, none⟩ (.int .i64 (W + 1))).setCell ⟨g, 4, none⟩ (.int .i64 (X + 2))).setCell ⟨g, 5, none⟩ (.map (some w1.heap.size))) lzV
      have hz : ∀ (w : World) (p : Addr) (u : Value), (w.setCell p u).heap.size = w.heap.size := fun w p u => by simp [World.setCell]
      rw [hz, hz, hz] at this
      exact this.drew
    · intro e
      have := (hb1.own.lt _ e).2
      omega
    · exact ((((hk1.setCell (p := ⟨g, 3, none⟩) (fun _ => .inl rfl) _).setCell (p := ⟨g, 4, none⟩) (fun _ => .inl rfl) _).setCell (p := ⟨g, 5, none⟩) (fun _ => .inl rfl) _).alloc _).drew
/-- What add leaves. -/
structure Added (w : World) (B g W size : Nat) (bs : List Bool) (T : List ((Nat × UInt8) × Nat)) (v : Value) (mb : Nat) (w' : World) (v' : Value) (mb' : Nat) : Prop where
  pk : PK w' B g W size bs T v' mb'
  fresh : Fresh w v v'
  new : mb' = mb ∨ w.heap.size ≤ mb'
  keeps : Keeps (fun x => x = g ∨ v.ownBlock = some x ∨ x = mb) w w'
theorem pk_more {w : World} {B g W size N : Nat} {bs : List Bool} {T : List ((Nat × UInt8) × Nat)} {v : Value} {mb : Nat} {k : Nat × UInt8} (hbw : BW w B g 115 [.int .i64 W, .int .i64 size, .int .i64 (N + 1 : Nat), .map (some mb)] v bs)
    (hmap : MapAt w mb lzV (mput k (.int .i64 N) (trieMap T))) (hN : N = Lz.base W + T.length) (hno : mfind k (trieMap T) 0 = none) (hmg : mb ≠ g) (hmv : v.ownBlock ≠ some mb) (hml : B ≤ mb) : PK w B g W size bs (T ++ [(k, Lz.base W + T.length)]) v mb := by
  refine ⟨?_, ?_, hmg, hmv, hml⟩
  · rw [List.length_append, List.length_singleton, ← Nat.add_assoc, ← hN]
    exact hbw
  · rw [mput_none _ hno] at hmap
    have e : trieMap (T ++ [(k, Lz.base W + T.length)]) = trieMap T ++ [(k, .int .i64 N)] := by
      unfold trieMap
      rw [List.map_append, hN]
      rfl
    rw [e]
    exact hmap
set_option maxHeartbeats 2000000 in
set_option maxRecDepth 100000 in
theorem add_plain (B g W size : Nat) (bs : List Bool) (T : List ((Nat × UInt8) × Nat)) (v : Value) (mb : Nat) (k : Nat × UInt8) (w : World) (h : PK w B g W size bs T v mb) (hno : mfind k (trieMap T) 0 = none) (hs : size ≤ 12) (hm : Lz.base W + T.length ≤ 4095) (hc : Lz.base W + T.length + 1 ≠ 4096) :
    Calls Tryd.prog 58 #[.pointer (some ⟨g, 0, none⟩), lzV k] w fun e w' => e = .returned (.tuple #[]) ∧ ∃ v' mb', Added w B g W (Lz.grow W T.length size) bs (T ++ [(k, Lz.base W + T.length)]) v mb w' v' mb' := by
  obtain ⟨N, hN⟩ : ∃ N, N = Lz.base W + T.length := ⟨_, rfl⟩
  obtain ⟨hbw, hmp, hmg, hmv, hml⟩ := h
  rw [← hN] at hbw hm hc
  have hlk : lzV k = .agg #[.int .i64 k.1, .int .u8 k.2.toNat] := rfl
  obtain ⟨Y, hY⟩ : ∃ Y : Nat, Y = 2 ^ size := ⟨_, rfl⟩
  have hY2 : (2 : Int) ^ size = Y := by rw [hY]; exact (Int.natCast_pow 2 size).symm
  have hYl : Y ≤ 4096 := by rw [hY]; exact Nat.pow_le_pow_right (show 0 < 2 by omega) hs
  have gl := hbw.blk.lt
  have mlt := hmp.lt
  have d3 : w.cell? ⟨g, 3, none⟩ = some (.int .i64 size) := by rw [hbw.blk.cell]; simp
  have d4 : w.cell? ⟨g, 4, none⟩ = some (.int .i64 N) := by rw [hbw.blk.cell]; simp
  have d5 : w.cell? ⟨g, 5, none⟩ = some (.map (some mb)) := by rw [hbw.blk.cell]; simp
  have HN := Lib.hid hN
  have HY := Lib.hid hY
  have HNO := Lib.hid hno
  have HLK := Lib.hid hlk
  clear hN hY hno hlk
  obtain ⟨w3, hrun, hmap3, hg3, _⟩ := run_mapUpdate_at lzKey Tryd.underlying113 ((hmp.alloc (.cells #[.int .i64 k.1, .int .u8 k.2.toNat] 117)).drew) k (.int .i64 N)
  rw [HLK.out] at hrun
  unfold lzV
  go_enter Tryd.func58, Tryd.ntmps58
  go_wp2_with fail
  go_region
  all_goals
    have hb3 := (hbw.blk.alloc (.cells #[.int .i64 k.1, .int .u8 k.2.toNat] 117)).drew.grown hg3 (by intro e; injection e with e; exact hmg e.symm)
    have ho3 := (hbw.own.alloc (.cells #[.int .i64 k.1, .int .u8 k.2.toNat] 117)).drew.kept hg3 (.inr hmv)
    have hk3 : Keeps (fun x => x = g ∨ v.ownBlock = some x ∨ x = mb) w w3 := ((Keeps.refl _ w).alloc _).drew.grown hg3 (fun x hx _ => by injection hx with hx; exact .inr (.inr hx.symm))
    have e3 : w3.cell? ⟨g, 3, none⟩ = some (.int .i64 size) := by rw [hb3.cell]; simp
    have e4 : w3.cell? ⟨g, 4, none⟩ = some (.int .i64 N) := by rw [hb3.cell]; simp
    have g3 := hb3.free 3
    have g4 := hb3.free 4
    clear d3 d4 d5 hg3 hrun
    by_cases hEq : N = Y
    · have hq : ((N : Int) == Y) = true := by rw [beq_iff_eq]; omega
      by_cases hlt : size < 12
      · have hgr : Lz.grow W T.length size = size + 1 := by unfold Lz.grow; rw [if_pos ⟨HN.out.symm.trans (hEq.trans HY.out), hlt⟩]
        have HG := Lib.hid hgr
        clear hgr
        have hc2 : ((N : Int) + 1 == 4096) = false := by rw [beq_eq_false_iff_ne]; omega
        have hB6 := (hb3.set_ 3 (.int .i64 (size + 1))).set_ 4 (.int .i64 (N + 1))
        have hO6 := (ho3.setCell (p := ⟨g, 3, none⟩) hbw.ne (.int .i64 (size + 1))).setCell (p := ⟨g, 4, none⟩) hbw.ne (.int .i64 (N + 1))
        have hM6 := (hmap3.setCell (p := ⟨g, 3, none⟩) hmg (.int .i64 (size + 1))).setCell (p := ⟨g, 4, none⟩) hmg (.int .i64 (N + 1))
        have hK6 := (hk3.setCell (p := ⟨g, 3, none⟩) (fun _ => .inl rfl) (.int .i64 (size + 1))).setCell (p := ⟨g, 4, none⟩) (fun _ => .inl rfl) (.int .i64 (N + 1))
        have hB7 : Blk ((w3.setCell ⟨g, 3, none⟩ (.int .i64 (size + 1))).setCell ⟨g, 4, none⟩ (.int .i64 (N + 1))) g 115 (v :: .int .i64 bs.length :: [.int .i64 W, .int .i64 (size + 1 : Nat), .int .i64 (N + 1 : Nat), .map (some mb)]).toArray := by simpa using hB6
        clear hB6
        have HB7 := Lib.hid hB7
        have HO6 := Lib.hid hO6
        have HM6 := Lib.hid hM6
        have HK6 := Lib.hid hK6
        clear hB7 hO6 hM6 hK6
        subst hEq
        go_wp2_with fail
        go_region
        go_wp2_with fail
        go_end0
        refine ⟨rfl, v, mb, ?_⟩
        rw [HG.out]
        exact ⟨pk_more ⟨HB7.out.drew, HO6.out.drew, hbw.ne⟩ HM6.out.drew HN.out HNO.out hmg hmv hml, Fresh.refl _ _, .inl rfl, HK6.out.drew⟩
      · have hgr : Lz.grow W T.length size = size := by unfold Lz.grow; rw [if_neg (fun e => hlt e.2)]
        have HG := Lib.hid hgr
        clear hgr
        have hc2 : ((N : Int) + 1 == 4096) = false := by rw [beq_eq_false_iff_ne]; omega
        have hB6 := hb3.set_ 4 (.int .i64 (N + 1))
        have hO6 := ho3.setCell (p := ⟨g, 4, none⟩) hbw.ne (.int .i64 (N + 1))
        have hM6 := hmap3.setCell (p := ⟨g, 4, none⟩) hmg (.int .i64 (N + 1))
        have hK6 := hk3.setCell (p := ⟨g, 4, none⟩) (fun _ => .inl rfl) (.int .i64 (N + 1))
        have hB7 : Blk (w3.setCell ⟨g, 4, none⟩ (.int .i64 (N + 1))) g 115 (v :: .int .i64 bs.length :: [.int .i64 W, .int .i64 (size : Nat), .int .i64 (N + 1 : Nat), .map (some mb)]).toArray := by simpa using hB6
        clear hB6
        have HB7 := Lib.hid hB7
        have HO6 := Lib.hid hO6
        have HM6 := Lib.hid hM6
        have HK6 := Lib.hid hK6
        clear hB7 hO6 hM6 hK6
        subst hEq
        go_wp2_with fail
        go_region
        go_wp2_with fail
        go_end0
        refine ⟨rfl, v, mb, ?_⟩
        rw [HG.out]
        exact ⟨pk_more ⟨HB7.out.drew, HO6.out.drew, hbw.ne⟩ HM6.out.drew HN.out HNO.out hmg hmv hml, Fresh.refl _ _, .inl rfl, HK6.out.drew⟩
    · have hq : ((N : Int) == Y) = false := by rw [beq_eq_false_iff_ne]; omega
      have hgr : Lz.grow W T.length size = size := by unfold Lz.grow; rw [if_neg (fun e => hEq (HN.out.trans (e.1.trans HY.out.symm)))]
      have HG := Lib.hid hgr
      clear hgr
      have hc2 : ((N : Int) + 1 == 4096) = false := by rw [beq_eq_false_iff_ne]; omega
      have hB6 := hb3.set_ 4 (.int .i64 (N + 1))
      have hO6 := ho3.setCell (p := ⟨g, 4, none⟩) hbw.ne (.int .i64 (N + 1))
      have hM6 := hmap3.setCell (p := ⟨g, 4, none⟩) hmg (.int .i64 (N + 1))
      have hK6 := hk3.setCell (p := ⟨g, 4, none⟩) (fun _ => .inl rfl) (.int .i64 (N + 1))
      have hB7 : Blk (w3.setCell ⟨g, 4, none⟩ (.int .i64 (N + 1))) g 115 (v :: .int .i64 bs.length :: [.int .i64 W, .int .i64 (size : Nat), .int .i64 (N + 1 : Nat), .map (some mb)]).toArray := by simpa using hB6
      clear hB6
      have HB7 := Lib.hid hB7
      have HO6 := Lib.hid hO6
      have HM6 := Lib.hid hM6
      have HK6 := Lib.hid hK6
      clear hB7 hO6 hM6 hK6
      go_wp2_with fail
      go_region
      go_wp2_with fail
      go_end0
      refine ⟨rfl, v, mb, ?_⟩
      rw [HG.out]
      exact ⟨pk_more ⟨HB7.out.drew, HO6.out.drew, hbw.ne⟩ HM6.out.drew HN.out HNO.out hmg hmv hml, Fresh.refl _ _, .inl rfl, HK6.out.drew⟩
set_option maxHeartbeats 2000000 in
set_option maxRecDepth 100000 in
theorem add_full (B g W size : Nat) (bs : List Bool) (T : List ((Nat × UInt8) × Nat)) (v : Value) (mb : Nat) (k : Nat × UInt8) (w : World) (h : PK w B g W size bs T v mb) (hno : mfind k (trieMap T) 0 = none) (h2 : 2 ≤ W) (h8 : W ≤ 8) (hn : W + 1 ≤ size) (hs : size ≤ 12) (hl : bs.length ≤ 549755813000) (hB : B ≤ w.heap.size) (hc : Lz.base W + T.length + 1 = 4096) :
    Calls Tryd.prog 58 #[.pointer (some ⟨g, 0, none⟩), lzV k] w fun e w' => e = .returned (.tuple #[]) ∧ ∃ v' mb', Added w B g W (W + 1) (bs ++ Bit.low (2 ^ W) (Lz.grow W T.length size)) [] v mb w' v' mb' := by
  obtain ⟨N, hN⟩ : ∃ N, N = Lz.base W + T.length := ⟨_, rfl⟩
  obtain ⟨hbw, hmp, hmg, hmv, hml⟩ := h
  rw [← hN] at hbw hc
  have hlk : lzV k = .agg #[.int .i64 k.1, .int .u8 k.2.toNat] := rfl
  obtain ⟨Y, hY⟩ : ∃ Y : Nat, Y = 2 ^ size := ⟨_, rfl⟩
  have hY2 : (2 : Int) ^ size = Y := by rw [hY]; exact (Int.natCast_pow 2 size).symm
  have hYl : Y ≤ 4096 := by rw [hY]; exact Nat.pow_le_pow_right (show 0 < 2 by omega) hs
  have gl := hbw.blk.lt
  have mlt := hmp.lt
  have d3 : w.cell? ⟨g, 3, none⟩ = some (.int .i64 size) := by rw [hbw.blk.cell]; simp
  have d4 : w.cell? ⟨g, 4, none⟩ = some (.int .i64 N) := by rw [hbw.blk.cell]; simp
  have d5 : w.cell? ⟨g, 5, none⟩ = some (.map (some mb)) := by rw [hbw.blk.cell]; simp
  have HN := Lib.hid hN
  have HY := Lib.hid hY
  have HNO := Lib.hid hno
  have HLK := Lib.hid hlk
  clear hN hY hno hlk
  obtain ⟨w3, hrun, hmap3, hg3, _⟩ := run_mapUpdate_at lzKey Tryd.underlying113 ((hmp.alloc (.cells #[.int .i64 k.1, .int .u8 k.2.toNat] 117)).drew) k (.int .i64 N)
  rw [HLK.out] at hrun
  unfold lzV
  go_enter Tryd.func58, Tryd.ntmps58
  go_wp2_with fail
  go_region
  all_goals
    have hb3 := (hbw.blk.alloc (.cells #[.int .i64 k.1, .int .u8 k.2.toNat] 117)).drew.grown hg3 (by intro e; injection e with e; exact hmg e.symm)
    have ho3 := (hbw.own.alloc (.cells #[.int .i64 k.1, .int .u8 k.2.toNat] 117)).drew.kept hg3 (.inr hmv)
    have hk3 : Keeps (fun x => x = g ∨ v.ownBlock = some x ∨ x = mb) w w3 := ((Keeps.refl _ w).alloc _).drew.grown hg3 (fun x hx _ => by injection hx with hx; exact .inr (.inr hx.symm))
    have e3 : w3.cell? ⟨g, 3, none⟩ = some (.int .i64 size) := by rw [hb3.cell]; simp
    have e4 : w3.cell? ⟨g, 4, none⟩ = some (.int .i64 N) := by rw [hb3.cell]; simp
    have g3 := hb3.free 3
    have g4 := hb3.free 4
    clear d3 d4 d5 hg3 hrun
    by_cases hEq : N = Y
    · have hq : ((N : Int) == Y) = true := by rw [beq_iff_eq]; omega
      by_cases hlt : size < 12
      · have hgr : Lz.grow W T.length size = size + 1 := by unfold Lz.grow; rw [if_pos ⟨HN.out.symm.trans (hEq.trans HY.out), hlt⟩]
        have HG := Lib.hid hgr
        clear hgr
        have hc2 : ((N : Int) + 1 == 4096) = true := by rw [beq_iff_eq]; omega
        have hB6 := (hb3.set_ 3 (.int .i64 (size + 1))).set_ 4 (.int .i64 (N + 1))
        have hO6 := (ho3.setCell (p := ⟨g, 3, none⟩) hbw.ne (.int .i64 (size + 1))).setCell (p := ⟨g, 4, none⟩) hbw.ne (.int .i64 (N + 1))
        have hM6 := (hmap3.setCell (p := ⟨g, 3, none⟩) hmg (.int .i64 (size + 1))).setCell (p := ⟨g, 4, none⟩) hmg (.int .i64 (N + 1))
        have hK6 := (hk3.setCell (p := ⟨g, 3, none⟩) (fun _ => .inl rfl) (.int .i64 (size + 1))).setCell (p := ⟨g, 4, none⟩) (fun _ => .inl rfl) (.int .i64 (N + 1))
        have hB7 : Blk ((w3.setCell ⟨g, 3, none⟩ (.int .i64 (size + 1))).setCell ⟨g, 4, none⟩ (.int .i64 (N + 1))) g 115 (v :: .int .i64 bs.length :: [.int .i64 W, .int .i64 (size + 1 : Nat), .int .i64 (N + 1 : Nat), .map (some mb)]).toArray := by simpa using hB6
        clear hB6
        have HB7 := Lib.hid hB7
        have HO6 := Lib.hid hO6
        have HM6 := Lib.hid hM6
        have HK6 := Lib.hid hK6
        clear hB7 hO6 hM6 hK6
        subst hEq
        go_wp2_with fail
        go_region
        go_wp2_with fail
        refine (clear_any B g W (size + 1) (.int .i64 (N + 1 : Nat)) (.map (some mb)) v bs _ ⟨HB7.out.drew, HO6.out.drew, hbw.ne⟩ h2 h8 (by omega) (by omega) (by omega) (Nat.le_trans hB HK6.out.size)).mono ?_
        rintro e w6 ⟨rfl, v', mb', hpk, hfr, hmb, hks⟩
        go_wp2
        go_end0
        refine ⟨rfl, v', mb', ?_⟩
        rw [HG.out]
        exact ⟨hpk, fun x hx => (hfr x hx).imp id (fun e => Nat.le_trans HK6.out.size e), .inr (Nat.le_trans HK6.out.size hmb), HK6.out.drew.trans hks fun x hx hs => hs.imp id .inl⟩
      · have hgr : Lz.grow W T.length size = size := by unfold Lz.grow; rw [if_neg (fun e => hlt e.2)]
        have HG := Lib.hid hgr
        clear hgr
        have hc2 : ((N : Int) + 1 == 4096) = true := by rw [beq_iff_eq]; omega
        have hB6 := hb3.set_ 4 (.int .i64 (N + 1))
        have hO6 := ho3.setCell (p := ⟨g, 4, none⟩) hbw.ne (.int .i64 (N + 1))
        have hM6 := hmap3.setCell (p := ⟨g, 4, none⟩) hmg (.int .i64 (N + 1))
        have hK6 := hk3.setCell (p := ⟨g, 4, none⟩) (fun _ => .inl rfl) (.int .i64 (N + 1))
        have hB7 : Blk (w3.setCell ⟨g, 4, none⟩ (.int .i64 (N + 1))) g 115 (v :: .int .i64 bs.length :: [.int .i64 W, .int .i64 (size : Nat), .int .i64 (N + 1 : Nat), .map (some mb)]).toArray := by simpa using hB6
        clear hB6
        have HB7 := Lib.hid hB7
        have HO6 := Lib.hid hO6
        have HM6 := Lib.hid hM6
        have HK6 := Lib.hid hK6
        clear hB7 hO6 hM6 hK6
        subst hEq
        go_wp2_with fail
        go_region
        go_wp2_with fail
        refine (clear_any B g W (size) (.int .i64 (N + 1 : Nat)) (.map (some mb)) v bs _ ⟨HB7.out.drew, HO6.out.drew, hbw.ne⟩ h2 h8 (by omega) (by omega) (by omega) (Nat.le_trans hB HK6.out.size)).mono ?_
        rintro e w6 ⟨rfl, v', mb', hpk, hfr, hmb, hks⟩
        go_wp2
        go_end0
        refine ⟨rfl, v', mb', ?_⟩
        rw [HG.out]
        exact ⟨hpk, fun x hx => (hfr x hx).imp id (fun e => Nat.le_trans HK6.out.size e), .inr (Nat.le_trans HK6.out.size hmb), HK6.out.drew.trans hks fun x hx hs => hs.imp id .inl⟩
    · have hq : ((N : Int) == Y) = false := by rw [beq_eq_false_iff_ne]; omega
      have hgr : Lz.grow W T.length size = size := by unfold Lz.grow; rw [if_neg (fun e => hEq (HN.out.trans (e.1.trans HY.out.symm)))]
      have HG := Lib.hid hgr
      clear hgr
      have hc2 : ((N : Int) + 1 == 4096) = true := by rw [beq_iff_eq]; omega
      have hB6 := hb3.set_ 4 (.int .i64 (N + 1))
      have hO6 := ho3.setCell (p := ⟨g, 4, none⟩) hbw.ne (.int .i64 (N + 1))
      have hM6 := hmap3.setCell (p := ⟨g, 4, none⟩) hmg (.int .i64 (N + 1))
      have hK6 := hk3.setCell (p := ⟨g, 4, none⟩) (fun _ => .inl rfl) (.int .i64 (N + 1))
      have hB7 : Blk (w3.setCell ⟨g, 4, none⟩ (.int .i64 (N + 1))) g 115 (v :: .int .i64 bs.length :: [.int .i64 W, .int .i64 (size : Nat), .int .i64 (N + 1 : Nat), .map (some mb)]).toArray := by simpa using hB6
      clear hB6
      have HB7 := Lib.hid hB7
      have HO6 := Lib.hid hO6
      have HM6 := Lib.hid hM6
      have HK6 := Lib.hid hK6
      clear hB7 hO6 hM6 hK6
      go_wp2_with fail
      go_region
      go_wp2_with fail
      refine (clear_any B g W (size) (.int .i64 (N + 1 : Nat)) (.map (some mb)) v bs _ ⟨HB7.out.drew, HO6.out.drew, hbw.ne⟩ h2 h8 (by omega) (by omega) (by omega) (Nat.le_trans hB HK6.out.size)).mono ?_
      rintro e w6 ⟨rfl, v', mb', hpk, hfr, hmb, hks⟩
      go_wp2
      go_end0
      refine ⟨rfl, v', mb', ?_⟩
      rw [HG.out]
      exact ⟨hpk, fun x hx => (hfr x hx).imp id (fun e => Nat.le_trans HK6.out.size e), .inr (Nat.le_trans HK6.out.size hmb), HK6.out.drew.trans hks fun x hx hs => hs.imp id .inl⟩
end Go.Proofs.YtncedhhgclofbaaDoor
