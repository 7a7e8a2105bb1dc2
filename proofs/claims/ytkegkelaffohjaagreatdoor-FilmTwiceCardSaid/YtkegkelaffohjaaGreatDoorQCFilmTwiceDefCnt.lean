/- deflate.counts: the walk. -/
import Derived.Test.YtkegkelaffohjaaGreatDoorQCFilmTwiceDefTok
import Derived.Test.YtkegkelaffohjaaGreatDoorQCFilmTwiceHufCodes
import Derived.Deep.RegionLaw
import Derived.Deep.Cut
import Derived.Deep.DeepCutAuto
namespace Go.Proofs.YtkegkelaffohjaaGreatDoor
open Go Go.RowKit
theorem Own.setNat {w : World} {base n c g off : Nat} {l : List Nat} (h : Own w base 1 (.slice (some ⟨g, off, none⟩) n c) n (nats l)) (i : Nat) (hi : i < n) (x : Nat) :
  Own (w.setCell ⟨g, off + i, none⟩ (.int .i64 x)) base 1 (.slice (some ⟨g, off, none⟩) n c) n (nats (l.set i x)) := by
 have hl : l.length = n := by have := h.1; rw [nats_length] at this; omega
 have := h.setOne i hi [.int .i64 x] (nats (l.set i x)) rfl (by rw [nats_length, List.length_set, hl]; omega) (fun j hj => by
  have : j = 0 := by omega
  subst this
  unfold nats
  simp [hl, hi]) (fun j hj => by
  unfold nats
  rw [List.getElem?_map, List.getElem?_map, List.getElem?_set]
  rw [if_neg (by omega)])
 simpa [World.setCells] using this
namespace Inf
theorem bumps_le : ∀ (ks l : List Nat) (j : Nat), (ks.foldl bump l).getD j 0 ≤ l.getD j 0 + ks.length
 | [], _, _ => Nat.le_refl _
 | k :: ks, l, j => by
  rw [List.foldl_cons, List.length_cons]
  have h1 := bumps_le ks (bump l k) j
  have h2 : (bump l k).getD j 0 ≤ l.getD j 0 + 1 := by
   rcases Nat.lt_or_ge k l.length with h | h
   ·rw [bump_at l k j h]; split <;> omega
   ·unfold bump
    rw [List.set_eq_of_length_le h]
    omega
  omega
end Inf
theorem made_nats (Z : Array Value) (n : Nat) (h : Z = madeCells (Value.int .i64 0).cells (n * 1)) : Z.toList = nats (List.replicate n 0) := by
 rw [h, made_same _ (.int .i64 0) (by decide) (by intro j hj; have : j = 0 := (by simp [Value.cells] at hj; omega); subst this; rfl), Nat.mul_one]
 simp [nats]
theorem own_made (w : World) (Z : Array Value) (n base g : Nat) (hZ : Z.toList = nats (List.replicate n 0)) (hg : g = w.heap.size) (hb : base ≤ w.heap.size) (hn : n ≤ maxLen) : Own (w.alloc (.cells Z 3)) base 1 (.slice (some ⟨g, 0, none⟩) n n) n (nats (List.replicate n 0)) := by
 have hB := Blk.new w 3 Z hg
 have hs : Z.size = n := by have := congrArg List.length hZ; rw [nats_length, List.length_replicate] at this; simpa using this
 refine ⟨by rw [nats_length, List.length_replicate, Nat.mul_one], .inr ⟨g, 0, n, rfl, by omega, hB.lt, Nat.le_refl _, hn, fun j hj => ?_, fun j hj => ?_⟩⟩
 ·rw [Nat.zero_add, hB.cell, ← hZ]
  simp
 ·rw [Nat.zero_add]
  refine ⟨?_, hB.free j⟩
  rw [hB.cell, Array.getElem?_eq_getElem (by omega)]
  rfl
structure CntR (w : World) (a b : Nat) (S D : List Nat) (wr : World) : Prop where
 s : Own wr w.heap.size 1 (.slice (some ⟨a, 0, none⟩) 286 286) 286 (nats S)
 d : Own wr w.heap.size 1 (.slice (some ⟨b, 0, none⟩) 30 30) 30 (nats D)
 ne : a ≠ b
 bel : Below w.heap.size w wr
section
variable {w wr w' : World} {a b : Nat} {S D : List Nat}
theorem CntR.drew (h : CntR w a b S D wr) : CntR w a b S D wr.drew := ⟨h.s.drew, h.d.drew, h.ne, h.bel.drew⟩
theorem CntR.alloc (h : CntR w a b S D wr) (o : Obj) : CntR w a b S D (wr.alloc o) := ⟨h.s.alloc o, h.d.alloc o, h.ne, h.bel.alloc h.bel.size o⟩
theorem CntR.lens (h : CntR w a b S D wr) : S.length = 286 ∧ D.length = 30 := by
 have h1 := h.s.1
 have h2 := h.d.1
 rw [nats_length] at h1 h2
 omega
theorem CntR.setS (h : CntR w a b S D wr) (i : Nat) (hi : i < 286) (x : Nat) : CntR w a b (S.set i x) D (wr.setCell ⟨a, i, none⟩ (.int .i64 x)) := by
 have h1 := h.s.setNat i hi x
 rw [Nat.zero_add] at h1
 exact ⟨h1, h.d.setCell (p := ⟨a, i, none⟩) (fun e => h.ne (by injection e with e; exact e.symm)) _, h.ne, h.bel.setCell (p := ⟨a, i, none⟩) (h.s.lt a rfl).1 _⟩
theorem CntR.setD (h : CntR w a b S D wr) (i : Nat) (hi : i < 30) (x : Nat) : CntR w a b S (D.set i x) (wr.setCell ⟨b, i, none⟩ (.int .i64 x)) := by
 have h1 := h.d.setNat i hi x
 rw [Nat.zero_add] at h1
 exact ⟨h.s.setCell (p := ⟨b, i, none⟩) (fun e => h.ne (by injection e)) _, h1, h.ne, h.bel.setCell (p := ⟨b, i, none⟩) (h.d.lt b rfl).1 _⟩
theorem CntR.atS (h : CntR w a b S D wr) (i : Nat) (hi : i < 286) : wr.cell? ⟨a, i, none⟩ = some (.int .i64 (S.getD i 0)) ∧ wr.frozen? ⟨a, i, none⟩ = false := by
 have hl := h.lens.1
 obtain ⟨h1, h2⟩ := h.s.cellAt i hi
 rw [Nat.zero_add] at h1 h2
 rw [nats_at _ _ (by omega), ← getD_at _ _ (by omega)] at h1
 exact ⟨h1, h2⟩
theorem CntR.atD (h : CntR w a b S D wr) (i : Nat) (hi : i < 30) : wr.cell? ⟨b, i, none⟩ = some (.int .i64 (D.getD i 0)) ∧ wr.frozen? ⟨b, i, none⟩ = false := by
 have hl := h.lens.2
 obtain ⟨h1, h2⟩ := h.d.cellAt i hi
 rw [Nat.zero_add] at h1 h2
 rw [nats_at _ _ (by omega), ← getD_at _ _ (by omega)] at h1
 exact ⟨h1, h2⟩
end
def symTo (l : List Mat.Tok) (j : Nat) : List Nat := ((l.take j).map Inf.symOf).foldl Inf.bump ((List.replicate 286 0).set 256 1)
def distTo (l : List Mat.Tok) (j : Nat) : List Nat := (((l.take j).filter fun t => decide (t.n ≠ 0)).map fun t => Inf.distAt t.d).foldl Inf.bump (List.replicate 30 0)
theorem symTo_succ (l : List Mat.Tok) (j : Nat) (h : j < l.length) : symTo l (j + 1) = Inf.bump (symTo l j) (Inf.symOf l[j]) := by
 unfold symTo
 rw [List.take_succ_eq_append_getElem h, List.map_append, List.foldl_append]
 rfl
theorem distTo_lit (l : List Mat.Tok) (j : Nat) (h : j < l.length) (h0 : (l[j]).n = 0) : distTo l (j + 1) = distTo l j := by
 unfold distTo
 rw [List.take_succ_eq_append_getElem h, List.filter_append, List.map_append, List.foldl_append]
 simp [h0]
theorem distTo_far (l : List Mat.Tok) (j : Nat) (h : j < l.length) (h0 : (l[j]).n ≠ 0) : distTo l (j + 1) = Inf.bump (distTo l j) (Inf.distAt (l[j]).d) := by
 unfold distTo
 rw [List.take_succ_eq_append_getElem h, List.filter_append, List.map_append, List.foldl_append]
 simp [h0]
theorem symTo_le (l : List Mat.Tok) (j k : Nat) : (symTo l j).getD k 0 ≤ 1 + l.length := by
 have h1 := Inf.bumps_le ((l.take j).map Inf.symOf) ((List.replicate 286 0).set 256 1) k
 rw [List.length_map, List.length_take] at h1
 have h2 : ((List.replicate 286 0).set 256 1).getD k 0 ≤ 1 := by
  rw [List.getD_eq_getElem?_getD, List.getElem?_set, List.getElem?_replicate]
  split
  ·split <;> simp
  ·split <;> simp
 unfold symTo
 omega
theorem distTo_le (l : List Mat.Tok) (j k : Nat) : (distTo l j).getD k 0 ≤ l.length := by
 have h1 := Inf.bumps_le (((l.take j).filter fun t => decide (t.n ≠ 0)).map fun t => Inf.distAt t.d) (List.replicate 30 0) k
 have h3 := List.length_filter_le (fun t : Mat.Tok => decide (t.n ≠ 0)) (l.take j)
 rw [List.length_take] at h3
 rw [List.length_map] at h1
 have h2 : (List.replicate 30 0).getD k 0 = 0 := by
  rw [List.getD_eq_getElem?_getD, List.getElem?_replicate]
  split <;> simp
 unfold distTo
 omega
set_option maxRecDepth 100000 in
set_option maxHeartbeats 4000000 in
theorem counts_any (TV : Value) (l : List Mat.Tok) (w : World) (hT : Tabs w) (ht : Vals w 3 TV l.length (tokCells l)) (hp : ∀ t ∈ l, Mat.Plain t) (hl : l.length ≤ 300000) :
  Calls Tryz.prog 145 #[TV] w fun e w' => ∃ A c A2 c2, e = .returned (.tuple #[.slice A 286 c, .slice A2 30 c2]) ∧ Own w' w.heap.size 1 (.slice A 286 c) 286 (nats (Inf.symCounts l)) ∧ Own w' w.heap.size 1 (.slice A2 30 c2) 30 (nats (Inf.distCounts l)) ∧ (∀ x, (Value.slice A 286 c).ownBlock = some x → (Value.slice A2 30 c2).ownBlock ≠ some x) ∧ Below w.heap.size w w' := by
 obtain ⟨TA, tc, rfl, htr⟩ := ht
 obtain ⟨i0, hi, hz0, hz1, hz2⟩ := info_parts intInfo
 obtain ⟨Z1, hZ1⟩ : ∃ Z1, Z1 = madeCells (Value.int .i64 0).cells (286 * i0.size) := ⟨_, rfl⟩
 obtain ⟨Z2, hZ2⟩ : ∃ Z2, Z2 = madeCells (Value.int .i64 0).cells (30 * i0.size) := ⟨_, rfl⟩
 have hm1 : ∀ W : World, (Instr.makeSlice 119 (.int .i64 286) (.int .i64 286)).run Tryz.prog W = .ok (.slice (some ⟨W.heap.size, 0, none⟩) 286 286) (W.alloc (.cells Z1 3)) := fun W => by
  rw [hZ1]
  exact run_make (P := Tryz.prog) W 119 3 i0 _ Tryz.underlying119 hi hz0 .i64 .i64 286 286 (by decide) (by decide) (by rw [hz2]; decide) (by decide)
 have hm2 : ∀ W : World, (Instr.makeSlice 119 (.int .i64 30) (.int .i64 30)).run Tryz.prog W = .ok (.slice (some ⟨W.heap.size, 0, none⟩) 30 30) (W.alloc (.cells Z2 3)) := fun W => by
  rw [hZ2]
  exact run_make (P := Tryz.prog) W 119 3 i0 _ Tryz.underlying119 hi hz0 .i64 .i64 30 30 (by decide) (by decide) (by rw [hz2]; decide) (by decide)
 have HZ := Lib.hid (And.intro hZ1 hZ2)
 clear hZ1 hZ2
 have HT := Lib.hid hT
 have HP := Lib.hid hp
 have HTR := Lib.hid htr
 clear hT hp htr
 go_enter Tryz.func145, Tryz.ntmps145
 go_upto_region 1 with (fail)
 go_cut [2, 3] (fun x y wx => ∃ a b : Nat, x = .slice (some ⟨a, 0, none⟩) 286 286 ∧ y = .slice (some ⟨b, 0, none⟩) 30 30 ∧ CntR w a b (List.replicate 286 0) (List.replicate 30 0) wx)
 case first =>
  have hz1' : Z1.toList = nats (List.replicate 286 0) := made_nats _ _ (by rw [HZ.out.1, hz1])
  have hz2' : Z2.toList = nats (List.replicate 30 0) := made_nats _ _ (by rw [HZ.out.2, hz1])
  have HZ1 := Lib.hid hz1'
  have HZ2 := Lib.hid hz2'
  clear hz1' hz2'
  go_region
  ·clear hm1 hm2
   go_wp2_with fail
   go_meet
   case rel =>
    refine ⟨w.heap.size, w.heap.size + 1, rfl, rfl, CntR.drew ⟨(own_made w Z1 286 _ _ HZ1.out rfl (Nat.le_refl _) (by decide)).alloc _, own_made _ Z2 30 _ _ HZ2.out (by simp) (by simp) (by decide), by omega, ((Below.refl w.heap.size w).alloc (Nat.le_refl _) _).alloc (by simp) _⟩⟩
  ·clear hm1 hm2
   go_wp2_with fail
   go_meet
   case rel =>
    refine ⟨w.heap.size + 1, w.heap.size, rfl, rfl, CntR.drew ⟨own_made _ Z1 286 _ _ HZ1.out (by simp) (by simp) (by decide), (own_made w Z2 30 _ _ HZ2.out rfl (Nat.le_refl _) (by decide)).alloc _, by omega, ((Below.refl w.heap.size w).alloc (Nat.le_refl _) _).alloc (by simp) _⟩⟩
 case rest =>
  obtain ⟨a, b, rfl, rfl, hC⟩ := hcut
  obtain ⟨hca, hfa⟩ := hC.atS 256 (by omega)
  clear hm1 hm2
  go_wp2_with fail
  have HC2 := Lib.hid (show CntR w a b (symTo l 0) (distTo l 0) (wc.setCell ⟨a, 256, none⟩ (.int .i64 1)) from hC.setS 256 (by omega) 1)
  clear hC hca hfa
  generalize wc.setCell ⟨a, 256, none⟩ (.int .i64 1) = w3 at *
  go_loopw [12] (fun iv wr => ∃ j : Nat, j ≤ l.length ∧ iv = .int .i64 j ∧ CntR w a b (symTo l j) (distTo l j) wr) (fun iv _ => l.length - (intOf iv).toNat)
  case atStart => exact ⟨0, Nat.zero_le _, rfl, HC2.out⟩
  case round =>
   clear HC2
   obtain ⟨j, hj, rfl, hC⟩ := hrel
   by_cases hlt : j < l.length
   ·as_aux_lemma =>
    have hr := HTR.out.below hC.bel (Nat.le_refl _)
    obtain ⟨ga, oa, rfl, hga⟩ := hr.addr (by omega)
    obtain ⟨t0, t1, t2⟩ := hr.tok j hlt
    have hss := symTo_succ l j hlt
    have hd0 := distTo_lit l j hlt
    have hd1 := distTo_far l j hlt
    have hpt := HP.out l[j] (List.getElem_mem hlt)
    have HT1 := Lib.hid ((HT.out.below hC.bel HT.out.size).below ((Below.refl _ wr).alloc (Nat.le_refl wr.heap.size) (.cells #[.int .u8 l[j].b.toNat, .int .i64 l[j].n, .int .i64 l[j].d] 193)) (Nat.le_trans HT.out.size hC.bel.size))
    obtain ⟨t, ht⟩ : ∃ t, t = l[j] := ⟨_, rfl⟩
    rw [← ht] at t0 t1 t2 hpt hss hd0 hd1 HT1
    have hC1 := hC.alloc (.cells #[.int .u8 t.b.toNat, .int .i64 t.n, .int .i64 t.d] 193)
    have hal := (hC.s.lt a rfl).2
    have hbl := (hC.d.lt b rfl).2
    have hB := Blk.new wr 193 #[.int .u8 t.b.toNat, .int .i64 t.n, .int .i64 t.d] rfl
    obtain ⟨tg, htg⟩ : ∃ tg, tg = wr.heap.size := ⟨_, rfl⟩
    have hatg : a ≠ tg := by omega
    have hbtg : b ≠ tg := by omega
    have HSS := Lib.hid hss
    clear hss ht hal hbl
    rcases hpt with hn0 | ⟨p1, p2, p3, p4⟩
    ·as_aux_lemma =>
     have hb256 := t.b.toNat_lt
     have hsy : Inf.symOf t = t.b.toNat := by unfold Inf.symOf; rw [if_pos hn0]
     have hst := HSS.out
     rw [hsy] at hst
     have hdt := hd0 hn0
     have hle := symTo_le l j t.b.toNat
     obtain ⟨x, hx⟩ : ∃ x, x = (symTo l j).getD t.b.toNat 0 := ⟨_, rfl⟩
     have hst2 : symTo l (j + 1) = (symTo l j).set t.b.toNat (x + 1) := by rw [hst, hx]; rfl
     rw [← hx] at hle
     obtain ⟨ca, fa⟩ := hC1.atS t.b.toNat (by omega)
     rw [← hx] at ca
     have HST := Lib.hid hst2
     have HDT := Lib.hid hdt
     have hz : ((t.n : Int) == 0) = true := by rw [hn0]; rfl
     have hbi : (t.b.toNat : Int) < 286 := by omega
     have HCN := Lib.hid (hC1.setS t.b.toNat (by omega) (x + 1))
     clear hst hst2 hdt hd0 hd1 hn0 hx hsy HSS hC hC1 HT1 htg hatg hbtg hB
     go_wp2_with fail
     go_roundw
     case rel => exact ⟨j + 1, hlt, by go_num, by rw [HST.out, HDT.out]; exact HCN.out⟩
     case measure => simp [intOf]; omega
    ·as_aux_lemma =>
     obtain ⟨l1, l2, l3⟩ := Inf.len_place t.n p1 p2
     obtain ⟨d1, d2, d3⟩ := Inf.dist_place t.d p3 p4
     have hn0 : t.n ≠ 0 := by omega
     have hpl : Inf.place Inf.Lens t.n (Inf.Lens.length - 1) = Inf.lenAt t.n := rfl
     have hpd : Inf.place Inf.Dists t.d (Inf.Dists.length - 1) = Inf.distAt t.d := rfl
     have hsy : Inf.symOf t = 257 + Inf.lenAt t.n := by unfold Inf.symOf; rw [if_neg hn0]
     have hst := HSS.out
     have hdt := hd1 hn0
     obtain ⟨K, hK⟩ : ∃ K, K = Inf.lenAt t.n := ⟨_, rfl⟩
     obtain ⟨Q, hQ⟩ : ∃ Q, Q = Inf.distAt t.d := ⟨_, rfl⟩
     rw [← hK] at l1 hpl hsy
     rw [← hQ] at d1 hpd hdt
     obtain ⟨K2, hK2⟩ : ∃ K2, K2 = 257 + K := ⟨_, rfl⟩
     rw [← hK2] at hsy
     rw [hsy] at hst
     have hle := symTo_le l j K2
     have hle2 := distTo_le l j Q
     obtain ⟨x, hx⟩ : ∃ x, x = (symTo l j).getD K2 0 := ⟨_, rfl⟩
     obtain ⟨y, hy⟩ : ∃ y, y = (distTo l j).getD Q 0 := ⟨_, rfl⟩
     have hst2 : symTo l (j + 1) = (symTo l j).set K2 (x + 1) := by rw [hst, hx]; rfl
     have hdt2 : distTo l (j + 1) = (distTo l j).set Q (y + 1) := by rw [hdt, hy]; rfl
     rw [← hx] at hle
     rw [← hy] at hle2
     obtain ⟨ca, fa⟩ := hC1.atS K2 (by omega)
     rw [← hx] at ca
     have hq : (257 : Int) + K = (K2 : Nat) := by omega
     have hKi : (K2 : Int) < 286 := by omega
     have hqw : IntKind.i64.wrap (K2 : Int) = (K2 : Nat) := IntWalk.i64_in _ (by omega)
     have hxw : IntKind.i64.wrap ((x : Int) + 1) = (x : Int) + 1 := IntWalk.i64_in _ (by omega)
     have hyw : IntKind.i64.wrap ((y : Int) + 1) = (y : Int) + 1 := IntWalk.i64_in _ (by omega)
     have hQi : (Q : Int) < 30 := by omega
     have hz : ((t.n : Int) == 0) = false := by rw [beq_eq_false_iff_ne]; omega
     have hC2 := (hC1.setS K2 (by omega) (x + 1)).drew
     have hB2 := (hB.far (p := ⟨a, K2, none⟩) (by show wr.heap.size ≠ a; omega) (.int .i64 (x + 1 : Nat))).drew
     have hT2 := Tabs.drew (HT1.out.below (Below.setCell (p := ⟨a, K2, none⟩) (Below.refl 15 _) (by have := HT.out.size; have := (hC.s.lt a rfl).1; show 15 ≤ a; omega) (.int .i64 (x + 1 : Nat))) (Nat.le_refl _))
     have hx1 : ((x + 1 : Nat) : Int) = x + 1 := by omega
     rw [hx1] at hC2 hB2 hT2
     have hc1 : (wr.alloc (.cells #[.int .u8 t.b.toNat, .int .i64 t.n, .int .i64 t.d] 193)).cell? ⟨tg, 1, none⟩ = some (.int .i64 t.n) := by rw [htg, hB.cell]; rfl
     have HPL := Lib.hid (place_any 15 29 29 t.n (some ⟨11, 0, none⟩) Inf.Lens (wr.alloc (.cells #[.int .u8 t.b.toNat, .int .i64 t.n, .int .i64 t.d] 193)).drew HT1.out.drew.lens (by decide) (by decide) (by show 3 ≤ t.n; omega) (by omega))
     rw [hpl] at HPL
     have HY := Lib.hid hy.symm
     have HST := Lib.hid hst2
     have HDT := Lib.hid hdt2
     have HC2 := Lib.hid hC2
     have HB2 := Lib.hid hB2
     have HT2 := Lib.hid hT2
     clear hst hst2 hdt hdt2 hd0 hd1 hn0 hx hy hsy HSS hC hC1 HT1 hB hK hQ hK2 l2 l3 d2 d3 hpl hC2 hB2 hT2 hx1
     go_wp2_with fail
     rw [← htg]
     rw [← htg] at HB2
     clear htg
     go_region_with ((go_at_call 167; with_reducible refine HPL.out.mono ?_; rintro e wp ⟨rfl, rfl⟩))
     clear HPL hc1 ca fa t0 t1 t2
     generalize ((wr.alloc (.cells #[.int .u8 t.b.toNat, .int .i64 t.n, .int .i64 t.d] 193)).setCell ⟨a, K2, none⟩ (.int .i64 (x + 1))).drew = w4 at *
     obtain ⟨ca, fa⟩ := HC2.out.atD Q (by omega)
     have hyd : (distTo l j).getD Q 0 = y := HY.out
     rw [hyd] at ca
     have hc2 : w4.cell? ⟨tg, 2, none⟩ = some (.int .i64 t.d) := by rw [HB2.out.cell]; rfl
     have HPD := Lib.hid (place_any 15 30 30 t.d (some ⟨13, 0, none⟩) Inf.Dists w4.drew HT2.out.drew.dists (by decide) (by decide) (by show 1 ≤ t.d; omega) (by omega))
     rw [hpd] at HPD
     have HC3 := Lib.hid ((HC2.out.setD Q (by omega) (y + 1)).drew)
     clear hpd hyd HC2
     go_wp2_with fail
     go_region_with ((go_at_call 167; with_reducible refine HPD.out.mono ?_; rintro e wp ⟨rfl, rfl⟩))
     clear HPD hc2 ca fa HB2 HT2
     go_wp2_with fail
     go_roundw
     case rel => exact ⟨j + 1, hlt, by go_num, by rw [HST.out, HDT.out]; exact HC3.out⟩
     case measure => simp [intOf]; omega
   ·as_aux_lemma =>
    have hj2 : j = l.length := by omega
    subst hj2
    have e1 : symTo l l.length = Inf.symCounts l := by unfold symTo; rw [List.take_length]; rfl
    have e2 : distTo l l.length = Inf.distCounts l := by unfold distTo; rw [List.take_length]; rfl
    rw [e1, e2] at hC
    clear e1 e2
    go_wp2
    go_ret2
    exact ⟨_, _, _, _, rfl, hC.s, hC.d, (fun x h1 h2 => by injection h1 with h1; injection h2 with h2; exact hC.ne (h1.trans h2.symm)), hC.bel⟩
end Go.Proofs.YtkegkelaffohjaaGreatDoor
