/- tiles.Of: the walk. -/
import Derived.Test.YtmimdckcbmmplaaGreatDoorNewTile
import Derived.Test.YtmimdckcbmmplaaGreatDoorRects
import Derived.Test.YtmimdckcbmmplaaGreatDoorCode
namespace Go.Proofs.YtmimdckcbmmplaaGreatDoor
open Go Go.RowKit

theorem tmInfo : (Tryz.prog.info? 58).map (fun i => (i.zero, i.size, i.bytes)) = some (some (.pointer none), 1, 8) := by kernel_rfl
/-- What stands through Of's loop. -/
structure OfR (W H : Nat) (A : Option Addr) (n c : Nat) (w : World) (gG : Nat) (v : Value) (ts : List TM) (wr : World) : Prop where
  b1 : Blk wr w.heap.size 24 #[.int .i64 W, .int .i64 H, .slice A n c]
  bG : Blk wr gG 56 #[.int .i64 W, .int .i64 H, v]
  own : Own wr (gG + 1) 1 v ts.length (tmCells ts)
  ti : ∀ t ∈ ts, TileIn wr t
  ab : ∀ t ∈ ts, Above (gG + 1) t
  off : ∀ t ∈ ts, Off v.ownBlock t
  gh : w.heap.size + 1 ≤ gG
  bel : Below w.heap.size w wr
section
variable {W H : Nat} {A : Option Addr} {n c : Nat} {w wr w' : World} {gG : Nat} {v v' : Value} {ts : List TM}
theorem OfR.step (h : OfR W H A n c w gG v ts wr) (hb : Below wr.heap.size wr w') : OfR W H A n c w gG v ts w' :=
  ⟨h.b1.below hb h.b1.lt, h.bG.below hb h.bG.lt, h.own.below hb (Nat.le_refl _), fun t ht => (h.ti t ht).step hb, h.ab, h.off, h.gh, h.bel.trans (hb.mono (by have := h.b1.lt; omega))⟩
theorem OfR.nG (h : OfR W H A n c w gG v ts wr) : v.ownBlock ≠ some gG := fun e => by have := (h.own.lt _ e).1; omega
theorem OfR.push {wi wA wT : World} {t : TM} {o : Obj} (F : OfR W H A n c w gG v ts wi) (hb : Below wi.heap.size wi wA) (ht : TileIn wA t) (hta : Above wi.heap.size t)
    (ho : Own wT (gG + 1) 1 v' (ts.length + 1) (tmCells ts ++ [tmPtr t])) (hg : (wA.alloc o).grownBy wT v.ownBlock) (hat : v'.ownBlock = v.ownBlock ∨ v'.ownBlock = some (wA.alloc o).heap.size) :
    OfR W H A n c w gG v' (ts ++ [t]) (wT.setCell ⟨gG, 2, none⟩ v') := by
  have F1 := (F.step hb).step (Below.alloc (Below.refl _ _) (Nat.le_refl _) o)
  have ht1 := ht.step (Below.alloc (Below.refl _ _) (Nat.le_refl _) o)
  have h1 := F1.b1.lt
  have hG := F1.bG.lt
  have hGi := F.bG.lt
  have hgh := F.gh
  have nv : ∀ g, g < gG + 1 → some g ≠ v.ownBlock := fun g hg' e => by have := (F1.own.lt g e.symm).1; omega
  have n5 : v'.ownBlock ≠ some gG := fun e => by have := (ho.lt _ e).1; omega
  have hotv : Off v.ownBlock t := by
    cases hv : v.ownBlock with
    | none => exact Off.none_ t
    | some g => exact hta.off (by have := (F.own.lt g hv).2; exact this)
  have hall : ∀ s ∈ ts ++ [t], TileIn (wA.alloc o) s ∧ Above (gG + 1) s ∧ Off v.ownBlock s := by
    intro s hs
    rcases List.mem_append.1 hs with hs | hs
    · exact ⟨F1.ti s hs, F.ab s hs, F.off s hs⟩
    · rw [List.mem_singleton.1 hs]
      exact ⟨ht1, hta.mono (by omega), hotv⟩
  refine ⟨(F1.b1.grown hg (nv _ (by omega))).far (by simp; omega) _, ?_, ?_, fun s hs => ?_, fun s hs => (hall s hs).2.1, fun s hs => ?_, F.gh, ?_⟩
  · have := (F1.bG.grown hg (nv _ (by omega))).set_ 2 v'
    simpa using this
  · rw [List.length_append, tmCells_append]
    exact ho.setCell n5 _
  · exact (((hall s hs).1.grown hg (hall s hs).2.2)).set_ ((hall s hs).2.1.off (by simp)) _
  · rcases hat with e | e
    · rw [e]; exact (hall s hs).2.2
    · rw [e]; exact (hall s hs).1.off (Nat.le_refl _)
  · exact (F1.bel.grown hg (by omega) (fun g e => by have := (F1.own.lt g e).1; omega)).setCell (by show w.heap.size ≤ gG; omega) _
theorem OfR.gd (h : OfR W H A n c w gG v ts wr) : Gd wr gG W H ts := by
  obtain ⟨Av, cv, hv, _, hr⟩ := h.own.form
  subst hv
  exact ⟨⟨Av, cv, h.bG, hr⟩, h.ti⟩
end

/-- The list of tiles' places stands through the loop. -/
structure RcK (gG : Nat) (Ar : Option Addr) (N : Nat) (l : List Til.R) (v : Value) (wr : World) : Prop where
  rd : Reads wr wr.heap.size 4 Ar N (rcCells l)
  nv : ∀ b off, Ar = some ⟨b, off, none⟩ → 0 < N → v.ownBlock ≠ some b
  ng : ∀ b off, Ar = some ⟨b, off, none⟩ → gG < b
theorem RcK.step {gG : Nat} {Ar : Option Addr} {N : Nat} {l : List Til.R} {v : Value} {wr w' : World} (h : RcK gG Ar N l v wr) (hb : Below wr.heap.size wr w') : RcK gG Ar N l v w' := ⟨(h.rd.below hb (Nat.le_refl _)).more hb.size, h.nv, h.ng⟩
theorem RcK.push {gG : Nat} {Ar : Option Addr} {N : Nat} {l : List Til.R} {v v' : Value} {wi wA wT : World} {o : Obj} (h : RcK gG Ar N l v wi) (hb : Below wi.heap.size wi wA) (hg : (wA.alloc o).grownBy wT v.ownBlock) (hat : v'.ownBlock = v.ownBlock ∨ v'.ownBlock = some (wA.alloc o).heap.size) :
    RcK gG Ar N l v' (wT.setCell ⟨gG, 2, none⟩ v') := by
  have h1 := (h.step hb).step (Below.alloc (Below.refl _ _) (Nat.le_refl _) o)
  refine ⟨?_, fun b off e hn => ?_, h.ng⟩
  · have h2 := h1.rd.keepAt hg.size fun b off e hb2 hn => hg.block b hb2 (fun e2 => h.nv b off e (by omega) e2.symm)
    exact h2.keepAt (by simp [World.setCell]) fun b off e _ _ => Below.heap_setCell wT ⟨gG, 2, none⟩ v' b (fun e2 => by have := h.ng b off e; simp at e2; omega)
  · rcases hat with e2 | e2
    · rw [e2]; exact h.nv b off e hn
    · rw [e2]
      intro e3
      injection e3 with e3
      obtain ⟨b2, o2, e4, hb2, _⟩ := h1.rd.2 (by omega)
      rw [e] at e4
      injection e4 with e4
      injection e4 with e4
      omega

set_option maxRecDepth 100000 in
set_option maxHeartbeats 4000000 in
theorem of_good (W H : Nat) (A : Option Addr) (n c : Nat) (ps : List Px) (w : World) (hp : Reads w w.heap.size 4 A n (pxCells ps)) (hW : 1 ≤ W ∧ W ≤ 256) (hH : 1 ≤ H ∧ H ≤ 256) (hn : ps.length = H * W) :
    Calls Tryz.prog 6 #[.agg #[.int .i64 W, .int .i64 H, .slice A n c]] w
      fun e w' => ∃ gG ts, e = .returned (.tuple #[.pointer (some ⟨gG, 0, none⟩), .nilIface]) ∧ Gd w' gG W H ts ∧ TsOf ps W H ts ∧ Below w.heap.size w w' := by
  obtain ⟨i0, hi, hz0, hz1, hz2⟩ := info_parts tmInfo
  have hpl := hp.pxLen
  have HRB := Lib.hid (show rightB (W : Int) (H : Int) n = true by
    have h1 : sideB (W : Int) = true := by simp [sideB]; omega
    have h2 : sideB (H : Int) = true := by simp [sideB]; omega
    simp only [rightB, h1, h2, Bool.true_and]
    rw [hpl, hn, Int.natCast_mul, Int.mul_comm]
    simp)
  have HP := Lib.hid hp
  have HN := Lib.hid hn
  obtain ⟨hW1, hW2⟩ := hW
  obtain ⟨hH1, hH2⟩ := hH
  clear hp hn hpl
  go_enter Tryz.func6, Tryz.ntmps6
  go_wp2_with fail
  refine (rright_any W H A n c _).mono ?_
  rw [HRB.out]
  rintro e w1 ⟨rfl, hb1⟩
  have B1 := (Blk.new w 24 #[.int .i64 W, .int .i64 H, .slice A n c] rfl).below hb1 (by simp)
  have hbw : Below w.heap.size w w1 := Below.trans (by go_grown) (hb1.mono (by simp))
  have c1 := B1.cell
  have l1 := B1.lt
  clear hb1
  go_wp2_with fail
  obtain ⟨gG, hgG⟩ : ∃ gG, gG = w1.heap.size := ⟨_, rfl⟩
  obtain ⟨w2, hw2⟩ : ∃ w2, w2 = w1.alloc (.cells #[.int .i64 W, .int .i64 H, .slice none 0 0] 56) := ⟨_, rfl⟩
  have F0 : OfR W H A n c w gG (.slice none 0 0) [] w2 := by
    rw [hw2, hgG]
    exact ⟨B1.alloc _, Blk.new _ _ _ rfl, Own.nil _ _ _, (fun t h => by cases h), (fun t h => by cases h), (fun t h => by cases h), by omega, hbw.alloc hbw.size _⟩
  rw [← hw2, ← hgG]
  clear hw2 hgG B1 hbw c1 l1
  refine (rects_any W H _ hW2 hH2).mono ?_
  rintro e w3 ⟨Ar, cr, rfl, hO, hb3⟩
  have F3 := F0.step hb3
  have R3 : RcK gG Ar (Til.rects W H).length (Til.rects W H) (.slice none 0 0) w3 := ⟨hO.reads.2, (fun b off e _ e2 => by simp [Value.ownBlock] at e2), fun b off e => by have := (hO.lt b (by rw [e]; rfl)).1; have := F0.bG.lt; omega⟩
  have hlr := Til.rects_length W H
  obtain ⟨N, hN⟩ : ∃ N, (Til.rects W H).length = N := ⟨_, rfl⟩
  have hN1 : N ≤ 1000 := by
    have h1 : Til.cols W ≤ 16 := by unfold Til.cols; omega
    have h2 : Til.cols H ≤ 16 := by unfold Til.cols; omega
    have := Nat.mul_le_mul h2 h1
    omega
  have HNN := Lib.hid hN
  rw [hN] at R3 ⊢
  clear F0 hO hlr hN hb3
  go_wp2_with fail
  go_loopw [23] (fun i wr => ∃ (k : Nat) (v : Value) (ts : List TM), k ≤ N ∧ i = .int .i64 k ∧ OfR W H A n c w gG v ts wr ∧ RcK gG Ar N (Til.rects W H) v wr ∧ ts.map (·.l) = ((Til.rects W H).take k).map (fun r => Til.small (Til.crop ps W r)) ∧ ts.map (·.w) = ((Til.rects W H).take k).map (·.w)) (fun i _ => N - (intOf i).toNat)
  case atStart => exact ⟨0, _, [], Nat.zero_le _, rfl, F3, R3, rfl, rfl⟩
  case round =>
    clear F3 R3
    obtain ⟨k, v, ts, hk, rfl, F, RK, hl1, hl2⟩ := hrel
    obtain ⟨wi, rfl⟩ : ∃ wi : World, wi = wr := ⟨_, rfl⟩
    have HL1 := Lib.hid hl1
    have HL2 := Lib.hid hl2
    have htl : ts.length = k := by
      have := congrArg List.length hl1
      rw [List.length_map, List.length_map, List.length_take, HNN.out] at this
      omega
    have HTL := Lib.hid htl
    clear hl1 hl2
    by_cases hlt : k < N
    · obtain ⟨br, orr, rfl, hbrr⟩ := RK.rd.addr (by omega)
      have hkl : k < (Til.rects W H).length := by rw [HNN.out]; exact hlt
      obtain ⟨x0, x1, x2, x3⟩ := RK.rd.rc k hkl
      have hrin := Til.rects_in (List.getElem_mem hkl)
      have HTK := Lib.hid (List.take_succ_eq_append_getElem hkl)
      obtain ⟨r, hr⟩ : ∃ r, (Til.rects W H)[k] = r := ⟨_, rfl⟩
      rw [hr] at x0 x1 x2 x3 hrin HTK
      obtain ⟨Av, cv, hv, hcv, _⟩ := F.own.form
      subst hv
      obtain ⟨m, hm⟩ : ∃ m, ts.length = m := ⟨_, rfl⟩
      have hm1 : m ≤ 1000 := by rw [← hm, htl]; omega
      have hFo := F.own
      have F' := F.step (Below.alloc (Below.refl _ _) (Nat.le_refl _) (.cells #[.int .i64 r.x, .int .i64 r.y, .int .i64 r.w, .int .i64 r.h] 35))
      have RK' := RK.step (Below.alloc (Below.refl _ _) (Nat.le_refl _) (.cells #[.int .i64 r.x, .int .i64 r.y, .int .i64 r.w, .int .i64 r.h] 35))
      rw [hm] at hFo F' RK' F
      have HM := Lib.hid hm
      clear hr hkl htl hcv hm
      go_wp2_with fail
      obtain ⟨gB, hgB⟩ : ∃ gB, gB = wi.heap.size := ⟨_, rfl⟩
      obtain ⟨wB, hwB⟩ : ∃ wB, wB = wi.alloc (.cells #[.int .i64 r.x, .int .i64 r.y, .int .i64 r.w, .int .i64 r.h] 35) := ⟨_, rfl⟩
      have BB : Blk wB gB 35 #[.int .i64 r.x, .int .i64 r.y, .int .i64 r.w, .int .i64 r.h] := by rw [hwB, hgB]; exact Blk.new _ _ _ rfl
      rw [← hwB] at F' RK'
      rw [← hwB, ← hgB]
      have s0 : wB.cell? ⟨w.heap.size, 0, none⟩ = some (.int .i64 W) := (F'.b1.cell 0).trans rfl
      have s1 : wB.cell? ⟨w.heap.size, 1, none⟩ = some (.int .i64 H) := (F'.b1.cell 1).trans rfl
      have s2 : wB.cell? ⟨w.heap.size, 2, none⟩ = some (.slice A n c) := (F'.b1.cell 2).trans rfl
      have s3 : wB.cell? ⟨gB, 0, none⟩ = some (.int .i64 r.x) := (BB.cell 0).trans rfl
      have s4 : wB.cell? ⟨gB, 1, none⟩ = some (.int .i64 r.y) := (BB.cell 1).trans rfl
      have s5 : wB.cell? ⟨gB, 2, none⟩ = some (.int .i64 r.w) := (BB.cell 2).trans rfl
      have s6 : wB.cell? ⟨gB, 3, none⟩ = some (.int .i64 r.h) := (BB.cell 3).trans rfl
      have s7 : wB.cell? ⟨gG, 2, none⟩ = some (.slice Av m cv) := (F'.bG.cell 2).trans rfl
      have hGl := F'.bG.lt
      have p7 := fun o => cell_past (w := wB) o s7
      have RP := (HP.out.below F'.bel (Nat.le_refl _)).more F'.bel.size
      have HCUT := Lib.hid (cut_any W H A n c ps r wB.drew RP hW2 hH2 HN.out hrin)
      have HF := Lib.hid F'
      have HRK := Lib.hid RK'
      have HFO := Lib.hid (show Own wB (gG + 1) 1 (.slice Av m cv) m (tmCells ts) by have h := F'.own; rw [HM.out] at h; exact h)
      have HFG := Lib.hid (F'.bG.free 2)
      have HFN := Lib.hid F'.nG
      clear hwB hgB BB F' RK' F RK hFo x0 x1 x2 x3 RP hrin
      go_region_law
        (first
          | (go_simp; go_at_call 23; refine HCUT.out.mono ?_; rintro e wA ⟨t, rfl, htw, hta, htl, hti, hbA⟩; have hzA : wB.heap.size ≤ wA.heap.size := hbA.size; have a7 := bkeep hbA s7; have r7 := fun o => cell_past (w := wA) o a7; have hbI := Below.fromDrew hbA; have HOA := HFO.out.below hbI (Nat.le_refl _))
          | (refine step_append_Own _ rfl (.tmp 31) (.tmp 35) 54 54 rfl (gG + 1) 58 i0 _ 1 8 Tryz.underlying54 hi hz0 hz1 hz2 rfl (by decide) (.slice Av m cv) m (tmCells ts) rfl (HOA.alloc _) (tmCells_one _) 1 [tmPtr t] (Src.blk Tryz.underlying54 (Blk.new _ _ _ rfl) rfl (tmCells_one [t])) (by unfold maxLen; omega) (by omega) (by simp; omega) ?_; intro vT wT hownT hgT hatT; obtain ⟨AT, cT, rfl, hcT, _⟩ := hownT.form; have t5 : wT.cell? ⟨gG, 2, none⟩ = some (.slice Av m cv) := (hgT.cell_far ⟨gG, 2, none⟩ (by simp; omega) (fun e => HFN.out e.symm)).trans (cell_past _ (bkeep hbA s7)); have f5 : wT.frozen? ⟨gG, 2, none⟩ = false := (hgT.frozen_far ⟨gG, 2, none⟩ (by simp; omega) (fun e => HFN.out e.symm)).trans (free_past _ (by simp; omega) (bfree_ hbA hGl HFG.out))))
      all_goals
        have F9 := HF.out.push (Below.fromDrew hbA) hti hta (by rw [HM.out]; exact hownT) hgT hatT
        have R9 := HRK.out.push (Below.fromDrew hbA) hgT hatT
        have HF9 := Lib.hid F9
        have HR9 := Lib.hid R9
        have HTW := Lib.hid htw
        have HTLL := Lib.hid htl
        clear F9 R9 hownT hgT hatT t5 f5 a7 r7 p7 s0 s1 s2 s3 s4 s5 s6 s7 htw hta htl hti hbA HOA hbI
        go_wp2_with fail
        go_roundw
        case rel =>
          refine ⟨k + 1, _, ts ++ [t], by omega, by go_num, HF9.out, HR9.out, ?_, ?_⟩
          · rw [HTK.out, List.map_append, List.map_append, HL1.out]
            simp only [List.map_cons, List.map_nil, HTLL.out]
          · rw [HTK.out, List.map_append, List.map_append, HL2.out]
            simp only [List.map_cons, List.map_nil, HTW.out]
        case measure => simp [intOf]; omega
    · have e : k = N := by omega
      have hl1 := HL1.out
      have hl2 := HL2.out
      rw [e, ← HNN.out, List.take_length] at hl1 hl2
      have HTS := Lib.hid (show TsOf ps W H ts from ⟨hl1, hl2⟩)
      have HGD := Lib.hid F.gd
      have hbw := F.bel
      clear hl1 hl2 e htl
      go_wp2_with fail
      go_ret2
      exact ⟨gG, ts, rfl, HGD.out, HTS.out, hbw⟩
end Go.Proofs.YtmimdckcbmmplaaGreatDoor
