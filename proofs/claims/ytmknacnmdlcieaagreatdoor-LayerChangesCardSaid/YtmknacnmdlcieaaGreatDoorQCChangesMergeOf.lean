/- MergeOf of the reference: the walk. Printed by mkmergeof.py. -/
import Derived.Test.YtmknacnmdlcieaaGreatDoorQCChangesMoveOf
import Derived.Test.YtmknacnmdlcieaaGreatDoorFlatOf
import Derived.Test.YtmknacnmdlcieaaGreatDoorKCChanges2
import Derived.Deep.RegionHeld3
import Derived.Deep.Cut
import Derived.Deep.DeepCutAuto
namespace Go.Proofs.YtmknacnmdlcieaaGreatDoor
open Go Go.RowKit

/-- A block that holds one layer, as a slice of it. -/
theorem Own.ofBlk {w : World} {g T base : Nat} {xs : List Value} (h : Blk w g T xs.toArray) (hb : base ≤ g) (hl : xs.length = 9) : Own w base 9 (.slice (some ⟨g, 0, none⟩) 1 1) 1 xs := by
  refine ⟨by omega, .inr ⟨g, 0, 1, rfl, hb, h.lt, Nat.le_refl _, by unfold maxLen; omega, fun j hj => ?_, fun j hj => ⟨?_, h.free _⟩⟩⟩
  · rw [Nat.zero_add, h.cell]; simp
  · rw [Nat.zero_add, h.cell, Array.getElem?_eq_getElem (by simp; omega)]; rfl

/-- The merged layer, in a slice of its own. -/
def MgO (W' H' : Nat) (name : ByteArray) (N : Nat) (L : List Px) (wc : World) (s : Value) (wx : World) : Prop :=
  ∃ gM Ap cp, s = .slice (some ⟨gM, 0, none⟩) 1 1 ∧ wc.heap.size ≤ gM ∧ Blk wx gM 29 (layCs ⟨Lay.merged name W' H' L, Ap, N, cp⟩).toArray ∧ Reads wx gM 4 Ap N (pxCells L) ∧ Below wc.heap.size wc wx
theorem LaysO.ofReads {w' : World} {B base' : Nat} {v' : Value} {xs : List LM} (hp : ∀ m ∈ xs, Reads w' B 4 m.A m.n (pxCells m.l.ps)) (ho : Own w' base' 9 v' xs.length (layCells xs)) (hB : B ≤ base') (hs : B ≤ w'.heap.size) : LaysO w' base' v' xs :=
  ⟨ho, fun m hm => (hp m hm).more hs, fun m hm b off e hn e2 => by
    obtain ⟨b', off', e', hb', _⟩ := (hp m hm).2 (by omega)
    rw [e] at e'
    injection e' with e'
    injection e' with e' _
    have := (ho.lt _ e2).1
    omega⟩
set_option maxRecDepth 100000 in
set_option maxHeartbeats 4000000 in
theorem mergeOf_any (W' H' : Nat) (A : Option Addr) (n c k : Nat) (ms : List LM) (name : ByteArray) (L : List Px) (w : World) (hL : Lays w w.heap.size A n ms) (hG : Lay.Good W' H' (lsOf ms)) (hk : k < n) (hnm : ∀ h : k < ms.length, ms[k].l.name = name) (hq : Lay.flat ((lsOf ms).take (k + 1)) W' H' = L) :
    Calls Tryz.prog 19 #[.agg #[.int .i64 W', .int .i64 H', .slice A n c], .int .i64 k] w
      fun e w' => ∃ A' c' ns, e = .returned (.agg #[.int .i64 W', .int .i64 H', .slice A' ns.length c']) ∧ LaysO w' w.heap.size (.slice A' ns.length c') ns ∧ lsOf ns = Lay.merged name W' H' L :: (lsOf ms).drop (k + 1) ∧ Below w.heap.size w w' := by
  obtain ⟨i0, hi, hz0, hz1, hz2⟩ := info_parts layInfo3
  obtain rfl := hL.len
  have hn8 : ms.length ≤ 8 := by have := hG.n; rw [lsOf_len] at this; exact this
  obtain ⟨n, hnE⟩ : ∃ n, n = ms.length := ⟨_, rfl⟩
  have hok := layOK_of hG hL
  have hpm : ∀ m ∈ ms, m.n ≤ 1048576 := by
    intro m hm
    have h := hok m hm
    obtain ⟨h1, h2⟩ := h.wd
    obtain ⟨h3, h4⟩ := h.hg
    have h5 := h.n
    obtain ⟨z1, z2⟩ := mul_bounds (show 0 ≤ m.l.wide by omega) h2 (show 0 ≤ m.l.high by omega) h4
    omega
  have hside : (1 ≤ W' ∧ W' ≤ 256) ∧ (1 ≤ H' ∧ H' ≤ 256) := by
    obtain ⟨a1, a2⟩ := sideB_true hG.wd
    obtain ⟨a3, a4⟩ := sideB_true hG.hg
    omega
  obtain ⟨hW2, hH2⟩ := hside
  rw [← hnE] at hL hk hn8 ⊢
  obtain ⟨b0, off0, rfl, hbl⟩ := hL.1.addr (by omega)
  have qn := hL.at k (by omega) 0 (by omega)
  simp only [layCs, List.getElem?_cons_zero] at qn
  rw [hnm (by omega), Nat.add_zero] at qn
  have HQN := Lib.hid qn
  have HLN := Lib.hid hnE
  have HL0 := Lib.hid hL
  have HL1 := Lib.hid (fun o o2 => (hL.step (Below.alloc (Below.refl _ _) (Nat.le_refl _) o)).step (Below.alloc (Below.refl _ _) (Nat.le_refl _) o2))
  have HPP := Lib.hid hpm
  have HGG := Lib.hid hG
  have HQ := Lib.hid hq
  clear hL hpm hok hG hq hnE qn hnm
  go_enter Tryz.func19, Tryz.ntmps19
  go_wp2_with fail
  refine (refOwn_any W' H' _ n c ms _ (HL1.out _ _) (by omega) HPP.out).mono ?_
  rintro e w1 ⟨A1, c1, ns, rfl, hO, hns, hhi, hb1⟩
  have BD := (Blk.new w 24 #[.int .i64 W', .int .i64 H', .slice (some ⟨b0, off0, none⟩) n c] rfl).alloc (.cells #[.int .i64 0, .int .i64 0, .slice none 0 0] 24) |>.below hb1 (by simp; omega)
  have B4 := (Blk.new (w.alloc (.cells #[.int .i64 W', .int .i64 H', .slice (some ⟨b0, off0, none⟩) n c] 24)) 24 #[.int .i64 0, .int .i64 0, .slice none 0 0] rfl).below hb1 (by simp)
  simp at B4
  have HBW := Lib.hid (Below.trans (show Below w.heap.size w ((w.alloc (.cells #[.int .i64 W', .int .i64 H', .slice (some ⟨b0, off0, none⟩) n c] 24)).alloc (.cells #[.int .i64 0, .int .i64 0, .slice none 0 0] 24)) by go_grown) (hb1.mono (by simp; omega)))
  have HNL := Lib.hid (same_lays hns)
  obtain ⟨g, off, rfl, hg1, hg2⟩ := hO.own.addr (by have := HNL.out; have := HLN.out; omega)
  have hkn : k < ns.length := by have := HNL.out; have := HLN.out; omega
  have hnn : ns.length ≤ 4096 := by have := HNL.out; have := HLN.out; omega
  have hroom : ns.length ≤ c1 ∧ c1 ≤ 9223372036854775807 := by
    obtain ⟨h1, h2, _⟩ := hO.own.room
    unfold maxLen at h2
    exact ⟨h1, h2⟩
  obtain ⟨hr1, hr2⟩ := hroom
  have HO := Lib.hid hO
  have HNS := Lib.hid hns
  have HBD := Lib.hid BD
  have HB4 := Lib.hid B4
  have l4 := B4.lt
  clear hns hhi hb1 hO BD B4
  go_upto_region 2 with fail
  obtain ⟨W2, hW2'⟩ : ∃ W2, W2 = w1.alloc (.cells #[.int .i64 W', .int .i64 H', .slice (some ⟨g, off, none⟩) ns.length c1] 24) := ⟨_, rfl⟩
  obtain ⟨gO, hgO⟩ : ∃ gO, gO = w1.heap.size := ⟨_, rfl⟩
  have b12 : Below w1.heap.size w1 W2 := by rw [hW2']; exact Below.alloc (Below.refl _ _) (Nat.le_refl _) _
  have BO : Blk W2 gO 24 #[.int .i64 W', .int .i64 H', .slice (some ⟨g, off, none⟩) ns.length c1] := by rw [hW2', hgO]; exact Blk.new _ _ _ rfl
  have hgo1 : w1.heap.size ≤ gO := by omega
  have HBD2 := Lib.hid (HBD.out.below b12 HBD.out.lt)
  have HB42 := Lib.hid (HB4.out.below b12 HB4.out.lt)
  have HB12 := Lib.hid b12
  have HBO := Lib.hid BO
  rw [← hW2', ← hgO]
  clear hW2' hgO
  have s0 : W2.cell? ⟨w.heap.size, 0, none⟩ = some (.int .i64 W') := (HBD2.out.cell 0).trans rfl
  have s1 : W2.cell? ⟨w.heap.size, 1, none⟩ = some (.int .i64 H') := (HBD2.out.cell 1).trans rfl
  have s2 : W2.cell? ⟨gO, 2, none⟩ = some (.slice (some ⟨g, off, none⟩) ns.length c1) := (BO.cell 2).trans rfl
  have hzs0 := HBD2.out.lt
  have hzs1 := HBD2.out.lt
  have hzs2 := BO.lt
  obtain ⟨gL, hgL⟩ : ∃ gL, gL = W2.heap.size := ⟨_, rfl⟩
  have HGL := Lib.hid hgL
  have z0 : (0 : Int) ≤ (k : Int) := by omega
  have z1 : (k : Int) < (n : Int) := by omega
  have z2 : (0 : Int) ≤ (k : Int) + 1 := by omega
  have z3 : (k : Int) + 1 ≤ (c1 : Int) := by omega
  have z4 : (k : Int) + 1 ≤ (ns.length : Int) := by omega
  have zt : ((k : Int) + 1).toNat = k + 1 := by omega
  have zw : IntKind.i64.wrap ((k : Int) + 1) = (k : Int) + 1 := IntWalk.i64_in _ (by omega)
  clear b12 BO hgL
  go_cut [6] (fun s wx => s = .pointer (some ⟨gL, 0, none⟩) ∧ Blk wx gL 24 #[.int .i64 W', .int .i64 H', .slice (some ⟨g, off, none⟩) (k + 1) c1] ∧ Below W2.heap.size W2 wx)
  case first =>
    go_region_held3 (fun w' => w'.cell? ⟨w.heap.size, 0, none⟩ = some (.int .i64 W') ∧ w'.cell? ⟨w.heap.size, 1, none⟩ = some (.int .i64 H') ∧ w'.cell? ⟨gO, 2, none⟩ = some (.slice (some ⟨g, off, none⟩) ns.length c1))
      ((go_split_ands
        refine ⟨?_, ?_, ?_⟩
        · ((repeat' (first | (with_reducible exact s0) | (with_reducible refine cell_set_other _ (ne_blk hzs0 _ _) ?_) | (with_reducible refine bkeep hbF ?_) | (with_reducible refine cell_past _ ?_))) <;> first | exact s0 | exact cell_past _ s0)
        · ((repeat' (first | (with_reducible exact s1) | (with_reducible refine cell_set_other _ (ne_blk hzs1 _ _) ?_) | (with_reducible refine bkeep hbF ?_) | (with_reducible refine cell_past _ ?_))) <;> first | exact s1 | exact cell_past _ s1)
        · ((repeat' (first | (with_reducible exact s2) | (with_reducible refine cell_set_other _ (ne_blk hzs2 _ _) ?_) | (with_reducible refine bkeep hbF ?_) | (with_reducible refine cell_past _ ?_))) <;> first | exact s2 | exact cell_past _ s2)))
      (fail)
    all_goals
      go_wp2_with fail
      go_meet
      refine ⟨by rw [HGL.out], ?_⟩
      exact ⟨Blk.drew (Blk.new _ _ _ HGL.out), ((Below.refl _ _).alloc (Nat.le_refl _) _).drew⟩
  case rest =>
    obtain ⟨rfl, BL, b2c⟩ := hcut
    obtain ⟨wo, rfl⟩ : ∃ wo : World, wo = wc := ⟨_, rfl⟩
    have hz24 : W2.heap.size ≤ wo.heap.size := b2c.size
    have hz12 : w1.heap.size ≤ W2.heap.size := HB12.out.size
    have hbc := HB12.out.trans (b2c.mono hz12)
    have HBC := Lib.hid hbc
    have HDc := Lib.hid (HBD2.out.below b2c HBD2.out.lt)
    have HOc := Lib.hid (HBO.out.below b2c HBO.out.lt)
    have H4c := Lib.hid (HB42.out.below b2c HB42.out.lt)
    have HLc := Lib.hid (HO.out.below hbc (Nat.le_refl _))
    have LF := Lib.hid ((HO.out.below hbc (Nat.le_refl _)).lays.head (k + 1) (by omega))
    have HGK := Lib.hid (show Lay.Good W' H' (lsOf (ns.take (k + 1))) by rw [lsOf_take, HNS.out]; exact HGG.out.take _)
    have HOK := Lib.hid (layOK_of HGK.out LF.out)
    have HQK := Lib.hid (show Lay.flat (lsOf (ns.take (k + 1))) W' H' = L by rw [lsOf_take, HNS.out]; exact HQ.out)
    have u0 : wo.cell? ⟨w.heap.size, 2, none⟩ = some (.slice (some ⟨b0, off0, none⟩) n c) := (HDc.out.cell 2).trans rfl
    have u1 : wo.cell? ⟨b0, off0 + k * 9, none⟩ = some (.string name) := bkeep (HBW.out.trans (hbc.mono HBW.out.size)) HQN.out
    have u2 : wo.cell? ⟨gL, 0, none⟩ = some (.int .i64 W') := (BL.cell 0).trans rfl
    have u3 : wo.cell? ⟨gL, 1, none⟩ = some (.int .i64 H') := (BL.cell 1).trans rfl
    have u4 : wo.cell? ⟨gL, 2, none⟩ = some (.slice (some ⟨g, off, none⟩) (k + 1) c1) := (BL.cell 2).trans rfl
    have hlc : gO < wo.heap.size := HOc.out.lt
    clear s0 s1 s2 b2c hbc BL
    go_upto_region 3 with fail
    go_cut [7] (fun s wx => MgO W' H' name (H' * W') L wo s wx)
    case first =>
      go_region_held3 (fun w' => w'.cell? ⟨w.heap.size, 2, none⟩ = some (.slice (some ⟨b0, off0, none⟩) n c) ∧ w'.cell? ⟨b0, off0 + k * 9, none⟩ = some (.string name) ∧ w'.cell? ⟨gL, 0, none⟩ = some (.int .i64 W') ∧ w'.cell? ⟨gL, 1, none⟩ = some (.int .i64 H') ∧ w'.cell? ⟨gL, 2, none⟩ = some (.slice (some ⟨g, off, none⟩) (k + 1) c1))
        ((go_split_ands
          refine ⟨?_, ?_, ?_, ?_, ?_⟩
          · ((repeat' (first | (with_reducible exact u0) | (with_reducible refine cell_set_other _ (ne_blk hzu0 _ _) ?_) | (with_reducible refine bkeep hbF ?_) | (with_reducible refine cell_past _ ?_))) <;> first | exact u0 | exact cell_past _ u0)
          · ((repeat' (first | (with_reducible exact u1) | (with_reducible refine cell_set_other _ (ne_blk hzu1 _ _) ?_) | (with_reducible refine bkeep hbF ?_) | (with_reducible refine cell_past _ ?_))) <;> first | exact u1 | exact cell_past _ u1)
          · ((repeat' (first | (with_reducible exact u2) | (with_reducible refine cell_set_other _ (ne_blk hzu2 _ _) ?_) | (with_reducible refine bkeep hbF ?_) | (with_reducible refine cell_past _ ?_))) <;> first | exact u2 | exact cell_past _ u2)
          · ((repeat' (first | (with_reducible exact u3) | (with_reducible refine cell_set_other _ (ne_blk hzu3 _ _) ?_) | (with_reducible refine bkeep hbF ?_) | (with_reducible refine cell_past _ ?_))) <;> first | exact u3 | exact cell_past _ u3)
          · ((repeat' (first | (with_reducible exact u4) | (with_reducible refine cell_set_other _ (ne_blk hzu4 _ _) ?_) | (with_reducible refine bkeep hbF ?_) | (with_reducible refine cell_past _ ?_))) <;> first | exact u4 | exact cell_past _ u4)))
        ((go_at_call 44; refine (flatOf_any W' H' _ (k + 1) c1 (ns.take (k + 1)) wo.drew LF.out HOK.out (by omega) hW2 hH2).mono ?_; rintro e wF ⟨Ap, cp, rfl, hoF, hbF⟩))
      go_wp2_with fail
      go_meet
      have hbF2 := Below.fromDrew hbF
      have hRF := hoF.reads.2
      rw [HQK.out] at hRF
      exact ⟨wF.heap.size, Ap, cp, rfl, hbF2.size, Blk.new _ _ _ rfl, hRF.alloc (Nat.le_refl _) _, hbF2.alloc hbF2.size _⟩
    case rest =>
      obtain ⟨gM, Ap, cp, rfl, hgM, BM, hRM, hbM⟩ := hcut
      have B4d := Lib.hid (H4c.out.below hbM H4c.out.lt)
      have BOd := Lib.hid (HOc.out.below hbM HOc.out.lt)
      have HLd := Lib.hid (HLc.out.below hbM (Nat.le_refl _))
      have HBd := Lib.hid (HBW.out.trans ((HBC.out.trans (hbM.mono HBC.out.size)).mono HBW.out.size))
      have HBM := Lib.hid BM
      have HRM := Lib.hid hRM
      have hgMl : gM < wc.heap.size := BM.lt
      have hgO : gO < gM := by omega
      have hg4 : w.heap.size + 1 < gM := by have := H4c.out.lt; omega
      have hne4 : ¬ gO = w.heap.size + 1 := by have := HB4.out.lt; omega
      have hne4' : ¬ w.heap.size + 1 = gO := by have := HB4.out.lt; omega
      have cO := BOd.out.cell
      have y1 : (0 : Int) ≤ (k : Int) + 1 := by omega
      have y2 : (k : Int) + 1 ≤ (ns.length : Int) := by omega
      have y3 : (ns.length : Int) ≤ (c1 : Int) := by omega
      have hbMo := Lib.hid hbM
      clear hbM BM hRM u0 u1 u2 u3 u4
      by_cases hck : c1 = k + 1
      · subst hck
        have hn1 : ns.length = k + 1 := by omega
        have HR2 := Lib.hid (show Reads wc wc.heap.size 9 (some ⟨g, off, none⟩) (0) (layCells (ns.drop (k + 1))) from Reads.none9 (by omega))
        have HNO : some gO ≠ (Value.slice (some ⟨gM, 0, none⟩) 1 1).ownBlock := by simp [Value.ownBlock]; omega
        have HN4 : some (w.heap.size + 1) ≠ (Value.slice (some ⟨gM, 0, none⟩) 1 1).ownBlock := by simp [Value.ownBlock]; omega
        go_wp2_with (at_builtin; refine wpList_append_S rfl (.tmp 30) (.tmp 35) 22 22 rfl (gM) 29 i0 _ 9 96 Tryz.underlying22 hi hz0 hz1 hz2 rfl (by decide) (.slice (some ⟨gM, 0, none⟩) 1 1) (1) (layCs ⟨Lay.merged name W' H' L, Ap, H' * W', cp⟩) rfl (Own.ofBlk HBM.out (Nat.le_refl _) rfl) (by intro u hu; exact layCells_one [⟨Lay.merged name W' H' L, Ap, H' * W', cp⟩] u (by rw [layCells_single]; exact hu)) (0) (layCells (ns.drop (k + 1))) (Reads.src Tryz.underlying22 HR2.out (by decide) (layCells_one _) _) (1 + 0) (by omega) (layCs ⟨Lay.merged name W' H' L, Ap, H' * W', cp⟩ ++ layCells (ns.drop (k + 1))) (rfl) (by unfold maxLen; omega) (by omega) (by omega) ?_; intro A3 c3 wn hownn hgn hatn; have HDm := BOd.out.grown hgn HNO; have cDm := HDm.cell; have fDm := HDm.free; have lDm := HDm.lt; have B4m := B4d.out.grown hgn HN4; have c4m := B4m.cell; have f4m := B4m.free; have l4m := B4m.lt)
        have HDn := BOd.out.grown hgn HNO
        have B4n := B4d.out.grown hgn HN4
        have bMn : Below gM wc wn := (Below.refl gM wc).grown hgn (by omega) (fun g' e => by have e2 : some gM = some g' := e; injection e2 with e2; omega)
        have hzn := hgn.size
        have hxs : ((⟨Lay.merged name W' H' L, Ap, H' * W', cp⟩ : LM) :: ns.drop (k + 1)).length = 1 + 0 := by rw [List.length_cons, List.length_drop]; omega
        have hpx : ∀ x ∈ (⟨Lay.merged name W' H' L, Ap, H' * W', cp⟩ : LM) :: ns.drop (k + 1), Reads wn gM 4 x.A x.n (pxCells x.l.ps) := fun x hx => by
          rcases List.mem_cons.1 hx with h | h
          · subst h
            exact HRM.out.below bMn (Nat.le_refl _)
          · exact ((HLc.out.px x (List.mem_of_mem_drop h)).below (hbMo.out.trans (bMn.mono hgM)) (Nat.le_refl _)).more hgM
        have F0 : LaysO wn gM (.slice A3 (1 + 0) c3) (⟨Lay.merged name W' H' L, Ap, H' * W', cp⟩ :: ns.drop (k + 1)) := LaysO.ofReads hpx (by rw [hxs]; exact hownn) (Nat.le_refl _) (by omega)
        have nb : ∀ G, G < gM → (Value.slice A3 (1 + 0) c3).ownBlock ≠ some G := fun G hG e => by have := (hownn.lt _ e).1; omega
        have offO : ∀ x ∈ (⟨Lay.merged name W' H' L, Ap, H' * W', cp⟩ : LM) :: ns.drop (k + 1), OffB gO x := fun x hx => OffB.blk (hpx x hx) HDn
        have off4 : ∀ x ∈ (⟨Lay.merged name W' H' L, Ap, H' * W', cp⟩ : LM) :: ns.drop (k + 1), OffB (w.heap.size + 1) x := fun x hx => OffB.blk (hpx x hx) B4n
        have F := (((F0.farB (p := ⟨gO, 2, none⟩) (nb _ hgO) offO (.slice A3 (1 + 0) c3)).farB (p := ⟨w.heap.size + 1, 0, none⟩) (nb _ hg4) off4 (.int .i64 W')).farB (p := ⟨w.heap.size + 1, 1, none⟩) (nb _ hg4) off4 (.int .i64 H')).farB (p := ⟨w.heap.size + 1, 2, none⟩) (nb _ hg4) off4 (.slice A3 (1 + 0) c3)
        refine bodyPost_ret (v := .agg #[.int .i64 W', .int .i64 H', .slice A3 (1 + 0) c3]) (by simp [results, Tryz.results19, go_sem, B4n.cell]) rfl ?_
        have hz2 : w.heap.size ≤ w.heap.size + 1 := by omega
        have hbn := (HBd.out.grown hgn (by omega) (fun g' e => by have e2 : some gM = some g' := e; injection e2 with e2; omega)).setCell (p := ⟨gO, 2, none⟩) (by show w.heap.size ≤ gO; omega) (.slice A3 (1 + 0) c3)
        refine ⟨A3, c3, _, by rw [hxs], by rw [hxs]; exact F.mono (by omega), ?_, ((hbn.setCell hz2 _).setCell hz2 _).setCell hz2 _⟩
        show Lay.merged name W' H' L :: lsOf (ns.drop (k + 1)) = _
        rw [lsOf_drop, HNS.out]
      · obtain ⟨m, hm⟩ : ∃ m, ns.length = k + 1 + m := ⟨ns.length - (k + 1), by omega⟩
        have HR2 := Lib.hid (show Reads wc wc.heap.size 9 (some ⟨g, off + (k + 1) * 9, none⟩) (m) (layCells (ns.drop (k + 1))) from (HLd.out.lays.1).tail (k + 1) m (by omega))
        have HNO : some gO ≠ (Value.slice (some ⟨gM, 0, none⟩) 1 1).ownBlock := by simp [Value.ownBlock]; omega
        have HN4 : some (w.heap.size + 1) ≠ (Value.slice (some ⟨gM, 0, none⟩) 1 1).ownBlock := by simp [Value.ownBlock]; omega
        go_wp2_with (at_builtin; refine wpList_append_S rfl (.tmp 30) (.tmp 35) 22 22 rfl (gM) 29 i0 _ 9 96 Tryz.underlying22 hi hz0 hz1 hz2 rfl (by decide) (.slice (some ⟨gM, 0, none⟩) 1 1) (1) (layCs ⟨Lay.merged name W' H' L, Ap, H' * W', cp⟩) rfl (Own.ofBlk HBM.out (Nat.le_refl _) rfl) (by intro u hu; exact layCells_one [⟨Lay.merged name W' H' L, Ap, H' * W', cp⟩] u (by rw [layCells_single]; exact hu)) (m) (layCells (ns.drop (k + 1))) (Reads.src Tryz.underlying22 HR2.out (by decide) (layCells_one _) _) (1 + m) (by omega) (layCs ⟨Lay.merged name W' H' L, Ap, H' * W', cp⟩ ++ layCells (ns.drop (k + 1))) (rfl) (by unfold maxLen; omega) (by omega) (by omega) ?_; intro A3 c3 wn hownn hgn hatn; have HDm := BOd.out.grown hgn HNO; have cDm := HDm.cell; have fDm := HDm.free; have lDm := HDm.lt; have B4m := B4d.out.grown hgn HN4; have c4m := B4m.cell; have f4m := B4m.free; have l4m := B4m.lt)
        have HDn := BOd.out.grown hgn HNO
        have B4n := B4d.out.grown hgn HN4
        have bMn : Below gM wc wn := (Below.refl gM wc).grown hgn (by omega) (fun g' e => by have e2 : some gM = some g' := e; injection e2 with e2; omega)
        have hzn := hgn.size
        have hxs : ((⟨Lay.merged name W' H' L, Ap, H' * W', cp⟩ : LM) :: ns.drop (k + 1)).length = 1 + m := by rw [List.length_cons, List.length_drop]; omega
        have hpx : ∀ x ∈ (⟨Lay.merged name W' H' L, Ap, H' * W', cp⟩ : LM) :: ns.drop (k + 1), Reads wn gM 4 x.A x.n (pxCells x.l.ps) := fun x hx => by
          rcases List.mem_cons.1 hx with h | h
          · subst h
            exact HRM.out.below bMn (Nat.le_refl _)
          · exact ((HLc.out.px x (List.mem_of_mem_drop h)).below (hbMo.out.trans (bMn.mono hgM)) (Nat.le_refl _)).more hgM
        have F0 : LaysO wn gM (.slice A3 (1 + m) c3) (⟨Lay.merged name W' H' L, Ap, H' * W', cp⟩ :: ns.drop (k + 1)) := LaysO.ofReads hpx (by rw [hxs]; exact hownn) (Nat.le_refl _) (by omega)
        have nb : ∀ G, G < gM → (Value.slice A3 (1 + m) c3).ownBlock ≠ some G := fun G hG e => by have := (hownn.lt _ e).1; omega
        have offO : ∀ x ∈ (⟨Lay.merged name W' H' L, Ap, H' * W', cp⟩ : LM) :: ns.drop (k + 1), OffB gO x := fun x hx => OffB.blk (hpx x hx) HDn
        have off4 : ∀ x ∈ (⟨Lay.merged name W' H' L, Ap, H' * W', cp⟩ : LM) :: ns.drop (k + 1), OffB (w.heap.size + 1) x := fun x hx => OffB.blk (hpx x hx) B4n
        have F := (((F0.farB (p := ⟨gO, 2, none⟩) (nb _ hgO) offO (.slice A3 (1 + m) c3)).farB (p := ⟨w.heap.size + 1, 0, none⟩) (nb _ hg4) off4 (.int .i64 W')).farB (p := ⟨w.heap.size + 1, 1, none⟩) (nb _ hg4) off4 (.int .i64 H')).farB (p := ⟨w.heap.size + 1, 2, none⟩) (nb _ hg4) off4 (.slice A3 (1 + m) c3)
        refine bodyPost_ret (v := .agg #[.int .i64 W', .int .i64 H', .slice A3 (1 + m) c3]) (by simp [results, Tryz.results19, go_sem, B4n.cell]) rfl ?_
        have hz2 : w.heap.size ≤ w.heap.size + 1 := by omega
        have hbn := (HBd.out.grown hgn (by omega) (fun g' e => by have e2 : some gM = some g' := e; injection e2 with e2; omega)).setCell (p := ⟨gO, 2, none⟩) (by show w.heap.size ≤ gO; omega) (.slice A3 (1 + m) c3)
        refine ⟨A3, c3, _, by rw [hxs], by rw [hxs]; exact F.mono (by omega), ?_, ((hbn.setCell hz2 _).setCell hz2 _).setCell hz2 _⟩
        show Lay.merged name W' H' L :: lsOf (ns.drop (k + 1)) = _
        rw [lsOf_drop, HNS.out]
end Go.Proofs.YtmknacnmdlcieaaGreatDoor
