/- LayerChanges: the law's walk. Printed by mklchg.py. -/
import Derived.Test.YtmknacnmdlcieaaGreatDoorKCChanges2
import Derived.Test.YtmknacnmdlcieaaGreatDoorQCChangesMergeOf
import Derived.Test.YtmknacnmdlcieaaGreatDoorQCChangesMoveOf
import Derived.Test.YtmknacnmdlcieaaGreatDoorKCChanges4
import Derived.Deep.RegionHeld3
import Derived.Deep.Cut
import Derived.Deep.DeepCutAuto
namespace Go.Proofs.YtmknacnmdlcieaaGreatDoor
open Go Go.RowKit

theorem Below.fromAlloc {w w' : World} {o : Obj} (h : Below (w.alloc o).heap.size (w.alloc o) w') : Below w.heap.size w w' := ((Below.refl w.heap.size w).alloc (Nat.le_refl _) o).trans (h.mono (by simp))
theorem Reads.step1 {w : World} {size n : Nat} {A : Option Addr} {xs : List Value} (h : Reads w w.heap.size size A n xs) (o : Obj) : Reads (w.alloc o) (w.alloc o).heap.size size A n xs := (h.alloc (Nat.le_refl _) o).more (by simp)
theorem Below.fromAllocDrew {w w' : World} {o : Obj} (h : Below (w.alloc o).drew.heap.size (w.alloc o).drew w') : Below w.heap.size w w' := Below.fromAlloc (Below.fromDrew h)
/-- What stands behind a call that gives a document and an error. -/
def ResCut (E : Nat → Addr) (W H : Int) (f : Nat × Int) (ls : List Lay.Layer) (w : World) (s e : Value) (wx : World) : Prop :=
  ∃ g p q A n c v, v = e ∧ s = .pointer (some ⟨g, 0, none⟩) ∧ w.heap.size ≤ g ∧ Blk wx g 39 #[.int .i64 p, .int .i64 q, .slice A n c] ∧ DocIs E W H f ls wx p q A n c v ∧ Below w.heap.size w wx
set_option maxRecDepth 100000 in
set_option maxHeartbeats 8000000 in
theorem layerChanges_any (W H : Int) (A : Option Addr) (n c : Nat) (ms : List LM) (m : LM) (s : ByteArray) (tt : Int) (E : Nat → Addr) (w : World) (hL : Lays w w.heap.size A n ms) (hn : n ≤ 9223372036854775807) (hr : ∀ m ∈ ms, m.n ≤ reachBytes) (hm : Reads w w.heap.size 4 m.A m.n (pxCells m.l.ps)) (hE : ErrsAt w E) :
    Calls Tryz.prog 3 #[.agg #[.int .i64 W, .int .i64 H, .slice A n c], .agg #[.string m.l.name, .int .i64 m.l.x, .int .i64 m.l.y, .bool m.l.hidden, .int .i64 m.l.opacity, .int .i64 m.l.mode, .int .i64 m.l.wide, .int .i64 m.l.high, .slice m.A m.n m.c], .string s, .int .i64 tt] w fun e w' => e = .returned (.bool true) ∧ Below w.heap.size w w' := by
  obtain ⟨i0, hi, hz0, hz1, hz2⟩ := info_parts layInfo3
  obtain ⟨f1, f2, hck⟩ : ∃ f1 f2, Lay.check W H (lsOf ms) = (f1, f2) := ⟨_, _, rfl⟩
  obtain ⟨g1, g2, hgk⟩ : ∃ f1 f2, moreF W H (lsOf ms) m.l = (f1, f2) := ⟨_, _, rfl⟩
  obtain ⟨h1, h2, hnk⟩ : ∃ f1 f2, nameF W H (lsOf ms) s = (f1, f2) := ⟨_, _, rfl⟩
  obtain ⟨fd, hfd⟩ : ∃ fd, Lay.find (lsOf ms) s = fd := ⟨_, rfl⟩
  have HCK := Lib.hid hck
  have HGK := Lib.hid hgk
  have HNK := Lib.hid hnk
  have HFD := Lib.hid hfd
  have HLN := Lib.hid hL.len
  have HL := Lib.hid hL
  have HR := Lib.hid hr
  have HM := Lib.hid hm
  have HE := Lib.hid hE
  clear hL hr hm hE hck hgk hnk hfd
  go_enter Tryz.func3, Tryz.ntmps3
  go_wp2_with fail
  refine (still_any _).mono ?_
  rintro e w1 ⟨rfl, hb1⟩
  have B4_1 := Lib.hid (((Blk.new w 24 #[.int .i64 W, .int .i64 H, .slice A n c] rfl).alloc (.cells #[.string m.l.name, .int .i64 m.l.x, .int .i64 m.l.y, .bool m.l.hidden, .int .i64 m.l.opacity, .int .i64 m.l.mode, .int .i64 m.l.wide, .int .i64 m.l.high, .slice m.A m.n m.c] 29)).below hb1 (by simp; omega))
  have B5_1 := Lib.hid ((Blk.new (w.alloc (.cells #[.int .i64 W, .int .i64 H, .slice A n c] 24)) 29 #[.string m.l.name, .int .i64 m.l.x, .int .i64 m.l.y, .bool m.l.hidden, .int .i64 m.l.opacity, .int .i64 m.l.mode, .int .i64 m.l.wide, .int .i64 m.l.high, .slice m.A m.n m.c] (g := w.heap.size + 1) (by simp)).below hb1 (by simp))
  have hbw1 := Lib.hid (show Below w.heap.size w w1 from Below.trans (show Below w.heap.size w ((w.alloc (.cells #[.int .i64 W, .int .i64 H, .slice A n c] 24)).alloc (.cells #[.string m.l.name, .int .i64 m.l.x, .int .i64 m.l.y, .bool m.l.hidden, .int .i64 m.l.opacity, .int .i64 m.l.mode, .int .i64 m.l.wide, .int .i64 m.l.high, .slice m.A m.n m.c] 29)) by go_grown) (hb1.mono (by simp; omega)))
  have cB4 := B4_1.out.cell
  have cB5 := B5_1.out.cell
  clear hb1
  go_wp2_with fail
  refine (tame_is W H A n c ms _ (HL.out.here hbw1.out (Nat.le_refl _) hbw1.out.size) hn HR.out).mono ?_
  rintro e w2 ⟨⟨tb, rfl, htb⟩, hb2⟩
  have HTB := Lib.hid htb
  clear cB4 cB5 htb
  have B4_2 := Lib.hid (B4_1.out.below hb2 B4_1.out.lt)
  have B5_2 := Lib.hid (B5_1.out.below hb2 B5_1.out.lt)
  have hbw2 := Lib.hid (hbw1.out.trans (hb2.mono hbw1.out.size))
  have cB4 := B4_2.out.cell
  have lB4 := B4_2.out.lt
  have cB5 := B5_2.out.cell
  have lB5 := B5_2.out.lt
  clear hb2
  cases tb with
  | false =>
    go_wp2_with fail
    go_ret
    exact ⟨rfl, hbw2.out⟩
  | true =>
    go_wp2_with fail
    refine (small_any m.l.wide m.l.high m.A m.n m.c _).mono ?_
    rintro e w3 ⟨rfl, hb3⟩
    clear cB4 cB5 lB4 lB5
    have B4_3 := Lib.hid (B4_2.out.below hb3 B4_2.out.lt)
    have B5_3 := Lib.hid (B5_2.out.below hb3 B5_2.out.lt)
    have hbw3 := Lib.hid (hbw2.out.trans (hb3.mono hbw2.out.size))
    have cB4 := B4_3.out.cell
    have lB4 := B4_3.out.lt
    have cB5 := B5_3.out.cell
    have lB5 := B5_3.out.lt
    clear hb3
    by_cases h3 : m.n ≤ 3000
    case neg =>
      rw [show decide (m.n ≤ 3000) = false from decide_eq_false h3]
      go_wp2_with fail
      go_ret
      exact ⟨rfl, hbw3.out⟩
    case pos =>
      rw [show decide (m.n ≤ 3000) = true from decide_eq_true h3]
      have hn12 : n ≤ 12 := (HTB.out trivial).1
      have HPM := Lib.hid (show ∀ x ∈ ms, x.n ≤ 1048576 from fun x hx => by have := (HTB.out trivial).2 x hx; omega)
      have HN4 := Lib.hid (show n ≤ 4096 by omega)
      have HMN := Lib.hid (show m.n ≤ 1048576 by omega)
      have HF0 := Lib.hid (show (lsOf ms).length ≤ 4095 ∧ ∀ l ∈ lsOf ms, l.ps.length ≤ 1048576 from ⟨by rw [lsOf_len, ← HLN.out]; omega, fun l hl => by
        obtain ⟨x, hx, rfl⟩ := List.mem_map.1 hl
        have h1 := HPM.out x hx
        have h2 := (HL.out.2 x hx).pxLen
        omega⟩)
      clear h3
      go_wp2_with fail
      refine (checkOf_any W H A n c ms _ (HL.out.here hbw3.out (Nat.le_refl _) hbw3.out.size)).mono ?_
      rw [HCK.out]
      unfold faultV
      rintro e w4 ⟨rfl, hb4⟩
      clear cB4 cB5 lB4 lB5
      have B4_4 := Lib.hid (B4_3.out.below hb4 B4_3.out.lt)
      have B5_4 := Lib.hid (B5_3.out.below hb4 B5_3.out.lt)
      have hbw4 := Lib.hid (hbw3.out.trans (hb4.mono hbw3.out.size))
      have cB4 := B4_4.out.cell
      have lB4 := B4_4.out.lt
      have cB5 := B5_4.out.cell
      have lB5 := B5_4.out.lt
      clear hb4
      go_wp2_with fail
      obtain ⟨g10, hg10⟩ : ∃ g, g = w4.heap.size := ⟨_, rfl⟩
      obtain ⟨W5, hW5⟩ : ∃ W5, W5 = w4.alloc (.cells #[.int .i64 f1, .int .i64 f2] 34) := ⟨_, rfl⟩
      have hb5 : Below w4.heap.size w4 W5 := by rw [hW5]; exact Below.alloc (Below.refl _ _) (Nat.le_refl _) _
      have B10_5 := Lib.hid (show Blk W5 g10 34 #[.int .i64 f1, .int .i64 f2] by rw [hW5, hg10]; exact Blk.new _ _ _ rfl)
      have hg10w : w4.heap.size ≤ g10 := by omega
      rw [← hW5, ← hg10]
      clear hW5 hg10 cB4 cB5 lB4 lB5
      have B4_5 := Lib.hid (B4_4.out.below hb5 B4_4.out.lt)
      have B5_5 := Lib.hid (B5_4.out.below hb5 B5_4.out.lt)
      have hbw5 := Lib.hid (hbw4.out.trans (hb5.mono hbw4.out.size))
      have HL5 := Lib.hid (HL.out.here hbw5.out (Nat.le_refl _) hbw5.out.size)
      refine (refOwn_any W H A n c ms W5 HL5.out HN4.out HPM.out).mono ?_
      rintro e w6 ⟨A6, c6, ns, rfl, hO6, hns, hhi, hb6⟩
      have B4_6 := Lib.hid (B4_5.out.below hb6 B4_5.out.lt)
      have B5_6 := Lib.hid (B5_5.out.below hb6 B5_5.out.lt)
      have B10_6 := Lib.hid (B10_5.out.below hb6 B10_5.out.lt)
      have hbw6 := Lib.hid (hbw5.out.trans (hb6.mono hbw5.out.size))
      have cB4 := B4_6.out.cell
      have lB4 := B4_6.out.lt
      have cB5 := B5_6.out.cell
      have lB5 := B5_6.out.lt
      have cB10 := B10_6.out.cell
      have lB10 := B10_6.out.lt
      have HO6 := Lib.hid hO6
      have HNS := Lib.hid hns
      have HB56 := Lib.hid hb6
      have hnl : ns.length ≤ 12 := by have := same_lays hns; have := HLN.out; omega
      have hb45 := Lib.hid hb5
      clear hb5 hb6 hO6 hns hhi
      go_upto_region 6 with fail
      obtain ⟨g11, hg11⟩ : ∃ g, g = w6.heap.size := ⟨_, rfl⟩
      obtain ⟨W7, hW7⟩ : ∃ W7, W7 = w6.alloc (.cells #[.int .i64 W, .int .i64 H, .slice A6 ns.length c6] 24) := ⟨_, rfl⟩
      have hb7 : Below w6.heap.size w6 W7 := by rw [hW7]; exact Below.alloc (Below.refl _ _) (Nat.le_refl _) _
      have B11_7 := Lib.hid (show Blk W7 g11 24 #[.int .i64 W, .int .i64 H, .slice A6 ns.length c6] by rw [hW7, hg11]; exact Blk.new _ _ _ rfl)
      have hg11w : w6.heap.size ≤ g11 := by omega
      rw [← hW7, ← hg11]
      clear hW7 hg11 cB4 cB5 cB10 lB4 lB5 lB10
      have B4_7 := Lib.hid (B4_6.out.below hb7 B4_6.out.lt)
      have B5_7 := Lib.hid (B5_6.out.below hb7 B5_6.out.lt)
      have B10_7 := Lib.hid (B10_6.out.below hb7 B10_6.out.lt)
      have hbw7 := Lib.hid (hbw6.out.trans (hb7.mono hbw6.out.size))
      have cB5 := B5_7.out.cell
      have lB5 := B5_7.out.lt
      have cB11 := B11_7.out.cell
      have HO7 := Lib.hid (HO6.out.below hb7 (Nat.le_refl _))
      have hz57 : W5.heap.size ≤ W7.heap.size := Nat.le_trans HB56.out.size hb7.size
      have hb67 := Lib.hid hb7
      have HNO := Lib.hid (show some g11 ≠ (Value.slice A6 ns.length c6).ownBlock from fun e => by have := (HO6.out.own.lt _ e.symm).2; omega)
      clear hb7
      go_upto_region 7 with (at_builtin; refine wpList_append_S rfl (.tmp 42) (.tmp 44) 22 22 rfl (W5.heap.size) 29 i0 _ 9 96 Tryz.underlying22 hi hz0 hz1 hz2 rfl (by decide) (.slice A6 ns.length c6) (ns.length) (layCells ns) rfl (HO7.out.own.alloc _) (layCells_one _) (1) (layCs m) (Src.made Tryz.underlying22 (by first | rfl | simp) rfl (by intro u hu; exact layCells_one [m] u (by rw [layCells_single]; exact hu))) (ns.length + 1) (by omega) (layCells ns ++ layCs m) (rfl) (by unfold maxLen; omega) (by omega) (by first | omega | (simp; omega)) ?_; intro A8 c8 w8 hown8 hg8 hat8; have HD8 := (B11_7.out.alloc (.cells #[.string m.l.name, .int .i64 m.l.x, .int .i64 m.l.y, .bool m.l.hidden, .int .i64 m.l.opacity, .int .i64 m.l.mode, .int .i64 m.l.wide, .int .i64 m.l.high, .slice m.A m.n m.c] 29)).grown hg8 HNO.out; have cD8 := HD8.cell; have fD8 := HD8.free; have lD8 := HD8.lt)
      obtain ⟨W9, hW9⟩ : ∃ W9, W9 = w8.setCell ⟨g11, 2, none⟩ (.slice A8 (ns.length + 1) c8) := ⟨_, rfl⟩
      have h1011 : W5.heap.size ≤ g11 := Nat.le_trans HB56.out.size hg11w
      have b79 : Below W5.heap.size W7 W9 := by rw [hW9]; exact (((Below.refl W5.heap.size W7).alloc hz57 _).grown hg8 (by simp; omega) (fun g' e => (HO7.out.own.lt g' e).1)).setCell h1011 _
      have B4_9 := Lib.hid (B4_7.out.below b79 B4_5.out.lt)
      have B5_9 := Lib.hid (B5_7.out.below b79 B5_5.out.lt)
      have B10_9 := Lib.hid (B10_7.out.below b79 B10_5.out.lt)
      have hbw9 := Lib.hid (hbw7.out.trans (b79.mono hbw5.out.size))
      have HB59 := Lib.hid (show Below w4.heap.size w4 W9 from (hb45.out.trans (HB56.out.mono hb45.out.size)).trans (((hb67.out.mono HB56.out.size).trans b79).mono hb45.out.size))
      have B11_9 := Lib.hid (show Blk W9 g11 24 #[.int .i64 W, .int .i64 H, .slice A8 (ns.length + 1) c8] by rw [hW9]; simpa using HD8.set_ 2 (.slice A8 (ns.length + 1) c8))
      have HM9 := Lib.hid (show Lays W9 W9.heap.size A8 (ns.length + 1) (ns ++ [m]) by
        have hb7 := hbw7.out.alloc hbw7.out.size (.cells #[.string m.l.name, .int .i64 m.l.x, .int .i64 m.l.y, .bool m.l.hidden, .int .i64 m.l.opacity, .int .i64 m.l.mode, .int .i64 m.l.wide, .int .i64 m.l.high, .slice m.A m.n m.c] 29)
        have hS := (HO7.out.alloc (.cells #[.string m.l.name, .int .i64 m.l.x, .int .i64 m.l.y, .bool m.l.hidden, .int .i64 m.l.opacity, .int .i64 m.l.mode, .int .i64 m.l.wide, .int .i64 m.l.high, .slice m.A m.n m.c] 29)).snoc (m := m) hown8 hg8 hat8 ((HM.out.below hb7 (Nat.le_refl _)).more hb7.size) (fun b off e hn e2 => by
          obtain ⟨b', off', e', hb', _⟩ := HM.out.2 (by omega)
          rw [e] at e'
          injection e' with e'
          injection e' with e' _
          have := (HO6.out.own.lt _ e2).1
          have := hbw5.out.size
          omega)
        rw [hW9]
        exact hS.lays.offDoc HD8 2 _)
      have HS9 := Lib.hid (show lsOf (ns ++ [m]) = lsOf ms ++ [m.l] by unfold lsOf; rw [List.map_append]; exact congrArg (· ++ [m.l]) HNS.out)
      have cB10 := B10_9.out.cell
      have lB10 := B10_9.out.lt
      rw [← hW9]
      clear hW9 hown8 hg8 hat8 HD8 cB5 lB5 cB11 b79
      go_upto_region 8 with fail
      obtain ⟨g12, hg12⟩ : ∃ g, g = W9.heap.size := ⟨_, rfl⟩
      obtain ⟨W10, hW10⟩ : ∃ W10, W10 = W9.alloc (.cells #[.int .i64 f1, .int .i64 f2] 34) := ⟨_, rfl⟩
      have hbA : Below W9.heap.size W9 W10 := by rw [hW10]; exact Below.alloc (Below.refl _ _) (Nat.le_refl _) _
      have B12_10 := Lib.hid (show Blk W10 g12 34 #[.int .i64 f1, .int .i64 f2] by rw [hW10, hg12]; exact Blk.new _ _ _ rfl)
      have hg12w : W9.heap.size ≤ g12 := by omega
      rw [← hW10, ← hg12]
      clear hW10 hg12 cB10 lB10
      have HBA := Lib.hid hbA
      have B11_10 := Lib.hid (B11_9.out.below hbA B11_9.out.lt)
      have HM10 := Lib.hid (HM9.out.step hbA)
      have cB12 := B12_10.out.cell
      clear hbA
      obtain ⟨b0, hb0⟩ : ∃ b, b = decide (f1 = 0) := ⟨_, rfl⟩
      have HB0 := Lib.hid hb0
      clear hb0
      go_cut [50] (fun sv wx => sv = .bool b0 ∧ W10 = wx)
      case first =>
        by_cases h0 : f1 = 0
        · have e0 : b0 = true := by rw [HB0.out]; exact decide_eq_true h0
          subst e0 h0
          go_wp2_with fail
          go_meet
          exact ⟨rfl, rfl⟩
        · have e0 : b0 = false := by rw [HB0.out]; exact decide_eq_false h0
          have h0' : ((f1 : Int) == 0) = false := by simpa using h0
          subst e0
          go_wp2_with fail
          go_meet
          exact ⟨rfl, rfl⟩
      case rest =>
        obtain ⟨rfl, rfl⟩ := hcut
        go_upto_if 50 with fail
        go_cut [52] (fun _ wx => Blk wx g12 34 #[.int .i64 g1, .int .i64 g2] ∧ Below W9.heap.size W9 wx)
        case first =>
          have cB11 := B11_10.out.cell
          have lB11 := B11_10.out.lt
          cases b0 with
          | false =>
            have h0 : ¬ f1 = 0 := of_decide_eq_false HB0.out.symm
            have e1 : (g1, g2) = (f1, f2) := by rw [← HGK.out]; unfold moreF; rw [HCK.out, if_neg (show ¬ (f1, f2).1 = 0 from h0)]
            injection e1 with e1 e2
            go_wp2_with fail
            go_meet
            exact ⟨by rw [e1, e2]; exact B12_10.out, HBA.out⟩
          | true =>
            have h0 : f1 = 0 := of_decide_eq_true HB0.out.symm
            have HG2 := Lib.hid (show Lay.check W H (lsOf (ns ++ [m])) = (g1, g2) by rw [← HGK.out, HS9.out]; unfold moreF; rw [HCK.out, if_pos (show (f1, f2).1 = 0 from h0)])
            clear h0
            go_wp2_with fail
            refine (checkOf_any W H A8 (ns.length + 1) c8 (ns ++ [m]) W10 HM10.out).mono ?_
            rw [HG2.out]
            unfold faultV
            rintro e w11 ⟨rfl, hb11⟩
            have B12b := B12_10.out.below hb11 B12_10.out.lt
            have cb := B12b.cell
            have fb := B12b.free
            have lb := B12b.lt
            clear cB11 lB11 cB12
            go_wp2_with fail
            go_meet
            refine ⟨by simpa using (B12b.set_ 0 (.int .i64 g1)).set_ 1 (.int .i64 g2), ((HBA.out.trans (hb11.mono HBA.out.size)).setCell hg12w _).setCell hg12w _⟩
        case rest =>
          obtain ⟨B12c, hbc⟩ := hcut
          obtain ⟨W11, rfl⟩ : ∃ W11, W11 = wc := ⟨_, rfl⟩
          have B4_11 := Lib.hid (B4_9.out.below hbc B4_9.out.lt)
          have B5_11 := Lib.hid (B5_9.out.below hbc B5_9.out.lt)
          have B10_11 := Lib.hid (B10_9.out.below hbc B10_9.out.lt)
          have B11_11 := Lib.hid (B11_9.out.below hbc B11_9.out.lt)
          have hbw11 := Lib.hid (hbw9.out.trans (hbc.mono hbw9.out.size))
          have HB5c := Lib.hid (HB59.out.trans (hbc.mono HB59.out.size))
          have HM11 := Lib.hid ((HM9.out.below hbc (Nat.le_refl _)).more hbc.size)
          have HL11 := Lib.hid (HL.out.here hbw11.out (Nat.le_refl _) hbw11.out.size)
          have HE11 := Lib.hid (HE.out.below hbw11.out)
          have HMm := Lib.hid ((HM.out.below hbw11.out (Nat.le_refl _)).more hbw11.out.size)
          have B12_11 := Lib.hid B12c
          clear B12c hbc
          go_upto_region 10 with fail
          have s0 : W11.cell? ⟨w.heap.size, 0, none⟩ = some (.int .i64 W) := (B4_11.out.cell _).trans rfl
          have s1 : W11.cell? ⟨w.heap.size, 1, none⟩ = some (.int .i64 H) := (B4_11.out.cell _).trans rfl
          have s2 : W11.cell? ⟨w.heap.size, 2, none⟩ = some (.slice A n c) := (B4_11.out.cell _).trans rfl
          have s3 : W11.cell? ⟨w.heap.size + 1, 0, none⟩ = some (.string m.l.name) := (B5_11.out.cell _).trans rfl
          have s4 : W11.cell? ⟨w.heap.size + 1, 1, none⟩ = some (.int .i64 m.l.x) := (B5_11.out.cell _).trans rfl
          have s5 : W11.cell? ⟨w.heap.size + 1, 2, none⟩ = some (.int .i64 m.l.y) := (B5_11.out.cell _).trans rfl
          have s6 : W11.cell? ⟨w.heap.size + 1, 3, none⟩ = some (.bool m.l.hidden) := (B5_11.out.cell _).trans rfl
          have s7 : W11.cell? ⟨w.heap.size + 1, 4, none⟩ = some (.int .i64 m.l.opacity) := (B5_11.out.cell _).trans rfl
          have s8 : W11.cell? ⟨w.heap.size + 1, 5, none⟩ = some (.int .i64 m.l.mode) := (B5_11.out.cell _).trans rfl
          have s9 : W11.cell? ⟨w.heap.size + 1, 6, none⟩ = some (.int .i64 m.l.wide) := (B5_11.out.cell _).trans rfl
          have s10 : W11.cell? ⟨w.heap.size + 1, 7, none⟩ = some (.int .i64 m.l.high) := (B5_11.out.cell _).trans rfl
          have s11 : W11.cell? ⟨w.heap.size + 1, 8, none⟩ = some (.slice m.A m.n m.c) := (B5_11.out.cell _).trans rfl
          have z40 := B4_11.out.lt
          have z50 := B5_11.out.lt
          go_cut [13, 14] (fun sv ev wx => ResCut E W H (g1, g2) (lsOf ms ++ [m.l]) W11 sv ev wx)
          case first =>
            go_region_held3 (fun w' => w'.cell? ⟨w.heap.size, 0, none⟩ = some (.int .i64 W) ∧ w'.cell? ⟨w.heap.size, 1, none⟩ = some (.int .i64 H) ∧ w'.cell? ⟨w.heap.size, 2, none⟩ = some (.slice A n c) ∧ w'.cell? ⟨w.heap.size + 1, 0, none⟩ = some (.string m.l.name) ∧ w'.cell? ⟨w.heap.size + 1, 1, none⟩ = some (.int .i64 m.l.x) ∧ w'.cell? ⟨w.heap.size + 1, 2, none⟩ = some (.int .i64 m.l.y) ∧ w'.cell? ⟨w.heap.size + 1, 3, none⟩ = some (.bool m.l.hidden) ∧ w'.cell? ⟨w.heap.size + 1, 4, none⟩ = some (.int .i64 m.l.opacity) ∧ w'.cell? ⟨w.heap.size + 1, 5, none⟩ = some (.int .i64 m.l.mode) ∧ w'.cell? ⟨w.heap.size + 1, 6, none⟩ = some (.int .i64 m.l.wide) ∧ w'.cell? ⟨w.heap.size + 1, 7, none⟩ = some (.int .i64 m.l.high) ∧ w'.cell? ⟨w.heap.size + 1, 8, none⟩ = some (.slice m.A m.n m.c))
              ((go_split_ands
                refine ⟨?_, ?_, ?_, ?_, ?_, ?_, ?_, ?_, ?_, ?_, ?_, ?_⟩
                · ((repeat' (first | (with_reducible exact s0) | (with_reducible refine cell_set_other _ (ne_blk z40 _ _) ?_) | (with_reducible refine cell_set_other _ (ne_blk z4A _ _) ?_) | (with_reducible refine cell_set_other _ (ne_blk z4B _ _) ?_) | (with_reducible refine bkeep hbC ?_) | (with_reducible refine bkeep hbB ?_) | (with_reducible refine bkeep hbA ?_) | (with_reducible refine cell_past _ ?_))) <;> first | exact s0 | exact cell_past _ s0)
                · ((repeat' (first | (with_reducible exact s1) | (with_reducible refine cell_set_other _ (ne_blk z40 _ _) ?_) | (with_reducible refine cell_set_other _ (ne_blk z4A _ _) ?_) | (with_reducible refine cell_set_other _ (ne_blk z4B _ _) ?_) | (with_reducible refine bkeep hbC ?_) | (with_reducible refine bkeep hbB ?_) | (with_reducible refine bkeep hbA ?_) | (with_reducible refine cell_past _ ?_))) <;> first | exact s1 | exact cell_past _ s1)
                · ((repeat' (first | (with_reducible exact s2) | (with_reducible refine cell_set_other _ (ne_blk z40 _ _) ?_) | (with_reducible refine cell_set_other _ (ne_blk z4A _ _) ?_) | (with_reducible refine cell_set_other _ (ne_blk z4B _ _) ?_) | (with_reducible refine bkeep hbC ?_) | (with_reducible refine bkeep hbB ?_) | (with_reducible refine bkeep hbA ?_) | (with_reducible refine cell_past _ ?_))) <;> first | exact s2 | exact cell_past _ s2)
                · ((repeat' (first | (with_reducible exact s3) | (with_reducible refine cell_set_other _ (ne_blk z50 _ _) ?_) | (with_reducible refine cell_set_other _ (ne_blk z5A _ _) ?_) | (with_reducible refine cell_set_other _ (ne_blk z5B _ _) ?_) | (with_reducible refine bkeep hbC ?_) | (with_reducible refine bkeep hbB ?_) | (with_reducible refine bkeep hbA ?_) | (with_reducible refine cell_past _ ?_))) <;> first | exact s3 | exact cell_past _ s3)
                · ((repeat' (first | (with_reducible exact s4) | (with_reducible refine cell_set_other _ (ne_blk z50 _ _) ?_) | (with_reducible refine cell_set_other _ (ne_blk z5A _ _) ?_) | (with_reducible refine cell_set_other _ (ne_blk z5B _ _) ?_) | (with_reducible refine bkeep hbC ?_) | (with_reducible refine bkeep hbB ?_) | (with_reducible refine bkeep hbA ?_) | (with_reducible refine cell_past _ ?_))) <;> first | exact s4 | exact cell_past _ s4)
                · ((repeat' (first | (with_reducible exact s5) | (with_reducible refine cell_set_other _ (ne_blk z50 _ _) ?_) | (with_reducible refine cell_set_other _ (ne_blk z5A _ _) ?_) | (with_reducible refine cell_set_other _ (ne_blk z5B _ _) ?_) | (with_reducible refine bkeep hbC ?_) | (with_reducible refine bkeep hbB ?_) | (with_reducible refine bkeep hbA ?_) | (with_reducible refine cell_past _ ?_))) <;> first | exact s5 | exact cell_past _ s5)
                · ((repeat' (first | (with_reducible exact s6) | (with_reducible refine cell_set_other _ (ne_blk z50 _ _) ?_) | (with_reducible refine cell_set_other _ (ne_blk z5A _ _) ?_) | (with_reducible refine cell_set_other _ (ne_blk z5B _ _) ?_) | (with_reducible refine bkeep hbC ?_) | (with_reducible refine bkeep hbB ?_) | (with_reducible refine bkeep hbA ?_) | (with_reducible refine cell_past _ ?_))) <;> first | exact s6 | exact cell_past _ s6)
                · ((repeat' (first | (with_reducible exact s7) | (with_reducible refine cell_set_other _ (ne_blk z50 _ _) ?_) | (with_reducible refine cell_set_other _ (ne_blk z5A _ _) ?_) | (with_reducible refine cell_set_other _ (ne_blk z5B _ _) ?_) | (with_reducible refine bkeep hbC ?_) | (with_reducible refine bkeep hbB ?_) | (with_reducible refine bkeep hbA ?_) | (with_reducible refine cell_past _ ?_))) <;> first | exact s7 | exact cell_past _ s7)
                · ((repeat' (first | (with_reducible exact s8) | (with_reducible refine cell_set_other _ (ne_blk z50 _ _) ?_) | (with_reducible refine cell_set_other _ (ne_blk z5A _ _) ?_) | (with_reducible refine cell_set_other _ (ne_blk z5B _ _) ?_) | (with_reducible refine bkeep hbC ?_) | (with_reducible refine bkeep hbB ?_) | (with_reducible refine bkeep hbA ?_) | (with_reducible refine cell_past _ ?_))) <;> first | exact s8 | exact cell_past _ s8)
                · ((repeat' (first | (with_reducible exact s9) | (with_reducible refine cell_set_other _ (ne_blk z50 _ _) ?_) | (with_reducible refine cell_set_other _ (ne_blk z5A _ _) ?_) | (with_reducible refine cell_set_other _ (ne_blk z5B _ _) ?_) | (with_reducible refine bkeep hbC ?_) | (with_reducible refine bkeep hbB ?_) | (with_reducible refine bkeep hbA ?_) | (with_reducible refine cell_past _ ?_))) <;> first | exact s9 | exact cell_past _ s9)
                · ((repeat' (first | (with_reducible exact s10) | (with_reducible refine cell_set_other _ (ne_blk z50 _ _) ?_) | (with_reducible refine cell_set_other _ (ne_blk z5A _ _) ?_) | (with_reducible refine cell_set_other _ (ne_blk z5B _ _) ?_) | (with_reducible refine bkeep hbC ?_) | (with_reducible refine bkeep hbB ?_) | (with_reducible refine bkeep hbA ?_) | (with_reducible refine cell_past _ ?_))) <;> first | exact s10 | exact cell_past _ s10)
                · ((repeat' (first | (with_reducible exact s11) | (with_reducible refine cell_set_other _ (ne_blk z50 _ _) ?_) | (with_reducible refine cell_set_other _ (ne_blk z5A _ _) ?_) | (with_reducible refine cell_set_other _ (ne_blk z5B _ _) ?_) | (with_reducible refine bkeep hbC ?_) | (with_reducible refine bkeep hbB ?_) | (with_reducible refine bkeep hbA ?_) | (with_reducible refine cell_past _ ?_))) <;> first | exact s11 | exact cell_past _ s11)))
              (first
                | (go_at_call 10; refine (docOf_any W H A n c ms W11.drew HL11.out HN4.out HPM.out).mono ?_; rintro e wA ⟨A12, c12, na, rfl, hOA, hsA, _, hbA⟩; have hAA := Lib.hid (Below.fromDrew hbA); have z4A := Nat.lt_of_lt_of_le z40 hAA.out.size; have z5A := Nat.lt_of_lt_of_le z50 hAA.out.size)
                | (go_at_call 10; refine (docOf_any W H A n c ms (W11.alloc (.cells #[.int .i64 0, .int .i64 0, .slice none 0 0] 39)).drew (HL11.out.step (Below.alloc (Below.refl W11.heap.size W11) (Nat.le_refl _) (.cells #[.int .i64 0, .int .i64 0, .slice none 0 0] 39)).drew) HN4.out HPM.out).mono ?_; rintro e wA ⟨A12, c12, na, rfl, hOA, hsA, _, hbA⟩; have hAA := Lib.hid (Below.fromAllocDrew hbA); have z4A := Nat.lt_of_lt_of_le z40 hAA.out.size; have z5A := Nat.lt_of_lt_of_le z50 hAA.out.size; have kA : Blk wA W11.heap.size 39 #[.int .i64 0, .int .i64 0, .slice none 0 0] := (Blk.drew (Blk.new W11 _ _ rfl)).below hbA (by simp))
                | (go_at_call 11; refine (layerOf_any m wA ((HMm.out.below hAA.out (Nat.le_refl _)).more hAA.out.size) HMN.out).mono ?_; rintro e wB ⟨A13, c13, rfl, hOl, hbB⟩; have hBB := Lib.hid hbB; have z4B := Nat.lt_of_lt_of_le z4A hBB.out.size; have z5B := Nat.lt_of_lt_of_le z5A hBB.out.size; first | (have kB := kA.below hbB kA.lt) | skip)
                | (go_at_call 11; refine (layerOf_any m (wA.alloc (.cells #[.int .i64 0, .int .i64 0, .slice none 0 0] 39)) (((HMm.out.below hAA.out (Nat.le_refl _)).more hAA.out.size).step1 _) HMN.out).mono ?_; rintro e wB ⟨A13, c13, rfl, hOl, hbB⟩; have hBB := Lib.hid (Below.fromAlloc hbB); have z4B := Nat.lt_of_lt_of_le z4A hBB.out.size; have z5B := Nat.lt_of_lt_of_le z5A hBB.out.size; have kB : Blk wB wA.heap.size 39 #[.int .i64 0, .int .i64 0, .slice none 0 0] := (Blk.new wA _ _ rfl).below hbB (by simp))
                | (go_at_call 9; refine (add_is W H A12 na.length c12 ⟨m.l, A13, m.n, c13⟩ na E (g1, g2) wB hOA.own.addrOk hOl.addrOk ((HE11.out.below hAA.out).below hBB.out) (hOA.below hBB.out (Nat.le_refl _)).lays hOl.reads.2 HMN.out (by rw [hsA]; exact HGK.out)).mono ?_; rintro e wC ⟨p, q, A14, n14, c14, v, rfl, hD, hbC⟩; have hCC := Lib.hid hbC; first | (have kC := kB.below hbC kB.lt; have kc := kC.cell; have kf := kC.free; have kl := kC.lt) | skip)
                | (go_at_call 9; refine (add_is W H A12 na.length c12 ⟨m.l, A13, m.n, c13⟩ na E (g1, g2) (wB.alloc (.cells #[.int .i64 0, .int .i64 0, .slice none 0 0] 39)) hOA.own.addrOk hOl.addrOk (((HE11.out.below hAA.out).below hBB.out).below ((Below.refl wB.heap.size wB).alloc (Nat.le_refl _) _)) ((hOA.below hBB.out (Nat.le_refl _)).alloc _).lays (hOl.alloc _).reads.2 HMN.out (by rw [hsA]; exact HGK.out)).mono ?_; rintro e wC ⟨p, q, A14, n14, c14, v, rfl, hD, hbC⟩; have hCC := Lib.hid (Below.fromAlloc hbC); have kC : Blk wC wB.heap.size 39 #[.int .i64 0, .int .i64 0, .slice none 0 0] := (Blk.new wB _ _ rfl).below hbC (by simp); have kc := kC.cell; have kf := kC.free; have kl := kC.lt))
            all_goals
              trace "way"
              go_wp2_with fail
              go_meet
              rw [hsA] at hD
              have hAC := hAA.out.trans ((hBB.out.trans (hCC.out.mono hBB.out.size)).mono hAA.out.size)
              first
                | exact ⟨wC.heap.size, p, q, A14, n14, c14, v, rfl, rfl, hAC.size, Blk.new _ _ _ rfl, hD.below ((Below.refl _ _).alloc (Nat.le_refl _) _), hAC.alloc hAC.size _⟩
                | exact ⟨_, p, q, A14, n14, c14, v, rfl, rfl, by first | omega | exact hAA.out.size | exact Nat.le_trans hAA.out.size hBB.out.size, by simpa using ((kC.set_ 0 (.int .i64 p)).set_ 1 (.int .i64 q)).set_ 2 (.slice A14 n14 c14), hD.put kC p q A14 n14 c14, (((hAC.setCell (by first | exact Nat.le_refl _ | exact hAA.out.size | exact Nat.le_trans hAA.out.size hBB.out.size) _).setCell (by first | exact Nat.le_refl _ | exact hAA.out.size | exact Nat.le_trans hAA.out.size hBB.out.size) _).setCell (by first | exact Nat.le_refl _ | exact hAA.out.size | exact Nat.le_trans hAA.out.size hBB.out.size) _)⟩
          case rest =>
            obtain ⟨g13, p, q, A14, n14, c14, ev, rfl, rfl, hg13, B13c, hD, hbc⟩ := hcut
            obtain ⟨W12, rfl⟩ : ∃ W12, W12 = wc := ⟨_, rfl⟩
            have B4_12 := Lib.hid (B4_11.out.below hbc B4_11.out.lt)
            have B10_12 := Lib.hid (B10_11.out.below hbc B10_11.out.lt)
            have B11_12 := Lib.hid (B11_11.out.below hbc B11_11.out.lt)
            have B12_12 := Lib.hid (B12_11.out.below hbc B12_11.out.lt)
            have hbw12 := Lib.hid (hbw11.out.trans (hbc.mono hbw11.out.size))
            have B13_12 := Lib.hid B13c
            have HB5d := Lib.hid (HB5c.out.trans (hbc.mono HB5c.out.size))
            have HM12 := Lib.hid ((HM11.out.below hbc (Nat.le_refl _)).more hbc.size)
            have HE12 := Lib.hid (HE.out.below hbw12.out)
            have HD12 := Lib.hid hD
            have cB11 := B11_12.out.cell
            have cB12 := B12_12.out.cell
            have cB13 := B13_12.out.cell
            clear B13c hD hbc
            go_wp2_with fail
            refine (isDoc_is E W H (g1, g2) (lsOf ms ++ [m.l]) p q A14 n14 c14 ev A8 (ns.length + 1) c8 (ns ++ [m]) W12 HE12.out HD12.out HM12.out (fun _ => HS9.out) (fun _ => ⟨by rw [List.length_append, List.length_singleton]; have := HF0.out.1; omega, fun l hl => by
              rcases List.mem_append.1 hl with h | h
              · exact HF0.out.2 l h
              · rw [List.mem_singleton.1 h]; have := HM.out.pxLen; have := HMN.out; omega⟩) (by have := (moreF_code W H (lsOf ms) m.l).1; rw [HGK.out] at this; exact this) (by have := (moreF_code W H (lsOf ms) m.l).2; rw [HGK.out] at this; exact this)).mono ?_
            rintro e w13 ⟨rfl, hb13⟩
            clear cB11 cB12 cB13
            have B4_13 := Lib.hid (B4_12.out.below hb13 B4_12.out.lt)
            have B10_13 := Lib.hid (B10_12.out.below hb13 B10_12.out.lt)
            have hbw13 := Lib.hid (hbw12.out.trans (hb13.mono hbw12.out.size))
            have cB4 := B4_13.out.cell
            have lB4 := B4_13.out.lt
            have cB10 := B10_13.out.cell
            have lB10 := B10_13.out.lt
            have HB5e := Lib.hid (HB5d.out.trans (hb13.mono HB5d.out.size))
            clear hb13
            go_wp2_with fail
            refine (refFind_any W H A n c ms s w13 (HL.out.here hbw13.out (Nat.le_refl _) hbw13.out.size) (by have := HN4.out; omega)).mono ?_
            rw [HFD.out]
            rintro e w14 ⟨rfl, hb14⟩
            clear cB4 cB10 lB4 lB10
            have B4_14 := Lib.hid (B4_13.out.below hb14 B4_13.out.lt)
            have B10_14 := Lib.hid (B10_13.out.below hb14 B10_13.out.lt)
            have hbw14 := Lib.hid (hbw13.out.trans (hb14.mono hbw13.out.size))
            have cB10 := B10_14.out.cell
            have lB10 := B10_14.out.lt
            have HB5f := Lib.hid (HB5e.out.trans (hb14.mono HB5e.out.size))
            clear hb14
            obtain ⟨b1, hb1⟩ : ∃ b, b = decide (f1 = 0 ∧ fd < 0) := ⟨_, rfl⟩
            have HB1 := Lib.hid hb1
            clear hb1
            go_upto_region 14 with fail
            go_cut [76] (fun sv wx => sv = .bool b1 ∧ w14 = wx)
            case first =>
              by_cases h0 : f1 = 0
              · by_cases h1 : fd < 0
                · have e0 : b1 = true := by rw [HB1.out]; exact decide_eq_true ⟨h0, h1⟩
                  have h1' : decide (fd < 0) = true := decide_eq_true h1
                  subst e0 h0
                  go_wp2_with fail
                  go_meet
                  exact ⟨rfl, rfl⟩
                · have e0 : b1 = false := by rw [HB1.out]; exact decide_eq_false (fun h => h1 h.2)
                  have h1' : decide (fd < 0) = false := decide_eq_false h1
                  subst e0 h0
                  go_wp2_with fail
                  go_meet
                  exact ⟨rfl, rfl⟩
              · have e0 : b1 = false := by rw [HB1.out]; exact decide_eq_false (fun h => h0 h.1)
                have h0' : ((f1 : Int) == 0) = false := by simpa using h0
                subst e0
                go_wp2_with fail
                go_meet
                exact ⟨rfl, rfl⟩
            case rest =>
              obtain ⟨rfl, rfl⟩ := hcut
              go_upto_if 76 with fail
              go_cut [77] (fun _ wx => Blk wx g10 34 #[.int .i64 h1, .int .i64 h2] ∧ Below w4.heap.size w4 wx)
              case first =>
                cases b1 with
                | false =>
                  have h0 : ¬ (f1 = 0 ∧ fd < 0) := of_decide_eq_false HB1.out.symm
                  have e1 : (h1, h2) = (f1, f2) := by rw [← HNK.out]; unfold nameF; rw [HCK.out, HFD.out, if_neg (show ¬ ((f1, f2).1 = 0 ∧ fd < 0) from h0)]
                  injection e1 with e1 e2
                  go_wp2_with fail
                  go_meet
                  exact ⟨by rw [e1, e2]; exact B10_14.out, HB5f.out⟩
                | true =>
                  have h0 : f1 = 0 ∧ fd < 0 := of_decide_eq_true HB1.out.symm
                  have e1 : (h1, h2) = (6, -1) := by rw [← HNK.out]; unfold nameF; rw [HCK.out, HFD.out, if_pos (show (f1, f2).1 = 0 ∧ fd < 0 from h0)]
                  injection e1 with e1 e2
                  clear cB10 lB10
                  go_wp2_with fail
                  refine (bare_any 6 w14).mono ?_
                  rintro e w15 ⟨rfl, hb15⟩
                  have B10b := B10_14.out.below hb15 B10_14.out.lt
                  have cb := B10b.cell
                  have fb := B10b.free
                  have lb := B10b.lt
                  go_wp2_with fail
                  go_meet
                  exact ⟨by rw [e1, e2]; simpa using (B10b.set_ 0 (.int .i64 6)).set_ 1 (.int .i64 (-1)), ((HB5f.out.trans (hb15.mono HB5f.out.size)).setCell hg10w _).setCell hg10w _⟩
              case rest =>
                obtain ⟨B10c, hbc⟩ := hcut
                obtain ⟨w15, rfl⟩ : ∃ w15, w15 = wc := ⟨_, rfl⟩
                clear B10_14 B4_14 hbw14 B4_13 B10_13 hbw13 B4_12 B10_12 B11_12 B12_12 hbw12 B13_12 HD12 HM12 HE12 HE11 HL11 HM11 HMm HB5c HB5d HB5e HB5f B4_11 B5_11 B10_11 B11_11 hbw11 B12_11 B4_9 B5_9 B10_9 B11_9 hbw9 HB59 HM9 HM10 B11_10 B12_10 HBA hbw7 B4_7 B5_7 B10_7 B11_7 HO7 hb67 HNO HO6 HB56 hb45 HL5 B4_6 B5_6 B10_6 hbw6 B4_5 B5_5 B10_5 hbw5 B4_3 B5_3 hbw3 B4_2 B5_2 hbw2 B4_1 B5_1 hbw1 B5_4 fD8 lD8 hz57 h1011 cB12 cB10 lB10 s0 s1 s2 s3 s4 s5 s6 s7 s8 s9 s10 s11 z40 z50 hg13 hg12w hg11w hnl HNS HS9 HB0 HTB HR
                have B4_15 := Lib.hid (B4_4.out.below hbc B4_4.out.lt)
                have hbw15 := Lib.hid (hbw4.out.trans (hbc.mono hbw4.out.size))
                have cB4 := B4_15.out.cell
                have lB4 := B4_15.out.lt
                have B10_15 := Lib.hid B10c
                have HWA0 := Lib.hid (nameF_at W H (lsOf ms) s)
                obtain ⟨kN, hkN⟩ : ∃ kN, fd.toNat = kN := ⟨_, rfl⟩
                obtain ⟨x, hx⟩ : ∃ x, h1 = 0 → (lsOf ms)[kN]? = some x := by
                  have h := HWA0.out
                  rw [HFD.out, hkN] at h
                  rcases h with h | ⟨_, _, _, h⟩
                  · refine ⟨m.l, fun h0 => absurd ?_ h.ne⟩
                    rw [HNK.out]
                    exact h0
                  · exact ⟨_, fun _ => List.getElem?_eq_getElem h⟩
                have HX := Lib.hid hx
                have HWA := Lib.hid (show WithAt W H (lsOf ms) s (h1, h2) kN by have h := HWA0.out; rw [HFD.out, hkN, HNK.out] at h; exact h)
                have HKN := Lib.hid hkN
                obtain ⟨L, hLq⟩ : ∃ L, Lay.flat ((lsOf ms).take (kN + 1)) W.toNat H.toNat = L := ⟨_, rfl⟩
                have HLQ := Lib.hid hLq
                obtain ⟨k1, k2, hmv⟩ : ∃ a b, moveF (h1, h2) tt n = (a, b) := ⟨_, _, rfl⟩
                have HMV := Lib.hid hmv
                clear B10c hbc hkN hx hLq hmv
                go_wp2_with fail
                refine (docOf_any W H A n c ms w15 (HL.out.here hbw15.out (Nat.le_refl _) hbw15.out.size) HN4.out HPM.out).mono ?_
                rintro e wa16 ⟨Aa16, ca16, naa16, rfl, hOa16, hsa16, hia16, hba16⟩
                clear cB4 lB4
                have B4_a16 := Lib.hid (B4_15.out.below hba16 B4_15.out.lt)
                have B10_a16 := Lib.hid (B10_15.out.below hba16 B10_15.out.lt)
                have hbwa16 := Lib.hid (hbw15.out.trans (hba16.mono hbw15.out.size))
                clear B4_15 B10_15 hbw15
                clear hba16
                go_wp2_with fail
                refine (remove_is W H Aa16 naa16.length ca16 kN s naa16 E (h1, h2) wa16 (HE.out.below hbwa16.out) hOa16.lays (by rw [hsa16]; exact HWA.out)).mono ?_
                rw [hsa16]
                rintro e wb16 ⟨p16, q16, A16, n16, c16, v16, rfl, hD16, hbb16⟩
                have B4_b16 := Lib.hid (B4_a16.out.below hbb16 B4_a16.out.lt)
                have B10_b16 := Lib.hid (B10_a16.out.below hbb16 B10_a16.out.lt)
                have hbwb16 := Lib.hid (hbwa16.out.trans (hbb16.mono hbwa16.out.size))
                clear B4_a16 B10_a16 hbwa16
                have cB4 := B4_b16.out.cell
                have lB4 := B4_b16.out.lt
                go_wp2_with fail
                obtain ⟨g16, hg16⟩ : ∃ g, g = wb16.heap.size := ⟨_, rfl⟩
                obtain ⟨wc16, hWc16⟩ : ∃ W, W = wb16.alloc (.cells #[.int .i64 p16, .int .i64 q16, .slice A16 n16 c16] 39) := ⟨_, rfl⟩
                have hbc16 : Below wb16.heap.size wb16 wc16 := by rw [hWc16]; exact Below.alloc (Below.refl _ _) (Nat.le_refl _) _
                have B16_c16 := Lib.hid (show Blk wc16 g16 39 #[.int .i64 p16, .int .i64 q16, .slice A16 n16 c16] by rw [hWc16, hg16]; exact Blk.new _ _ _ rfl)
                have HD16_c16 := Lib.hid (hD16.below hbc16)
                rw [← hWc16, ← hg16]
                clear hWc16 hg16 hD16 hOa16 hsa16 hia16 hbb16 cB4 lB4
                have B4_c16 := Lib.hid (B4_b16.out.below hbc16 B4_b16.out.lt)
                have B10_c16 := Lib.hid (B10_b16.out.below hbc16 B10_b16.out.lt)
                have hbwc16 := Lib.hid (hbwb16.out.trans (hbc16.mono hbwb16.out.size))
                clear B4_b16 B10_b16 hbwb16
                have cB4 := B4_c16.out.cell
                have lB4 := B4_c16.out.lt
                clear hbc16
                go_wp2_with fail
                refine (docOf_any W H A n c ms wc16 (HL.out.here hbwc16.out (Nat.le_refl _) hbwc16.out.size) HN4.out HPM.out).mono ?_
                rintro e wa18 ⟨Aa18, ca18, naa18, rfl, hOa18, hsa18, hia18, hba18⟩
                clear cB4 lB4
                have B4_a18 := Lib.hid (B4_c16.out.below hba18 B4_c16.out.lt)
                have B10_a18 := Lib.hid (B10_c16.out.below hba18 B10_c16.out.lt)
                have B16_a18 := Lib.hid (B16_c16.out.below hba18 B16_c16.out.lt)
                have hbwa18 := Lib.hid (hbwc16.out.trans (hba18.mono hbwc16.out.size))
                clear B4_c16 B10_c16 B16_c16 hbwc16
                have HD16_a18 := Lib.hid (HD16_c16.out.below hba18)
                clear HD16_c16
                clear hba18
                go_wp2_with fail
                refine (move_is W H Aa18 naa18.length ca18 kN s tt naa18 x E (h1, h2) (k1, k2) wa18 (HE.out.below hbwa18.out) hOa18.lays (by rw [hsa18]; exact HWA.out) (by rw [hsa18]; exact HX.out) (by rw [same_lays hsa18, ← HLN.out]; exact HMV.out)).mono ?_
                rw [hsa18]
                rintro e wb18 ⟨p18, q18, A18, n18, c18, v18, rfl, hD18, hbb18⟩
                have B4_b18 := Lib.hid (B4_a18.out.below hbb18 B4_a18.out.lt)
                have B10_b18 := Lib.hid (B10_a18.out.below hbb18 B10_a18.out.lt)
                have B16_b18 := Lib.hid (B16_a18.out.below hbb18 B16_a18.out.lt)
                have hbwb18 := Lib.hid (hbwa18.out.trans (hbb18.mono hbwa18.out.size))
                clear B4_a18 B10_a18 B16_a18 hbwa18
                have cB4 := B4_b18.out.cell
                have lB4 := B4_b18.out.lt
                have HD16_b18 := Lib.hid (HD16_a18.out.below hbb18)
                clear HD16_a18
                go_wp2_with fail
                obtain ⟨g18, hg18⟩ : ∃ g, g = wb18.heap.size := ⟨_, rfl⟩
                obtain ⟨wc18, hWc18⟩ : ∃ W, W = wb18.alloc (.cells #[.int .i64 p18, .int .i64 q18, .slice A18 n18 c18] 39) := ⟨_, rfl⟩
                have hbc18 : Below wb18.heap.size wb18 wc18 := by rw [hWc18]; exact Below.alloc (Below.refl _ _) (Nat.le_refl _) _
                have B18_c18 := Lib.hid (show Blk wc18 g18 39 #[.int .i64 p18, .int .i64 q18, .slice A18 n18 c18] by rw [hWc18, hg18]; exact Blk.new _ _ _ rfl)
                have HD18_c18 := Lib.hid (hD18.below hbc18)
                rw [← hWc18, ← hg18]
                clear hWc18 hg18 hD18 hOa18 hsa18 hia18 hbb18 cB4 lB4
                have B4_c18 := Lib.hid (B4_b18.out.below hbc18 B4_b18.out.lt)
                have B10_c18 := Lib.hid (B10_b18.out.below hbc18 B10_b18.out.lt)
                have B16_c18 := Lib.hid (B16_b18.out.below hbc18 B16_b18.out.lt)
                have hbwc18 := Lib.hid (hbwb18.out.trans (hbc18.mono hbwb18.out.size))
                clear B4_b18 B10_b18 B16_b18 hbwb18
                have cB4 := B4_c18.out.cell
                have lB4 := B4_c18.out.lt
                have HD16_c18 := Lib.hid (HD16_b18.out.below hbc18)
                clear HD16_b18
                clear hbc18
                go_wp2_with fail
                refine (docOf_any W H A n c ms wc18 (HL.out.here hbwc18.out (Nat.le_refl _) hbwc18.out.size) HN4.out HPM.out).mono ?_
                rintro e wa20 ⟨Aa20, ca20, naa20, rfl, hOa20, hsa20, hia20, hba20⟩
                clear cB4 lB4
                have B4_a20 := Lib.hid (B4_c18.out.below hba20 B4_c18.out.lt)
                have B10_a20 := Lib.hid (B10_c18.out.below hba20 B10_c18.out.lt)
                have B16_a20 := Lib.hid (B16_c18.out.below hba20 B16_c18.out.lt)
                have B18_a20 := Lib.hid (B18_c18.out.below hba20 B18_c18.out.lt)
                have hbwa20 := Lib.hid (hbwc18.out.trans (hba20.mono hbwc18.out.size))
                clear B4_c18 B10_c18 B16_c18 B18_c18 hbwc18
                have HD16_a20 := Lib.hid (HD16_c18.out.below hba20)
                clear HD16_c18
                have HD18_a20 := Lib.hid (HD18_c18.out.below hba20)
                clear HD18_c18
                clear hba20
                go_wp2_with fail
                refine (merge_is W H Aa20 naa20.length ca20 kN s naa20 L E (h1, h2) wa20 (HE.out.below hbwa20.out) hOa20.lays (by rw [hsa20]; exact HWA.out) (by rw [hsa20]; exact HLQ.out)).mono ?_
                rw [hsa20]
                rintro e wb20 ⟨p20, q20, A20, n20, c20, v20, rfl, hD20, hbb20⟩
                have B4_b20 := Lib.hid (B4_a20.out.below hbb20 B4_a20.out.lt)
                have B10_b20 := Lib.hid (B10_a20.out.below hbb20 B10_a20.out.lt)
                have B16_b20 := Lib.hid (B16_a20.out.below hbb20 B16_a20.out.lt)
                have B18_b20 := Lib.hid (B18_a20.out.below hbb20 B18_a20.out.lt)
                have hbwb20 := Lib.hid (hbwa20.out.trans (hbb20.mono hbwa20.out.size))
                clear B4_a20 B10_a20 B16_a20 B18_a20 hbwa20
                have cB4 := B4_b20.out.cell
                have lB4 := B4_b20.out.lt
                have cB10 := B10_b20.out.cell
                have lB10 := B10_b20.out.lt
                have HD16_b20 := Lib.hid (HD16_a20.out.below hbb20)
                clear HD16_a20
                have HD18_b20 := Lib.hid (HD18_a20.out.below hbb20)
                clear HD18_a20
                go_upto_region 19 with fail
                obtain ⟨g20, hg20⟩ : ∃ g, g = wb20.heap.size := ⟨_, rfl⟩
                obtain ⟨wc20, hWc20⟩ : ∃ W, W = wb20.alloc (.cells #[.int .i64 p20, .int .i64 q20, .slice A20 n20 c20] 39) := ⟨_, rfl⟩
                have hbc20 : Below wb20.heap.size wb20 wc20 := by rw [hWc20]; exact Below.alloc (Below.refl _ _) (Nat.le_refl _) _
                have B20_c20 := Lib.hid (show Blk wc20 g20 39 #[.int .i64 p20, .int .i64 q20, .slice A20 n20 c20] by rw [hWc20, hg20]; exact Blk.new _ _ _ rfl)
                have HD20_c20 := Lib.hid (hD20.below hbc20)
                rw [← hWc20, ← hg20]
                clear hWc20 hg20 hD20 hOa20 hsa20 hia20 hbb20 cB4 lB4 cB10 lB10
                have B4_c20 := Lib.hid (B4_b20.out.below hbc20 B4_b20.out.lt)
                have B10_c20 := Lib.hid (B10_b20.out.below hbc20 B10_b20.out.lt)
                have B16_c20 := Lib.hid (B16_b20.out.below hbc20 B16_b20.out.lt)
                have B18_c20 := Lib.hid (B18_b20.out.below hbc20 B18_b20.out.lt)
                have hbwc20 := Lib.hid (hbwb20.out.trans (hbc20.mono hbwb20.out.size))
                clear B4_b20 B10_b20 B16_b20 B18_b20 hbwb20
                have cB4 := B4_c20.out.cell
                have lB4 := B4_c20.out.lt
                have HD16_c20 := Lib.hid (HD16_b20.out.below hbc20)
                clear HD16_b20
                have HD18_c20 := Lib.hid (HD18_b20.out.below hbc20)
                clear HD18_b20
                clear hbc20
                have HFE := Lib.hid (show FewLs ((lsOf ms).eraseIdx kN) from ⟨by have := HF0.out.1; have := List.length_eraseIdx_le (lsOf ms) kN; omega, fun l hl => HF0.out.2 l (List.mem_of_mem_eraseIdx hl)⟩)
                have HFV := Lib.hid (show h1 = 0 → FewLs (movedL (lsOf ms) kN tt.toNat x) from fun h0 => ⟨by
                  have := HF0.out.1
                  have h2 := List.length_eraseIdx_le (lsOf ms) kN
                  unfold movedL
                  rw [List.length_append, List.length_append, List.length_take, List.length_drop, List.length_singleton]
                  omega, fun l hl => by
                  unfold movedL at hl
                  rcases List.mem_append.1 hl with h | h
                  · rcases List.mem_append.1 h with h | h
                    · exact HF0.out.2 l (List.mem_of_mem_eraseIdx (List.mem_of_mem_take h))
                    · rw [List.mem_singleton.1 h]; exact HF0.out.2 x (List.mem_of_getElem? (HX.out h0))
                  · exact HF0.out.2 l (List.mem_of_mem_eraseIdx (List.mem_of_mem_drop h))⟩)
                have HC := Lib.hid (show h1 ≤ 9 ∧ -1 ≤ h2 by have := nameF_code W H (lsOf ms) s; rw [HNK.out] at this; exact this)
                have HCM := Lib.hid (show k1 ≤ 9 ∧ -1 ≤ k2 by have := moveF_code HC.out tt n (f := (h1, h2)); rw [HMV.out] at this; exact this)
                have HEz := Lib.hid (HE.out.below hbwc20.out)
                have HLz := Lib.hid (HL.out.here hbwc20.out (Nat.le_refl _) hbwc20.out.size)
                have cB10 := B10_c20.out.cell
                by_cases hz : h1 = 0
                case neg =>
                  trace "neg"
                  have hpos : (0 : Int) < (h1 : Int) := by omega
                  have e0 : (k1, k2) = (h1, h2) := by rw [← HMV.out]; unfold moveF; rw [if_neg (fun h => hz h.1)]
                  injection e0 with e1 e2
                  subst e1 e2
                  have cB16 := B16_c20.out.cell
                  go_wp2_with fail
                  refine (isDoc_as E W H (k1, k2) _ p16 q16 A16 n16 c16 v16 A n c ms _ _ wc20 rfl rfl (HE.out.below hbwc20.out) HD16_c20.out (HL.out.here hbwc20.out (Nat.le_refl _) hbwc20.out.size) (fun h => absurd h hz) (fun h => absurd h hz) HC.out).mono ?_
                  rintro e wd1 ⟨rfl, hbd1⟩
                  clear cB16 cB4 cB10 lB4
                  have B4_d1 := Lib.hid (B4_c20.out.below hbd1 B4_c20.out.lt)
                  have B10_d1 := Lib.hid (B10_c20.out.below hbd1 B10_c20.out.lt)
                  have B16_d1 := Lib.hid (B16_c20.out.below hbd1 B16_c20.out.lt)
                  have B18_d1 := Lib.hid (B18_c20.out.below hbd1 B18_c20.out.lt)
                  have B20_d1 := Lib.hid (B20_c20.out.below hbd1 B20_c20.out.lt)
                  have hbwd1 := Lib.hid (hbwc20.out.trans (hbd1.mono hbwc20.out.size))
                  have HD16_d1 := Lib.hid (HD16_c20.out.below hbd1)
                  have HD18_d1 := Lib.hid (HD18_c20.out.below hbd1)
                  have HD20_d1 := Lib.hid (HD20_c20.out.below hbd1)
                  clear hbd1
                  have cB18 := B18_d1.out.cell
                  have cB4 := B4_d1.out.cell
                  have cB10 := B10_d1.out.cell
                  go_wp2_with fail
                  refine (isDoc_as E W H (k1, k2) _ p18 q18 A18 n18 c18 v18 A n c ms _ _ wd1 rfl rfl (HE.out.below hbwd1.out) HD18_d1.out (HL.out.here hbwd1.out (Nat.le_refl _) hbwd1.out.size) (fun h => absurd h hz) (fun h => absurd h hz) HC.out).mono ?_
                  rintro e wd2 ⟨rfl, hbd2⟩
                  clear cB18 cB4 cB10
                  have B4_d2 := Lib.hid (B4_d1.out.below hbd2 B4_d1.out.lt)
                  have B10_d2 := Lib.hid (B10_d1.out.below hbd2 B10_d1.out.lt)
                  have B16_d2 := Lib.hid (B16_d1.out.below hbd2 B16_d1.out.lt)
                  have B18_d2 := Lib.hid (B18_d1.out.below hbd2 B18_d1.out.lt)
                  have B20_d2 := Lib.hid (B20_d1.out.below hbd2 B20_d1.out.lt)
                  have hbwd2 := Lib.hid (hbwd1.out.trans (hbd2.mono hbwd1.out.size))
                  have HD16_d2 := Lib.hid (HD16_d1.out.below hbd2)
                  have HD18_d2 := Lib.hid (HD18_d1.out.below hbd2)
                  have HD20_d2 := Lib.hid (HD20_d1.out.below hbd2)
                  clear hbd2
                  have cB20 := B20_d2.out.cell
                  have cB4 := B4_d2.out.cell
                  have cB10 := B10_d2.out.cell
                  go_wp2_with fail
                  refine (isDoc_as E W H (k1, k2) _ p20 q20 A20 n20 c20 v20 A n c ms _ _ wd2 rfl rfl (HE.out.below hbwd2.out) HD20_d2.out (HL.out.here hbwd2.out (Nat.le_refl _) hbwd2.out.size) (fun h => absurd h hz) (fun h => absurd h hz) HC.out).mono ?_
                  rintro e wd3 ⟨rfl, hbd3⟩
                  clear cB20 cB4 cB10
                  have B4_d3 := Lib.hid (B4_d2.out.below hbd3 B4_d2.out.lt)
                  have B10_d3 := Lib.hid (B10_d2.out.below hbd3 B10_d2.out.lt)
                  have B16_d3 := Lib.hid (B16_d2.out.below hbd3 B16_d2.out.lt)
                  have B18_d3 := Lib.hid (B18_d2.out.below hbd3 B18_d2.out.lt)
                  have B20_d3 := Lib.hid (B20_d2.out.below hbd3 B20_d2.out.lt)
                  have hbwd3 := Lib.hid (hbwd2.out.trans (hbd3.mono hbwd2.out.size))
                  have HD16_d3 := Lib.hid (HD16_d2.out.below hbd3)
                  have HD18_d3 := Lib.hid (HD18_d2.out.below hbd3)
                  have HD20_d3 := Lib.hid (HD20_d2.out.below hbd3)
                  clear hbd3
                  go_wp2_with fail
                  go_ret
                  exact ⟨rfl, hbwd3.out⟩
                case pos =>
                  trace "pos"
                  have hpos : ¬ (0 : Int) < (h1 : Int) := by omega
                  have HZ := Lib.hid hz
                  have HOKN := Lib.hid (show (h1, h2) = (0, -1) ∧ Lay.Good W H (lsOf ms) ∧ Lay.find (lsOf ms) s = kN ∧ kN < (lsOf ms).length by
                    rcases HWA.out with h | h
                    · exact absurd hz h.ne
                    · exact h)
                  have HG := Lib.hid HOKN.out.2.1
                  obtain rfl : fd = (kN : Int) := HFD.out.symm.trans HOKN.out.2.2.1
                  have HKL := Lib.hid (show kN < n by have := HOKN.out.2.2.2; rw [lsOf_len] at this; rw [HLN.out]; exact this)
                  have HNM := Lib.hid (show ∀ h : kN < ms.length, ms[kN].l.name = s from fun h => by
                    obtain ⟨hk, h1, _⟩ := Lay.find_at (lsOf ms) s kN HOKN.out.2.2.1
                    rw [lsOf_get ms kN h] at h1
                    exact h1)
                  obtain ⟨hsw1, hsw2⟩ := sideB_true HG.out.wd
                  obtain ⟨hsh1, hsh2⟩ := sideB_true HG.out.hg
                  obtain ⟨W', rfl⟩ : ∃ W' : Nat, W = W' := ⟨W.toNat, by omega⟩
                  obtain ⟨H', rfl⟩ : ∃ H' : Nat, H = H' := ⟨H.toNat, by omega⟩
                  have HFM := Lib.hid (show FewLs (Lay.merged s W' H' L :: (lsOf ms).drop (kN + 1)) from ⟨by
                    have := HF0.out.1
                    rw [List.length_cons, List.length_drop]
                    omega, fun l hl => by
                    rcases List.mem_cons.1 hl with h | h
                    · subst h
                      show L.length ≤ 1048576
                      rw [← HLQ.out, Lay.flat_length, Int.toNat_natCast, Int.toNat_natCast]
                      have := Nat.mul_le_mul (show H' ≤ 256 by omega) (show W' ≤ 256 by omega)
                      omega
                    · exact HF0.out.2 l (List.mem_of_mem_drop h)⟩)
                  have HLQ2 := Lib.hid (show Lay.flat ((lsOf ms).take (kN + 1)) W' H' = L by have h := HLQ.out; rw [Int.toNat_natCast, Int.toNat_natCast] at h; exact h)
                  trace "pos2"
                  clear hz cB4 lB4 HCK HGK HNK HWA0 HWA HOKN HKN HB1 HLQ hsw1 hsw2 hsh1 hsh2 hn12 hn HF0 HM
                  go_upto_region 21 with fail
                  trace "pos3"
                  clear cB10
                  have s0 : wc20.cell? ⟨g16, 0, none⟩ = some (.int .i64 p16) := (B16_c20.out.cell _).trans rfl
                  have s1 : wc20.cell? ⟨g16, 1, none⟩ = some (.int .i64 q16) := (B16_c20.out.cell _).trans rfl
                  have s2 : wc20.cell? ⟨g16, 2, none⟩ = some (.slice A16 n16 c16) := (B16_c20.out.cell _).trans rfl
                  have u0 : wc20.cell? ⟨g20, 0, none⟩ = some (.int .i64 p20) := (B20_c20.out.cell _).trans rfl
                  have u1 : wc20.cell? ⟨g20, 1, none⟩ = some (.int .i64 q20) := (B20_c20.out.cell _).trans rfl
                  have u2 : wc20.cell? ⟨g20, 2, none⟩ = some (.slice A20 n20 c20) := (B20_c20.out.cell _).trans rfl
                  have x0 : wc20.cell? ⟨w.heap.size, 0, none⟩ = some (.int .i64 W') := (B4_c20.out.cell _).trans rfl
                  have x1 : wc20.cell? ⟨w.heap.size, 1, none⟩ = some (.int .i64 H') := (B4_c20.out.cell _).trans rfl
                  have x2 : wc20.cell? ⟨w.heap.size, 2, none⟩ = some (.slice A n c) := (B4_c20.out.cell _).trans rfl
                  have y0 : wc20.cell? ⟨g10, 0, none⟩ = some (.int .i64 h1) := (B10_c20.out.cell _).trans rfl
                  have y1 : wc20.cell? ⟨g10, 1, none⟩ = some (.int .i64 h2) := (B10_c20.out.cell _).trans rfl
                  trace "r21"
                  go_cut [139] (fun sv wx => sv = .bool false ∧ Below wc20.heap.size wc20 wx)
                  case first =>
                    refine wp_region_held_drew (S := (fun w' => w'.cell? ⟨g16, 0, none⟩ = some (.int .i64 p16) ∧ w'.cell? ⟨g16, 1, none⟩ = some (.int .i64 q16) ∧ w'.cell? ⟨g16, 2, none⟩ = some (.slice A16 n16 c16) ∧ w'.cell? ⟨g20, 0, none⟩ = some (.int .i64 p20) ∧ w'.cell? ⟨g20, 1, none⟩ = some (.int .i64 q20) ∧ w'.cell? ⟨g20, 2, none⟩ = some (.slice A20 n20 c20) ∧ w'.cell? ⟨w.heap.size, 0, none⟩ = some (.int .i64 W') ∧ w'.cell? ⟨w.heap.size, 1, none⟩ = some (.int .i64 H') ∧ w'.cell? ⟨w.heap.size, 2, none⟩ = some (.slice A n c) ∧ w'.cell? ⟨g10, 0, none⟩ = some (.int .i64 h1) ∧ w'.cell? ⟨g10, 1, none⟩ = some (.int .i64 h2))) (by kernel_rfl) ?_ (fun hHeld => ?_)
                    · exact ⟨s0, s1, s2, u0, u1, u2, x0, x1, x2, y0, y1⟩
                    refine wpAnyH_take (i := 0) (v := ?_) rfl (by kernel_rfl) (by kernel_rfl) (by kernel_rfl) (fun _ _ _ h => h) (Or.inl ⟨by rfl, ?_⟩) (by assumption) ?_
                    rotate_left
                    · intro w hSw; (try dsimp only at hSw); go_simp <;> with_reducible rfl
                    (try simp only [Act.put, List.getElem_toArray, List.getElem_cons_zero, List.setIfInBounds_toArray, List.set_cons_zero, List.set_cons_succ])
                    refine wpAnyH_take (i := 1) (v := ?_) rfl (by kernel_rfl) (by kernel_rfl) (by kernel_rfl) (fun _ _ _ h => h) (Or.inl ⟨by rfl, ?_⟩) (by assumption) ?_
                    rotate_left
                    · intro w hSw; (try dsimp only at hSw); go_simp <;> with_reducible rfl
                    (try simp only [Act.put, List.getElem_toArray, List.getElem_cons_zero, List.getElem_cons_succ, List.setIfInBounds_toArray, List.set_cons_zero, List.set_cons_succ])
                    refine wpAnyH_take (i := 2) (v := ?_) rfl (by kernel_rfl) (by kernel_rfl) (by kernel_rfl) (fun _ _ _ h => h) (Or.inl ⟨by rfl, ?_⟩) (by assumption) ?_
                    rotate_left
                    · intro w hSw; (try dsimp only at hSw); go_simp <;> with_reducible rfl
                    (try simp only [Act.put, List.getElem_toArray, List.getElem_cons_zero, List.getElem_cons_succ, List.setIfInBounds_toArray, List.set_cons_zero, List.set_cons_succ])
                    refine wpAnyH_take (i := 3) (v := ?_) rfl (by kernel_rfl) (by kernel_rfl) (by kernel_rfl) (fun _ _ _ h => h) (Or.inl ⟨by rfl, ?_⟩) (by assumption) ?_
                    rotate_left
                    · intro w hSw; (try dsimp only at hSw); go_simp <;> with_reducible rfl
                    (try simp only [Act.put, List.getElem_toArray, List.getElem_cons_zero, List.getElem_cons_succ, List.setIfInBounds_toArray, List.set_cons_zero, List.set_cons_succ])
                    refine wpAnyH_take (i := 5) (v := ?_) rfl (by kernel_rfl) (by kernel_rfl) (by kernel_rfl) (fun _ _ _ h => h) (Or.inl ⟨by rfl, ?_⟩) (by assumption) ?_
                    rotate_left
                    · intro w hSw; (try dsimp only at hSw); go_simp <;> with_reducible rfl
                    (try simp only [Act.put, List.getElem_toArray, List.getElem_cons_zero, List.getElem_cons_succ, List.setIfInBounds_toArray, List.set_cons_zero, List.set_cons_succ])
                    refine wpAnyH_ready (rs := [4]) (by kernel_rfl) (by simp) ?_
                    refine AllReadyH.cons rfl (fun K hK => ?_) AllReadyH.nil
                    go_simp
                    (go_at_call 18; refine (removeOf_any W' H' A n c kN ms wc20.drew HLz.out HN4.out HPM.out HKL.out).mono ?_; rintro e wA ⟨A22, c22, n22, rfl, hOA, hsA, hbA⟩; have hAA := Lib.hid (Below.fromDrew hbA))
                    refine hK.out _ _ ?_ (fun hHeld => ?_)
                    · exact ⟨bkeep hAA.out s0, bkeep hAA.out s1, bkeep hAA.out s2, bkeep hAA.out u0, bkeep hAA.out u1, bkeep hAA.out u2, bkeep hAA.out x0, bkeep hAA.out x1, bkeep hAA.out x2, bkeep hAA.out y0, bkeep hAA.out y1⟩
                    clear hK K
                    (try simp only [Act.put, List.getElem_toArray, List.getElem_cons_zero, List.getElem_cons_succ, List.setIfInBounds_toArray, List.set_cons_zero, List.set_cons_succ])
                    refine wpAnyH_ready (rs := [6]) (by kernel_rfl) (by simp) ?_
                    refine AllReadyH.cons rfl (fun K hK => ?_) AllReadyH.nil
                    go_simp
                    (go_at_call 12; refine (isDoc_as E W' H' (h1, h2) ((lsOf ms).eraseIdx kN) p16 q16 A16 n16 c16 v16 A22 n22.length c22 n22 h1 h2 wA rfl rfl (HEz.out.below hAA.out) (HD16_c20.out.below hAA.out) hOA.lays (fun _ => hsA) (fun _ => HFE.out) HC.out).mono ?_; rintro e wB ⟨rfl, hbB⟩; have hBB := Lib.hid (hAA.out.trans (hbB.mono hAA.out.size)))
                    refine hK.out _ _ ?_ (fun hHeld => ?_)
                    · exact ⟨bkeep hBB.out s0, bkeep hBB.out s1, bkeep hBB.out s2, bkeep hBB.out u0, bkeep hBB.out u1, bkeep hBB.out u2, bkeep hBB.out x0, bkeep hBB.out x1, bkeep hBB.out x2, bkeep hBB.out y0, bkeep hBB.out y1⟩
                    clear hK K
                    (try simp only [Act.put, List.getElem_toArray, List.getElem_cons_zero, List.getElem_cons_succ, List.setIfInBounds_toArray, List.set_cons_zero, List.set_cons_succ])
                    refine wpAnyH_take (i := 7) (v := ?_) rfl (by kernel_rfl) (by kernel_rfl) (by kernel_rfl) (fun _ _ _ h => h) (Or.inl ⟨by rfl, ?_⟩) (by assumption) ?_
                    rotate_left
                    · intro w hSw; (try dsimp only at hSw); go_simp <;> with_reducible rfl
                    (try simp only [Act.put, List.getElem_toArray, List.getElem_cons_zero, List.getElem_cons_succ, List.setIfInBounds_toArray, List.set_cons_zero, List.set_cons_succ])
                    refine wpAnyH_take (i := 8) (v := ?_) rfl (by kernel_rfl) (by kernel_rfl) (by kernel_rfl) (fun _ _ _ h => h) (Or.inl ⟨by rfl, ?_⟩) (by assumption) ?_
                    rotate_left
                    · intro w hSw; (try dsimp only at hSw); go_simp <;> with_reducible rfl
                    (try simp only [Act.put, List.getElem_toArray, List.getElem_cons_zero, List.getElem_cons_succ, List.setIfInBounds_toArray, List.set_cons_zero, List.set_cons_succ])
                    refine wpAnyH_take (i := 9) (v := ?_) rfl (by kernel_rfl) (by kernel_rfl) (by kernel_rfl) (fun _ _ _ h => h) (Or.inl ⟨by rfl, ?_⟩) (by assumption) ?_
                    rotate_left
                    · intro w hSw; (try dsimp only at hSw); go_simp <;> with_reducible rfl
                    (try simp only [Act.put, List.getElem_toArray, List.getElem_cons_zero, List.getElem_cons_succ, List.setIfInBounds_toArray, List.set_cons_zero, List.set_cons_succ])
                    refine wpAnyH_take (i := 10) (v := ?_) rfl (by kernel_rfl) (by kernel_rfl) (by kernel_rfl) (fun _ _ _ h => h) (Or.inl ⟨by rfl, ?_⟩) (by assumption) ?_
                    rotate_left
                    · intro w hSw; (try dsimp only at hSw); go_simp <;> with_reducible rfl
                    (try simp only [Act.put, List.getElem_toArray, List.getElem_cons_zero, List.getElem_cons_succ, List.setIfInBounds_toArray, List.set_cons_zero, List.set_cons_succ])
                    refine wpAnyH_take (i := 11) (v := ?_) rfl (by kernel_rfl) (by kernel_rfl) (by kernel_rfl) (fun _ _ _ h => h) (Or.inl ⟨by rfl, ?_⟩) (by assumption) ?_
                    rotate_left
                    · intro w hSw; (try dsimp only at hSw); go_simp <;> with_reducible rfl
                    (try simp only [Act.put, List.getElem_toArray, List.getElem_cons_zero, List.getElem_cons_succ, List.setIfInBounds_toArray, List.set_cons_zero, List.set_cons_succ])
                    refine wpAnyH_take (i := 12) (v := ?_) rfl (by kernel_rfl) (by kernel_rfl) (by kernel_rfl) (fun _ _ _ h => h) (Or.inl ⟨by rfl, ?_⟩) (by assumption) ?_
                    rotate_left
                    · intro w hSw; (try dsimp only at hSw); go_simp <;> with_reducible rfl
                    (try simp only [Act.put, List.getElem_toArray, List.getElem_cons_zero, List.getElem_cons_succ, List.setIfInBounds_toArray, List.set_cons_zero, List.set_cons_succ])
                    refine wpAnyH_take (i := 14) (v := ?_) rfl (by kernel_rfl) (by kernel_rfl) (by kernel_rfl) (fun _ _ _ h => h) (Or.inl ⟨by rfl, ?_⟩) (by assumption) ?_
                    rotate_left
                    · intro w hSw; (try dsimp only at hSw); go_simp <;> with_reducible rfl
                    (try simp only [Act.put, List.getElem_toArray, List.getElem_cons_zero, List.getElem_cons_succ, List.setIfInBounds_toArray, List.set_cons_zero, List.set_cons_succ])
                    refine wpAnyH_ready (rs := [13]) (by kernel_rfl) (by simp) ?_
                    refine AllReadyH.cons rfl (fun K hK => ?_) AllReadyH.nil
                    go_simp
                    (go_at_call 19; refine (mergeOf_any W' H' A n c kN ms s L wB ((HLz.out.below hBB.out (Nat.le_refl _)).more hBB.out.size) HG.out HKL.out HNM.out HLQ2.out).mono ?_; rintro e wC ⟨A23, c23, n23, rfl, hOC, hsC, hbC⟩; have hCC := Lib.hid (hBB.out.trans (hbC.mono hBB.out.size)))
                    refine hK.out _ _ ?_ (fun hHeld => ?_)
                    · exact ⟨bkeep hCC.out s0, bkeep hCC.out s1, bkeep hCC.out s2, bkeep hCC.out u0, bkeep hCC.out u1, bkeep hCC.out u2, bkeep hCC.out x0, bkeep hCC.out x1, bkeep hCC.out x2, bkeep hCC.out y0, bkeep hCC.out y1⟩
                    clear hK K
                    (try simp only [Act.put, List.getElem_toArray, List.getElem_cons_zero, List.getElem_cons_succ, List.setIfInBounds_toArray, List.set_cons_zero, List.set_cons_succ])
                    refine wpAnyH_ready (rs := [15]) (by kernel_rfl) (by simp) ?_
                    refine AllReadyH.cons rfl (fun K hK => ?_) AllReadyH.nil
                    go_simp
                    (go_at_call 12; refine (isDoc_as E W' H' (h1, h2) (Lay.merged s W' H' L :: (lsOf ms).drop (kN + 1)) p20 q20 A20 n20 c20 v20 A23 n23.length c23 n23 h1 h2 wC rfl rfl (HEz.out.below hCC.out) (HD20_c20.out.below hCC.out) hOC.lays (fun _ => hsC) (fun _ => HFM.out) HC.out).mono ?_; rintro e wD ⟨rfl, hbD⟩; have hDD := Lib.hid (hCC.out.trans (hbD.mono hCC.out.size)))
                    refine hK.out _ _ ?_ (fun hHeld => ?_)
                    · exact ⟨bkeep hDD.out s0, bkeep hDD.out s1, bkeep hDD.out s2, bkeep hDD.out u0, bkeep hDD.out u1, bkeep hDD.out u2, bkeep hDD.out x0, bkeep hDD.out x1, bkeep hDD.out x2, bkeep hDD.out y0, bkeep hDD.out y1⟩
                    clear hK K
                    (try simp only [Act.put, List.getElem_toArray, List.getElem_cons_zero, List.getElem_cons_succ, List.setIfInBounds_toArray, List.set_cons_zero, List.set_cons_succ])
                    refine wpAnyH_take (i := 16) (v := ?_) rfl (by kernel_rfl) (by kernel_rfl) (by kernel_rfl) (fun _ _ _ h => h) (Or.inl ⟨by rfl, ?_⟩) (by assumption) ?_
                    rotate_left
                    · intro w hSw; (try dsimp only at hSw); go_simp <;> with_reducible rfl
                    (try simp only [Act.put, List.getElem_toArray, List.getElem_cons_zero, List.getElem_cons_succ, List.setIfInBounds_toArray, List.set_cons_zero, List.set_cons_succ])
                    refine wpAnyH_take (i := 17) (v := ?_) rfl (by kernel_rfl) (by kernel_rfl) (by kernel_rfl) (fun _ _ _ h => h) (Or.inl ⟨by rfl, ?_⟩) (by assumption) ?_
                    rotate_left
                    · intro w hSw; (try dsimp only at hSw); go_simp <;> with_reducible rfl
                    (try simp only [Act.put, List.getElem_toArray, List.getElem_cons_zero, List.getElem_cons_succ, List.setIfInBounds_toArray, List.set_cons_zero, List.set_cons_succ])
                    refine wpAnyH_done (by kernel_rfl) ?_ _
                    trace "way21"
                    all_goals
                      go_wp2_with fail
                      go_meet
                      exact ⟨rfl, hDD.out⟩
                  case rest =>
                    obtain ⟨rfl, hDD⟩ := hcut
                    obtain ⟨wD, rfl⟩ : ∃ wD, wD = wc := ⟨_, rfl⟩
                    have B4_e := Lib.hid (B4_c20.out.below hDD B4_c20.out.lt)
                    have B10_e := Lib.hid (B10_c20.out.below hDD B10_c20.out.lt)
                    have B18_e := Lib.hid (B18_c20.out.below hDD B18_c20.out.lt)
                    have hbwe := Lib.hid (hbwc20.out.trans (hDD.mono hbwc20.out.size))
                    have HD18_e := Lib.hid (HD18_c20.out.below hDD)
                    have HEe := Lib.hid (HE.out.below hbwe.out)
                    have HLe := Lib.hid (HL.out.here hbwe.out (Nat.le_refl _) hbwe.out.size)
                    have cB4 := B4_e.out.cell
                    clear s0 s1 s2 u0 u1 u2 x0 x1 x2 y0 y1
                    trace "end"
                    by_cases ht1 : tt < 0
                    · have ht1' : decide (tt < 0) = true := decide_eq_true ht1
                      have e0 : (k1, k2) = (2, -1) := by rw [← HMV.out]; unfold moveF; rw [if_pos ⟨HZ.out, .inl ht1⟩]
                      injection e0 with e1 e2
                      have HK1 := Lib.hid (show (k1 : Int) = 2 by omega)
                      have HK2 := Lib.hid (show k2 = -1 from e2)
                      have HKN0 := Lib.hid (show ¬ k1 = 0 by omega)
                      clear e1 e2
                      go_upto_region 24 with fail
                      clear cB4
                      have s0 : wD.cell? ⟨g18, 0, none⟩ = some (.int .i64 p18) := (B18_e.out.cell _).trans rfl
                      have s1 : wD.cell? ⟨g18, 1, none⟩ = some (.int .i64 q18) := (B18_e.out.cell _).trans rfl
                      have s2 : wD.cell? ⟨g18, 2, none⟩ = some (.slice A18 n18 c18) := (B18_e.out.cell _).trans rfl
                      have x0 : wD.cell? ⟨w.heap.size, 0, none⟩ = some (.int .i64 W') := (B4_e.out.cell _).trans rfl
                      have x1 : wD.cell? ⟨w.heap.size, 1, none⟩ = some (.int .i64 H') := (B4_e.out.cell _).trans rfl
                      have x2 : wD.cell? ⟨w.heap.size, 2, none⟩ = some (.slice A n c) := (B4_e.out.cell _).trans rfl
                      refine wp_region_held_drew (S := (fun w' => w'.cell? ⟨g18, 0, none⟩ = some (.int .i64 p18) ∧ w'.cell? ⟨g18, 1, none⟩ = some (.int .i64 q18) ∧ w'.cell? ⟨g18, 2, none⟩ = some (.slice A18 n18 c18) ∧ w'.cell? ⟨w.heap.size, 0, none⟩ = some (.int .i64 W') ∧ w'.cell? ⟨w.heap.size, 1, none⟩ = some (.int .i64 H') ∧ w'.cell? ⟨w.heap.size, 2, none⟩ = some (.slice A n c))) (by kernel_rfl) ?_ (fun hHeld => ?_)
                      · exact ⟨s0, s1, s2, x0, x1, x2⟩
                      refine wpAnyH_take (i := 0) (v := ?_) rfl (by kernel_rfl) (by kernel_rfl) (by kernel_rfl) (fun _ _ _ h => h) (Or.inl ⟨by rfl, ?_⟩) (by assumption) ?_
                      rotate_left
                      · intro w hSw; (try dsimp only at hSw); go_simp <;> with_reducible rfl
                      (try simp only [Act.put, List.getElem_toArray, List.getElem_cons_zero, List.setIfInBounds_toArray, List.set_cons_zero, List.set_cons_succ])
                      refine wpAnyH_take (i := 1) (v := ?_) rfl (by kernel_rfl) (by kernel_rfl) (by kernel_rfl) (fun _ _ _ h => h) (Or.inl ⟨by rfl, ?_⟩) (by assumption) ?_
                      rotate_left
                      · intro w hSw; (try dsimp only at hSw); go_simp <;> with_reducible rfl
                      (try simp only [Act.put, List.getElem_toArray, List.getElem_cons_zero, List.getElem_cons_succ, List.setIfInBounds_toArray, List.set_cons_zero, List.set_cons_succ])
                      refine wpAnyH_take (i := 2) (v := ?_) rfl (by kernel_rfl) (by kernel_rfl) (by kernel_rfl) (fun _ _ _ h => h) (Or.inl ⟨by rfl, ?_⟩) (by assumption) ?_
                      rotate_left
                      · intro w hSw; (try dsimp only at hSw); go_simp <;> with_reducible rfl
                      (try simp only [Act.put, List.getElem_toArray, List.getElem_cons_zero, List.getElem_cons_succ, List.setIfInBounds_toArray, List.set_cons_zero, List.set_cons_succ])
                      refine wpAnyH_ready (rs := [3]) (by kernel_rfl) (by simp) ?_
                      refine AllReadyH.cons rfl (fun K hK => ?_) AllReadyH.nil
                      go_simp
                      (go_at_call 14; refine (bare_any 2 wD.drew).mono ?_; rintro e wE ⟨rfl, hbE⟩; have hEE := Lib.hid (Below.fromDrew hbE))
                      refine hK.out _ _ ?_ (fun hHeld => ?_)
                      · exact ⟨bkeep hEE.out s0, bkeep hEE.out s1, bkeep hEE.out s2, bkeep hEE.out x0, bkeep hEE.out x1, bkeep hEE.out x2⟩
                      clear hK K
                      (try simp only [Act.put, List.getElem_toArray, List.getElem_cons_zero, List.getElem_cons_succ, List.setIfInBounds_toArray, List.set_cons_zero, List.set_cons_succ])
                      refine wpAnyH_ready (rs := [4]) (by kernel_rfl) (by simp) ?_
                      refine AllReadyH.cons rfl (fun K hK => ?_) AllReadyH.nil
                      go_simp
                      (go_at_call 12; refine (isDoc_as E W' H' (k1, k2) (movedL (lsOf ms) kN tt.toNat x) p18 q18 A18 n18 c18 v18 A n c ms 2 (-1) wE HK1.out HK2.out (HEe.out.below hEE.out) (HD18_e.out.below hEE.out) (HLe.out.step hEE.out) (fun h => absurd h HKN0.out) (fun h => absurd h HKN0.out) HCM.out).mono ?_; rintro e wF ⟨rfl, hbF⟩; have hFF := Lib.hid (hEE.out.trans (hbF.mono hEE.out.size)))
                      refine hK.out _ _ ?_ (fun hHeld => ?_)
                      · exact ⟨bkeep hFF.out s0, bkeep hFF.out s1, bkeep hFF.out s2, bkeep hFF.out x0, bkeep hFF.out x1, bkeep hFF.out x2⟩
                      clear hK K
                      (try simp only [Act.put, List.getElem_toArray, List.getElem_cons_zero, List.getElem_cons_succ, List.setIfInBounds_toArray, List.set_cons_zero, List.set_cons_succ])
                      refine wpAnyH_take (i := 5) (v := ?_) rfl (by kernel_rfl) (by kernel_rfl) (by kernel_rfl) (fun _ _ _ h => h) (Or.inl ⟨by rfl, ?_⟩) (by assumption) ?_
                      rotate_left
                      · intro w hSw; (try dsimp only at hSw); go_simp <;> with_reducible rfl
                      (try simp only [Act.put, List.getElem_toArray, List.getElem_cons_zero, List.getElem_cons_succ, List.setIfInBounds_toArray, List.set_cons_zero, List.set_cons_succ])
                      refine wpAnyH_done (by kernel_rfl) ?_ _
                      all_goals
                        go_wp2_with fail
                        go_ret
                        exact ⟨rfl, hbwe.out.trans (hFF.out.mono hbwe.out.size)⟩
                    · have ht1' : decide (tt < 0) = false := decide_eq_false ht1
                      by_cases ht2 : (n : Int) ≤ tt
                      · have ht2' : decide ((n : Int) ≤ tt) = true := decide_eq_true ht2
                        have e0 : (k1, k2) = (2, -1) := by rw [← HMV.out]; unfold moveF; rw [if_pos ⟨HZ.out, .inr ht2⟩]
                        injection e0 with e1 e2
                        have HK1 := Lib.hid (show (k1 : Int) = 2 by omega)
                        have HK2 := Lib.hid (show k2 = -1 from e2)
                        have HKN0 := Lib.hid (show ¬ k1 = 0 by omega)
                        clear e1 e2
                        go_upto_region 24 with fail
                        clear cB4
                        have s0 : wD.cell? ⟨g18, 0, none⟩ = some (.int .i64 p18) := (B18_e.out.cell _).trans rfl
                        have s1 : wD.cell? ⟨g18, 1, none⟩ = some (.int .i64 q18) := (B18_e.out.cell _).trans rfl
                        have s2 : wD.cell? ⟨g18, 2, none⟩ = some (.slice A18 n18 c18) := (B18_e.out.cell _).trans rfl
                        have x0 : wD.cell? ⟨w.heap.size, 0, none⟩ = some (.int .i64 W') := (B4_e.out.cell _).trans rfl
                        have x1 : wD.cell? ⟨w.heap.size, 1, none⟩ = some (.int .i64 H') := (B4_e.out.cell _).trans rfl
                        have x2 : wD.cell? ⟨w.heap.size, 2, none⟩ = some (.slice A n c) := (B4_e.out.cell _).trans rfl
                        refine wp_region_held_drew (S := (fun w' => w'.cell? ⟨g18, 0, none⟩ = some (.int .i64 p18) ∧ w'.cell? ⟨g18, 1, none⟩ = some (.int .i64 q18) ∧ w'.cell? ⟨g18, 2, none⟩ = some (.slice A18 n18 c18) ∧ w'.cell? ⟨w.heap.size, 0, none⟩ = some (.int .i64 W') ∧ w'.cell? ⟨w.heap.size, 1, none⟩ = some (.int .i64 H') ∧ w'.cell? ⟨w.heap.size, 2, none⟩ = some (.slice A n c))) (by kernel_rfl) ?_ (fun hHeld => ?_)
                        · exact ⟨s0, s1, s2, x0, x1, x2⟩
                        refine wpAnyH_take (i := 0) (v := ?_) rfl (by kernel_rfl) (by kernel_rfl) (by kernel_rfl) (fun _ _ _ h => h) (Or.inl ⟨by rfl, ?_⟩) (by assumption) ?_
                        rotate_left
                        · intro w hSw; (try dsimp only at hSw); go_simp <;> with_reducible rfl
                        (try simp only [Act.put, List.getElem_toArray, List.getElem_cons_zero, List.setIfInBounds_toArray, List.set_cons_zero, List.set_cons_succ])
                        refine wpAnyH_take (i := 1) (v := ?_) rfl (by kernel_rfl) (by kernel_rfl) (by kernel_rfl) (fun _ _ _ h => h) (Or.inl ⟨by rfl, ?_⟩) (by assumption) ?_
                        rotate_left
                        · intro w hSw; (try dsimp only at hSw); go_simp <;> with_reducible rfl
                        (try simp only [Act.put, List.getElem_toArray, List.getElem_cons_zero, List.getElem_cons_succ, List.setIfInBounds_toArray, List.set_cons_zero, List.set_cons_succ])
                        refine wpAnyH_take (i := 2) (v := ?_) rfl (by kernel_rfl) (by kernel_rfl) (by kernel_rfl) (fun _ _ _ h => h) (Or.inl ⟨by rfl, ?_⟩) (by assumption) ?_
                        rotate_left
                        · intro w hSw; (try dsimp only at hSw); go_simp <;> with_reducible rfl
                        (try simp only [Act.put, List.getElem_toArray, List.getElem_cons_zero, List.getElem_cons_succ, List.setIfInBounds_toArray, List.set_cons_zero, List.set_cons_succ])
                        refine wpAnyH_ready (rs := [3]) (by kernel_rfl) (by simp) ?_
                        refine AllReadyH.cons rfl (fun K hK => ?_) AllReadyH.nil
                        go_simp
                        (go_at_call 14; refine (bare_any 2 wD.drew).mono ?_; rintro e wE ⟨rfl, hbE⟩; have hEE := Lib.hid (Below.fromDrew hbE))
                        refine hK.out _ _ ?_ (fun hHeld => ?_)
                        · exact ⟨bkeep hEE.out s0, bkeep hEE.out s1, bkeep hEE.out s2, bkeep hEE.out x0, bkeep hEE.out x1, bkeep hEE.out x2⟩
                        clear hK K
                        (try simp only [Act.put, List.getElem_toArray, List.getElem_cons_zero, List.getElem_cons_succ, List.setIfInBounds_toArray, List.set_cons_zero, List.set_cons_succ])
                        refine wpAnyH_ready (rs := [4]) (by kernel_rfl) (by simp) ?_
                        refine AllReadyH.cons rfl (fun K hK => ?_) AllReadyH.nil
                        go_simp
                        (go_at_call 12; refine (isDoc_as E W' H' (k1, k2) (movedL (lsOf ms) kN tt.toNat x) p18 q18 A18 n18 c18 v18 A n c ms 2 (-1) wE HK1.out HK2.out (HEe.out.below hEE.out) (HD18_e.out.below hEE.out) (HLe.out.step hEE.out) (fun h => absurd h HKN0.out) (fun h => absurd h HKN0.out) HCM.out).mono ?_; rintro e wF ⟨rfl, hbF⟩; have hFF := Lib.hid (hEE.out.trans (hbF.mono hEE.out.size)))
                        refine hK.out _ _ ?_ (fun hHeld => ?_)
                        · exact ⟨bkeep hFF.out s0, bkeep hFF.out s1, bkeep hFF.out s2, bkeep hFF.out x0, bkeep hFF.out x1, bkeep hFF.out x2⟩
                        clear hK K
                        (try simp only [Act.put, List.getElem_toArray, List.getElem_cons_zero, List.getElem_cons_succ, List.setIfInBounds_toArray, List.set_cons_zero, List.set_cons_succ])
                        refine wpAnyH_take (i := 5) (v := ?_) rfl (by kernel_rfl) (by kernel_rfl) (by kernel_rfl) (fun _ _ _ h => h) (Or.inl ⟨by rfl, ?_⟩) (by assumption) ?_
                        rotate_left
                        · intro w hSw; (try dsimp only at hSw); go_simp <;> with_reducible rfl
                        (try simp only [Act.put, List.getElem_toArray, List.getElem_cons_zero, List.getElem_cons_succ, List.setIfInBounds_toArray, List.set_cons_zero, List.set_cons_succ])
                        refine wpAnyH_done (by kernel_rfl) ?_ _
                        all_goals
                          go_wp2_with fail
                          go_ret
                          exact ⟨rfl, hbwe.out.trans (hFF.out.mono hbwe.out.size)⟩
                      · have ht2' : decide ((n : Int) ≤ tt) = false := decide_eq_false ht2
                        have e0 : (k1, k2) = (h1, h2) := by rw [← HMV.out]; unfold moveF; rw [if_neg (fun h => by have := h.2; omega)]
                        injection e0 with e1 e2
                        subst e1 e2
                        obtain ⟨tN, htN⟩ : ∃ tN : Nat, tt = tN := ⟨tt.toNat, by omega⟩
                        go_upto_region 25 with fail
                        clear cB4 ht1' ht2'
                        subst htN
                        have HTN := Lib.hid (show tN < n by omega)
                        have s0 : wD.cell? ⟨g18, 0, none⟩ = some (.int .i64 p18) := (B18_e.out.cell _).trans rfl
                        have s1 : wD.cell? ⟨g18, 1, none⟩ = some (.int .i64 q18) := (B18_e.out.cell _).trans rfl
                        have s2 : wD.cell? ⟨g18, 2, none⟩ = some (.slice A18 n18 c18) := (B18_e.out.cell _).trans rfl
                        have x0 : wD.cell? ⟨w.heap.size, 0, none⟩ = some (.int .i64 W') := (B4_e.out.cell _).trans rfl
                        have x1 : wD.cell? ⟨w.heap.size, 1, none⟩ = some (.int .i64 H') := (B4_e.out.cell _).trans rfl
                        have x2 : wD.cell? ⟨w.heap.size, 2, none⟩ = some (.slice A n c) := (B4_e.out.cell _).trans rfl
                        have y0 : wD.cell? ⟨g10, 0, none⟩ = some (.int .i64 k1) := (B10_e.out.cell _).trans rfl
                        have y1 : wD.cell? ⟨g10, 1, none⟩ = some (.int .i64 k2) := (B10_e.out.cell _).trans rfl
                        refine wp_region_held_drew (S := (fun w' => w'.cell? ⟨g18, 0, none⟩ = some (.int .i64 p18) ∧ w'.cell? ⟨g18, 1, none⟩ = some (.int .i64 q18) ∧ w'.cell? ⟨g18, 2, none⟩ = some (.slice A18 n18 c18) ∧ w'.cell? ⟨w.heap.size, 0, none⟩ = some (.int .i64 W') ∧ w'.cell? ⟨w.heap.size, 1, none⟩ = some (.int .i64 H') ∧ w'.cell? ⟨w.heap.size, 2, none⟩ = some (.slice A n c) ∧ w'.cell? ⟨g10, 0, none⟩ = some (.int .i64 k1) ∧ w'.cell? ⟨g10, 1, none⟩ = some (.int .i64 k2))) (by kernel_rfl) ?_ (fun hHeld => ?_)
                        · exact ⟨s0, s1, s2, x0, x1, x2, y0, y1⟩
                        refine wpAnyH_take (i := 0) (v := ?_) rfl (by kernel_rfl) (by kernel_rfl) (by kernel_rfl) (fun _ _ _ h => h) (Or.inl ⟨by rfl, ?_⟩) (by assumption) ?_
                        rotate_left
                        · intro w hSw; (try dsimp only at hSw); go_simp <;> with_reducible rfl
                        (try simp only [Act.put, List.getElem_toArray, List.getElem_cons_zero, List.setIfInBounds_toArray, List.set_cons_zero, List.set_cons_succ])
                        refine wpAnyH_take (i := 1) (v := ?_) rfl (by kernel_rfl) (by kernel_rfl) (by kernel_rfl) (fun _ _ _ h => h) (Or.inl ⟨by rfl, ?_⟩) (by assumption) ?_
                        rotate_left
                        · intro w hSw; (try dsimp only at hSw); go_simp <;> with_reducible rfl
                        (try simp only [Act.put, List.getElem_toArray, List.getElem_cons_zero, List.getElem_cons_succ, List.setIfInBounds_toArray, List.set_cons_zero, List.set_cons_succ])
                        refine wpAnyH_take (i := 2) (v := ?_) rfl (by kernel_rfl) (by kernel_rfl) (by kernel_rfl) (fun _ _ _ h => h) (Or.inl ⟨by rfl, ?_⟩) (by assumption) ?_
                        rotate_left
                        · intro w hSw; (try dsimp only at hSw); go_simp <;> with_reducible rfl
                        (try simp only [Act.put, List.getElem_toArray, List.getElem_cons_zero, List.getElem_cons_succ, List.setIfInBounds_toArray, List.set_cons_zero, List.set_cons_succ])
                        refine wpAnyH_take (i := 3) (v := ?_) rfl (by kernel_rfl) (by kernel_rfl) (by kernel_rfl) (fun _ _ _ h => h) (Or.inl ⟨by rfl, ?_⟩) (by assumption) ?_
                        rotate_left
                        · intro w hSw; (try dsimp only at hSw); go_simp <;> with_reducible rfl
                        (try simp only [Act.put, List.getElem_toArray, List.getElem_cons_zero, List.getElem_cons_succ, List.setIfInBounds_toArray, List.set_cons_zero, List.set_cons_succ])
                        refine wpAnyH_take (i := 4) (v := ?_) rfl (by kernel_rfl) (by kernel_rfl) (by kernel_rfl) (fun _ _ _ h => h) (Or.inl ⟨by rfl, ?_⟩) (by assumption) ?_
                        rotate_left
                        · intro w hSw; (try dsimp only at hSw); go_simp <;> with_reducible rfl
                        (try simp only [Act.put, List.getElem_toArray, List.getElem_cons_zero, List.getElem_cons_succ, List.setIfInBounds_toArray, List.set_cons_zero, List.set_cons_succ])
                        refine wpAnyH_take (i := 6) (v := ?_) rfl (by kernel_rfl) (by kernel_rfl) (by kernel_rfl) (fun _ _ _ h => h) (Or.inl ⟨by rfl, ?_⟩) (by assumption) ?_
                        rotate_left
                        · intro w hSw; (try dsimp only at hSw); go_simp <;> with_reducible rfl
                        (try simp only [Act.put, List.getElem_toArray, List.getElem_cons_zero, List.getElem_cons_succ, List.setIfInBounds_toArray, List.set_cons_zero, List.set_cons_succ])
                        refine wpAnyH_ready (rs := [5]) (by kernel_rfl) (by simp) ?_
                        refine AllReadyH.cons rfl (fun K hK => ?_) AllReadyH.nil
                        go_simp
                        (go_at_call 20; refine (moveOf_any W' H' A n c kN tN ms wD.drew HLe.out HN4.out HPM.out HKL.out HTN.out).mono ?_; rintro e wE ⟨A24, c24, n24, x24, rfl, hOE, hxE, hsE, hbE⟩; have hEE := Lib.hid (Below.fromDrew hbE))
                        refine hK.out _ _ ?_ (fun hHeld => ?_)
                        · exact ⟨bkeep hEE.out s0, bkeep hEE.out s1, bkeep hEE.out s2, bkeep hEE.out x0, bkeep hEE.out x1, bkeep hEE.out x2, bkeep hEE.out y0, bkeep hEE.out y1⟩
                        clear hK K
                        (try simp only [Act.put, List.getElem_toArray, List.getElem_cons_zero, List.getElem_cons_succ, List.setIfInBounds_toArray, List.set_cons_zero, List.set_cons_succ])
                        refine wpAnyH_ready (rs := [7]) (by kernel_rfl) (by simp) ?_
                        refine AllReadyH.cons rfl (fun K hK => ?_) AllReadyH.nil
                        go_simp
                        (go_at_call 12; refine (isDoc_as E W' H' (k1, k2) (movedL (lsOf ms) kN (tN : Int).toNat x) p18 q18 A18 n18 c18 v18 A24 n24.length c24 n24 k1 k2 wE rfl rfl (HEe.out.below hEE.out) (HD18_e.out.below hEE.out) hOE.lays (fun h => by rw [hsE, Int.toNat_natCast, Option.some.inj (hxE.symm.trans (HX.out h))]) (fun h => HFV.out h) HCM.out).mono ?_; rintro e wF ⟨rfl, hbF⟩; have hFF := Lib.hid (hEE.out.trans (hbF.mono hEE.out.size)))
                        refine hK.out _ _ ?_ (fun hHeld => ?_)
                        · exact ⟨bkeep hFF.out s0, bkeep hFF.out s1, bkeep hFF.out s2, bkeep hFF.out x0, bkeep hFF.out x1, bkeep hFF.out x2, bkeep hFF.out y0, bkeep hFF.out y1⟩
                        clear hK K
                        (try simp only [Act.put, List.getElem_toArray, List.getElem_cons_zero, List.getElem_cons_succ, List.setIfInBounds_toArray, List.set_cons_zero, List.set_cons_succ])
                        refine wpAnyH_take (i := 8) (v := ?_) rfl (by kernel_rfl) (by kernel_rfl) (by kernel_rfl) (fun _ _ _ h => h) (Or.inl ⟨by rfl, ?_⟩) (by assumption) ?_
                        rotate_left
                        · intro w hSw; (try dsimp only at hSw); go_simp <;> with_reducible rfl
                        (try simp only [Act.put, List.getElem_toArray, List.getElem_cons_zero, List.getElem_cons_succ, List.setIfInBounds_toArray, List.set_cons_zero, List.set_cons_succ])
                        refine wpAnyH_done (by kernel_rfl) ?_ _
                        all_goals
                          go_wp2_with fail
                          go_ret
                          exact ⟨rfl, hbwe.out.trans (hFF.out.mono hbwe.out.size)⟩
end Go.Proofs.YtmknacnmdlcieaaGreatDoor
