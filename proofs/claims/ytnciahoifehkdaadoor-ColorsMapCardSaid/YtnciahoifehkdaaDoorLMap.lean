/- ColorsMap: the law's walk. -/
import Derived.Test.YtnciahoifehkdaaDoorBetterOf
import Derived.Test.YtnciahoifehkdaaDoorColNo
import Derived.Test.YtnciahoifehkdaaDoorSame
import Derived.Test.YtnciahoifehkdaaDoorCoded
import Derived.Test.YtnciahoifehkdaaDoorGrey
namespace Go.Proofs.YtnciahoifehkdaaDoor
open Go Go.RowKit

/-- What stands through a law that is given a picture and pixels. -/
structure QM (w : World) (W H : Int) (A : Option Addr) (n c : Nat) (ps : List Px) (A2 : Option Addr) (n2 : Nat) (pal : List Px) (E : Nat → Addr) (wi : World) : Prop where
  b1 : Blk wi w.heap.size 24 #[.int .i64 W, .int .i64 H, .slice A n c]
  hp : Reads wi wi.heap.size 4 A n (pxCells ps)
  hq : Reads wi wi.heap.size 4 A2 n2 (pxCells pal)
  hE : ErrsAt wi E
  bel : Below w.heap.size w wi
theorem QM.step {w : World} {W H : Int} {A : Option Addr} {n c : Nat} {ps : List Px} {A2 : Option Addr} {n2 : Nat} {pal : List Px} {E : Nat → Addr} {wi wj : World} (h : QM w W H A n c ps A2 n2 pal E wi) (hb : Below wi.heap.size wi wj) : QM w W H A n c ps A2 n2 pal E wj :=
  ⟨h.b1.below hb h.b1.lt, (h.hp.below hb (Nat.le_refl _)).more hb.size, (h.hq.below hb (Nat.le_refl _)).more hb.size, h.hE.below hb, h.bel.trans (hb.mono h.bel.size)⟩

set_option maxRecDepth 100000 in
set_option maxHeartbeats 2000000 in
theorem colorsMap_any (W H : Int) (A : Option Addr) (n c : Nat) (ps : List Px) (A2 : Option Addr) (n2 c2 : Nat) (pal : List Px) (E : Nat → Addr) (w : World)
    (hp : Reads w w.heap.size 4 A n (pxCells ps)) (hq : Reads w w.heap.size 4 A2 n2 (pxCells pal)) (hE : ErrsAt w E) :
    Calls Tryd.prog 7 #[.agg #[.int .i64 W, .int .i64 H, .slice A n c], .slice A2 n2 c2] w
      fun e w' => e = .returned (.bool true) ∧ Below w.heap.size w w' := by
  go_enter Tryd.func7, Tryd.ntmps7
  have hE0 : ErrsAt (w.alloc (.cells #[.int .i64 W, .int .i64 H, .slice A n c] 24)) E := hE.below (by go_grown)
  have N0 : QM w W H A n c ps A2 n2 pal E (w.alloc (.cells #[.int .i64 W, .int .i64 H, .slice A n c] 24)) :=
    ⟨Blk.new _ _ _ rfl, (hp.alloc (Nat.le_refl _) _).more (by first | omega | (simp; done) | (simp; omega)), (hq.alloc (Nat.le_refl _) _).more (by first | omega | (simp; done) | (simp; omega)), hE0, by go_grown⟩
  clear hE0
  go_wp2_with fail
  refine (grey_any _).mono ?_
  rintro e w1 ⟨rfl, hb1⟩
  have N1 := N0.step hb1
  clear N0 hb1
  have c1 := N1.b1.cell
  go_wp2_with fail
  refine (small_any W H A n c _).mono ?_
  rintro e w2 ⟨rfl, hb2⟩
  have N2 := N1.step hb2
  clear N1 hb2 c1
  by_cases hsm : n ≤ 3000
  · rw [decide_eq_true hsm]
    by_cases hgo : n2 ≤ 40 ∨ (256 < n2 ∧ n2 ≤ 300)
    · have x2 := N2.b1.cell
      have hn2 : n2 ≤ 300 := by omega
      by_cases hgood : rightB W H n = true ∧ sideB n2 = true
      · obtain ⟨hr, hs2⟩ := hgood
        obtain ⟨l2a, l2b⟩ := sideB_le hs2
        have h40 : n2 ≤ 40 := by omega
        have h40' := Int.ofNat_le.2 h40
        clear hgo
        go_wp2_with fail
        refine (own_any W H A n c ps _ N2.hp (by omega)).mono ?_
        rintro e w3 ⟨A3, c3, rfl, hown3, hb3⟩
        have N3 := N2.step hb3
        clear N2 hb3 x2
        go_wp2_with fail
        refine (palette_any A2 n2 c2 pal _ N3.hq (by omega)).mono ?_
        rintro e w4 ⟨A4, c4, rfl, hown4, hb4⟩
        have N4 := N3.step hb4
        have r3 := (hown3.reads.2.below hb4 (Nat.le_refl _)).more hb4.size
        clear N3 hb4 hown3
        go_wp2_with fail
        refine (Map_any W H A3 n c3 ps A4 n2 c4 pal E _ N4.hE r3 hown4.reads.2 hr hs2).mono ?_
        rintro e w5 ⟨A5, c5, rfl, hown5, hb5⟩
        have N5 := N4.step hb5
        have k5 := hown5.reads.2
        clear N4 hb5 r3 hown4 hown5
        have x5 := N5.b1.cell
        go_wp2_with fail
        refine (own_any W H A n c ps _ N5.hp (by omega)).mono ?_
        rintro e w6 ⟨A6, c6, rfl, hown6, hb6⟩
        have N6 := N5.step hb6
        have k6 := (k5.below hb6 (Nat.le_refl _)).more hb6.size
        clear N5 hb6 x5 k5
        go_wp2_with fail
        refine (palette_any A2 n2 c2 pal _ N6.hq (by omega)).mono ?_
        rintro e w7 ⟨A7, c7, rfl, hown7, hb7⟩
        have N7 := N6.step hb7
        have k7 := (k6.below hb7 (Nat.le_refl _)).more hb7.size
        have r6 := (hown6.reads.2.below hb7 (Nat.le_refl _)).more hb7.size
        clear N6 hb7 k6 hown6
        go_wp2_with fail
        refine (Far_any W H A6 n c6 ps A7 n2 c7 pal _ _ _ _ _ N7.hE.shape N7.hE.bound r6 hown7.reads.2 hr hs2).mono ?_
        rintro e w8 ⟨rfl, hb8⟩
        have N8 := N7.step hb8
        have k8 := (k7.below hb8 (Nat.le_refl _)).more hb8.size
        clear N7 hb8 r6 hown7 k7
        have x8 := N8.b1.cell
        go_wp2_with fail
        refine (own_any W H A n c ps _ N8.hp (by omega)).mono ?_
        rintro e w9 ⟨A9, c9, rfl, hown9, hb9⟩
        have N9 := N8.step hb9
        have k9 := (k8.below hb9 (Nat.le_refl _)).more hb9.size
        clear N8 hb9 x8 k8
        go_wp2_with fail
        refine (palette_any A2 n2 c2 pal _ N9.hq (by omega)).mono ?_
        rintro e w10 ⟨A10, c10, rfl, hown10, hb10⟩
        have N10 := N9.step hb10
        have k10 := (k9.below hb10 (Nat.le_refl _)).more hb10.size
        have r9 := (hown9.reads.2.below hb10 (Nat.le_refl _)).more hb10.size
        clear N9 hb10 k9 hown9
        go_wp2_with fail
        refine (Better_any W H A9 n c9 ps A10 n2 c10 pal _ _ _ _ _ N10.hE.shape N10.hE.bound r9 hown10.reads.2 hr hs2).mono ?_
        rintro e w11 ⟨A11, c11, rfl, hown11, hb11⟩
        have N11 := N10.step hb11
        have k11 := (k10.below hb11 (Nat.le_refl _)).more hb11.size
        have j11 := hown11.reads.2
        clear N10 hb11 r9 hown10 hown11 k10
        have x11 := N11.b1.cell
        go_wp2_with fail
        refine (pright_any W H A n c _).mono ?_
        rintro e w12 ⟨rfl, hb12⟩
        rw [hr]
        have N12 := N11.step hb12
        have k12 := (k11.below hb12 (Nat.le_refl _)).more hb12.size
        have j12 := (j11.below hb12 (Nat.le_refl _)).more hb12.size
        clear N11 hb12 k11 j11 x11
        have x12 := N12.b1.cell
        go_wp2_with fail
        refine (mapOf_any W H A n c ps A2 n2 c2 pal _ N12.hp N12.hq (by omega) (by omega) l2a).mono ?_
        rintro e w13 ⟨A13, c13, rfl, hown13, hb13⟩
        have N13 := N12.step hb13
        have k13 := (k12.below hb13 (Nat.le_refl _)).more hb13.size
        have j13 := (j12.below hb13 (Nat.le_refl _)).more hb13.size
        have i13 := hown13.reads.2
        clear N12 hb13 k12 j12 x12 hown13
        go_wp2_with fail
        refine (sameInts_same A5 n c5 A13 c13 _ _ k13 i13 (by omega)).mono ?_
        rintro e w14 ⟨rfl, q14, hw14⟩
        have N14 : QM w W H A n c ps A2 n2 pal E w14 := by rw [hw14]; exact N13.step (below_drewN (Below.refl _ _) q14)
        have j14 : Reads w14 w14.heap.size 4 A11 n2 (pxCells (Col.better ps pal)) := by rw [hw14]; exact j13
        clear hw14 N13 k13 i13 j13
        have x14 := N14.b1.cell
        go_wp2_with fail
        refine (betterOf_any W H A n c ps A2 n2 c2 pal _ N14.hp N14.hq (by omega) (by omega) l2a).mono ?_
        rintro e w15 ⟨A15, c15, rfl, hown15, hb15⟩
        have N15 := N14.step hb15
        have j15 := (j14.below hb15 (Nat.le_refl _)).more hb15.size
        clear N14 hb15 j14 x14
        go_wp2_with fail
        refine (samePixels_same A11 n2 c11 A15 c15 _ _ j15 hown15.reads.2 (by omega)).mono ?_
        rintro e w16 ⟨rfl, q16, rfl⟩
        go_wp2_with fail
        go_ret
        exact ⟨rfl, below_drewN N15.bel _⟩
      · have hz : (n2 : Int) < 1 ∨ (1 ≤ (n2 : Int) ∧ (n2 : Int) ≤ 40) ∨ (256 < (n2 : Int) ∧ (n2 : Int) ≤ 300) := by omega
        cases hr : rightB W H n with
        | true =>
          have hs2 : ¬ sideB n2 = true := fun h => hgood ⟨hr, h⟩
          have HV := Lib.hid (show chkV W H n n2 (errV (E 2)) (errV (E 1)) = errV (E 1) by rw [chkV, if_pos hr, if_neg hs2])
          have hz' : (n2 : Int) < 1 ∨ (256 < (n2 : Int) ∧ (n2 : Int) ≤ 300) := by
            simp [sideB] at hs2
            omega
          clear hz hgo hgood hs2
          rcases hz' with hz | ⟨hz, hz2⟩
          all_goals
            go_wp2_with fail
            refine (own_any W H A n c ps _ N2.hp (by omega)).mono ?_
            rintro e w3 ⟨A3, c3, rfl, hown3, hb3⟩
            have N3 := N2.step hb3
            clear N2 hb3 x2 hown3
            go_wp2_with fail
            refine (palette_any A2 n2 c2 pal _ N3.hq (by omega)).mono ?_
            rintro e w4 ⟨A4, c4, rfl, hown4, hb4⟩
            have N4 := N3.step hb4
            clear N3 hb4 hown4
            go_wp2_with fail
            refine (Map_no W H A3 n c3 A4 n2 c4 E 1 _ N4.hE HV.out).mono ?_
            rintro e w5 ⟨rfl, hb5⟩
            have N5 := N4.step hb5
            clear N4 hb5
            have x5 := N5.b1.cell
            go_wp2_with fail
            refine (own_any W H A n c ps _ N5.hp (by omega)).mono ?_
            rintro e w6 ⟨A6, c6, rfl, hown6, hb6⟩
            have N6 := N5.step hb6
            clear N5 hb6 x5 hown6
            go_wp2_with fail
            refine (palette_any A2 n2 c2 pal _ N6.hq (by omega)).mono ?_
            rintro e w7 ⟨A7, c7, rfl, hown7, hb7⟩
            have N7 := N6.step hb7
            clear N6 hb7 hown7
            go_wp2_with fail
            refine (Far_no W H A6 n c6 A7 n2 c7 E 1 _ N7.hE HV.out).mono ?_
            rintro e w8 ⟨rfl, hb8⟩
            have N8 := N7.step hb8
            clear N7 hb8
            have x8 := N8.b1.cell
            go_wp2_with fail
            refine (own_any W H A n c ps _ N8.hp (by omega)).mono ?_
            rintro e w9 ⟨A9, c9, rfl, hown9, hb9⟩
            have N9 := N8.step hb9
            clear N8 hb9 x8 hown9
            go_wp2_with fail
            refine (palette_any A2 n2 c2 pal _ N9.hq (by omega)).mono ?_
            rintro e w10 ⟨A10, c10, rfl, hown10, hb10⟩
            have N10 := N9.step hb10
            clear N9 hb10 hown10
            go_wp2_with fail
            refine (Better_no W H A9 n c9 A10 n2 c10 E 1 _ N10.hE HV.out).mono ?_
            rintro e w11 ⟨rfl, hb11⟩
            have N11 := N10.step hb11
            clear N10 hb11
            have x11 := N11.b1.cell
            go_wp2_with fail
            refine (pright_any W H A n c _).mono ?_
            rintro e w12 ⟨rfl, hb12⟩
            rw [hr]
            have N12 := N11.step hb12
            clear N11 hb12 x11
            go_wp2_with fail
            refine (coded_sent E 1 (by omega) 2 _ N12.hE).mono ?_
            rintro e w13 ⟨rfl, hb13⟩
            have N13 := N12.step hb13
            clear N12 hb13
            go_wp2_with fail
            refine (coded_sent E 1 (by omega) 2 _ N13.hE).mono ?_
            rintro e w14 ⟨rfl, hb14⟩
            have N14 := N13.step hb14
            clear N13 hb14
            go_wp2_with fail
            refine (coded_sent E 1 (by omega) 2 _ N14.hE).mono ?_
            rintro e w15 ⟨rfl, hb15⟩
            have N15 := N14.step hb15
            clear N14 hb15
            go_wp2_with fail
            go_ret
            exact ⟨rfl, N15.bel⟩
        | false =>
          have HV := Lib.hid (show chkV W H n n2 (errV (E 2)) (errV (E 1)) = errV (E 2) by rw [chkV, if_neg (by rw [hr]; decide)])
          clear hgo hgood
          rcases hz with hz | ⟨hz, hz2⟩ | ⟨hz, hz2⟩
          all_goals
            go_wp2_with fail
            refine (own_any W H A n c ps _ N2.hp (by omega)).mono ?_
            rintro e w3 ⟨A3, c3, rfl, hown3, hb3⟩
            have N3 := N2.step hb3
            clear N2 hb3 x2 hown3
            go_wp2_with fail
            refine (palette_any A2 n2 c2 pal _ N3.hq (by omega)).mono ?_
            rintro e w4 ⟨A4, c4, rfl, hown4, hb4⟩
            have N4 := N3.step hb4
            clear N3 hb4 hown4
            go_wp2_with fail
            refine (Map_no W H A3 n c3 A4 n2 c4 E 2 _ N4.hE HV.out).mono ?_
            rintro e w5 ⟨rfl, hb5⟩
            have N5 := N4.step hb5
            clear N4 hb5
            have x5 := N5.b1.cell
            go_wp2_with fail
            refine (own_any W H A n c ps _ N5.hp (by omega)).mono ?_
            rintro e w6 ⟨A6, c6, rfl, hown6, hb6⟩
            have N6 := N5.step hb6
            clear N5 hb6 x5 hown6
            go_wp2_with fail
            refine (palette_any A2 n2 c2 pal _ N6.hq (by omega)).mono ?_
            rintro e w7 ⟨A7, c7, rfl, hown7, hb7⟩
            have N7 := N6.step hb7
            clear N6 hb7 hown7
            go_wp2_with fail
            refine (Far_no W H A6 n c6 A7 n2 c7 E 2 _ N7.hE HV.out).mono ?_
            rintro e w8 ⟨rfl, hb8⟩
            have N8 := N7.step hb8
            clear N7 hb8
            have x8 := N8.b1.cell
            go_wp2_with fail
            refine (own_any W H A n c ps _ N8.hp (by omega)).mono ?_
            rintro e w9 ⟨A9, c9, rfl, hown9, hb9⟩
            have N9 := N8.step hb9
            clear N8 hb9 x8 hown9
            go_wp2_with fail
            refine (palette_any A2 n2 c2 pal _ N9.hq (by omega)).mono ?_
            rintro e w10 ⟨A10, c10, rfl, hown10, hb10⟩
            have N10 := N9.step hb10
            clear N9 hb10 hown10
            go_wp2_with fail
            refine (Better_no W H A9 n c9 A10 n2 c10 E 2 _ N10.hE HV.out).mono ?_
            rintro e w11 ⟨rfl, hb11⟩
            have N11 := N10.step hb11
            clear N10 hb11
            have x11 := N11.b1.cell
            go_wp2_with fail
            refine (pright_any W H A n c _).mono ?_
            rintro e w12 ⟨rfl, hb12⟩
            rw [hr]
            have N12 := N11.step hb12
            clear N11 hb12 x11
            go_wp2_with fail
            refine (coded_sent E 2 (by omega) 3 _ N12.hE).mono ?_
            rintro e w13 ⟨rfl, hb13⟩
            have N13 := N12.step hb13
            clear N12 hb13
            go_wp2_with fail
            refine (coded_sent E 2 (by omega) 3 _ N13.hE).mono ?_
            rintro e w14 ⟨rfl, hb14⟩
            have N14 := N13.step hb14
            clear N13 hb14
            go_wp2_with fail
            refine (coded_sent E 2 (by omega) 3 _ N14.hE).mono ?_
            rintro e w15 ⟨rfl, hb15⟩
            have N15 := N14.step hb15
            clear N14 hb15
            go_wp2_with fail
            go_ret
            exact ⟨rfl, N15.bel⟩
    · go_wp2_with fail
      all_goals go_ret
      all_goals exact ⟨rfl, N2.bel⟩
  · rw [decide_eq_false hsm]
    go_wp2_with fail
    go_ret
    exact ⟨rfl, N2.bel⟩
end Go.Proofs.YtnciahoifehkdaaDoor
