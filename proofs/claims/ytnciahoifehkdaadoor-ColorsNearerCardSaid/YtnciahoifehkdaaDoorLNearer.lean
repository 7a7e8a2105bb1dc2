/- ColorsNearer: the law's walk. -/
import Derived.Test.YtnciahoifehkdaaDoorGrey
namespace Go.Proofs.YtnciahoifehkdaaDoor
open Go Go.RowKit

/-- What stands through the law. -/
structure NC (w : World) (W H : Int) (A : Option Addr) (n c : Nat) (ps : List Px) (A2 : Option Addr) (n2 : Nat) (pal : List Px) (m : Px) (eS eB : Value) (wi : World) : Prop where
  b1 : Blk wi w.heap.size 24 #[.int .i64 W, .int .i64 H, .slice A n c]
  b2 : Blk wi (w.heap.size + 1) 26 #[.int .u8 m.r.toNat, .int .u8 m.g.toNat, .int .u8 m.b.toNat, .int .u8 m.a.toNat]
  hp : Reads wi wi.heap.size 4 A n (pxCells ps)
  hq : Reads wi wi.heap.size 4 A2 n2 (pxCells pal)
  hS : wi.cell? ⟨1, 0, none⟩ = some eS
  hB : wi.cell? ⟨0, 0, none⟩ = some eB
  bel : Below w.heap.size w wi
theorem NC.step {w : World} {W H : Int} {A : Option Addr} {n c : Nat} {ps : List Px} {A2 : Option Addr} {n2 : Nat} {pal : List Px} {m : Px} {eS eB : Value} {wi wj : World}
    (h : NC w W H A n c ps A2 n2 pal m eS eB wi) (hb : Below wi.heap.size wi wj) : NC w W H A n c ps A2 n2 pal m eS eB wj :=
  ⟨h.b1.below hb h.b1.lt, h.b2.below hb h.b2.lt, (h.hp.below hb (Nat.le_refl _)).more hb.size, (h.hq.below hb (Nat.le_refl _)).more hb.size,
    bcell_ hb (cell_lt h.hS) h.hS, bcell_ hb (cell_lt h.hB) h.hB, h.bel.trans (hb.mono h.bel.size)⟩

set_option maxRecDepth 100000 in
set_option maxHeartbeats 1000000 in
theorem nearer_any (W H : Int) (A : Option Addr) (n c : Nat) (ps : List Px) (A2 : Option Addr) (n2 c2 : Nat) (pal : List Px) (m : Px) (tS tB : TypeId) (xS xB : Value) (w : World)
    (hp : Reads w w.heap.size 4 A n (pxCells ps)) (hq : Reads w w.heap.size 4 A2 n2 (pxCells pal))
    (hS : w.cell? ⟨1, 0, none⟩ = some (.iface tS xS)) (hB : w.cell? ⟨0, 0, none⟩ = some (.iface tB xB)) :
    Calls Tryd.prog 3 #[.agg #[.int .i64 W, .int .i64 H, .slice A n c], .slice A2 n2 c2, pxV m] w
      fun e w' => e = .returned (.bool true) ∧ Below w.heap.size w w' := by
  obtain ⟨i0, hi, hz0, hz1, hz2⟩ := info_parts pxInfo
  unfold pxV
  go_enter Tryd.func3, Tryd.ntmps3
  have N0 : NC w W H A n c ps A2 n2 pal m (.iface tS xS) (.iface tB xB) ((w.alloc (.cells #[.int .i64 W, .int .i64 H, .slice A n c] 24)).alloc (.cells #[.int .u8 m.r.toNat, .int .u8 m.g.toNat, .int .u8 m.b.toNat, .int .u8 m.a.toNat] 26)) :=
    ⟨(Blk.new _ _ _ rfl).alloc _, Blk.new _ _ _ (by simp), ((hp.alloc (Nat.le_refl _) _).alloc (by first | omega | (simp; done) | (simp; omega)) _).more (by first | omega | (simp; done) | (simp; omega)), ((hq.alloc (Nat.le_refl _) _).alloc (by first | omega | (simp; done) | (simp; omega)) _).more (by first | omega | (simp; done) | (simp; omega)),
      cell_past _ (cell_past _ hS), cell_past _ (cell_past _ hB), by go_grown⟩
  go_wp2_with fail
  refine (grey_any _).mono ?_
  rintro e w1 ⟨rfl, hb1⟩
  have N1 := N0.step hb1
  clear N0 hb1
  have c1 := N1.b1.cell
  go_wp2_with fail
  refine (small_any W H A n c _).mono ?_
  rintro e w2 ⟨rfl, hb2⟩
  have N2 := N1.step hb2
  clear N1 hb2 c1
  by_cases hsm : n ≤ 3000
  · by_cases hl : n2 ≤ 60
    · rw [decide_eq_true hsm]
      have hl' := Int.ofNat_le.2 hl
      have x2 := N2.b1.cell
      go_wp2_with fail
      refine (own_any W H A n c ps _ N2.hp (by omega)).mono ?_
      rintro e w3 ⟨A3, c3, rfl, hown3, hb3⟩
      have N3 := N2.step hb3
      clear N2 hb3 x2
      go_wp2_with fail
      refine (palette_any A2 n2 c2 pal _ N3.hq (by omega)).mono ?_
      rintro e w4 ⟨A4, c4, rfl, hown4, hb4⟩
      have N4 := N3.step hb4
      have r3 := (hown3.reads.2.below hb4 (Nat.le_refl _)).more hb4.size
      clear N3 hb4
      by_cases hgood : rightB W H n = true ∧ sideB n2 = true
      · obtain ⟨hr, hn2⟩ := hgood
        have n2l := sideB_le hn2
        have hlen : n2 = pal.length := by have := hq.1; rw [pxCells_length] at this; omega
        have HB := Col.farSum_better ps pal (by omega)
        have HM := Col.farSum_more ps pal m (by omega)
        clear hlen
        go_wp2_with fail
        refine (Far_any W H A3 n c3 ps A4 n2 c4 pal tS tB xS xB _ N4.hS N4.hB r3 hown4.reads.2 hr hn2).mono ?_
        rintro e w5 ⟨rfl, hb5⟩
        have N5 := N4.step hb5
        clear N4 hb5 r3 hown3 hown4
        have x5 := N5.b1.cell
        go_wp2_with fail
        refine (own_any W H A n c ps _ N5.hp (by omega)).mono ?_
        rintro e w6 ⟨A6, c6, rfl, hown6, hb6⟩
        have N6 := N5.step hb6
        clear N5 hb6 x5
        go_wp2_with fail
        refine (palette_any A2 n2 c2 pal _ N6.hq (by omega)).mono ?_
        rintro e w7 ⟨A7, c7, rfl, hown7, hb7⟩
        have N7 := N6.step hb7
        have r6 := (hown6.reads.2.below hb7 (Nat.le_refl _)).more hb7.size
        clear N6 hb7
        go_wp2_with fail
        refine (Better_any W H A6 n c6 ps A7 n2 c7 pal tS tB xS xB _ N7.hS N7.hB r6 hown7.reads.2 hr hn2).mono ?_
        rintro e w8 ⟨A8, c8, rfl, hown8, hb8⟩
        have N8 := N7.step hb8
        clear N7 hb8 r6 hown6 hown7
        have x8 := N8.b1.cell
        go_wp2_with fail
        refine (own_any W H A n c ps _ N8.hp (by omega)).mono ?_
        rintro e w9 ⟨A9, c9, rfl, hown9, hb9⟩
        have N9 := N8.step hb9
        have r8 := (hown8.reads.2.below hb9 (Nat.le_refl _)).more hb9.size
        clear N8 hb9 x8
        go_wp2_with fail
        refine (Far_any W H A9 n c9 ps A8 n2 c8 (Col.better ps pal) tS tB xS xB _ N9.hS N9.hB hown9.reads.2 r8 hr hn2).mono ?_
        rintro e w10 ⟨rfl, hb10⟩
        have N10 := N9.step hb10
        clear N9 hb10 r8 hown9 hown8
        go_wp2_with fail
        refine (palette_any A2 n2 c2 pal _ N10.hq (by omega)).mono ?_
        rintro e w11 ⟨A11, c11, rfl, hown11, hb11⟩
        have N11 := N10.step hb11
        have y11 := N11.b2.cell
        have hsz11 := hb11.size
        have hrow11 : ∀ g, (Value.slice A11 n2 c11).ownBlock = some g → w10.heap.size ≤ g := fun g hg => (hown11.lt g hg).1
        go_wp2_with (at_builtin; go_loud (refine wpList_append_S rfl (.tmp 59) (.tmp 61) 22 22 rfl (w10.heap.size) 26 i0 _ 4 4 Tryd.underlying22 hi hz0 hz1 hz2 rfl (by decide) (.slice A11 n2 c11) (n2) (pxCells (pal)) rfl (hown11.alloc _) (pxCells_one _) (1) ([.int .u8 m.r.toNat, .int .u8 m.g.toNat, .int .u8 m.b.toNat, .int .u8 m.a.toNat]) (Src.made Tryd.underlying22 (by first | rfl | simp) rfl (by intro u hu; exact pxCells_one [m] u hu)) (n2 + 1) (by omega) (pxCells (pal ++ [m])) (by rw [pxCells_append]; rfl) (by unfold maxLen; omega) (by omega) (by first | omega | (simp; done) | (simp; omega)) ?_); intro A12 c12 w12 hown12 hg12 hat12; have N12 := N10.step (Below.grown (Below.alloc hb11 (by have := hb11.size; omega) _) hg12 (by have := hb11.size; simp; omega) hrow11); have x12 := N12.b1.cell)
        clear N11 y11 N10 hb11 hown11
        refine (own_any W H A n c ps _ N12.hp (by omega)).mono ?_
        rintro e w13 ⟨A13, c13, rfl, hown13, hb13⟩
        have N13 := N12.step hb13
        have r12 := (hown12.reads.2.below hb13 (Nat.le_refl _)).more hb13.size
        clear N12 hb13 x12
        have hn3 : sideB ((n2 + 1 : Nat) : Int) = true := by simp [sideB]; omega
        go_wp2_with fail
        refine (Far_any W H A13 n c13 ps A12 (n2 + 1) c12 (pal ++ [m]) tS tB xS xB _ N13.hS N13.hB hown13.reads.2 r12 hr hn3).mono ?_
        rintro e w14 ⟨rfl, hb14⟩
        have N14 := N13.step hb14
        clear N13 hb14
        go_wp2_with fail
        go_ret
        exact ⟨rfl, N14.bel⟩
      · go_wp2_with fail
        refine (Far_bad W H A3 n c3 A4 n2 c4 tS tB xS xB _ N4.hS N4.hB hgood).mono ?_
        rintro e w5 ⟨⟨t, x, -, rfl⟩, hb5⟩
        have N5 := N4.step hb5
        go_wp2_with fail
        go_ret
        exact ⟨rfl, N5.bel⟩
    · rw [decide_eq_true hsm]
      go_wp2_with fail
      go_ret
      exact ⟨rfl, N2.bel⟩
  · rw [decide_eq_false hsm]
    go_wp2_with fail
    go_ret
    exact ⟨rfl, N2.bel⟩
end Go.Proofs.YtnciahoifehkdaaDoor
