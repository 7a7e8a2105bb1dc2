/- ColorsCount: the law's walk. -/
import Derived.Test.YtnciahoifehkdaaDoorExact
import Derived.Test.YtnciahoifehkdaaDoorSame
import Derived.Test.YtnciahoifehkdaaDoorCoded
import Derived.Test.YtnciahoifehkdaaDoorGrey
namespace Go.Proofs.YtnciahoifehkdaaDoor
open Go Go.RowKit

/-- What stands through a law that is given one picture. -/
structure QP (w : World) (W H : Int) (A : Option Addr) (n c : Nat) (ps : List Px) (E : Nat → Addr) (wi : World) : Prop where
  b1 : Blk wi w.heap.size 24 #[.int .i64 W, .int .i64 H, .slice A n c]
  hp : Reads wi wi.heap.size 4 A n (pxCells ps)
  hE : ErrsAt wi E
  bel : Below w.heap.size w wi
theorem QP.step {w : World} {W H : Int} {A : Option Addr} {n c : Nat} {ps : List Px} {E : Nat → Addr} {wi wj : World} (h : QP w W H A n c ps E wi) (hb : Below wi.heap.size wi wj) : QP w W H A n c ps E wj :=
  ⟨h.b1.below hb h.b1.lt, (h.hp.below hb (Nat.le_refl _)).more hb.size, h.hE.below hb, h.bel.trans (hb.mono h.bel.size)⟩

/-- What Exact answers. -/
def ExR (ps : List Px) (n : Nat) (most : Int) (E : Nat → Addr) (A1 : Option Addr) (m1 c1 : Nat) (A2 : Option Addr) (m2 c2 : Nat) (er : Value) (B : Nat) (w' : World) : Prop :=
  (sideB most = true ∧ (Col.uses ps).length ≤ most ∧ er = .nilIface ∧ m1 = (Col.unl ps).1.length ∧ m2 = n ∧ Own w' B 4 (.slice A1 m1 c1) m1 (pxCells (Col.unl ps).1) ∧ Own w' B 1 (.slice A2 m2 c2) m2 (ints (Col.unl ps).2)) ∨
  (∃ i : Nat, i < 9 ∧ er = errV (E i) ∧ m1 = 0 ∧ m2 = 0 ∧ (i = if sideB most = true then 6 else 1) ∧ (sideB most = true → most < (Col.uses ps).length))
theorem exact_any (W H : Int) (A : Option Addr) (n c : Nat) (ps : List Px) (most : Int) (E : Nat → Addr) (w : World) (hp : Reads w w.heap.size 4 A n (pxCells ps)) (hE : ErrsAt w E) (hr : rightB W H n = true) :
    Calls Tryd.prog 40 #[.agg #[.int .i64 W, .int .i64 H, .slice A n c], .int .i64 most] w
      fun e w' => ∃ A1 m1 c1 A2 m2 c2 er, e = .returned (.tuple #[.slice A1 m1 c1, .slice A2 m2 c2, er]) ∧ ExR ps n most E A1 m1 c1 A2 m2 c2 er w.heap.size w' ∧ Below w.heap.size w w' := by
  by_cases hm : sideB most = true
  · by_cases hmany : ((Col.uses ps).length : Int) ≤ most
    · refine (exact_ok W H A n c ps most w hp hr hm hmany).mono ?_
      rintro e w' ⟨A1, c1, A2, c2, rfl, h1, h2, h3⟩
      exact ⟨A1, _, c1, A2, _, c2, _, rfl, .inl ⟨hm, hmany, rfl, rfl, rfl, h1, h2⟩, h3⟩
    · refine (exact_many W H A n c ps most E w hp hE hr hm (by omega)).mono ?_
      rintro e w' ⟨rfl, h3⟩
      exact ⟨none, 0, 0, none, 0, 0, _, rfl, .inr ⟨6, by omega, rfl, rfl, rfl, by rw [if_pos hm], fun _ => by omega⟩, h3⟩
  · refine (exact_bound W H A n c ps most E w hp hE hr (by simpa using hm)).mono ?_
    rintro e w' ⟨rfl, h3⟩
    exact ⟨none, 0, 0, none, 0, 0, _, rfl, .inr ⟨1, by omega, rfl, rfl, rfl, by rw [if_neg hm], fun h => absurd h hm⟩, h3⟩

set_option maxRecDepth 100000 in
set_option maxHeartbeats 2000000 in
theorem colorsCount_any (W H : Int) (A : Option Addr) (n c : Nat) (ps : List Px) (most : Int) (E : Nat → Addr) (w : World) (hp : Reads w w.heap.size 4 A n (pxCells ps)) (hE : ErrsAt w E) :
    Calls Tryd.prog 6 #[.agg #[.int .i64 W, .int .i64 H, .slice A n c], .int .i64 most] w
      fun e w' => e = .returned (.bool true) ∧ Below w.heap.size w w' := by
  go_enter Tryd.func6, Tryd.ntmps6
  have hE0 : ErrsAt (w.alloc (.cells #[.int .i64 W, .int .i64 H, .slice A n c] 24)) E := hE.below (by go_grown)
  have N0 : QP w W H A n c ps E (w.alloc (.cells #[.int .i64 W, .int .i64 H, .slice A n c] 24)) :=
    ⟨Blk.new _ _ _ rfl, (hp.alloc (Nat.le_refl _) _).more (by first | omega | (simp; done) | (simp; omega)), hE0, by go_grown⟩
  clear hE0
  go_wp2_with fail
  refine (grey_any _).mono ?_
  rintro e w1 ⟨rfl, hb1⟩
  have N1 := N0.step hb1
  clear N0 hb1
  have c1 := N1.b1.cell
  go_wp2_with fail
  refine (small_any W H A n c _).mono ?_
  rintro e w2 ⟨rfl, hb2⟩
  have N2 := N1.step hb2
  clear N1 hb2 c1
  by_cases hsm : n ≤ 3000
  · rw [decide_eq_true hsm]
    have x2 := N2.b1.cell
    go_wp2_with fail
    refine (own_any W H A n c ps _ N2.hp (by omega)).mono ?_
    rintro e w3 ⟨A3, c3, rfl, hown3, hb3⟩
    have N3 := N2.step hb3
    clear N2 hb3 x2
    by_cases hr : rightB W H n = true
    · go_wp2_with fail
      refine (count_any W H A3 n c3 ps _ hown3.reads.2 hr).mono ?_
      rintro e w4 ⟨A4, c4, rfl, hown4, hb4⟩
      have N4 := N3.step hb4
      clear N3 hb4 hown3
      have hr4 := hown4.reads.2
      clear hown4
      have x4 := N4.b1.cell
      go_wp2_with fail
      refine (own_any W H A n c ps _ N4.hp (by omega)).mono ?_
      rintro e w5 ⟨A5, c5, rfl, hown5, hb5⟩
      have N5 := N4.step hb5
      have r4 := (hr4.below hb5 (Nat.le_refl _)).more hb5.size
      clear N4 hb5 x4 hr4
      go_wp2_with fail
      refine (exact_any W H A5 n c5 ps most E _ hown5.reads.2 N5.hE hr).mono ?_
      rintro e w6 ⟨A6, m6, c6, A7, m7, c7, er, rfl, hex, hb6⟩
      have N6 := N5.step hb6
      have r4' := (r4.below hb6 (Nat.le_refl _)).more hb6.size
      have HX := Lib.hid hex
      clear N5 hb6 r4 hown5 hex
      have x6 := N6.b1.cell
      go_wp2_with fail
      refine (pright_any W H A n c _).mono ?_
      rintro e w7 ⟨rfl, hb7⟩
      rw [hr]
      have N7 := N6.step hb7
      have r7 := (r4'.below hb7 (Nat.le_refl _)).more hb7.size
      clear r4' x6
      have x7 := N7.b1.cell
      go_wp2_with fail
      refine (countof_any W H A n c ps _ N7.hp (by omega)).mono ?_
      rintro e w8 ⟨A8, c8, rfl, hown8, hb8⟩
      have N8 := N7.step hb8
      have r8 := (r7.below hb8 (Nat.le_refl _)).more hb8.size
      have q8 := hown8.reads.2
      have hb68 := hb7.trans (hb8.mono hb7.size)
      clear N7 r7 x7 hown8 hb7 hb8 N6
      obtain ⟨us, hus⟩ : ∃ us, us = Col.uses ps := ⟨_, rfl⟩
      have HU := Lib.hid hus
      have hub := (Col.uses_take_bounds ps ps.length (Nat.le_refl _)).1
      have hpl := N8.hp.pxLen
      rw [List.take_length] at hub
      rw [← hus] at r8 q8 hub ⊢
      clear hus
      have hul : us.length ≤ 3000 := by omega
      clear hub hpl
      go_wp2_with fail
      go_loopw [13] (fun i wr => ∃ k q, k ≤ us.length ∧ i = .int .i64 k ∧ wr = w8.drewN q) (fun i _ => us.length - (intOf i).toNat)
      case atStart => exact ⟨0, 0, Nat.zero_le _, rfl, rfl⟩
      case round =>
        obtain ⟨k, q, hk, rfl, rfl⟩ := hrel
        by_cases hlt : k < us.length
        · obtain ⟨g1, o1, rfl, _⟩ := r8.addr (by omega)
          obtain ⟨g2, o2, rfl, _⟩ := q8.addr (by omega)
          have a0 : w8.cell? ⟨g1, o1 + k * 5, none⟩ = some (.int .u8 us[k].1.r.toNat) := by rw [r8.cell rfl (k * 5) (by omega)]; exact useCells_at us k hlt 0 (by omega)
          have a1 : w8.cell? ⟨g1, o1 + k * 5 + 1, none⟩ = some (.int .u8 us[k].1.g.toNat) := by rw [Nat.add_assoc, r8.cell rfl (k * 5 + 1) (by omega)]; exact useCells_at us k hlt 1 (by omega)
          have a2 : w8.cell? ⟨g1, o1 + k * 5 + 2, none⟩ = some (.int .u8 us[k].1.b.toNat) := by rw [Nat.add_assoc, r8.cell rfl (k * 5 + 2) (by omega)]; exact useCells_at us k hlt 2 (by omega)
          have a3 : w8.cell? ⟨g1, o1 + k * 5 + 3, none⟩ = some (.int .u8 us[k].1.a.toNat) := by rw [Nat.add_assoc, r8.cell rfl (k * 5 + 3) (by omega)]; exact useCells_at us k hlt 3 (by omega)
          have a4 : w8.cell? ⟨g1, o1 + k * 5 + 4, none⟩ = some (.int .i64 us[k].2) := by rw [Nat.add_assoc, r8.cell rfl (k * 5 + 4) (by omega)]; exact useCells_at us k hlt 4 (by omega)
          have b0 : w8.cell? ⟨g2, o2 + k * 5, none⟩ = some (.int .u8 us[k].1.r.toNat) := by rw [q8.cell rfl (k * 5) (by omega)]; exact useCells_at us k hlt 0 (by omega)
          have b1 : w8.cell? ⟨g2, o2 + k * 5 + 1, none⟩ = some (.int .u8 us[k].1.g.toNat) := by rw [Nat.add_assoc, q8.cell rfl (k * 5 + 1) (by omega)]; exact useCells_at us k hlt 1 (by omega)
          have b2 : w8.cell? ⟨g2, o2 + k * 5 + 2, none⟩ = some (.int .u8 us[k].1.b.toNat) := by rw [Nat.add_assoc, q8.cell rfl (k * 5 + 2) (by omega)]; exact useCells_at us k hlt 2 (by omega)
          have b3 : w8.cell? ⟨g2, o2 + k * 5 + 3, none⟩ = some (.int .u8 us[k].1.a.toNat) := by rw [Nat.add_assoc, q8.cell rfl (k * 5 + 3) (by omega)]; exact useCells_at us k hlt 3 (by omega)
          have b4 : w8.cell? ⟨g2, o2 + k * 5 + 4, none⟩ = some (.int .i64 us[k].2) := by rw [Nat.add_assoc, q8.cell rfl (k * 5 + 4) (by omega)]; exact useCells_at us k hlt 4 (by omega)
          have hnq := fun w => run_neq_px w us[k].1 us[k].1
          unfold pxV at hnq
          rw [decide_eq_true rfl] at hnq
          generalize us[k].1 = x at *
          generalize us[k].2 = v at *
          go_wp2_with fail
          go_quiet (fail)
          go_wp2_with fail
          go_roundw
          case rel => exact ⟨k + 1, _, by omega, by go_num, rfl⟩
          case measure => simp [intOf]; omega
        · clear r8 q8
          obtain ⟨q9, hq9⟩ : ∃ q9, q9 = w8.drewN q := ⟨_, rfl⟩
          have N9 : QP w W H A n c ps E q9 := by rw [hq9]; exact N8.step (below_drewN (Below.refl _ _) q)
          have hb69 : Below w6.heap.size w6 q9 := by rw [hq9]; exact below_drewN hb68 q
          rw [← hq9]
          clear hq9 N8 hb68
          rcases HX.out with ⟨hm, hmany, rfl, rfl, rfl, ho1, ho2⟩ | ⟨i, hi9, rfl, rfl, rfl, hie, him⟩
          · clear HX
            obtain ⟨m1, m2⟩ := sideB_true hm
            rw [← HU.out] at hmany
            have s1 := (ho1.reads.2.below hb69 (Nat.le_refl _)).more hb69.size
            have s2 := (ho2.reads.2.below hb69 (Nat.le_refl _)).more hb69.size
            have x9 := N9.b1.cell
            clear ho1 ho2
            go_wp2_with fail
            refine (unlike_any W H A m7 c ps _ N9.hp (by omega)).mono ?_
            rintro e w10 ⟨A10, c10, A11, c11, rfl, ho10, ho11, hb10⟩
            have N10 := N9.step hb10
            have t1 := (s1.below hb10 (Nat.le_refl _)).more hb10.size
            have t2 := (s2.below hb10 (Nat.le_refl _)).more hb10.size
            have hl1 : (Col.unl ps).1.length ≤ 1048576 := by
              have := (unl_len ps ps.length (Nat.le_refl _)).1
              have h2 := N9.hp.pxLen
              rw [List.take_length] at this
              omega
            clear s1 s2 N9 x9 hb10
            go_wp2_with fail
            refine (samePixels_same A6 _ c6 A10 c10 _ _ t1 ho10.reads.2 hl1).mono ?_
            rintro e w11 ⟨rfl, q11, rfl⟩
            go_wp2_with fail
            refine (sameInts_same A7 _ c7 A11 c11 _ _ (t2.drewN _) (ho11.reads.2.drewN _) (by omega)).mono ?_
            rintro e w12 ⟨rfl, q12, rfl⟩
            go_wp2_with fail
            go_ret
            exact ⟨rfl, below_drewN N10.bel _⟩
          · clear HX
            by_cases hm : sideB most = true
            · obtain ⟨m1, m2⟩ := sideB_true hm
              have h6 := him hm
              rw [if_pos hm] at hie
              subst hie
              rw [← HU.out] at h6
              clear him
              go_wp2_with fail
              refine (coded_sent E 6 (by omega) 7 _ N9.hE).mono ?_
              rintro e w10 ⟨rfl, hb10⟩
              go_wp2_with fail
              go_ret
              exact ⟨rfl, N9.bel.trans (hb10.mono N9.bel.size)⟩
            · rw [if_neg hm] at hie
              subst hie
              clear him
              have hm' : most < 1 ∨ 256 < most := by simp [sideB] at hm; omega
              by_cases hq : most < us.length
              all_goals
                rcases hm' with h | h
                all_goals
                  go_wp2_with fail
                  refine (coded_sent E 1 (by omega) 2 _ N9.hE).mono ?_
                  rintro e w10 ⟨rfl, hb10⟩
                  go_wp2_with fail
                  go_ret
                  exact ⟨rfl, N9.bel.trans (hb10.mono N9.bel.size)⟩
    · have hr' : rightB W H n = false := by simpa using hr
      go_wp2_with fail
      refine (count_bad W H A3 n c3 _ _ _ N3.hE.shape hr').mono ?_
      rintro e w4 ⟨rfl, hb4⟩
      have N4 := N3.step hb4
      clear N3 hb4 hown3
      have x4 := N4.b1.cell
      go_wp2_with fail
      refine (own_any W H A n c ps _ N4.hp (by omega)).mono ?_
      rintro e w5 ⟨A5, c5, rfl, hown5, hb5⟩
      have N5 := N4.step hb5
      clear N4 hb5 x4
      go_wp2_with fail
      refine (exact_shape W H A5 n c5 most E _ N5.hE hr').mono ?_
      rintro e w6 ⟨rfl, hb6⟩
      have N6 := N5.step hb6
      clear N5 hb6 hown5
      have x6 := N6.b1.cell
      go_wp2_with fail
      refine (pright_any W H A n c _).mono ?_
      rintro e w7 ⟨rfl, hb7⟩
      rw [hr']
      have N7 := N6.step hb7
      clear N6 hb7 x6
      go_wp2_with fail
      refine (coded_sent E 2 (by omega) 3 _ N7.hE).mono ?_
      rintro e w8 ⟨rfl, hb8⟩
      have N8 := N7.step hb8
      clear N7 hb8
      go_wp2_with fail
      refine (coded_sent E 2 (by omega) 3 _ N8.hE).mono ?_
      rintro e w9 ⟨rfl, hb9⟩
      have N9 := N8.step hb9
      clear N8 hb9
      go_wp2_with fail
      go_ret
      exact ⟨rfl, N9.bel⟩
  · rw [decide_eq_false hsm]
    go_wp2_with fail
    go_ret
    exact ⟨rfl, N2.bel⟩
end Go.Proofs.YtnciahoifehkdaaDoor
