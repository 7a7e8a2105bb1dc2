/- raster.Fill: the walk. Printed by mkrfill.py. -/
import Derived.Test.YtcdbhcjiimdhhaaDoorRFill
namespace Go.Proofs.YtcdbhcjiimdhhaaDoor
open Go Go.RowKit

theorem nears4 {X Y Wr Hr : Int} (h : [X, Y, Wr, Hr].all nearB = true) : (-10000 ≤ X ∧ X ≤ 10000) ∧ (-10000 ≤ Y ∧ Y ≤ 10000) ∧ (-10000 ≤ Wr ∧ Wr ≤ 10000) ∧ (-10000 ≤ Hr ∧ Hr ≤ 10000) := by
  simpa [nearB, Bool.and_eq_true] using h
set_option maxRecDepth 100000 in
set_option maxHeartbeats 4000000 in
theorem rfill_good (W H : Nat) (A : Option Addr) (n c : Nat) (ps : List Px) (X Y Wr Hr : Int) (p : Px) (w : World) (hp : Reads w w.heap.size 4 A n (pxCells ps)) (hW : 1 ≤ W ∧ W ≤ 256) (hH : 1 ≤ H ∧ H ≤ 256) (hn : ps.length = H * W) (hnb : [X, Y, Wr, Hr].all nearB = true) (h0 : 0 ≤ Wr) (h1 : 0 ≤ Hr) :
    Calls Tryd.prog 41 #[.agg #[.int .i64 W, .int .i64 H, .slice A n c], .agg #[.int .i64 X, .int .i64 Y, .int .i64 Wr, .int .i64 Hr], pxV p] w
      fun e w' => ∃ A' c', e = .returned (.tuple #[.agg #[.int .i64 W, .int .i64 H, .slice A' (H * W) c'], .nilIface]) ∧ Own w' w.heap.size 4 (.slice A' (H * W) c') (H * W) (pxCells (Lay.grid (Til.fillAt ps W X Y Wr Hr p) W H)) ∧ Below w.heap.size w w' := by
  have hpl := hp.pxLen
  have HRB := Lib.hid (show rightB (W : Int) (H : Int) n = true by
    have h1 : sideB (W : Int) = true := by simp [sideB]; omega
    have h2 : sideB (H : Int) = true := by simp [sideB]; omega
    simp only [rightB, h1, h2, Bool.true_and]
    rw [hpl, hn, Int.natCast_mul, Int.mul_comm]
    simp)
  have HP := Lib.hid hp
  have HN := Lib.hid hn
  have HPL := Lib.hid hpl
  obtain ⟨hW1, hW2⟩ := hW
  obtain ⟨hH1, hH2⟩ := hH
  obtain ⟨hX, hY, hWr, hHr⟩ := nears4 hnb
  obtain ⟨nb, hnb2⟩ : ∃ nb, nb = true := ⟨_, rfl⟩
  have HNB := Lib.hid (show [X, Y, Wr, Hr].all nearB = true from hnb)
  have hl5 : ps.length ≤ 65536 := by rw [hn]; have := Nat.mul_le_mul hH2 hW2; omega
  clear hnb hnb2
  clear hp hn hpl
  unfold pxV
  go_enter Tryd.func41, Tryd.ntmps41
  go_wp2_with fail
  obtain ⟨W0, hW0⟩ : ∃ W0, W0 = (((w.alloc (.cells #[.int .i64 W, .int .i64 H, .slice A n c] 24)).alloc (.cells #[.int .i64 X, .int .i64 Y, .int .i64 Wr, .int .i64 Hr] 49)).alloc (.cells #[.int .u8 p.r.toNat, .int .u8 p.g.toNat, .int .u8 p.b.toNat, .int .u8 p.a.toNat] 41)).alloc (.cells #[.int .i64 0, .int .i64 0, .slice none 0 0] 24) := ⟨_, rfl⟩
  have B1 : Blk W0 w.heap.size 24 #[.int .i64 W, .int .i64 H, .slice A n c] := by rw [hW0]; exact (((Blk.new _ _ _ rfl).alloc _).alloc _).alloc _
  have B2 : Blk W0 (w.heap.size + 1) 49 #[.int .i64 X, .int .i64 Y, .int .i64 Wr, .int .i64 Hr] := by rw [hW0]; exact ((Blk.new _ _ _ (by simp)).alloc _).alloc _
  have B3 : Blk W0 (w.heap.size + 1 + 1) 41 #[.int .u8 p.r.toNat, .int .u8 p.g.toNat, .int .u8 p.b.toNat, .int .u8 p.a.toNat] := by rw [hW0]; exact (Blk.new _ _ _ (by simp)).alloc _
  have B4 : Blk W0 (w.heap.size + 1 + 1 + 1) 24 #[.int .i64 0, .int .i64 0, .slice none 0 0] := by rw [hW0]; exact Blk.new _ _ _ (by simp)
  have hb0 : Below w.heap.size w W0 := by rw [hW0]; go_grown
  rw [← hW0]
  clear hW0
  have s0 : W0.cell? ⟨w.heap.size, 0, none⟩ = some (.int .i64 W) := (B1.cell 0).trans rfl
  have s1 : W0.cell? ⟨w.heap.size, 1, none⟩ = some (.int .i64 H) := (B1.cell 1).trans rfl
  have s2 : W0.cell? ⟨w.heap.size, 2, none⟩ = some (.slice A n c) := (B1.cell 2).trans rfl
  have t0 : W0.cell? ⟨w.heap.size + 1, 0, none⟩ = some (.int .i64 X) := (B2.cell 0).trans rfl
  have t1 : W0.cell? ⟨w.heap.size + 1, 1, none⟩ = some (.int .i64 Y) := (B2.cell 1).trans rfl
  have t2 : W0.cell? ⟨w.heap.size + 1, 2, none⟩ = some (.int .i64 Wr) := (B2.cell 2).trans rfl
  have t3 : W0.cell? ⟨w.heap.size + 1, 3, none⟩ = some (.int .i64 Hr) := (B2.cell 3).trans rfl
  go_region_held3 (fun w' => w'.cell? ⟨w.heap.size, 0, none⟩ = some (.int .i64 W) ∧ w'.cell? ⟨w.heap.size, 1, none⟩ = some (.int .i64 H) ∧ w'.cell? ⟨w.heap.size, 2, none⟩ = some (.slice A n c) ∧ w'.cell? ⟨w.heap.size + 1, 0, none⟩ = some (.int .i64 X) ∧ w'.cell? ⟨w.heap.size + 1, 1, none⟩ = some (.int .i64 Y) ∧ w'.cell? ⟨w.heap.size + 1, 2, none⟩ = some (.int .i64 Wr) ∧ w'.cell? ⟨w.heap.size + 1, 3, none⟩ = some (.int .i64 Hr))
    ((go_split_ands
      refine ⟨?_, ?_, ?_, ?_, ?_, ?_, ?_⟩
      · ((repeat' (first | (with_reducible exact s0) | (with_reducible refine bkeep hbB ?_) | (with_reducible refine bkeep hbA ?_) | (with_reducible refine cell_past _ ?_))) <;> first | exact s0 | exact cell_past _ s0)
      · ((repeat' (first | (with_reducible exact s1) | (with_reducible refine bkeep hbB ?_) | (with_reducible refine bkeep hbA ?_) | (with_reducible refine cell_past _ ?_))) <;> first | exact s1 | exact cell_past _ s1)
      · ((repeat' (first | (with_reducible exact s2) | (with_reducible refine bkeep hbB ?_) | (with_reducible refine bkeep hbA ?_) | (with_reducible refine cell_past _ ?_))) <;> first | exact s2 | exact cell_past _ s2)
      · ((repeat' (first | (with_reducible exact t0) | (with_reducible refine bkeep hbB ?_) | (with_reducible refine bkeep hbA ?_) | (with_reducible refine cell_past _ ?_))) <;> first | exact t0 | exact cell_past _ t0)
      · ((repeat' (first | (with_reducible exact t1) | (with_reducible refine bkeep hbB ?_) | (with_reducible refine bkeep hbA ?_) | (with_reducible refine cell_past _ ?_))) <;> first | exact t1 | exact cell_past _ t1)
      · ((repeat' (first | (with_reducible exact t2) | (with_reducible refine bkeep hbB ?_) | (with_reducible refine bkeep hbA ?_) | (with_reducible refine cell_past _ ?_))) <;> first | exact t2 | exact cell_past _ t2)
      · ((repeat' (first | (with_reducible exact t3) | (with_reducible refine bkeep hbB ?_) | (with_reducible refine bkeep hbA ?_) | (with_reducible refine cell_past _ ?_))) <;> first | exact t3 | exact cell_past _ t3)))
    (first
      | (go_at_call 49; refine (rnear_any _ _ _ [X, Y, Wr, Hr] true _ (ints_blk (zs := [X, Y, Wr, Hr]) (Blk.drew (Blk.new W0 _ _ rfl))) (show (4 : Nat) ≤ 1048576 from Nat.le_of_ble_eq_true rfl) HNB.out).mono ?_; rintro e wA ⟨rfl, hbA⟩; have hzA : W0.heap.size + 1 ≤ wA.heap.size := (by have := hbA.size; simp at this; exact this))
      | (go_at_call 57; refine (rcheck_fine W H A n c _ HRB.out).mono ?_; rintro e wB ⟨rfl, hbB⟩))
  have hbI : Below W0.heap.size W0 wB := ((((Below.refl W0.heap.size W0).alloc (Nat.le_refl _) _).drew).trans (hbA.mono (by simp))).trans (hbB.mono (by omega))
  have C1 := B1.below hbI B1.lt
  have C2 := B2.below hbI B2.lt
  have C3 := B3.below hbI B3.lt
  have C4 := B4.below hbI B4.lt
  have hbw2 := hb0.trans (hbI.mono hb0.size)
  have e1 := C1.cell
  have e4 := C4.cell
  have g4 := C4.free
  clear s0 s1 s2 t0 t1 t2 t3 hbA hbB hbI hb0 B1 B2 B3 B4 hzA
  have RP := Lib.hid ((HP.out.below hbw2 (Nat.le_refl _)).more hbw2.size)
  have HOW := Lib.hid (show ∀ (x y : Nat) (w' : World), x < W → y < H → Below wB.heap.size wB w' → Calls Tryd.prog 59 #[.int .i64 x, .int .i64 y, .pointer (some ⟨w.heap.size + 1, 0, none⟩), .pointer (some ⟨w.heap.size + 1 + 1, 0, none⟩), .pointer (some ⟨w.heap.size, 0, none⟩)] w' fun e w'' => e = .returned (.agg #[.int .u8 (Til.fillAt ps W X Y Wr Hr p x y).r.toNat, .int .u8 (Til.fillAt ps W X Y Wr Hr p x y).g.toNat, .int .u8 (Til.fillAt ps W X Y Wr Hr p x y).b.toNat, .int .u8 (Til.fillAt ps W X Y Wr Hr p x y).a.toNat]) ∧ Below w'.heap.size w' w'' from fun x y w' hx hy hb => by
    have hsl := Til.index_lt hx hy
    rw [← HN.out] at hsl
    exact fill1_any W H A n c ps X Y Wr Hr p (w.heap.size + 1) (w.heap.size + 1 + 1) w.heap.size x y _ w' (C1.below hb C1.lt) (C2.below hb C2.lt) (C3.below hb C3.lt) ((RP.out.below hb (Nat.le_refl _)).more hb.size) rfl hsl (by omega) hX hY hWr hHr)
  go_wp2_with fail
  refine (eachFill_any W H _ _ _ (Til.fillAt ps W X Y Wr Hr p) _ hW2 hH2 HOW.out).mono ?_
  rintro e w3 ⟨A', c', rfl, hO, hb3⟩
  have D3 := C4.below hb3 C4.lt
  have hbw3 := hbw2.trans (hb3.mono hbw2.size)
  have f3 := D3.cell
  have g3 := D3.free
  have hz : w.heap.size ≤ w.heap.size + 1 + 1 + 1 := by omega
  have l3 := C4.lt
  have n1 : (Value.slice A' (H * W) c').ownBlock ≠ some (w.heap.size + 1 + 1 + 1) := fun e => by have := (hO.lt _ e).1; omega
  have HO := Lib.hid hO
  have HN1 := Lib.hid n1
  clear hO n1 hb3 e1 e4 g4
  go_wp2_with fail
  refine bodyPost_ret (v := .tuple #[.agg #[.int .i64 W, .int .i64 H, .slice A' (H * W) c'], .nilIface]) (by simp [results, Tryd.results41, go_sem, f3]) rfl ⟨A', c', rfl, ?_, ?_⟩
  · exact (((HO.out.setCell HN1.out _).setCell HN1.out _).setCell HN1.out _).mono hbw2.size
  · exact (((hbw3.setCell hz _).setCell hz _).setCell hz _)

set_option maxRecDepth 100000 in
set_option maxHeartbeats 4000000 in
theorem rfill_bada (W H : Nat) (A : Option Addr) (n c : Nat) (ps : List Px) (X Y Wr Hr : Int) (p : Px) (E : Nat → Addr) (w : World) (hp : Reads w w.heap.size 4 A n (pxCells ps)) (hW : 1 ≤ W ∧ W ≤ 256) (hH : 1 ≤ H ∧ H ≤ 256) (hn : ps.length = H * W) (hE : ErrsAt w E) (hnb : [X, Y, Wr, Hr].all nearB = false) :
    Calls Tryd.prog 41 #[.agg #[.int .i64 W, .int .i64 H, .slice A n c], .agg #[.int .i64 X, .int .i64 Y, .int .i64 Wr, .int .i64 Hr], pxV p] w
      fun e w' => e = .returned (.tuple #[.agg #[.int .i64 0, .int .i64 0, .slice none 0 0], errV (E 1)]) ∧ Below w.heap.size w w' := by
  have hpl := hp.pxLen
  have HRB := Lib.hid (show rightB (W : Int) (H : Int) n = true by
    have h1 : sideB (W : Int) = true := by simp [sideB]; omega
    have h2 : sideB (H : Int) = true := by simp [sideB]; omega
    simp only [rightB, h1, h2, Bool.true_and]
    rw [hpl, hn, Int.natCast_mul, Int.mul_comm]
    simp)
  have HP := Lib.hid hp
  have HN := Lib.hid hn
  have HPL := Lib.hid hpl
  obtain ⟨hW1, hW2⟩ := hW
  obtain ⟨hH1, hH2⟩ := hH
  have HE := Lib.hid hE
  have HNB := Lib.hid hnb
  clear hE hnb
  clear hp hn hpl
  unfold pxV
  go_enter Tryd.func41, Tryd.ntmps41
  go_wp2_with fail
  obtain ⟨W0, hW0⟩ : ∃ W0, W0 = (((w.alloc (.cells #[.int .i64 W, .int .i64 H, .slice A n c] 24)).alloc (.cells #[.int .i64 X, .int .i64 Y, .int .i64 Wr, .int .i64 Hr] 49)).alloc (.cells #[.int .u8 p.r.toNat, .int .u8 p.g.toNat, .int .u8 p.b.toNat, .int .u8 p.a.toNat] 41)).alloc (.cells #[.int .i64 0, .int .i64 0, .slice none 0 0] 24) := ⟨_, rfl⟩
  have B1 : Blk W0 w.heap.size 24 #[.int .i64 W, .int .i64 H, .slice A n c] := by rw [hW0]; exact (((Blk.new _ _ _ rfl).alloc _).alloc _).alloc _
  have B2 : Blk W0 (w.heap.size + 1) 49 #[.int .i64 X, .int .i64 Y, .int .i64 Wr, .int .i64 Hr] := by rw [hW0]; exact ((Blk.new _ _ _ (by simp)).alloc _).alloc _
  have B3 : Blk W0 (w.heap.size + 1 + 1) 41 #[.int .u8 p.r.toNat, .int .u8 p.g.toNat, .int .u8 p.b.toNat, .int .u8 p.a.toNat] := by rw [hW0]; exact (Blk.new _ _ _ (by simp)).alloc _
  have B4 : Blk W0 (w.heap.size + 1 + 1 + 1) 24 #[.int .i64 0, .int .i64 0, .slice none 0 0] := by rw [hW0]; exact Blk.new _ _ _ (by simp)
  have hb0 : Below w.heap.size w W0 := by rw [hW0]; go_grown
  rw [← hW0]
  clear hW0
  have s0 : W0.cell? ⟨w.heap.size, 0, none⟩ = some (.int .i64 W) := (B1.cell 0).trans rfl
  have s1 : W0.cell? ⟨w.heap.size, 1, none⟩ = some (.int .i64 H) := (B1.cell 1).trans rfl
  have s2 : W0.cell? ⟨w.heap.size, 2, none⟩ = some (.slice A n c) := (B1.cell 2).trans rfl
  have t0 : W0.cell? ⟨w.heap.size + 1, 0, none⟩ = some (.int .i64 X) := (B2.cell 0).trans rfl
  have t1 : W0.cell? ⟨w.heap.size + 1, 1, none⟩ = some (.int .i64 Y) := (B2.cell 1).trans rfl
  have t2 : W0.cell? ⟨w.heap.size + 1, 2, none⟩ = some (.int .i64 Wr) := (B2.cell 2).trans rfl
  have t3 : W0.cell? ⟨w.heap.size + 1, 3, none⟩ = some (.int .i64 Hr) := (B2.cell 3).trans rfl
  have HE0 := Lib.hid (HE.out.below hb0)
  refine wp_region_held_drew (S := (fun w' => w'.cell? ⟨w.heap.size, 0, none⟩ = some (.int .i64 W) ∧ w'.cell? ⟨w.heap.size, 1, none⟩ = some (.int .i64 H) ∧ w'.cell? ⟨w.heap.size, 2, none⟩ = some (.slice A n c) ∧ w'.cell? ⟨w.heap.size + 1, 0, none⟩ = some (.int .i64 X) ∧ w'.cell? ⟨w.heap.size + 1, 1, none⟩ = some (.int .i64 Y) ∧ w'.cell? ⟨w.heap.size + 1, 2, none⟩ = some (.int .i64 Wr) ∧ w'.cell? ⟨w.heap.size + 1, 3, none⟩ = some (.int .i64 Hr))) (by kernel_rfl) ?_ (fun hHeld => ?_)
  · exact ⟨s0, s1, s2, t0, t1, t2, t3⟩
  refine wpAnyH_take (i := 0) (v := ?_) rfl (by kernel_rfl) (by kernel_rfl) (by kernel_rfl) (fun _ _ _ h => h) (Or.inl ⟨by rfl, ?_⟩) (by assumption) ?_
  rotate_left
  · intro w hSw; (try dsimp only at hSw); go_simp <;> with_reducible rfl
  (try simp only [Act.put, List.getElem_toArray, List.getElem_cons_zero, List.setIfInBounds_toArray, List.set_cons_zero, List.set_cons_succ])
  refine wpAnyH_take (i := 1) (v := ?_) rfl (by kernel_rfl) (by kernel_rfl) (by kernel_rfl) (fun _ _ _ h => h) (Or.inl ⟨by rfl, ?_⟩) (by assumption) ?_
  rotate_left
  · intro w hSw; (try dsimp only at hSw); go_simp <;> with_reducible rfl
  (try simp only [Act.put, List.getElem_toArray, List.getElem_cons_zero, List.getElem_cons_succ, List.setIfInBounds_toArray, List.set_cons_zero, List.set_cons_succ])
  refine wpAnyH_take (i := 2) (v := ?_) rfl (by kernel_rfl) (by kernel_rfl) (by kernel_rfl) (fun _ _ _ h => h) (Or.inl ⟨by rfl, ?_⟩) (by assumption) ?_
  rotate_left
  · intro w hSw; (try dsimp only at hSw); go_simp <;> with_reducible rfl
  (try simp only [Act.put, List.getElem_toArray, List.getElem_cons_zero, List.getElem_cons_succ, List.setIfInBounds_toArray, List.set_cons_zero, List.set_cons_succ])
  refine wpAnyH_take (i := 3) (v := ?_) rfl (by kernel_rfl) (by kernel_rfl) (by kernel_rfl) (fun _ _ _ h => h) (Or.inl ⟨by rfl, ?_⟩) (by assumption) ?_
  rotate_left
  · intro w hSw; (try dsimp only at hSw); go_simp <;> with_reducible rfl
  (try simp only [Act.put, List.getElem_toArray, List.getElem_cons_zero, List.getElem_cons_succ, List.setIfInBounds_toArray, List.set_cons_zero, List.set_cons_succ])
  refine wpAnyH_take (i := 4) (v := ?_) rfl (by kernel_rfl) (by kernel_rfl) (by kernel_rfl) (fun _ _ _ h => h) (Or.inl ⟨by rfl, ?_⟩) (by assumption) ?_
  rotate_left
  · intro w hSw; (try dsimp only at hSw); go_simp <;> with_reducible rfl
  (try simp only [Act.put, List.getElem_toArray, List.getElem_cons_zero, List.getElem_cons_succ, List.setIfInBounds_toArray, List.set_cons_zero, List.set_cons_succ])
  refine wpAnyH_take (i := 5) (v := ?_) rfl (by kernel_rfl) (by kernel_rfl) (by kernel_rfl) (fun _ _ _ h => h) (Or.inl ⟨by rfl, ?_⟩) (by assumption) ?_
  rotate_left
  · intro w hSw; (try dsimp only at hSw); go_simp <;> with_reducible rfl
  (try simp only [Act.put, List.getElem_toArray, List.getElem_cons_zero, List.getElem_cons_succ, List.setIfInBounds_toArray, List.set_cons_zero, List.set_cons_succ])
  refine wpAnyH_take (i := 6) (v := ?_) rfl (by kernel_rfl) (by kernel_rfl) (by kernel_rfl) (fun _ _ _ h => h) (Or.inl ⟨by rfl, ?_⟩) (by assumption) ?_
  rotate_left
  · intro w hSw; (try dsimp only at hSw); go_simp <;> with_reducible rfl
  (try simp only [Act.put, List.getElem_toArray, List.getElem_cons_zero, List.getElem_cons_succ, List.setIfInBounds_toArray, List.set_cons_zero, List.set_cons_succ])
  refine wpAnyH_take (i := 7) (v := ?_) rfl (by kernel_rfl) (by kernel_rfl) (by kernel_rfl) (fun _ _ _ h => h) (Or.inl ⟨by rfl, ?_⟩) (by assumption) ?_
  rotate_left
  · intro w hSw; (try dsimp only at hSw); go_simp <;> with_reducible rfl
  (try simp only [Act.put, List.getElem_toArray, List.getElem_cons_zero, List.getElem_cons_succ, List.setIfInBounds_toArray, List.set_cons_zero, List.set_cons_succ])
  refine wpAnyH_take (i := 8) (v := ?_) rfl (by kernel_rfl) (by kernel_rfl) (by kernel_rfl) (fun _ _ _ h => h) (Or.inl ⟨by rfl, ?_⟩) (by assumption) ?_
  rotate_left
  · intro w hSw; (try dsimp only at hSw); go_simp <;> with_reducible rfl
  (try simp only [Act.put, List.getElem_toArray, List.getElem_cons_zero, List.getElem_cons_succ, List.setIfInBounds_toArray, List.set_cons_zero, List.set_cons_succ])
  refine wpAnyH_ready (rs := [9]) (by kernel_rfl) (by simp) ?_
  refine AllReadyH.cons rfl (fun K hK => ?_) AllReadyH.nil
  go_simp
  refine hK.out _ _ ?_ (fun hHeld => ?_)
  · exact ⟨cell_past _ s0, cell_past _ s1, cell_past _ s2, cell_past _ t0, cell_past _ t1, cell_past _ t2, cell_past _ t3⟩
  clear hK K
  (try simp only [Act.put, List.getElem_toArray, List.getElem_cons_zero, List.getElem_cons_succ, List.setIfInBounds_toArray, List.set_cons_zero, List.set_cons_succ])
  refine wpAnyH_ready (rs := [10]) (by kernel_rfl) (by simp) ?_
  refine AllReadyH.cons rfl (fun K hK => ?_) AllReadyH.nil
  go_simp
  go_at_call 49; refine (rnear_any _ _ _ [X, Y, Wr, Hr] _ _ (ints_blk (zs := [X, Y, Wr, Hr]) (Blk.drew (Blk.new W0 _ _ rfl))) (show (4 : Nat) ≤ 1048576 from Nat.le_of_ble_eq_true rfl) HNB.out).mono ?_; rintro e wA ⟨rfl, hbA⟩; have hzA : W0.heap.size + 1 ≤ wA.heap.size := (by have := hbA.size; simp at this; exact this)
  refine hK.out _ _ ?_ (fun hHeld => ?_)
  · exact ⟨bkeep hbA (cell_past _ s0), bkeep hbA (cell_past _ s1), bkeep hbA (cell_past _ s2), bkeep hbA (cell_past _ t0), bkeep hbA (cell_past _ t1), bkeep hbA (cell_past _ t2), bkeep hbA (cell_past _ t3)⟩
  clear hK K
  (try simp only [Act.put, List.getElem_toArray, List.getElem_cons_zero, List.getElem_cons_succ, List.setIfInBounds_toArray, List.set_cons_zero, List.set_cons_succ])
  refine wpAnyH_take (i := 11) (v := ?_) rfl (by kernel_rfl) (by kernel_rfl) (by kernel_rfl) (fun _ _ _ h => h) (Or.inl ⟨by rfl, ?_⟩) (by assumption) ?_
  rotate_left
  · intro w hSw; (try dsimp only at hSw); go_simp <;> with_reducible rfl
  (try simp only [Act.put, List.getElem_toArray, List.getElem_cons_zero, List.getElem_cons_succ, List.setIfInBounds_toArray, List.set_cons_zero, List.set_cons_succ])
  refine wpAnyH_take (i := 12) (v := undef) rfl (by kernel_rfl) (by kernel_rfl) (by kernel_rfl) (fun _ _ _ h => h) (Or.inr ⟨by rfl, rfl⟩) (by assumption) ?_
  (try simp only [Act.put, List.getElem_toArray, List.getElem_cons_zero, List.getElem_cons_succ, List.setIfInBounds_toArray, List.set_cons_zero, List.set_cons_succ])
  refine wpAnyH_take (i := 13) (v := undef) rfl (by kernel_rfl) (by kernel_rfl) (by kernel_rfl) (fun _ _ _ h => h) (Or.inr ⟨by rfl, rfl⟩) (by assumption) ?_
  (try simp only [Act.put, List.getElem_toArray, List.getElem_cons_zero, List.getElem_cons_succ, List.setIfInBounds_toArray, List.set_cons_zero, List.set_cons_succ])
  refine wpAnyH_take (i := 14) (v := undef) rfl (by kernel_rfl) (by kernel_rfl) (by kernel_rfl) (fun _ _ _ h => h) (Or.inr ⟨by rfl, rfl⟩) (by assumption) ?_
  (try simp only [Act.put, List.getElem_toArray, List.getElem_cons_zero, List.getElem_cons_succ, List.setIfInBounds_toArray, List.set_cons_zero, List.set_cons_succ])
  refine wpAnyH_take (i := 15) (v := ?_) rfl (by kernel_rfl) (by kernel_rfl) (by kernel_rfl) (fun _ _ _ h => h) (Or.inl ⟨by rfl, ?_⟩) (by assumption) ?_
  rotate_left
  · intro w hSw; (try dsimp only at hSw); go_simp <;> with_reducible rfl
  (try simp only [Act.put, List.getElem_toArray, List.getElem_cons_zero, List.getElem_cons_succ, List.setIfInBounds_toArray, List.set_cons_zero, List.set_cons_succ])
  refine wpAnyH_take (i := 16) (v := ?_) rfl (by kernel_rfl) (by kernel_rfl) (by kernel_rfl) (fun _ _ _ h => h) (Or.inl ⟨by rfl, ?_⟩) (by assumption) ?_
  rotate_left
  · intro w hSw; (try dsimp only at hSw); go_simp <;> with_reducible rfl
  (try simp only [Act.put, List.getElem_toArray, List.getElem_cons_zero, List.getElem_cons_succ, List.setIfInBounds_toArray, List.set_cons_zero, List.set_cons_succ])
  refine wpAnyH_take (i := 17) (v := undef) rfl (by kernel_rfl) (by kernel_rfl) (by kernel_rfl) (fun _ _ _ h => h) (Or.inr ⟨by rfl, rfl⟩) (by assumption) ?_
  (try simp only [Act.put, List.getElem_toArray, List.getElem_cons_zero, List.getElem_cons_succ, List.setIfInBounds_toArray, List.set_cons_zero, List.set_cons_succ])
  refine wpAnyH_take (i := 18) (v := undef) rfl (by kernel_rfl) (by kernel_rfl) (by kernel_rfl) (fun _ _ _ h => h) (Or.inr ⟨by rfl, rfl⟩) (by assumption) ?_
  (try simp only [Act.put, List.getElem_toArray, List.getElem_cons_zero, List.getElem_cons_succ, List.setIfInBounds_toArray, List.set_cons_zero, List.set_cons_succ])
  refine wpAnyH_take (i := 19) (v := undef) rfl (by kernel_rfl) (by kernel_rfl) (by kernel_rfl) (fun _ _ _ h => h) (Or.inr ⟨by rfl, rfl⟩) (by assumption) ?_
  (try simp only [Act.put, List.getElem_toArray, List.getElem_cons_zero, List.getElem_cons_succ, List.setIfInBounds_toArray, List.set_cons_zero, List.set_cons_succ])
  refine wpAnyH_take (i := 20) (v := ?_) rfl (by kernel_rfl) (by kernel_rfl) (by kernel_rfl) (fun _ _ _ h => h) (Or.inl ⟨by rfl, ?_⟩) (by assumption) ?_
  rotate_left
  · intro w hSw; (try dsimp only at hSw); go_simp <;> with_reducible rfl
  (try simp only [Act.put, List.getElem_toArray, List.getElem_cons_zero, List.getElem_cons_succ, List.setIfInBounds_toArray, List.set_cons_zero, List.set_cons_succ])
  refine wpAnyH_ready (rs := [21]) (by kernel_rfl) (by simp) ?_
  refine AllReadyH.cons rfl (fun K hK => ?_) AllReadyH.nil
  go_simp
  go_at_call 57; refine (rcheck_bound W H A n c E _ (HE0.out.below (Below.trans (((Below.refl W0.heap.size W0).alloc (Nat.le_refl _) _).drew) (hbA.mono (by simp)))) HRB.out).mono ?_; rintro e wB ⟨rfl, hbB⟩
  refine hK.out _ _ ?_ (fun hHeld => ?_)
  · exact ⟨bkeep hbB (bkeep hbA (cell_past _ s0)), bkeep hbB (bkeep hbA (cell_past _ s1)), bkeep hbB (bkeep hbA (cell_past _ s2)), bkeep hbB (bkeep hbA (cell_past _ t0)), bkeep hbB (bkeep hbA (cell_past _ t1)), bkeep hbB (bkeep hbA (cell_past _ t2)), bkeep hbB (bkeep hbA (cell_past _ t3))⟩
  clear hK K
  (try simp only [Act.put, List.getElem_toArray, List.getElem_cons_zero, List.getElem_cons_succ, List.setIfInBounds_toArray, List.set_cons_zero, List.set_cons_succ])
  refine wpAnyH_take (i := 22) (v := ?_) rfl (by kernel_rfl) (by kernel_rfl) (by kernel_rfl) (fun _ _ _ h => h) (Or.inl ⟨by rfl, ?_⟩) (by assumption) ?_
  rotate_left
  · intro w hSw; (try dsimp only at hSw); go_simp <;> with_reducible rfl
  (try simp only [Act.put, List.getElem_toArray, List.getElem_cons_zero, List.getElem_cons_succ, List.setIfInBounds_toArray, List.set_cons_zero, List.set_cons_succ])
  refine wpAnyH_done (by kernel_rfl) ?_ _
  have hbI : Below W0.heap.size W0 wB := ((((Below.refl W0.heap.size W0).alloc (Nat.le_refl _) _).drew).trans (hbA.mono (by simp))).trans (hbB.mono (by omega))
  have C1 := B1.below hbI B1.lt
  have C2 := B2.below hbI B2.lt
  have C3 := B3.below hbI B3.lt
  have C4 := B4.below hbI B4.lt
  have hbw2 := hb0.trans (hbI.mono hb0.size)
  have e1 := C1.cell
  have e4 := C4.cell
  have g4 := C4.free
  clear s0 s1 s2 t0 t1 t2 t3 hbA hbB hbI hb0 B1 B2 B3 B4 hzA
  unfold errV
  clear e1 C1 C2 C3
  have l4 := C4.lt
  go_wp2_with fail
  refine bodyPost_ret (v := .tuple #[.agg #[.int .i64 0, .int .i64 0, .slice none 0 0], errV (E 1)]) (by simp [results, Tryd.results41, go_sem, e4, errV]) rfl ⟨rfl, ?_⟩
  have hz : w.heap.size ≤ w.heap.size + 1 + 1 + 1 := by omega
  exact (((hbw2.setCell hz _).setCell hz _).setCell hz _)

set_option maxRecDepth 100000 in
set_option maxHeartbeats 4000000 in
theorem rfill_badb (W H : Nat) (A : Option Addr) (n c : Nat) (ps : List Px) (X Y Wr Hr : Int) (p : Px) (E : Nat → Addr) (w : World) (hp : Reads w w.heap.size 4 A n (pxCells ps)) (hW : 1 ≤ W ∧ W ≤ 256) (hH : 1 ≤ H ∧ H ≤ 256) (hn : ps.length = H * W) (hE : ErrsAt w E) (hnb : [X, Y, Wr, Hr].all nearB = true) (g1 : Wr < 0) :
    Calls Tryd.prog 41 #[.agg #[.int .i64 W, .int .i64 H, .slice A n c], .agg #[.int .i64 X, .int .i64 Y, .int .i64 Wr, .int .i64 Hr], pxV p] w
      fun e w' => e = .returned (.tuple #[.agg #[.int .i64 0, .int .i64 0, .slice none 0 0], errV (E 1)]) ∧ Below w.heap.size w w' := by
  have hpl := hp.pxLen
  have HRB := Lib.hid (show rightB (W : Int) (H : Int) n = true by
    have h1 : sideB (W : Int) = true := by simp [sideB]; omega
    have h2 : sideB (H : Int) = true := by simp [sideB]; omega
    simp only [rightB, h1, h2, Bool.true_and]
    rw [hpl, hn, Int.natCast_mul, Int.mul_comm]
    simp)
  have HP := Lib.hid hp
  have HN := Lib.hid hn
  have HPL := Lib.hid hpl
  obtain ⟨hW1, hW2⟩ := hW
  obtain ⟨hH1, hH2⟩ := hH
  have HE := Lib.hid hE
  have HNB := Lib.hid hnb
  clear hE hnb
  have gd : decide (0 ≤ Wr) = false := by simp; omega
  clear hp hn hpl
  unfold pxV
  go_enter Tryd.func41, Tryd.ntmps41
  go_wp2_with fail
  obtain ⟨W0, hW0⟩ : ∃ W0, W0 = (((w.alloc (.cells #[.int .i64 W, .int .i64 H, .slice A n c] 24)).alloc (.cells #[.int .i64 X, .int .i64 Y, .int .i64 Wr, .int .i64 Hr] 49)).alloc (.cells #[.int .u8 p.r.toNat, .int .u8 p.g.toNat, .int .u8 p.b.toNat, .int .u8 p.a.toNat] 41)).alloc (.cells #[.int .i64 0, .int .i64 0, .slice none 0 0] 24) := ⟨_, rfl⟩
  have B1 : Blk W0 w.heap.size 24 #[.int .i64 W, .int .i64 H, .slice A n c] := by rw [hW0]; exact (((Blk.new _ _ _ rfl).alloc _).alloc _).alloc _
  have B2 : Blk W0 (w.heap.size + 1) 49 #[.int .i64 X, .int .i64 Y, .int .i64 Wr, .int .i64 Hr] := by rw [hW0]; exact ((Blk.new _ _ _ (by simp)).alloc _).alloc _
  have B3 : Blk W0 (w.heap.size + 1 + 1) 41 #[.int .u8 p.r.toNat, .int .u8 p.g.toNat, .int .u8 p.b.toNat, .int .u8 p.a.toNat] := by rw [hW0]; exact (Blk.new _ _ _ (by simp)).alloc _
  have B4 : Blk W0 (w.heap.size + 1 + 1 + 1) 24 #[.int .i64 0, .int .i64 0, .slice none 0 0] := by rw [hW0]; exact Blk.new _ _ _ (by simp)
  have hb0 : Below w.heap.size w W0 := by rw [hW0]; go_grown
  rw [← hW0]
  clear hW0
  have s0 : W0.cell? ⟨w.heap.size, 0, none⟩ = some (.int .i64 W) := (B1.cell 0).trans rfl
  have s1 : W0.cell? ⟨w.heap.size, 1, none⟩ = some (.int .i64 H) := (B1.cell 1).trans rfl
  have s2 : W0.cell? ⟨w.heap.size, 2, none⟩ = some (.slice A n c) := (B1.cell 2).trans rfl
  have t0 : W0.cell? ⟨w.heap.size + 1, 0, none⟩ = some (.int .i64 X) := (B2.cell 0).trans rfl
  have t1 : W0.cell? ⟨w.heap.size + 1, 1, none⟩ = some (.int .i64 Y) := (B2.cell 1).trans rfl
  have t2 : W0.cell? ⟨w.heap.size + 1, 2, none⟩ = some (.int .i64 Wr) := (B2.cell 2).trans rfl
  have t3 : W0.cell? ⟨w.heap.size + 1, 3, none⟩ = some (.int .i64 Hr) := (B2.cell 3).trans rfl
  have HE0 := Lib.hid (HE.out.below hb0)
  refine wp_region_held_drew (S := (fun w' => w'.cell? ⟨w.heap.size, 0, none⟩ = some (.int .i64 W) ∧ w'.cell? ⟨w.heap.size, 1, none⟩ = some (.int .i64 H) ∧ w'.cell? ⟨w.heap.size, 2, none⟩ = some (.slice A n c) ∧ w'.cell? ⟨w.heap.size + 1, 0, none⟩ = some (.int .i64 X) ∧ w'.cell? ⟨w.heap.size + 1, 1, none⟩ = some (.int .i64 Y) ∧ w'.cell? ⟨w.heap.size + 1, 2, none⟩ = some (.int .i64 Wr) ∧ w'.cell? ⟨w.heap.size + 1, 3, none⟩ = some (.int .i64 Hr))) (by kernel_rfl) ?_ (fun hHeld => ?_)
  · exact ⟨s0, s1, s2, t0, t1, t2, t3⟩
  refine wpAnyH_take (i := 0) (v := ?_) rfl (by kernel_rfl) (by kernel_rfl) (by kernel_rfl) (fun _ _ _ h => h) (Or.inl ⟨by rfl, ?_⟩) (by assumption) ?_
  rotate_left
  · intro w hSw; (try dsimp only at hSw); go_simp <;> with_reducible rfl
  (try simp only [Act.put, List.getElem_toArray, List.getElem_cons_zero, List.setIfInBounds_toArray, List.set_cons_zero, List.set_cons_succ])
  refine wpAnyH_take (i := 1) (v := ?_) rfl (by kernel_rfl) (by kernel_rfl) (by kernel_rfl) (fun _ _ _ h => h) (Or.inl ⟨by rfl, ?_⟩) (by assumption) ?_
  rotate_left
  · intro w hSw; (try dsimp only at hSw); go_simp <;> with_reducible rfl
  (try simp only [Act.put, List.getElem_toArray, List.getElem_cons_zero, List.getElem_cons_succ, List.setIfInBounds_toArray, List.set_cons_zero, List.set_cons_succ])
  refine wpAnyH_take (i := 2) (v := ?_) rfl (by kernel_rfl) (by kernel_rfl) (by kernel_rfl) (fun _ _ _ h => h) (Or.inl ⟨by rfl, ?_⟩) (by assumption) ?_
  rotate_left
  · intro w hSw; (try dsimp only at hSw); go_simp <;> with_reducible rfl
  (try simp only [Act.put, List.getElem_toArray, List.getElem_cons_zero, List.getElem_cons_succ, List.setIfInBounds_toArray, List.set_cons_zero, List.set_cons_succ])
  refine wpAnyH_take (i := 3) (v := ?_) rfl (by kernel_rfl) (by kernel_rfl) (by kernel_rfl) (fun _ _ _ h => h) (Or.inl ⟨by rfl, ?_⟩) (by assumption) ?_
  rotate_left
  · intro w hSw; (try dsimp only at hSw); go_simp <;> with_reducible rfl
  (try simp only [Act.put, List.getElem_toArray, List.getElem_cons_zero, List.getElem_cons_succ, List.setIfInBounds_toArray, List.set_cons_zero, List.set_cons_succ])
  refine wpAnyH_take (i := 4) (v := ?_) rfl (by kernel_rfl) (by kernel_rfl) (by kernel_rfl) (fun _ _ _ h => h) (Or.inl ⟨by rfl, ?_⟩) (by assumption) ?_
  rotate_left
  · intro w hSw; (try dsimp only at hSw); go_simp <;> with_reducible rfl
  (try simp only [Act.put, List.getElem_toArray, List.getElem_cons_zero, List.getElem_cons_succ, List.setIfInBounds_toArray, List.set_cons_zero, List.set_cons_succ])
  refine wpAnyH_take (i := 5) (v := ?_) rfl (by kernel_rfl) (by kernel_rfl) (by kernel_rfl) (fun _ _ _ h => h) (Or.inl ⟨by rfl, ?_⟩) (by assumption) ?_
  rotate_left
  · intro w hSw; (try dsimp only at hSw); go_simp <;> with_reducible rfl
  (try simp only [Act.put, List.getElem_toArray, List.getElem_cons_zero, List.getElem_cons_succ, List.setIfInBounds_toArray, List.set_cons_zero, List.set_cons_succ])
  refine wpAnyH_take (i := 6) (v := ?_) rfl (by kernel_rfl) (by kernel_rfl) (by kernel_rfl) (fun _ _ _ h => h) (Or.inl ⟨by rfl, ?_⟩) (by assumption) ?_
  rotate_left
  · intro w hSw; (try dsimp only at hSw); go_simp <;> with_reducible rfl
  (try simp only [Act.put, List.getElem_toArray, List.getElem_cons_zero, List.getElem_cons_succ, List.setIfInBounds_toArray, List.set_cons_zero, List.set_cons_succ])
  refine wpAnyH_take (i := 7) (v := ?_) rfl (by kernel_rfl) (by kernel_rfl) (by kernel_rfl) (fun _ _ _ h => h) (Or.inl ⟨by rfl, ?_⟩) (by assumption) ?_
  rotate_left
  · intro w hSw; (try dsimp only at hSw); go_simp <;> with_reducible rfl
  (try simp only [Act.put, List.getElem_toArray, List.getElem_cons_zero, List.getElem_cons_succ, List.setIfInBounds_toArray, List.set_cons_zero, List.set_cons_succ])
  refine wpAnyH_take (i := 8) (v := ?_) rfl (by kernel_rfl) (by kernel_rfl) (by kernel_rfl) (fun _ _ _ h => h) (Or.inl ⟨by rfl, ?_⟩) (by assumption) ?_
  rotate_left
  · intro w hSw; (try dsimp only at hSw); go_simp <;> with_reducible rfl
  (try simp only [Act.put, List.getElem_toArray, List.getElem_cons_zero, List.getElem_cons_succ, List.setIfInBounds_toArray, List.set_cons_zero, List.set_cons_succ])
  refine wpAnyH_ready (rs := [9]) (by kernel_rfl) (by simp) ?_
  refine AllReadyH.cons rfl (fun K hK => ?_) AllReadyH.nil
  go_simp
  refine hK.out _ _ ?_ (fun hHeld => ?_)
  · exact ⟨cell_past _ s0, cell_past _ s1, cell_past _ s2, cell_past _ t0, cell_past _ t1, cell_past _ t2, cell_past _ t3⟩
  clear hK K
  (try simp only [Act.put, List.getElem_toArray, List.getElem_cons_zero, List.getElem_cons_succ, List.setIfInBounds_toArray, List.set_cons_zero, List.set_cons_succ])
  refine wpAnyH_ready (rs := [10]) (by kernel_rfl) (by simp) ?_
  refine AllReadyH.cons rfl (fun K hK => ?_) AllReadyH.nil
  go_simp
  go_at_call 49; refine (rnear_any _ _ _ [X, Y, Wr, Hr] _ _ (ints_blk (zs := [X, Y, Wr, Hr]) (Blk.drew (Blk.new W0 _ _ rfl))) (show (4 : Nat) ≤ 1048576 from Nat.le_of_ble_eq_true rfl) HNB.out).mono ?_; rintro e wA ⟨rfl, hbA⟩; have hzA : W0.heap.size + 1 ≤ wA.heap.size := (by have := hbA.size; simp at this; exact this)
  refine hK.out _ _ ?_ (fun hHeld => ?_)
  · exact ⟨bkeep hbA (cell_past _ s0), bkeep hbA (cell_past _ s1), bkeep hbA (cell_past _ s2), bkeep hbA (cell_past _ t0), bkeep hbA (cell_past _ t1), bkeep hbA (cell_past _ t2), bkeep hbA (cell_past _ t3)⟩
  clear hK K
  (try simp only [Act.put, List.getElem_toArray, List.getElem_cons_zero, List.getElem_cons_succ, List.setIfInBounds_toArray, List.set_cons_zero, List.set_cons_succ])
  refine wpAnyH_take (i := 11) (v := ?_) rfl (by kernel_rfl) (by kernel_rfl) (by kernel_rfl) (fun _ _ _ h => h) (Or.inl ⟨by rfl, ?_⟩) (by assumption) ?_
  rotate_left
  · intro w hSw; (try dsimp only at hSw); go_simp <;> with_reducible rfl
  (try simp only [Act.put, List.getElem_toArray, List.getElem_cons_zero, List.getElem_cons_succ, List.setIfInBounds_toArray, List.set_cons_zero, List.set_cons_succ])
  refine wpAnyH_take (i := 12) (v := ?_) rfl (by kernel_rfl) (by kernel_rfl) (by kernel_rfl) (fun _ _ _ h => h) (Or.inl ⟨by rfl, ?_⟩) (by assumption) ?_
  rotate_left
  · intro w hSw; (try dsimp only at hSw); go_simp <;> with_reducible rfl
  (try simp only [Act.put, List.getElem_toArray, List.getElem_cons_zero, List.getElem_cons_succ, List.setIfInBounds_toArray, List.set_cons_zero, List.set_cons_succ])
  refine wpAnyH_take (i := 13) (v := ?_) rfl (by kernel_rfl) (by kernel_rfl) (by kernel_rfl) (fun _ _ _ h => h) (Or.inl ⟨by rfl, ?_⟩) (by assumption) ?_
  rotate_left
  · intro w hSw; (try dsimp only at hSw); go_simp <;> with_reducible rfl
  (try simp only [Act.put, List.getElem_toArray, List.getElem_cons_zero, List.getElem_cons_succ, List.setIfInBounds_toArray, List.set_cons_zero, List.set_cons_succ])
  refine wpAnyH_take (i := 14) (v := ?_) rfl (by kernel_rfl) (by kernel_rfl) (by kernel_rfl) (fun _ _ _ h => h) (Or.inl ⟨by rfl, ?_⟩) (by assumption) ?_
  rotate_left
  · intro w hSw; (try dsimp only at hSw); go_simp <;> with_reducible rfl
  (try simp only [Act.put, List.getElem_toArray, List.getElem_cons_zero, List.getElem_cons_succ, List.setIfInBounds_toArray, List.set_cons_zero, List.set_cons_succ])
  refine wpAnyH_take (i := 15) (v := ?_) rfl (by kernel_rfl) (by kernel_rfl) (by kernel_rfl) (fun _ _ _ h => h) (Or.inl ⟨by rfl, ?_⟩) (by assumption) ?_
  rotate_left
  · intro w hSw; (try dsimp only at hSw); go_simp <;> with_reducible rfl
  (try simp only [Act.put, List.getElem_toArray, List.getElem_cons_zero, List.getElem_cons_succ, List.setIfInBounds_toArray, List.set_cons_zero, List.set_cons_succ])
  refine wpAnyH_take (i := 16) (v := ?_) rfl (by kernel_rfl) (by kernel_rfl) (by kernel_rfl) (fun _ _ _ h => h) (Or.inl ⟨by rfl, ?_⟩) (by assumption) ?_
  rotate_left
  · intro w hSw; (try dsimp only at hSw); go_simp <;> with_reducible rfl
  (try simp only [Act.put, List.getElem_toArray, List.getElem_cons_zero, List.getElem_cons_succ, List.setIfInBounds_toArray, List.set_cons_zero, List.set_cons_succ])
  refine wpAnyH_take (i := 17) (v := undef) rfl (by kernel_rfl) (by kernel_rfl) (by kernel_rfl) (fun _ _ _ h => h) (Or.inr ⟨by rfl, rfl⟩) (by assumption) ?_
  (try simp only [Act.put, List.getElem_toArray, List.getElem_cons_zero, List.getElem_cons_succ, List.setIfInBounds_toArray, List.set_cons_zero, List.set_cons_succ])
  refine wpAnyH_take (i := 18) (v := undef) rfl (by kernel_rfl) (by kernel_rfl) (by kernel_rfl) (fun _ _ _ h => h) (Or.inr ⟨by rfl, rfl⟩) (by assumption) ?_
  (try simp only [Act.put, List.getElem_toArray, List.getElem_cons_zero, List.getElem_cons_succ, List.setIfInBounds_toArray, List.set_cons_zero, List.set_cons_succ])
  refine wpAnyH_take (i := 19) (v := undef) rfl (by kernel_rfl) (by kernel_rfl) (by kernel_rfl) (fun _ _ _ h => h) (Or.inr ⟨by rfl, rfl⟩) (by assumption) ?_
  (try simp only [Act.put, List.getElem_toArray, List.getElem_cons_zero, List.getElem_cons_succ, List.setIfInBounds_toArray, List.set_cons_zero, List.set_cons_succ])
  refine wpAnyH_take (i := 20) (v := ?_) rfl (by kernel_rfl) (by kernel_rfl) (by kernel_rfl) (fun _ _ _ h => h) (Or.inl ⟨by rfl, ?_⟩) (by assumption) ?_
  rotate_left
  · intro w hSw; (try dsimp only at hSw); go_simp <;> with_reducible rfl
  (try simp only [Act.put, List.getElem_toArray, List.getElem_cons_zero, List.getElem_cons_succ, List.setIfInBounds_toArray, List.set_cons_zero, List.set_cons_succ])
  refine wpAnyH_ready (rs := [21]) (by kernel_rfl) (by simp) ?_
  refine AllReadyH.cons rfl (fun K hK => ?_) AllReadyH.nil
  go_simp
  go_at_call 57; refine (rcheck_bound W H A n c E _ (HE0.out.below (Below.trans (((Below.refl W0.heap.size W0).alloc (Nat.le_refl _) _).drew) (hbA.mono (by simp)))) HRB.out).mono ?_; rintro e wB ⟨rfl, hbB⟩
  refine hK.out _ _ ?_ (fun hHeld => ?_)
  · exact ⟨bkeep hbB (bkeep hbA (cell_past _ s0)), bkeep hbB (bkeep hbA (cell_past _ s1)), bkeep hbB (bkeep hbA (cell_past _ s2)), bkeep hbB (bkeep hbA (cell_past _ t0)), bkeep hbB (bkeep hbA (cell_past _ t1)), bkeep hbB (bkeep hbA (cell_past _ t2)), bkeep hbB (bkeep hbA (cell_past _ t3))⟩
  clear hK K
  (try simp only [Act.put, List.getElem_toArray, List.getElem_cons_zero, List.getElem_cons_succ, List.setIfInBounds_toArray, List.set_cons_zero, List.set_cons_succ])
  refine wpAnyH_take (i := 22) (v := ?_) rfl (by kernel_rfl) (by kernel_rfl) (by kernel_rfl) (fun _ _ _ h => h) (Or.inl ⟨by rfl, ?_⟩) (by assumption) ?_
  rotate_left
  · intro w hSw; (try dsimp only at hSw); go_simp <;> with_reducible rfl
  (try simp only [Act.put, List.getElem_toArray, List.getElem_cons_zero, List.getElem_cons_succ, List.setIfInBounds_toArray, List.set_cons_zero, List.set_cons_succ])
  refine wpAnyH_done (by kernel_rfl) ?_ _
  have hbI : Below W0.heap.size W0 wB := ((((Below.refl W0.heap.size W0).alloc (Nat.le_refl _) _).drew).trans (hbA.mono (by simp))).trans (hbB.mono (by omega))
  have C1 := B1.below hbI B1.lt
  have C2 := B2.below hbI B2.lt
  have C3 := B3.below hbI B3.lt
  have C4 := B4.below hbI B4.lt
  have hbw2 := hb0.trans (hbI.mono hb0.size)
  have e1 := C1.cell
  have e4 := C4.cell
  have g4 := C4.free
  clear s0 s1 s2 t0 t1 t2 t3 hbA hbB hbI hb0 B1 B2 B3 B4 hzA
  unfold errV
  clear e1 C1 C2 C3
  have l4 := C4.lt
  go_wp2_with fail
  refine bodyPost_ret (v := .tuple #[.agg #[.int .i64 0, .int .i64 0, .slice none 0 0], errV (E 1)]) (by simp [results, Tryd.results41, go_sem, e4, errV]) rfl ⟨rfl, ?_⟩
  have hz : w.heap.size ≤ w.heap.size + 1 + 1 + 1 := by omega
  exact (((hbw2.setCell hz _).setCell hz _).setCell hz _)

set_option maxRecDepth 100000 in
set_option maxHeartbeats 4000000 in
theorem rfill_badc (W H : Nat) (A : Option Addr) (n c : Nat) (ps : List Px) (X Y Wr Hr : Int) (p : Px) (E : Nat → Addr) (w : World) (hp : Reads w w.heap.size 4 A n (pxCells ps)) (hW : 1 ≤ W ∧ W ≤ 256) (hH : 1 ≤ H ∧ H ≤ 256) (hn : ps.length = H * W) (hE : ErrsAt w E) (hnb : [X, Y, Wr, Hr].all nearB = true) (g1 : 0 ≤ Wr) (g2 : Hr < 0) :
    Calls Tryd.prog 41 #[.agg #[.int .i64 W, .int .i64 H, .slice A n c], .agg #[.int .i64 X, .int .i64 Y, .int .i64 Wr, .int .i64 Hr], pxV p] w
      fun e w' => e = .returned (.tuple #[.agg #[.int .i64 0, .int .i64 0, .slice none 0 0], errV (E 1)]) ∧ Below w.heap.size w w' := by
  have hpl := hp.pxLen
  have HRB := Lib.hid (show rightB (W : Int) (H : Int) n = true by
    have h1 : sideB (W : Int) = true := by simp [sideB]; omega
    have h2 : sideB (H : Int) = true := by simp [sideB]; omega
    simp only [rightB, h1, h2, Bool.true_and]
    rw [hpl, hn, Int.natCast_mul, Int.mul_comm]
    simp)
  have HP := Lib.hid hp
  have HN := Lib.hid hn
  have HPL := Lib.hid hpl
  obtain ⟨hW1, hW2⟩ := hW
  obtain ⟨hH1, hH2⟩ := hH
  have HE := Lib.hid hE
  have HNB := Lib.hid hnb
  clear hE hnb
  have gd : decide (0 ≤ Hr) = false := by simp; omega
  clear hp hn hpl
  unfold pxV
  go_enter Tryd.func41, Tryd.ntmps41
  go_wp2_with fail
  obtain ⟨W0, hW0⟩ : ∃ W0, W0 = (((w.alloc (.cells #[.int .i64 W, .int .i64 H, .slice A n c] 24)).alloc (.cells #[.int .i64 X, .int .i64 Y, .int .i64 Wr, .int .i64 Hr] 49)).alloc (.cells #[.int .u8 p.r.toNat, .int .u8 p.g.toNat, .int .u8 p.b.toNat, .int .u8 p.a.toNat] 41)).alloc (.cells #[.int .i64 0, .int .i64 0, .slice none 0 0] 24) := ⟨_, rfl⟩
  have B1 : Blk W0 w.heap.size 24 #[.int .i64 W, .int .i64 H, .slice A n c] := by rw [hW0]; exact (((Blk.new _ _ _ rfl).alloc _).alloc _).alloc _
  have B2 : Blk W0 (w.heap.size + 1) 49 #[.int .i64 X, .int .i64 Y, .int .i64 Wr, .int .i64 Hr] := by rw [hW0]; exact ((Blk.new _ _ _ (by simp)).alloc _).alloc _
  have B3 : Blk W0 (w.heap.size + 1 + 1) 41 #[.int .u8 p.r.toNat, .int .u8 p.g.toNat, .int .u8 p.b.toNat, .int .u8 p.a.toNat] := by rw [hW0]; exact (Blk.new _ _ _ (by simp)).alloc _
  have B4 : Blk W0 (w.heap.size + 1 + 1 + 1) 24 #[.int .i64 0, .int .i64 0, .slice none 0 0] := by rw [hW0]; exact Blk.new _ _ _ (by simp)
  have hb0 : Below w.heap.size w W0 := by rw [hW0]; go_grown
  rw [← hW0]
  clear hW0
  have s0 : W0.cell? ⟨w.heap.size, 0, none⟩ = some (.int .i64 W) := (B1.cell 0).trans rfl
  have s1 : W0.cell? ⟨w.heap.size, 1, none⟩ = some (.int .i64 H) := (B1.cell 1).trans rfl
  have s2 : W0.cell? ⟨w.heap.size, 2, none⟩ = some (.slice A n c) := (B1.cell 2).trans rfl
  have t0 : W0.cell? ⟨w.heap.size + 1, 0, none⟩ = some (.int .i64 X) := (B2.cell 0).trans rfl
  have t1 : W0.cell? ⟨w.heap.size + 1, 1, none⟩ = some (.int .i64 Y) := (B2.cell 1).trans rfl
  have t2 : W0.cell? ⟨w.heap.size + 1, 2, none⟩ = some (.int .i64 Wr) := (B2.cell 2).trans rfl
  have t3 : W0.cell? ⟨w.heap.size + 1, 3, none⟩ = some (.int .i64 Hr) := (B2.cell 3).trans rfl
  have HE0 := Lib.hid (HE.out.below hb0)
  refine wp_region_held_drew (S := (fun w' => w'.cell? ⟨w.heap.size, 0, none⟩ = some (.int .i64 W) ∧ w'.cell? ⟨w.heap.size, 1, none⟩ = some (.int .i64 H) ∧ w'.cell? ⟨w.heap.size, 2, none⟩ = some (.slice A n c) ∧ w'.cell? ⟨w.heap.size + 1, 0, none⟩ = some (.int .i64 X) ∧ w'.cell? ⟨w.heap.size + 1, 1, none⟩ = some (.int .i64 Y) ∧ w'.cell? ⟨w.heap.size + 1, 2, none⟩ = some (.int .i64 Wr) ∧ w'.cell? ⟨w.heap.size + 1, 3, none⟩ = some (.int .i64 Hr))) (by kernel_rfl) ?_ (fun hHeld => ?_)
  · exact ⟨s0, s1, s2, t0, t1, t2, t3⟩
  refine wpAnyH_take (i := 0) (v := ?_) rfl (by kernel_rfl) (by kernel_rfl) (by kernel_rfl) (fun _ _ _ h => h) (Or.inl ⟨by rfl, ?_⟩) (by assumption) ?_
  rotate_left
  · intro w hSw; (try dsimp only at hSw); go_simp <;> with_reducible rfl
  (try simp only [Act.put, List.getElem_toArray, List.getElem_cons_zero, List.setIfInBounds_toArray, List.set_cons_zero, List.set_cons_succ])
  refine wpAnyH_take (i := 1) (v := ?_) rfl (by kernel_rfl) (by kernel_rfl) (by kernel_rfl) (fun _ _ _ h => h) (Or.inl ⟨by rfl, ?_⟩) (by assumption) ?_
  rotate_left
  · intro w hSw; (try dsimp only at hSw); go_simp <;> with_reducible rfl
  (try simp only [Act.put, List.getElem_toArray, List.getElem_cons_zero, List.getElem_cons_succ, List.setIfInBounds_toArray, List.set_cons_zero, List.set_cons_succ])
  refine wpAnyH_take (i := 2) (v := ?_) rfl (by kernel_rfl) (by kernel_rfl) (by kernel_rfl) (fun _ _ _ h => h) (Or.inl ⟨by rfl, ?_⟩) (by assumption) ?_
  rotate_left
  · intro w hSw; (try dsimp only at hSw); go_simp <;> with_reducible rfl
  (try simp only [Act.put, List.getElem_toArray, List.getElem_cons_zero, List.getElem_cons_succ, List.setIfInBounds_toArray, List.set_cons_zero, List.set_cons_succ])
  refine wpAnyH_take (i := 3) (v := ?_) rfl (by kernel_rfl) (by kernel_rfl) (by kernel_rfl) (fun _ _ _ h => h) (Or.inl ⟨by rfl, ?_⟩) (by assumption) ?_
  rotate_left
  · intro w hSw; (try dsimp only at hSw); go_simp <;> with_reducible rfl
  (try simp only [Act.put, List.getElem_toArray, List.getElem_cons_zero, List.getElem_cons_succ, List.setIfInBounds_toArray, List.set_cons_zero, List.set_cons_succ])
  refine wpAnyH_take (i := 4) (v := ?_) rfl (by kernel_rfl) (by kernel_rfl) (by kernel_rfl) (fun _ _ _ h => h) (Or.inl ⟨by rfl, ?_⟩) (by assumption) ?_
  rotate_left
  · intro w hSw; (try dsimp only at hSw); go_simp <;> with_reducible rfl
  (try simp only [Act.put, List.getElem_toArray, List.getElem_cons_zero, List.getElem_cons_succ, List.setIfInBounds_toArray, List.set_cons_zero, List.set_cons_succ])
  refine wpAnyH_take (i := 5) (v := ?_) rfl (by kernel_rfl) (by kernel_rfl) (by kernel_rfl) (fun _ _ _ h => h) (Or.inl ⟨by rfl, ?_⟩) (by assumption) ?_
  rotate_left
  · intro w hSw; (try dsimp only at hSw); go_simp <;> with_reducible rfl
  (try simp only [Act.put, List.getElem_toArray, List.getElem_cons_zero, List.getElem_cons_succ, List.setIfInBounds_toArray, List.set_cons_zero, List.set_cons_succ])
  refine wpAnyH_take (i := 6) (v := ?_) rfl (by kernel_rfl) (by kernel_rfl) (by kernel_rfl) (fun _ _ _ h => h) (Or.inl ⟨by rfl, ?_⟩) (by assumption) ?_
  rotate_left
  · intro w hSw; (try dsimp only at hSw); go_simp <;> with_reducible rfl
  (try simp only [Act.put, List.getElem_toArray, List.getElem_cons_zero, List.getElem_cons_succ, List.setIfInBounds_toArray, List.set_cons_zero, List.set_cons_succ])
  refine wpAnyH_take (i := 7) (v := ?_) rfl (by kernel_rfl) (by kernel_rfl) (by kernel_rfl) (fun _ _ _ h => h) (Or.inl ⟨by rfl, ?_⟩) (by assumption) ?_
  rotate_left
  · intro w hSw; (try dsimp only at hSw); go_simp <;> with_reducible rfl
  (try simp only [Act.put, List.getElem_toArray, List.getElem_cons_zero, List.getElem_cons_succ, List.setIfInBounds_toArray, List.set_cons_zero, List.set_cons_succ])
  refine wpAnyH_take (i := 8) (v := ?_) rfl (by kernel_rfl) (by kernel_rfl) (by kernel_rfl) (fun _ _ _ h => h) (Or.inl ⟨by rfl, ?_⟩) (by assumption) ?_
  rotate_left
  · intro w hSw; (try dsimp only at hSw); go_simp <;> with_reducible rfl
  (try simp only [Act.put, List.getElem_toArray, List.getElem_cons_zero, List.getElem_cons_succ, List.setIfInBounds_toArray, List.set_cons_zero, List.set_cons_succ])
  refine wpAnyH_ready (rs := [9]) (by kernel_rfl) (by simp) ?_
  refine AllReadyH.cons rfl (fun K hK => ?_) AllReadyH.nil
  go_simp
  refine hK.out _ _ ?_ (fun hHeld => ?_)
  · exact ⟨cell_past _ s0, cell_past _ s1, cell_past _ s2, cell_past _ t0, cell_past _ t1, cell_past _ t2, cell_past _ t3⟩
  clear hK K
  (try simp only [Act.put, List.getElem_toArray, List.getElem_cons_zero, List.getElem_cons_succ, List.setIfInBounds_toArray, List.set_cons_zero, List.set_cons_succ])
  refine wpAnyH_ready (rs := [10]) (by kernel_rfl) (by simp) ?_
  refine AllReadyH.cons rfl (fun K hK => ?_) AllReadyH.nil
  go_simp
  go_at_call 49; refine (rnear_any _ _ _ [X, Y, Wr, Hr] _ _ (ints_blk (zs := [X, Y, Wr, Hr]) (Blk.drew (Blk.new W0 _ _ rfl))) (show (4 : Nat) ≤ 1048576 from Nat.le_of_ble_eq_true rfl) HNB.out).mono ?_; rintro e wA ⟨rfl, hbA⟩; have hzA : W0.heap.size + 1 ≤ wA.heap.size := (by have := hbA.size; simp at this; exact this)
  refine hK.out _ _ ?_ (fun hHeld => ?_)
  · exact ⟨bkeep hbA (cell_past _ s0), bkeep hbA (cell_past _ s1), bkeep hbA (cell_past _ s2), bkeep hbA (cell_past _ t0), bkeep hbA (cell_past _ t1), bkeep hbA (cell_past _ t2), bkeep hbA (cell_past _ t3)⟩
  clear hK K
  (try simp only [Act.put, List.getElem_toArray, List.getElem_cons_zero, List.getElem_cons_succ, List.setIfInBounds_toArray, List.set_cons_zero, List.set_cons_succ])
  refine wpAnyH_take (i := 11) (v := ?_) rfl (by kernel_rfl) (by kernel_rfl) (by kernel_rfl) (fun _ _ _ h => h) (Or.inl ⟨by rfl, ?_⟩) (by assumption) ?_
  rotate_left
  · intro w hSw; (try dsimp only at hSw); go_simp <;> with_reducible rfl
  (try simp only [Act.put, List.getElem_toArray, List.getElem_cons_zero, List.getElem_cons_succ, List.setIfInBounds_toArray, List.set_cons_zero, List.set_cons_succ])
  refine wpAnyH_take (i := 12) (v := ?_) rfl (by kernel_rfl) (by kernel_rfl) (by kernel_rfl) (fun _ _ _ h => h) (Or.inl ⟨by rfl, ?_⟩) (by assumption) ?_
  rotate_left
  · intro w hSw; (try dsimp only at hSw); go_simp <;> with_reducible rfl
  (try simp only [Act.put, List.getElem_toArray, List.getElem_cons_zero, List.getElem_cons_succ, List.setIfInBounds_toArray, List.set_cons_zero, List.set_cons_succ])
  refine wpAnyH_take (i := 13) (v := ?_) rfl (by kernel_rfl) (by kernel_rfl) (by kernel_rfl) (fun _ _ _ h => h) (Or.inl ⟨by rfl, ?_⟩) (by assumption) ?_
  rotate_left
  · intro w hSw; (try dsimp only at hSw); go_simp <;> with_reducible rfl
  (try simp only [Act.put, List.getElem_toArray, List.getElem_cons_zero, List.getElem_cons_succ, List.setIfInBounds_toArray, List.set_cons_zero, List.set_cons_succ])
  refine wpAnyH_take (i := 14) (v := ?_) rfl (by kernel_rfl) (by kernel_rfl) (by kernel_rfl) (fun _ _ _ h => h) (Or.inl ⟨by rfl, ?_⟩) (by assumption) ?_
  rotate_left
  · intro w hSw; (try dsimp only at hSw); go_simp <;> with_reducible rfl
  (try simp only [Act.put, List.getElem_toArray, List.getElem_cons_zero, List.getElem_cons_succ, List.setIfInBounds_toArray, List.set_cons_zero, List.set_cons_succ])
  refine wpAnyH_take (i := 15) (v := ?_) rfl (by kernel_rfl) (by kernel_rfl) (by kernel_rfl) (fun _ _ _ h => h) (Or.inl ⟨by rfl, ?_⟩) (by assumption) ?_
  rotate_left
  · intro w hSw; (try dsimp only at hSw); go_simp <;> with_reducible rfl
  (try simp only [Act.put, List.getElem_toArray, List.getElem_cons_zero, List.getElem_cons_succ, List.setIfInBounds_toArray, List.set_cons_zero, List.set_cons_succ])
  refine wpAnyH_take (i := 16) (v := ?_) rfl (by kernel_rfl) (by kernel_rfl) (by kernel_rfl) (fun _ _ _ h => h) (Or.inl ⟨by rfl, ?_⟩) (by assumption) ?_
  rotate_left
  · intro w hSw; (try dsimp only at hSw); go_simp <;> with_reducible rfl
  (try simp only [Act.put, List.getElem_toArray, List.getElem_cons_zero, List.getElem_cons_succ, List.setIfInBounds_toArray, List.set_cons_zero, List.set_cons_succ])
  refine wpAnyH_take (i := 17) (v := ?_) rfl (by kernel_rfl) (by kernel_rfl) (by kernel_rfl) (fun _ _ _ h => h) (Or.inl ⟨by rfl, ?_⟩) (by assumption) ?_
  rotate_left
  · intro w hSw; (try dsimp only at hSw); go_simp <;> with_reducible rfl
  (try simp only [Act.put, List.getElem_toArray, List.getElem_cons_zero, List.getElem_cons_succ, List.setIfInBounds_toArray, List.set_cons_zero, List.set_cons_succ])
  refine wpAnyH_take (i := 18) (v := ?_) rfl (by kernel_rfl) (by kernel_rfl) (by kernel_rfl) (fun _ _ _ h => h) (Or.inl ⟨by rfl, ?_⟩) (by assumption) ?_
  rotate_left
  · intro w hSw; (try dsimp only at hSw); go_simp <;> with_reducible rfl
  (try simp only [Act.put, List.getElem_toArray, List.getElem_cons_zero, List.getElem_cons_succ, List.setIfInBounds_toArray, List.set_cons_zero, List.set_cons_succ])
  refine wpAnyH_take (i := 19) (v := ?_) rfl (by kernel_rfl) (by kernel_rfl) (by kernel_rfl) (fun _ _ _ h => h) (Or.inl ⟨by rfl, ?_⟩) (by assumption) ?_
  rotate_left
  · intro w hSw; (try dsimp only at hSw); go_simp <;> with_reducible rfl
  (try simp only [Act.put, List.getElem_toArray, List.getElem_cons_zero, List.getElem_cons_succ, List.setIfInBounds_toArray, List.set_cons_zero, List.set_cons_succ])
  refine wpAnyH_take (i := 20) (v := ?_) rfl (by kernel_rfl) (by kernel_rfl) (by kernel_rfl) (fun _ _ _ h => h) (Or.inl ⟨by rfl, ?_⟩) (by assumption) ?_
  rotate_left
  · intro w hSw; (try dsimp only at hSw); go_simp <;> with_reducible rfl
  (try simp only [Act.put, List.getElem_toArray, List.getElem_cons_zero, List.getElem_cons_succ, List.setIfInBounds_toArray, List.set_cons_zero, List.set_cons_succ])
  refine wpAnyH_ready (rs := [21]) (by kernel_rfl) (by simp) ?_
  refine AllReadyH.cons rfl (fun K hK => ?_) AllReadyH.nil
  go_simp
  go_at_call 57; refine (rcheck_bound W H A n c E _ (HE0.out.below (Below.trans (((Below.refl W0.heap.size W0).alloc (Nat.le_refl _) _).drew) (hbA.mono (by simp)))) HRB.out).mono ?_; rintro e wB ⟨rfl, hbB⟩
  refine hK.out _ _ ?_ (fun hHeld => ?_)
  · exact ⟨bkeep hbB (bkeep hbA (cell_past _ s0)), bkeep hbB (bkeep hbA (cell_past _ s1)), bkeep hbB (bkeep hbA (cell_past _ s2)), bkeep hbB (bkeep hbA (cell_past _ t0)), bkeep hbB (bkeep hbA (cell_past _ t1)), bkeep hbB (bkeep hbA (cell_past _ t2)), bkeep hbB (bkeep hbA (cell_past _ t3))⟩
  clear hK K
  (try simp only [Act.put, List.getElem_toArray, List.getElem_cons_zero, List.getElem_cons_succ, List.setIfInBounds_toArray, List.set_cons_zero, List.set_cons_succ])
  refine wpAnyH_take (i := 22) (v := ?_) rfl (by kernel_rfl) (by kernel_rfl) (by kernel_rfl) (fun _ _ _ h => h) (Or.inl ⟨by rfl, ?_⟩) (by assumption) ?_
  rotate_left
  · intro w hSw; (try dsimp only at hSw); go_simp <;> with_reducible rfl
  (try simp only [Act.put, List.getElem_toArray, List.getElem_cons_zero, List.getElem_cons_succ, List.setIfInBounds_toArray, List.set_cons_zero, List.set_cons_succ])
  refine wpAnyH_done (by kernel_rfl) ?_ _
  have hbI : Below W0.heap.size W0 wB := ((((Below.refl W0.heap.size W0).alloc (Nat.le_refl _) _).drew).trans (hbA.mono (by simp))).trans (hbB.mono (by omega))
  have C1 := B1.below hbI B1.lt
  have C2 := B2.below hbI B2.lt
  have C3 := B3.below hbI B3.lt
  have C4 := B4.below hbI B4.lt
  have hbw2 := hb0.trans (hbI.mono hb0.size)
  have e1 := C1.cell
  have e4 := C4.cell
  have g4 := C4.free
  clear s0 s1 s2 t0 t1 t2 t3 hbA hbB hbI hb0 B1 B2 B3 B4 hzA
  unfold errV
  clear e1 C1 C2 C3
  have l4 := C4.lt
  go_wp2_with fail
  refine bodyPost_ret (v := .tuple #[.agg #[.int .i64 0, .int .i64 0, .slice none 0 0], errV (E 1)]) (by simp [results, Tryd.results41, go_sem, e4, errV]) rfl ⟨rfl, ?_⟩
  have hz : w.heap.size ≤ w.heap.size + 1 + 1 + 1 := by omega
  exact (((hbw2.setCell hz _).setCell hz _).setCell hz _)

set_option maxRecDepth 100000 in
set_option maxHeartbeats 4000000 in
theorem rfill_bad (W H : Nat) (A : Option Addr) (n c : Nat) (ps : List Px) (X Y Wr Hr : Int) (p : Px) (E : Nat → Addr) (w : World) (hp : Reads w w.heap.size 4 A n (pxCells ps)) (hW : 1 ≤ W ∧ W ≤ 256) (hH : 1 ≤ H ∧ H ≤ 256) (hn : ps.length = H * W) (hE : ErrsAt w E) (hbad : [X, Y, Wr, Hr].all nearB = false ∨ Wr < 0 ∨ Hr < 0) :
    Calls Tryd.prog 41 #[.agg #[.int .i64 W, .int .i64 H, .slice A n c], .agg #[.int .i64 X, .int .i64 Y, .int .i64 Wr, .int .i64 Hr], pxV p] w
      fun e w' => e = .returned (.tuple #[.agg #[.int .i64 0, .int .i64 0, .slice none 0 0], errV (E 1)]) ∧ Below w.heap.size w w' := by
  cases h : [X, Y, Wr, Hr].all nearB with
  | false => exact rfill_bada W H A n c ps X Y Wr Hr p E w hp hW hH hn hE h
  | true =>
    rw [h] at hbad
    rcases (show Wr < 0 ∨ 0 ≤ Wr by omega) with g | g
    · exact rfill_badb W H A n c ps X Y Wr Hr p E w hp hW hH hn hE h g
    · refine rfill_badc W H A n c ps X Y Wr Hr p E w hp hW hH hn hE h g ?_
      rcases hbad with h | h | h
      · cases h
      · omega
      · exact h
end Go.Proofs.YtcdbhcjiimdhhaaDoor
