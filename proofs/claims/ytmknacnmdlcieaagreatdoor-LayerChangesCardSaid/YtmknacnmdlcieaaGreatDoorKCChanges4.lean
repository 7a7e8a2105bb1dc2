/- Still, TameIs: put together. -/
import Derived.Test.YtmknacnmdlcieaaGreatDoorFlatten
import Derived.Test.YtmknacnmdlcieaaGreatDoorBase
import Derived.Test.YtmknacnmdlcieaaGreatDoorRefBase
import Derived.Test.YtmknacnmdlcieaaGreatDoorDocArgW
import Derived.IntWalk
/- layercakelaw3.still: a closed fact. -/
namespace Go.Proofs.YtmknacnmdlcieaaGreatDoor
open Go Go.RowKit

theorem stillGood : Lay.Good 2 1 (lsOf []) := Lay.good_mk (by decide) (by decide) (by simp [lsOf]) (fun i j hi _ => by simp [lsOf] at hi) (fun l hl => by simp [lsOf] at hl)
theorem stillFlat : Lay.flat (lsOf []) (2 : Int).toNat (1 : Int).toNat = List.replicate 2 ⟨0, 0, 0, 0⟩ := by decide
set_option maxRecDepth 100000 in
set_option maxHeartbeats 2000000 in
theorem still_any (w : World) : Calls Tryz.prog 4 #[] w fun e w' => e = .returned (.bool true) ∧ Below w.heap.size w w' := by
  have hL : Lays w w.heap.size none 0 [] := ⟨⟨by simp [layCells], fun h => absurd h (by omega)⟩, fun m hm => by cases hm⟩
  go_enter Tryz.func4, Tryz.ntmps4
  go_wp2_with fail
  refine (flatten_good 2 1 none 0 0 [] _ hL stillGood).mono ?_
  rw [stillFlat]
  rintro e w1 ⟨A1, c1, rfl, hO1, hb1⟩
  rw [List.length_replicate] at hO1 ⊢
  go_wp2_with fail
  have b1 := Blk.new w1 27 #[.int .i64 2, .int .i64 1, .slice A1 2 c1] rfl
  obtain ⟨w2, hw2⟩ : ∃ w2, w2 = w1.alloc (.cells #[.int .i64 2, .int .i64 1, .slice A1 2 c1] 27) := ⟨_, rfl⟩
  have hR := hO1.reads.2.alloc (Nat.le_refl _) (.cells #[.int .i64 2, .int .i64 1, .slice A1 2 c1] 27)
  have hb2 : Below w.heap.size w w2 := by rw [hw2]; exact hb1.alloc hb1.size _
  have hz2 : w1.heap.size < w2.heap.size := by rw [hw2]; simp
  rw [← hw2] at b1 hR ⊢
  clear hw2 hO1
  have s0 : w2.cell? ⟨w1.heap.size, 0, none⟩ = some (.int .i64 2) := (b1.cell 0).trans rfl
  have s1 : w2.cell? ⟨w1.heap.size, 1, none⟩ = some (.int .i64 1) := (b1.cell 1).trans rfl
  have s2 : w2.cell? ⟨w1.heap.size, 2, none⟩ = some (.slice A1 2 c1) := (b1.cell 2).trans rfl
  go_region_law
    (first
      | (go_simp; go_at_call 23; refine (blank_any 2 1 2 ⟨0, 0, 0, 0⟩ w2.drew (by omega) (by omega) (by omega) (by omega)).mono ?_; rintro e wA ⟨AB, cB, rfl, hoB, hbA⟩; have a0 := bkeep hbA s0; have a1 := bkeep hbA s1; have a2 := bkeep hbA s2)
      | (go_simp; go_at_call 22; refine (samePicture_same 2 1 A1 2 c1 AB cB (List.replicate 2 ⟨0, 0, 0, 0⟩) wA ((hR.below ((Below.here w2).trans hbA) (show w1.heap.size ≤ w2.heap.size by omega)).more (by have : w2.heap.size ≤ wA.heap.size := hbA.size; omega)) hoB.reads.2 (by omega)).mono ?_; rintro e wB ⟨rfl, hbB⟩))
  all_goals
    go_wp2_with fail
    go_ret
    exact ⟨rfl, (hb2.trans (((Below.here w2).trans hbA).mono hb2.size)).trans (hbB.mono (by have : w2.heap.size ≤ wA.heap.size := hbA.size; have := hb2.size; omega))⟩
end Go.Proofs.YtmknacnmdlcieaaGreatDoor
/- layercakelaw3.tame: what it says. -/
namespace Go.Proofs.YtmknacnmdlcieaaGreatDoor
open Go Go.RowKit

/-- How many pixels the first layers have. -/
def sumN (ms : List LM) (k : Nat) : Int := ((ms.take k).map fun m => (m.n : Int)).sum
theorem sumN_zero (ms : List LM) : sumN ms 0 = 0 := rfl
theorem sumN_succ (ms : List LM) (k : Nat) (hk : k < ms.length) : sumN ms (k + 1) = sumN ms k + ms[k].n := by
  unfold sumN
  rw [List.take_succ_eq_append_getElem hk, List.map_append, List.sum_append]
  simp
theorem sumN_bound (ms : List LM) (hr : ∀ m ∈ ms, m.n ≤ reachBytes) : ∀ k, k ≤ ms.length → 0 ≤ sumN ms k ∧ sumN ms k ≤ k * (reachBytes : Int)
  | 0, _ => by rw [sumN_zero]; omega
  | k + 1, h => by
    have ih := sumN_bound ms hr k (by omega)
    have hm := hr ms[k] (List.getElem_mem (by omega))
    rw [sumN_succ ms k (by omega), Int.natCast_add, Int.add_mul]
    omega
theorem sumN_mono (ms : List LM) : ∀ k, k ≤ ms.length → ∀ j, (hj : j < k) → (hk : k ≤ ms.length) → (ms[j].n : Int) ≤ sumN ms k
  | 0, _, j, hj, _ => by omega
  | k + 1, h, j, hj, _ => by
    rw [sumN_succ ms k (by omega)]
    have h0 : 0 ≤ sumN ms k := by
      unfold sumN
      have : ∀ l : List LM, 0 ≤ (l.map fun m => (m.n : Int)).sum := fun l => by
        induction l with
        | nil => simp
        | cons a l ih => rw [List.map_cons, List.sum_cons]; omega
      exact this _
    rcases Nat.lt_or_ge j k with h1 | h1
    · have := sumN_mono ms k (by omega) j h1 (by omega)
      omega
    · have : j = k := by omega
      subst this
      omega
theorem tame_next {ms : List LM} (k : Nat) (hk : k < ms.length) (hr : ∀ m ∈ ms, m.n ≤ reachBytes) {x B0 : Int} (hB : 0 ≤ B0 ∧ B0 ≤ 65536) (hx : x = B0 + sumN ms k) (h12 : k + 1 ≤ 12) : IntKind.i64.wrap (x + (ms[k].n : Int)) = B0 + sumN ms (k + 1) := by
  have h := sumN_bound ms hr (k + 1) hk
  have hb : (((k + 1 : Nat) : Int)) * (reachBytes : Int) ≤ 12 * (reachBytes : Int) := Int.mul_le_mul_of_nonneg_right (by omega) (by omega)
  have e : (reachBytes : Int) = 140737488351232 := rfl
  rw [e] at hb h
  rw [hx, Int.add_assoc, ← sumN_succ ms k hk]
  exact IntWalk.i64_in _ (by omega)
theorem tame_end {ms : List LM} {x B0 : Int} (hB : 0 ≤ B0 ∧ B0 ≤ 65536) (hx : x = B0 + sumN ms ms.length) (h4 : x ≤ 4000) : ∀ m ∈ ms, m.n ≤ 4000 := by
  intro m hm
  obtain ⟨j, hj, rfl⟩ := List.getElem_of_mem hm
  have := sumN_mono ms ms.length (Nat.le_refl _) j hj (Nat.le_refl _)
  omega
/-- A call that answers yes or no; where yes, there are few layers and few pixels. -/
def TameSays (n : Nat) (ms : List LM) (e : Ending) : Prop := ∃ b, e = .returned (.bool b) ∧ (b = true → n ≤ 12 ∧ ∀ m ∈ ms, m.n ≤ 4000)
/-- What stands through tame's loop. -/
structure TmR (W H : Int) (A : Option Addr) (ms : List LM) (c : Nat) (w : World) (B0 : Int) (i z : Value) (wr : World) (k : Nat) (x : Int) : Prop where
  hk : k ≤ ms.length
  hi : i = .int .i64 k
  hz : z = .int .i64 x
  hx : k ≤ 12 → x = B0 + sumN ms k
  b1 : Blk wr w.heap.size 24 #[.int .i64 W, .int .i64 H, .slice A ms.length c]
  bel : Below w.heap.size w wr

set_option maxRecDepth 100000 in
set_option maxHeartbeats 2000000 in
theorem tame_is (W H : Int) (A : Option Addr) (n c : Nat) (ms : List LM) (w : World) (hL : Lays w w.heap.size A n ms) (hn : n ≤ 9223372036854775807) (hr : ∀ m ∈ ms, m.n ≤ reachBytes) :
    Calls Tryz.prog 5 #[.agg #[.int .i64 W, .int .i64 H, .slice A n c]] w fun e w' => TameSays n ms e ∧ Below w.heap.size w w' := by
  obtain rfl := hL.len
  have HR := Lib.hid hr
  clear hr
  obtain ⟨sW, hW⟩ : ∃ b, sideB W = b := ⟨_, rfl⟩
  obtain ⟨sH, hH⟩ : ∃ b, sideB H = b := ⟨_, rfl⟩
  have HW := Lib.hid hW
  have HH := Lib.hid hH
  clear hW hH
  go_enter Tryz.func5, Tryz.ntmps5
  go_wp2_with fail
  refine (pside_any W _).mono ?_
  rintro e w1 ⟨rfl, rfl⟩
  rw [HW.out]
  cases sW with
  | false =>
    have HB0 := Lib.hid (show (0 : Int) ≤ 0 ∧ (0 : Int) ≤ 65536 by omega)
    go_wp2_with fail
    go_loopw [3, 4] (fun z i wr => ∃ k x, TmR W H A ms c w (0 : Int) i z wr k x) (fun _ i _ => ms.length - (intOf i).toNat)
    case atStart => exact ⟨0, 0, Nat.zero_le _, rfl, rfl, fun _ => by rw [sumN_zero]; omega, Blk.new _ _ _ rfl, by go_grown⟩
    case round =>
      obtain ⟨k, x, hk, rfl, rfl, hx, h1, hb⟩ := hrel
      obtain ⟨wo, rfl⟩ : ∃ wo : World, wo = wr := ⟨_, rfl⟩
      have c1 := h1.cell
      have HX := Lib.hid hx
      clear hx
      by_cases hlt : k < ms.length
      · obtain ⟨b, off, rfl, hbl⟩ := hL.1.addr (by omega)
        have q8 := (hL.below hb (Nat.le_refl _)).at k hlt 8 (by omega)
        simp only [layCs, List.getElem?_cons_zero, List.getElem?_cons_succ] at q8
        have HNX := Lib.hid (fun hx => tame_next k hlt HR.out (x := x) (B0 := (0 : Int)) HB0.out hx)
        generalize ms[k].n = mn at *
        obtain ⟨x', hx'⟩ : ∃ x', IntKind.i64.wrap (x + (mn : Int)) = x' := ⟨_, rfl⟩
        have HX' := Lib.hid hx'
        go_wp2_with fail
        go_roundw
        case rel => exact ⟨k + 1, x', by omega, by go_num, rfl, fun hk12 => by rw [← HX'.out]; exact HNX.out (HX.out (by omega)) hk12, h1, hb⟩
        case measure => simp [intOf]; omega
      · have e : k = ms.length := by omega
        subst e
        have HE := Lib.hid (fun h => tame_end HB0.out (HX.out h))
        by_cases h4 : x ≤ 4000
        · by_cases h12 : ms.length ≤ 12
          · go_wp2_with fail
            all_goals go_ret
            all_goals exact ⟨⟨_, rfl, fun _ => ⟨h12, HE.out h12 h4⟩⟩, hb⟩
          · go_wp2_with fail
            all_goals go_ret
            all_goals exact ⟨⟨_, rfl, fun h => by first | (cases h; done) | (simp at h; omega)⟩, hb⟩
        · go_wp2_with fail
          all_goals go_ret
          all_goals exact ⟨⟨_, rfl, fun h => by first | (cases h; done) | (simp at h; omega)⟩, hb⟩
  | true =>
    go_wp2_with fail
    refine (pside_any H _).mono ?_
    rintro e w1 ⟨rfl, rfl⟩
    rw [HH.out]
    cases sH with
    | false =>
      have HB0 := Lib.hid (show (0 : Int) ≤ 0 ∧ (0 : Int) ≤ 65536 by omega)
      go_wp2_with fail
      go_loopw [3, 4] (fun z i wr => ∃ k x, TmR W H A ms c w (0 : Int) i z wr k x) (fun _ i _ => ms.length - (intOf i).toNat)
      case atStart => exact ⟨0, 0, Nat.zero_le _, rfl, rfl, fun _ => by rw [sumN_zero]; omega, Blk.new _ _ _ rfl, by go_grown⟩
      case round =>
        obtain ⟨k, x, hk, rfl, rfl, hx, h1, hb⟩ := hrel
        obtain ⟨wo, rfl⟩ : ∃ wo : World, wo = wr := ⟨_, rfl⟩
        have c1 := h1.cell
        have HX := Lib.hid hx
        clear hx
        by_cases hlt : k < ms.length
        · obtain ⟨b, off, rfl, hbl⟩ := hL.1.addr (by omega)
          have q8 := (hL.below hb (Nat.le_refl _)).at k hlt 8 (by omega)
          simp only [layCs, List.getElem?_cons_zero, List.getElem?_cons_succ] at q8
          have HNX := Lib.hid (fun hx => tame_next k hlt HR.out (x := x) (B0 := (0 : Int)) HB0.out hx)
          generalize ms[k].n = mn at *
          obtain ⟨x', hx'⟩ : ∃ x', IntKind.i64.wrap (x + (mn : Int)) = x' := ⟨_, rfl⟩
          have HX' := Lib.hid hx'
          go_wp2_with fail
          go_roundw
          case rel => exact ⟨k + 1, x', by omega, by go_num, rfl, fun hk12 => by rw [← HX'.out]; exact HNX.out (HX.out (by omega)) hk12, h1, hb⟩
          case measure => simp [intOf]; omega
        · have e : k = ms.length := by omega
          subst e
          have HE := Lib.hid (fun h => tame_end HB0.out (HX.out h))
          by_cases h4 : x ≤ 4000
          · by_cases h12 : ms.length ≤ 12
            · go_wp2_with fail
              all_goals go_ret
              all_goals exact ⟨⟨_, rfl, fun _ => ⟨h12, HE.out h12 h4⟩⟩, hb⟩
            · go_wp2_with fail
              all_goals go_ret
              all_goals exact ⟨⟨_, rfl, fun h => by first | (cases h; done) | (simp at h; omega)⟩, hb⟩
          · go_wp2_with fail
            all_goals go_ret
            all_goals exact ⟨⟨_, rfl, fun h => by first | (cases h; done) | (simp at h; omega)⟩, hb⟩
    | true =>
      obtain ⟨m1, m2⟩ := mul_side HW.out HH.out
      obtain ⟨B0, hB0⟩ : ∃ B0, W * H = B0 := ⟨_, rfl⟩
      have hw0 : IntKind.i64.wrap (W * H) = B0 := by rw [hB0]; exact IntWalk.i64_in _ (by omega)
      have HB0 := Lib.hid (show 0 ≤ B0 ∧ B0 ≤ 65536 by omega)
      go_wp2_with fail
      go_loopw [3, 4] (fun z i wr => ∃ k x, TmR W H A ms c w B0 i z wr k x) (fun _ i _ => ms.length - (intOf i).toNat)
      case atStart => exact ⟨0, B0, Nat.zero_le _, rfl, rfl, fun _ => by rw [sumN_zero]; omega, Blk.new _ _ _ rfl, by go_grown⟩
      case round =>
        obtain ⟨k, x, hk, rfl, rfl, hx, h1, hb⟩ := hrel
        obtain ⟨wo, rfl⟩ : ∃ wo : World, wo = wr := ⟨_, rfl⟩
        have c1 := h1.cell
        have HX := Lib.hid hx
        clear hx
        by_cases hlt : k < ms.length
        · obtain ⟨b, off, rfl, hbl⟩ := hL.1.addr (by omega)
          have q8 := (hL.below hb (Nat.le_refl _)).at k hlt 8 (by omega)
          simp only [layCs, List.getElem?_cons_zero, List.getElem?_cons_succ] at q8
          have HNX := Lib.hid (fun hx => tame_next k hlt HR.out (x := x) (B0 := B0) HB0.out hx)
          generalize ms[k].n = mn at *
          obtain ⟨x', hx'⟩ : ∃ x', IntKind.i64.wrap (x + (mn : Int)) = x' := ⟨_, rfl⟩
          have HX' := Lib.hid hx'
          go_wp2_with fail
          go_roundw
          case rel => exact ⟨k + 1, x', by omega, by go_num, rfl, fun hk12 => by rw [← HX'.out]; exact HNX.out (HX.out (by omega)) hk12, h1, hb⟩
          case measure => simp [intOf]; omega
        · have e : k = ms.length := by omega
          subst e
          have HE := Lib.hid (fun h => tame_end HB0.out (HX.out h))
          by_cases h4 : x ≤ 4000
          · by_cases h12 : ms.length ≤ 12
            · go_wp2_with fail
              all_goals go_ret
              all_goals exact ⟨⟨_, rfl, fun _ => ⟨h12, HE.out h12 h4⟩⟩, hb⟩
            · go_wp2_with fail
              all_goals go_ret
              all_goals exact ⟨⟨_, rfl, fun h => by first | (cases h; done) | (simp at h; omega)⟩, hb⟩
          · go_wp2_with fail
            all_goals go_ret
            all_goals exact ⟨⟨_, rfl, fun h => by first | (cases h; done) | (simp at h; omega)⟩, hb⟩
end Go.Proofs.YtmknacnmdlcieaaGreatDoor
