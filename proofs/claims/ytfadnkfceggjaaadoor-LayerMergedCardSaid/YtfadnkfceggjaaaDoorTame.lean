/- layercakelaw3.tame, still: the walks. -/
import Derived.Test.YtfadnkfceggjaaaDoorRemove
import Derived.Test.YtfadnkfceggjaaaDoorSamePic
import Derived.Test.YtfadnkfceggjaaaDoorBlank
namespace Go.Proofs.YtfadnkfceggjaaaDoor
open Go Go.RowKit

/-- A call that answers yes or no. -/
def SomeBool (e : Ending) : Prop := ∃ b : Bool, e = .returned (.bool b)
/-- What stands through tame's loop. -/
structure TaR (W H : Int) (A : Option Addr) (n c : Nat) (w : World) (i z : Value) (wr : World) (k : Nat) : Prop where
  hk : k ≤ n
  hi : i = .int .i64 k
  hz : ∃ x : Int, z = .int .i64 x
  b1 : Blk wr w.heap.size 24 #[.int .i64 W, .int .i64 H, .slice A n c]
  bel : Below w.heap.size w wr
set_option maxRecDepth 100000 in
set_option maxHeartbeats 2000000 in
theorem tame_some (W H : Int) (A : Option Addr) (n c : Nat) (ms : List LM) (w : World) (hL : Lays w w.heap.size A n ms) (hn : n ≤ 9223372036854775807) :
    Calls Tryd.prog 8 #[.agg #[.int .i64 W, .int .i64 H, .slice A n c]] w fun e w' => SomeBool e ∧ Below w.heap.size w w' := by
  obtain rfl := hL.len
  obtain ⟨sW, hW⟩ : ∃ b, sideB W = b := ⟨_, rfl⟩
  obtain ⟨sH, hH⟩ : ∃ b, sideB H = b := ⟨_, rfl⟩
  have HW := Lib.hid hW
  have HH := Lib.hid hH
  clear hW hH
  have key : ∀ (z : Int) (a : Act), True := fun _ _ => trivial
  go_enter Tryd.func8, Tryd.ntmps8
  go_wp2_with fail
  refine (pside_any W _).mono ?_
  rintro e w1 ⟨rfl, rfl⟩
  rw [HW.out]
  clear key
  cases sW with
  | false =>
    go_wp2_with fail
    go_loopw [3, 4] (fun z i wr => ∃ k, TaR W H A ms.length c w i z wr k) (fun _ i _ => ms.length - (intOf i).toNat)
    case atStart => exact ⟨0, Nat.zero_le _, rfl, ⟨_, rfl⟩, Blk.new _ _ _ rfl, by go_grown⟩
    case round =>
      obtain ⟨k, hk, rfl, ⟨x, rfl⟩, h1, hb⟩ := hrel
      obtain ⟨wo, rfl⟩ : ∃ wo : World, wo = wr := ⟨_, rfl⟩
      have c1 := h1.cell
      by_cases hlt : k < ms.length
      · obtain ⟨b, off, rfl, hbl⟩ := hL.1.addr (by omega)
        have q8 := (hL.below hb (Nat.le_refl _)).at k hlt 8 (by omega)
        simp only [layCs, List.getElem?_cons_zero, List.getElem?_cons_succ] at q8
        go_wp2_with fail
        go_roundw
        case rel => exact ⟨k + 1, by omega, by go_num, ⟨_, rfl⟩, h1, hb⟩
        case measure => simp [intOf]; omega
      · go_wp2_with fail
        all_goals go_ret
        all_goals exact ⟨⟨_, rfl⟩, hb⟩
  | true =>
    go_wp2_with fail
    refine (pside_any H _).mono ?_
    rintro e w1 ⟨rfl, rfl⟩
    rw [HH.out]
    cases sH with
    | false =>
      go_wp2_with fail
      go_loopw [3, 4] (fun z i wr => ∃ k, TaR W H A ms.length c w i z wr k) (fun _ i _ => ms.length - (intOf i).toNat)
      case atStart => exact ⟨0, Nat.zero_le _, rfl, ⟨_, rfl⟩, Blk.new _ _ _ rfl, by go_grown⟩
      case round =>
        obtain ⟨k, hk, rfl, ⟨x, rfl⟩, h1, hb⟩ := hrel
        obtain ⟨wo, rfl⟩ : ∃ wo : World, wo = wr := ⟨_, rfl⟩
        have c1 := h1.cell
        by_cases hlt : k < ms.length
        · obtain ⟨b, off, rfl, hbl⟩ := hL.1.addr (by omega)
          have q8 := (hL.below hb (Nat.le_refl _)).at k hlt 8 (by omega)
          simp only [layCs, List.getElem?_cons_zero, List.getElem?_cons_succ] at q8
          go_wp2_with fail
          go_roundw
          case rel => exact ⟨k + 1, by omega, by go_num, ⟨_, rfl⟩, h1, hb⟩
          case measure => simp [intOf]; omega
        · go_wp2_with fail
          all_goals go_ret
          all_goals exact ⟨⟨_, rfl⟩, hb⟩
    | true =>
      go_wp2_with fail
      go_loopw [3, 4] (fun z i wr => ∃ k, TaR W H A ms.length c w i z wr k) (fun _ i _ => ms.length - (intOf i).toNat)
      case atStart => exact ⟨0, Nat.zero_le _, rfl, ⟨_, rfl⟩, Blk.new _ _ _ rfl, by go_grown⟩
      case round =>
        obtain ⟨k, hk, rfl, ⟨x, rfl⟩, h1, hb⟩ := hrel
        obtain ⟨wo, rfl⟩ : ∃ wo : World, wo = wr := ⟨_, rfl⟩
        have c1 := h1.cell
        by_cases hlt : k < ms.length
        · obtain ⟨b, off, rfl, hbl⟩ := hL.1.addr (by omega)
          have q8 := (hL.below hb (Nat.le_refl _)).at k hlt 8 (by omega)
          simp only [layCs, List.getElem?_cons_zero, List.getElem?_cons_succ] at q8
          go_wp2_with fail
          go_roundw
          case rel => exact ⟨k + 1, by omega, by go_num, ⟨_, rfl⟩, h1, hb⟩
          case measure => simp [intOf]; omega
        · go_wp2_with fail
          all_goals go_ret
          all_goals exact ⟨⟨_, rfl⟩, hb⟩

theorem stillGood : Lay.Good 2 1 (lsOf []) := Lay.good_mk (by decide) (by decide) (by simp [lsOf]) (fun i j hi _ => by simp [lsOf] at hi) (fun l hl => by simp [lsOf] at hl)
theorem stillFlat : Lay.flat (lsOf []) (2 : Int).toNat (1 : Int).toNat = List.replicate 2 ⟨0, 0, 0, 0⟩ := by decide
set_option maxRecDepth 100000 in
set_option maxHeartbeats 2000000 in
theorem still_any (w : World) : Calls Tryd.prog 7 #[] w fun e w' => e = .returned (.bool true) ∧ Below w.heap.size w w' := by
  have hL : Lays w w.heap.size none 0 [] := ⟨⟨by simp [layCells], fun h => absurd h (by omega)⟩, fun m hm => by cases hm⟩
  go_enter Tryd.func7, Tryd.ntmps7
  go_wp2_with fail
  refine (flatten_good 2 1 none 0 0 [] _ hL stillGood).mono ?_
  rw [stillFlat]
  rintro e w1 ⟨A1, c1, rfl, hO1, hb1⟩
  rw [List.length_replicate] at hO1 ⊢
  go_wp2_with fail
  have b1 := Blk.new w1 37 #[.int .i64 2, .int .i64 1, .slice A1 2 c1] rfl
  obtain ⟨w2, hw2⟩ : ∃ w2, w2 = w1.alloc (.cells #[.int .i64 2, .int .i64 1, .slice A1 2 c1] 37) := ⟨_, rfl⟩
  have hR := hO1.reads.2.alloc (Nat.le_refl _) (.cells #[.int .i64 2, .int .i64 1, .slice A1 2 c1] 37)
  have hb2 : Below w.heap.size w w2 := by rw [hw2]; exact hb1.alloc hb1.size _
  have hz2 : w1.heap.size < w2.heap.size := by rw [hw2]; simp
  rw [← hw2] at b1 hR ⊢
  clear hw2 hO1
  have s0 : w2.cell? ⟨w1.heap.size, 0, none⟩ = some (.int .i64 2) := (b1.cell 0).trans rfl
  have s1 : w2.cell? ⟨w1.heap.size, 1, none⟩ = some (.int .i64 1) := (b1.cell 1).trans rfl
  have s2 : w2.cell? ⟨w1.heap.size, 2, none⟩ = some (.slice A1 2 c1) := (b1.cell 2).trans rfl
  go_region_law
    (first
      | (go_simp; go_at_call 31; refine (blank_any 2 1 2 ⟨0, 0, 0, 0⟩ w2.drew (by omega) (by omega) (by omega) (by omega)).mono ?_; rintro e wA ⟨AB, cB, rfl, hoB, hbA⟩; have a0 := bkeep hbA s0; have a1 := bkeep hbA s1; have a2 := bkeep hbA s2)
      | (go_simp; go_at_call 14; refine (samePicture_same 2 1 A1 2 c1 AB cB (List.replicate 2 ⟨0, 0, 0, 0⟩) wA ((hR.below ((Below.here w2).trans hbA) (show w1.heap.size ≤ w2.heap.size by omega)).more (by have : w2.heap.size ≤ wA.heap.size := hbA.size; omega)) hoB.reads.2 (by omega)).mono ?_; rintro e wB ⟨rfl, hbB⟩))
  all_goals
    go_wp2_with fail
    go_ret
    exact ⟨rfl, (hb2.trans (((Below.here w2).trans hbA).mono hb2.size)).trans (hbB.mono (by have : w2.heap.size ≤ wA.heap.size := hbA.size; have := hb2.size; omega))⟩
end Go.Proofs.YtfadnkfceggjaaaDoor
