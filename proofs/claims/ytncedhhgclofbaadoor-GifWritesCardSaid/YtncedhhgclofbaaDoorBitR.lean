/- bits.Reader: NewReader, At, Left, Get: the walks. -/
import Derived.Test.YtncedhhgclofbaaDoorText
import Derived.Test.YtncedhhgclofbaaDoorEr4
namespace Go.Proofs.YtncedhhgclofbaaDoor
open Go Go.RowKit

theorem newReader_any (s : ByteArray) (w : World) :
    Calls Tryd.prog 72 #[.string s] w fun e w' => e = .returned (.pointer (some ⟨w.heap.size, 0, none⟩)) ∧ w' = w.alloc (.cells #[.string s, .int .i64 0] 165) := by
  go_enter Tryd.func72, Tryd.ntmps72
  go_wp2
  go_ret
  exact ⟨rfl, rfl⟩
theorem at_any (g : Nat) (s : ByteArray) (p : Nat) (w : World) (hb : Blk w g 165 #[.string s, .int .i64 p]) :
    Calls Tryd.prog 75 #[.pointer (some ⟨g, 0, none⟩)] w fun e w' => e = .returned (.int .i64 p) ∧ w' = w := by
  have d1 : w.cell? ⟨g, 1, none⟩ = some (.int .i64 p) := by rw [hb.cell]; rfl
  go_enter Tryd.func75, Tryd.ntmps75
  go_wp2
  go_ret
  exact ⟨rfl, rfl⟩
theorem left_any (g : Nat) (s : ByteArray) (p : Nat) (w : World) (hb : Blk w g 165 #[.string s, .int .i64 p]) (hs : s.size ≤ 1099511627776) (hp : p ≤ 8 * s.size) :
    Calls Tryd.prog 81 #[.pointer (some ⟨g, 0, none⟩)] w fun e w' => e = .returned (.int .i64 (8 * s.size - p : Nat)) ∧ ∃ q, w' = w.drewN q := by
  have d0 : w.cell? ⟨g, 0, none⟩ = some (.string s) := by rw [hb.cell]; rfl
  have d1 : w.cell? ⟨g, 1, none⟩ = some (.int .i64 p) := by rw [hb.cell]; rfl
  have h1 : IntKind.i64.wrap (8 * (s.size : Int)) = 8 * s.size := IntWalk.i64_in _ (by omega)
  have h2 : IntKind.i64.wrap (8 * (s.size : Int) - p) = 8 * s.size - p := IntWalk.i64_in _ (by omega)
  have h3 : ((8 * s.size - p : Nat) : Int) = 8 * s.size - p := by omega
  rw [h3]
  clear h3
  go_enter Tryd.func81, Tryd.ntmps81
  go_wp2
  go_quiet (fail)
  go_wp2
  go_ret
  exact ⟨rfl, _, rfl⟩
/-- What Get's loop keeps. -/
structure GetR (w : World) (g : Nat) (s : ByteArray) (p j : Nat) (wr : World) : Prop where
  blk : Blk wr g 165 #[.string s, .int .i64 (p + j : Nat)]
  keeps : Keeps (fun x => x = g) w wr
set_option maxHeartbeats 2000000 in
set_option maxRecDepth 100000 in
theorem get_any (g : Nat) (s : ByteArray) (p k : Nat) (w : World) (hb : Blk w g 165 #[.string s, .int .i64 p]) (hs : s.size ≤ 1099511627776) (hp : p + k ≤ 8 * s.size) (hk : k ≤ 32) :
    Calls Tryd.prog 74 #[.pointer (some ⟨g, 0, none⟩), .int .i64 k] w fun e w' => e = .returned (.tuple #[.int .u32 (Bit.val (((Bit.bits (lst s)).drop p).take k)), .nilIface]) ∧ GetR w g s p k w' := by
  have hlt : ¬ ((8 * s.size - p : Nat) : Int) < k := by omega
  go_enter Tryd.func74, Tryd.ntmps74
  go_wp2_with fail
  refine (left_any g s p _ hb hs (by omega)).mono ?_
  rintro e w1 ⟨rfl, q, rfl⟩
  have hb1 := hb.drewN q
  obtain ⟨l, hl⟩ : ∃ l : Nat, l = 8 * s.size - p := ⟨_, rfl⟩
  rw [← hl] at hlt ⊢
  clear hl
  have hlt2 : ¬ l < k := by omega
  obtain ⟨w1, hw1⟩ : ∃ w1, w1 = w.drewN q := ⟨_, rfl⟩
  rw [← hw1] at hb1 ⊢
  have K1 : Keeps (fun x => x = g) w w1 := by rw [hw1]; exact (Keeps.refl _ w).drewN q
  clear hw1
  go_wp2_with fail
  go_loopw [6, 21] (fun v i wr => ∃ j : Nat, j ≤ k ∧ i = .int .i64 j ∧ v = .int .u32 (Bit.val (((Bit.bits (lst s)).drop p).take j)) ∧ GetR w g s p j wr) (fun _ i _ => k - (intOf i).toNat)
  case atStart => exact ⟨0, Nat.zero_le _, rfl, by simp [Bit.val], hb1, K1⟩
  case round =>
    obtain ⟨j, hj, rfl, rfl, ⟨hbr, hkr⟩⟩ := hrel
    by_cases hjk : j < k
    · have e0 : wr.cell? ⟨g, 0, none⟩ = some (.string s) := by rw [hbr.cell]; rfl
      have e1 : wr.cell? ⟨g, 1, none⟩ = some (.int .i64 (p + j : Nat)) := by rw [hbr.cell]; rfl
      have f1 := hbr.free 1
      obtain ⟨x, hx⟩ : ∃ x, x = Bit.val (((Bit.bits (lst s)).drop p).take j) := ⟨_, rfl⟩
      rw [← hx]
      obtain ⟨a, ha⟩ : ∃ a, a = p + j := ⟨_, rfl⟩
      rw [← ha] at e1
      have hal : a / 8 < s.size := by omega
      have ha8 : a ≤ 8796093022208 := by omega
      have HX := Lib.hid hx
      have HA := Lib.hid ha
      clear hx ha
      obtain ⟨b, hb8⟩ : ∃ b : Nat, b = a / 8 := ⟨_, rfl⟩
      obtain ⟨r, hr8⟩ : ∃ r : Nat, r = a % 8 := ⟨_, rfl⟩
      have hq : (a : Int) / 8 = b := by omega
      have hr : (a : Int) % 8 = r := by omega
      have hr7 : r ≤ 7 := by omega
      have hbs : b < s.size := by omega
      have HB8 := Lib.hid hb8
      have HR8 := Lib.hid hr8
      clear hb8 hr8 hal
      obtain ⟨y, hy⟩ : ∃ y : Nat, s[b].toNat = y := ⟨_, rfl⟩
      have hy255 : y < 256 := by rw [← hy]; exact s[b].toNat_lt
      have hband : bits .and .u8 ((y : Int) / 2 ^ r) 1 = ((y.testBit r).toNat : Int) := by
        have e1 : (y : Int) / 2 ^ r = ((y / 2 ^ r : Nat) : Int) := by norm_cast
        have e3 : y / 2 ^ r ≤ y := Nat.div_le_self _ _
        rw [e1, show (1 : Int) = ((1 : Nat) : Int) from rfl, u8_and_nat _ _ (by omega) (by omega), Nat.and_one_is_mod, Nat.testBit_eq_decide_div_mod_eq]
        have h2 := Nat.mod_two_eq_zero_or_one (y / 2 ^ r)
        rcases h2 with h | h <;> simp [h]
      go_wp2_with fail
      go_region
      go_wp2
      go_roundw
      case rel =>
        have hbit : (Bit.bits (lst s))[p + j]'(by rw [Bit.bits_length, lst_length]; omega) = y.testBit r := by
          have h1 := Bit.bits_at (lst s) a (by have := HA.out; rw [lst_length]; omega)
          rw [← HB8.out, ← HR8.out, List.getElem?_eq_getElem (l := lst s) (i := b) (by rw [lst_length]; exact hbs)] at h1
          have h2 : (Bit.bits (lst s))[p + j]? = some (y.testBit r) := by rw [← HA.out, h1, ← hy]; rfl
          exact (List.getElem?_eq_some_iff.1 h2).2
        have hmore := Bit.val_more (Bit.bits (lst s)) p j (by rw [Bit.bits_length, lst_length]; omega)
        rw [hbit, ← HX.out] at hmore
        have hxl : x < 2 ^ j := by
          have h1 := Bit.val_lt (((Bit.bits (lst s)).drop p).take j)
          rw [← HX.out, List.length_take, List.length_drop, Bit.bits_length, lst_length, Nat.min_eq_left (by omega)] at h1
          exact h1
        have h2j : (2 : Nat) ^ j ≤ 2 ^ 31 := Nat.pow_le_pow_right (by omega) (by omega)
        have hor : bits .or .u32 (x : Int) (((y.testBit r).toNat : Int) % 4294967296 * 2 ^ j % 4294967296) = ((x ||| ((y.testBit r).toNat <<< j) : Nat) : Int) := by
          have e1 : ((y.testBit r).toNat : Int) % 4294967296 * 2 ^ j % 4294967296 = (((y.testBit r).toNat <<< j : Nat) : Int) := by
            rw [Nat.shiftLeft_eq]
            have : (2 : Int) ^ j = ((2 ^ j : Nat) : Int) := (Int.natCast_pow 2 j).symm
            cases y.testBit r
            · simp
            · simp only [Bool.toNat_true, Nat.one_mul, this]
              omega
          have e2 : (y.testBit r).toNat <<< j < 4294967296 := by rw [Nat.shiftLeft_eq]; cases y.testBit r <;> simp <;> omega
          rw [e1, u32_or_nat _ _ (by omega) e2]
        rw [hor, ← hmore]
        refine ⟨j + 1, by omega, by go_num, rfl, ⟨?_, ?_⟩⟩
        · have := (hbr.set_ 1 (.int .i64 (a + 1))).drew
          have e : ((p + (j + 1) : Nat) : Int) = a + 1 := by have := HA.out; omega
          rw [e]
          exact this
        · exact (hkr.setCell (p := ⟨g, 1, none⟩) (fun _ => rfl) _).drew
      case measure => simp [intOf]; omega
    · go_wp2_with fail
      have : j = k := by omega
      subst this
      go_ret2
      exact ⟨rfl, hbr, hkr⟩
theorem get_none (g : Nat) (s : ByteArray) (p k : Nat) (E : Nat → Addr) (w : World) (hE : Er4 w E) (hb : Blk w g 165 #[.string s, .int .i64 p]) (hs : s.size ≤ 1099511627776) (hps : p ≤ 8 * s.size) (hp : 8 * s.size < p + k) (hk : k ≤ 32) :
    Calls Tryd.prog 74 #[.pointer (some ⟨g, 0, none⟩), .int .i64 k] w fun e w' => e = .returned (.tuple #[.int .u32 0, errV (E 0)]) ∧ ∃ q, w' = w.drewN q := by
  have hx := hE.text
  have hlt : ((8 * s.size - p : Nat) : Int) < k := by omega
  have hlt2 : 8 * s.size - p < k := by omega
  obtain ⟨l, hl⟩ : ∃ l : Nat, l = 8 * s.size - p := ⟨_, rfl⟩
  rw [← hl] at hlt hlt2
  have HL := Lib.hid hl
  clear hl
  go_enter Tryd.func74, Tryd.ntmps74
  go_wp2_with fail
  refine (left_any g s p _ hb hs hps).mono ?_
  rintro e w1 ⟨rfl, q, rfl⟩
  rw [← HL.out]
  go_wp2_with fail
  go_quiet (fail)
  go_wp2
  go_ret2
  exact ⟨rfl, q + nq, World.drewN_drewN _ _ _⟩
end Go.Proofs.YtncedhhgclofbaaDoor
