/- layercakeref1.Low, Packed: bits as a text of digits, packed: the walks. -/
import Derived.Test.YtncedhhgclofbaaDoorText
namespace Go.Proofs.YtncedhhgclofbaaDoor
open Go Go.RowKit

/-- Bits as a text of digits. -/
def chars (l : List Bool) : List UInt8 := l.map fun b => if b then 49 else 48
theorem chars_append (l m : List Bool) : chars (l ++ m) = chars l ++ chars m := by simp [chars]
theorem chars_length (l : List Bool) : (chars l).length = l.length := by simp [chars]
set_option maxHeartbeats 1000000 in
theorem low_any (n k : Nat) (hn : n < 4294967296) (hk : k ≤ 32) (w : World) :
    Calls Tryd.prog 49 #[.int .u32 n, .int .i64 k] w fun e w' => ∃ s, e = .returned (.string s) ∧ lst s = chars (Bit.low n k) ∧ Below w.heap.size w w' := by
  go_enter Tryd.func49, Tryd.ntmps49
  go_wp2_with fail
  go_loopw [0, 5, 6] (fun m o i wr => ∃ j : Nat, j ≤ k ∧ i = .int .i64 j ∧ m = .int .u32 (n / 2 ^ j : Nat) ∧ ∃ s, o = .string s ∧ s.size ≤ 32 ∧ lst s = chars (Bit.low n j) ∧ Below w.heap.size w wr) (fun _ _ i _ => k - (intOf i).toNat)
  case atStart => exact ⟨0, Nat.zero_le _, rfl, by simp, ⟨#[]⟩, rfl, by decide, by simp [Bit.low, chars], Below.refl _ _⟩
  case round =>
    obtain ⟨j, hj, rfl, rfl, s, rfl, hs32, hs, hb⟩ := hrel
    by_cases hlt : j < k
    · have HS := Lib.hid hs
      obtain ⟨x, hx⟩ : ∃ x, x = n / 2 ^ j := ⟨_, rfl⟩
      have hxl : x ≤ n := by rw [hx]; exact Nat.div_le_self _ _
      rw [← hx]
      have hx2 : n / 2 ^ (j + 1) = x / 2 := by rw [hx, Nat.div_div_eq_div_mul, Nat.pow_succ]
      have hbit : n.testBit j = decide (x % 2 = 1) := by rw [Nat.testBit_eq_decide_div_mod_eq, hx]
      have HX := Lib.hid hx2
      have HB := Lib.hid hbit
      have hlen : s.size = j := by rw [← lst_length, hs, chars_length, Bit.low_length]
      have hlen31 : s.size ≤ 31 := by omega
      clear hs hx hx2 hbit hlen
      go_wp2_with fail
      refine (byte_any _ (by omega) (by omega) _).mono ?_
      rintro e w1 ⟨rfl, hb1⟩
      go_wp2
      go_roundw
      case rel =>
        refine ⟨j + 1, by omega, by go_num, by rw [HX.out]; rfl, _, rfl, ?_, ?_, hb.trans (hb1.mono hb.size)⟩
        · rw [← lst_length, lst_append, List.length_append, lst_length]
          exact Nat.add_le_add hlen31 (Nat.le_refl 1)
        · rw [lst_append, HS.out, low_succ, chars_append, HB.out]
          congr 1
          rcases Nat.mod_two_eq_zero_or_one x with h | h <;> rw [h] <;> rfl
      case measure => simp [intOf]; omega
    · have : j = k := by omega
      subst this
      go_wp2
      go_ret
      exact ⟨s, rfl, hs, hb⟩
/-- The bytes of the first j bits. -/
def part8 (bs : List Bool) (j : Nat) : List UInt8 := (List.range ((bs.length + 7) / 8)).map fun i => UInt8.ofNat (Bit.byteOf (bs.take j) i)
theorem part8_length (bs : List Bool) (j : Nat) : (part8 bs j).length = (bs.length + 7) / 8 := by simp [part8]
theorem part8_at (bs : List Bool) (j i : Nat) (h : i < (bs.length + 7) / 8) : (part8 bs j)[i]? = some (UInt8.ofNat (Bit.byteOf (bs.take j) i)) := by
  unfold part8
  rw [List.getElem?_map, List.getElem?_range h]
  rfl
theorem part8_zero (bs : List Bool) : part8 bs 0 = List.replicate ((bs.length + 7) / 8) 0 := by
  apply List.ext_getElem?
  intro i
  by_cases h : i < (bs.length + 7) / 8
  · rw [part8_at _ _ _ h, List.getElem?_replicate_of_lt h, List.take_zero]
    simp [Bit.byteOf, Bit.val]
  · rw [List.getElem?_eq_none (by rw [part8_length]; omega), List.getElem?_eq_none (by rw [List.length_replicate]; omega)]
theorem part8_all (bs : List Bool) : part8 bs bs.length = Bit.pack bs := by
  unfold part8 Bit.pack
  rw [List.take_length]
theorem part8_succ (bs : List Bool) (j : Nat) (h : j < bs.length) : part8 bs (j + 1) = (part8 bs j).set (j / 8) (UInt8.ofNat (Bit.byteOf (bs.take j) (j / 8) + bs[j].toNat * 2 ^ (j % 8))) := by
  apply List.ext_getElem?
  intro i
  have hl : (bs.take j).length = j := by rw [List.length_take]; omega
  by_cases hi : i < (bs.length + 7) / 8
  · rw [part8_at _ _ _ hi, List.getElem?_set, part8_length, List.take_succ_eq_append_getElem h, Bit.byteOf_snoc, hl]
    by_cases e : j / 8 = i
    · rw [if_pos e.symm, if_pos e, if_pos (by omega), e]
    · rw [if_neg (fun h => e h.symm), if_neg e, part8_at _ _ _ hi, Nat.add_zero]
  · rw [List.getElem?_eq_none (by rw [part8_length]; omega), List.getElem?_eq_none (by rw [List.length_set, part8_length]; omega)]
set_option maxHeartbeats 1000000 in
theorem packed_any (s : ByteArray) (bs : List Bool) (hs : lst s = chars bs) (hl : bs.length ≤ 1099511627776) (w : World) :
    Calls Tryd.prog 50 #[.string s] w fun e w' => ∃ t, e = .returned (.string t) ∧ lst t = Bit.pack bs ∧ Below w.heap.size w w' := by
  have hz : s.size = bs.length := by rw [← lst_length, hs, chars_length]
  have hzl : s.size ≤ 1099511627776 := by omega
  obtain ⟨i0, hi, hz0, hz1, hz2⟩ := info_parts byteInfo
  obtain ⟨N, hN⟩ : ∃ N, N = (bs.length + 7) / 8 := ⟨_, rfl⟩
  have hNl : N ≤ 1099511627776 := by omega
  have hNz : ((s.size : Int) + 7) / 8 = N := by omega
  have HS := Lib.hid hs
  have HZ := Lib.hid hz
  have HN := Lib.hid hN
  have HNz := Lib.hid hNz
  clear hs hz hN hNz
  go_enter Tryd.func50, Tryd.ntmps50
  go_wp2_with (refine wpList_make_full _ rfl (.tmp 8) (.tmp 8) 56 rfl w.heap.size 5 i0 _ 1 Tryd.underlying56 hi hz0 hz1 .i64 .i64 _ _ N rfl rfl HNz.out HNz.out (by rw [hz2]; omega) (by unfold maxLen; omega) (Nat.le_refl _) ?_; intro w2 hrow2 hg2)
  have hown2 := Own.of_row hrow2
  rw [made_same _ (.int .u8 0) (by decide) (by intro j hj; have : j = 0 := by simp [Value.cells] at hj; omega
                                               subst this; rfl), Nat.mul_one] at hown2
  have hb2 : Below w.heap.size w w2 := Below.grown (Below.refl _ _) hg2 (Nat.le_refl _) (fun g hg => by cases hg)
  have e0 : List.replicate N (Value.int .u8 0) = bytes (part8 bs 0) := by rw [part8_zero, ← HN.out]; simp [bytes]
  rw [e0] at hown2
  have hlt2 : w.heap.size < w2.heap.size := (hown2.lt _ rfl).2
  clear hrow2 hg2 e0
  go_loopw [4] (fun i wr => ∃ j, j ≤ bs.length ∧ i = .int .i64 j ∧ Own wr w.heap.size 1 (.slice (some ⟨w.heap.size, 0, none⟩) N N) N (bytes (part8 bs j)) ∧ Below w.heap.size w wr) (fun i _ => bs.length - (intOf i).toNat)
  case atStart => exact ⟨0, Nat.zero_le _, rfl, hown2, hb2⟩
  case round =>
    obtain ⟨j, hj, rfl, hown, hb⟩ := hrel
    by_cases hlt : j < s.size
    · have hltb : j < bs.length := by rw [← HZ.out]; exact hlt
      have hdiv : j / 8 < N := by rw [HN.out]; omega
      obtain ⟨tq, pq⟩ := hown.cellAt (j / 8) hdiv
      rw [bytes_at, part8_at _ _ _ (by rw [← HN.out]; exact hdiv), Option.map_some, UInt8.toNat_ofNat_of_lt' (Bit.byteOf_lt _ _), Nat.zero_add] at tq
      rw [Nat.zero_add] at pq
      have hsucc := part8_succ bs j hltb
      have hsm := Bit.byteOf_small (bs.take j)
      have hlj : (bs.take j).length = j := by rw [List.length_take]; omega
      rw [hlj] at hsm
      have hc : (lst s)[j]? = (chars bs)[j]? := by rw [HS.out]
      have hcj : s[j] = if bs[j] then 49 else 48 := by
        have e1 : (lst s)[j]? = some s[j] := by rw [List.getElem?_eq_getElem (by rw [lst_length]; exact hlt)]; rfl
        rw [hc, chars, List.getElem?_map, List.getElem?_eq_getElem hltb] at e1
        exact (Option.some.inj e1).symm
      obtain ⟨x, hx⟩ : ∃ x, x = Bit.byteOf (bs.take j) (j / 8) := ⟨_, rfl⟩
      have h2k : 2 ^ (j % 8) ≤ 128 := Nat.pow_le_pow_right (show 0 < 2 by omega) (show j % 8 ≤ 7 by omega)
      rw [← hx] at hsm tq hsucc
      have HSU := Lib.hid hsucc
      cases hbj : bs[j] with
      | true =>
        have hq : ((s[j].toNat : Int) == 49) = true := by rw [hcj, hbj]; rfl
        clear hcj hc hsucc hx hlj
        have ev : ((x : Int) + 2 ^ (j % 8)) % 256 = ((UInt8.ofNat (x + bs[j].toNat * 2 ^ (j % 8))).toNat : Int) := by
          have : (2 : Int) ^ (j % 8) = ((2 ^ (j % 8) : Nat) : Int) := (Int.natCast_pow 2 (j % 8)).symm
          have h3 : x + bs[j].toNat * 2 ^ (j % 8) < 256 := by rw [hbj, Bool.toNat_true, Nat.one_mul]; omega
          rw [UInt8.toNat_ofNat_of_lt' h3, this, hbj, Bool.toNat_true, Nat.one_mul]
          omega
        have HE := Lib.hid ev
        clear ev
        go_wp2_with fail
        go_region
        go_wp2
        go_roundw
        case rel =>
          refine ⟨j + 1, by omega, by go_num, ?_, (hb.setCell (p := ⟨w.heap.size, j / 8, none⟩) (Nat.le_refl _) _).drew⟩
          rw [HE.out, HSU.out]
          have := hown.setByte (j / 8) hdiv (UInt8.ofNat (x + bs[j].toNat * 2 ^ (j % 8)))
          rw [Nat.zero_add] at this
          exact Own.drew this
        case measure => simp [intOf]; omega
      | false =>
        have hq : ((s[j].toNat : Int) == 49) = false := by rw [hcj, hbj]; rfl
        clear hcj hc hsucc hx hlj
        go_wp2
        go_roundw
        case rel =>
          refine ⟨j + 1, by omega, by go_num, ?_, hb⟩
          rw [HSU.out, hbj, bytes_set]
          have e : (bytes (part8 bs j))[j / 8]? = some (.int .u8 (UInt8.ofNat (x + false.toNat * 2 ^ (j % 8))).toNat) := by
            have := hown.reads.2.cell rfl (j / 8) (by omega)
            rw [Nat.zero_add, tq] at this
            rw [← this]
            simp
            omega
          obtain ⟨h1, h2⟩ := List.getElem?_eq_some_iff.1 e
          rw [← h2, List.set_getElem_self]
          exact hown
        case measure => simp [intOf]; omega
    · have e : j = bs.length := by have := HZ.out; omega
      subst e
      rw [part8_all] at hown
      have hcv := conv_reads wr _ N N _ _ hown.reads.2
      clear hj
      go_wp2
      go_ret
      exact ⟨_, rfl, rfl, hb⟩
end Go.Proofs.YtncedhhgclofbaaDoor
