/- bits.Reader: Align, Bytes: the walks. -/
import Derived.Test.YthohmpjoeffckaaGreatDoorHufNext
namespace Go.Proofs.YthohmpjoeffckaaGreatDoor
open Go Go.RowKit

theorem ralign_any (g : Nat) (s : ByteArray) (bs : List Bool) (w : World) (h : RdB w g s bs) (hs : s.size ≤ 1099511627776) :
    Calls Tryz.prog 72 #[.pointer (some ⟨g, 0, none⟩)] w fun e w' => e = .returned (.tuple #[]) ∧ RdB w' g s (bs.drop (bs.length % 8)) ∧ Keeps (fun x => x = g) w w' := by
  obtain ⟨p, hb, hp, rfl⟩ := h.ex
  have d1 : w.cell? ⟨g, 1, none⟩ = some (.int .i64 p) := by rw [hb.cell]; rfl
  have f1 := hb.free 1
  obtain ⟨q, hq⟩ : ∃ q, q = (p + 7) / 8 := ⟨_, rfl⟩
  have hqi : ((p : Int) + 7) / 8 = (q : Nat) := by omega
  have hp2 : p ≤ 8796093022208 := by omega
  have hq2 : q ≤ 8796093022208 := by omega
  have HQ := Lib.hid hq
  clear hq
  go_enter Tryz.func72, Tryz.ntmps72
  go_wp2
  go_end0
  have hset := hb.set_ 1 (.int .i64 (q * 8))
  refine ⟨rfl, ⟨q * 8, ?_, by have := HQ.out; omega, ?_⟩, Keeps.setCell (S := fun x => x = g) (p := ⟨g, 1, none⟩) (Keeps.refl _ w) (fun _ => rfl) _⟩
  · have e : ((q * 8 : Nat) : Int) = q * 8 := by omega
    rw [e]
    simpa using hset
  · rw [List.drop_drop, List.length_drop, Bit.bits_length, lst_length]
    congr 1
    have := HQ.out
    omega
theorem rbytes_no (g n : Nat) (s : ByteArray) (bs : List Bool) (w : World) (h : RdB w g s bs) (hs : s.size ≤ 1000000) (hn : n ≤ 65535) (h8 : bs.length % 8 = 0) (hlt : bs.length < 8 * n) :
    Calls Tryz.prog 114 #[.pointer (some ⟨g, 0, none⟩), .int .i64 n] w fun e w' => e = .returned (.tuple #[.string ⟨#[]⟩, .bool false]) ∧ Keeps (fun x => x = g) w w' := by
  go_enter Tryz.func114, Tryz.ntmps114
  go_wp2_with fail
  refine (ralign_any g s bs _ h (by omega)).mono ?_
  rintro e w1 ⟨rfl, h1, hk1⟩
  rw [h8, List.drop_zero] at h1
  obtain ⟨p, hb, hp, hbs⟩ := h1.ex
  have hbl : bs.length = 8 * s.size - p := by rw [hbs, List.length_drop, Bit.bits_length, lst_length]
  go_wp2_with fail
  refine (left_any g s p _ hb (by omega) hp).mono ?_
  rintro e w2 ⟨rfl, q, rfl⟩
  obtain ⟨L, hL⟩ : ∃ L, L = 8 * s.size - p := ⟨_, rfl⟩
  rw [← hL] at hbl ⊢
  have hi : (L : Int) < 8 * n := by omega
  clear hL hbl h1 hbs
  go_wp2_with fail
  go_ret2
  exact ⟨rfl, hk1.drewN q⟩
theorem bits_drop (s : List UInt8) (a : Nat) : (Bit.bits s).drop (8 * a) = Bit.bits (s.drop a) := by
  rcases Nat.lt_or_ge s.length a with h | h
  · rw [List.drop_of_length_le (by rw [Bit.bits_length]; omega), List.drop_of_length_le (by omega)]
    rfl
  · conv => lhs; rw [← List.take_append_drop a s]
    rw [bits_append, List.drop_left' (by rw [Bit.bits_length, List.length_take, Nat.min_eq_left h])]
theorem bits_take (s : List UInt8) (n : Nat) (h : n ≤ s.length) : (Bit.bits s).take (8 * n) = Bit.bits (s.take n) := by
  conv => lhs; rw [← List.take_append_drop n s]
  rw [bits_append, List.take_left' (by rw [Bit.bits_length, List.length_take, Nat.min_eq_left h])]
set_option maxHeartbeats 1000000 in
set_option maxRecDepth 100000 in
theorem rbytes_yes (g n : Nat) (s : ByteArray) (bs : List Bool) (w : World) (h : RdB w g s bs) (hs : s.size ≤ 1000000) (hn : n ≤ 65535) (h8 : bs.length % 8 = 0) (hlt : 8 * n ≤ bs.length) :
    Calls Tryz.prog 114 #[.pointer (some ⟨g, 0, none⟩), .int .i64 n] w fun e w' => (∃ t : ByteArray, e = .returned (.tuple #[.string t, .bool true]) ∧ lst t = Bit.pack (bs.take (8 * n))) ∧ RdB w' g s (bs.drop (8 * n)) ∧ Keeps (fun x => x = g) w w' := by
  go_enter Tryz.func114, Tryz.ntmps114
  go_wp2_with fail
  refine (ralign_any g s bs _ h (by omega)).mono ?_
  rintro e w1 ⟨rfl, h1, hk1⟩
  rw [h8, List.drop_zero] at h1
  obtain ⟨p, hb, hp, hbs⟩ := h1.ex
  have hbl : bs.length = 8 * s.size - p := by rw [hbs, List.length_drop, Bit.bits_length, lst_length]
  go_wp2_with fail
  refine (left_any g s p _ hb (by omega) hp).mono ?_
  rintro e w2 ⟨rfl, q, rfl⟩
  obtain ⟨L, hL⟩ : ∃ L, L = 8 * s.size - p := ⟨_, rfl⟩
  rw [← hL] at hbl ⊢
  have hLb : L ≤ 8000000 := by omega
  have hi : (8 : Int) * n ≤ L := by omega
  have d0 : w1.cell? ⟨g, 0, none⟩ = some (.string s) := by rw [hb.cell]; rfl
  have d1 : w1.cell? ⟨g, 1, none⟩ = some (.int .i64 p) := by rw [hb.cell]; rfl
  have f1 := hb.free 1
  obtain ⟨a, ha⟩ : ∃ a, a = p / 8 := ⟨_, rfl⟩
  obtain ⟨b, hbb⟩ : ∃ b, b = a + n := ⟨_, rfl⟩
  have hai : (p : Int) / 8 = (a : Nat) := by omega
  have hbi : (a : Int) + n = (b : Nat) := by omega
  have hab : a ≤ b := by omega
  have hp8 : p = 8 * a := by omega
  have hbsz : b ≤ s.size := by omega
  have HP8 := Lib.hid hp8
  have HBB := Lib.hid hbb
  have HBS := Lib.hid hbs
  have HLT := Lib.hid (show p + 8 * n ≤ 8 * s.size by omega)
  have hset := ((hb.drewN q).drew).set_ 1 (.int .i64 (p + 8 * n))
  clear ha hbb hlt hp8 hL hbl h1 hbs
  go_wp2_with fail
  go_region
  go_wp2_with fail
  go_ret2
  have hlt := HLT.out
  have hp8 := HP8.out
  have hbb := HBB.out
  have e1 : lst (s.extract a b) = ((lst s).drop a).take n := by
    rw [lst_extract, show b - a = n by omega]
  refine ⟨⟨_, rfl, ?_⟩, ⟨p + 8 * n, ?_, hlt, by rw [HBS.out, List.drop_drop]⟩, ?_⟩
  · show lst (s.extract a b) = _
    rw [e1, HBS.out, hp8, bits_drop, bits_take _ _ (by rw [List.length_drop, lst_length]; omega), Inf.pack_bits]
  · have e : ((p + 8 * n : Nat) : Int) = p + 8 * n := by omega
    rw [e]
    simpa using hset
  · exact (Keeps.setCell (S := fun x => x = g) (p := ⟨g, 1, none⟩) ((hk1.drewN q).drew) (fun _ => rfl) _)
end Go.Proofs.YthohmpjoeffckaaGreatDoor
