/- Strings as lists of bytes: bytes turned into a string; layercakeref1.Byte, little, two, Low: the walks. Two bytes of whatever number; one byte: the walks. -/
import Derived.Test.YtncedhhgclofbaaDoorBitW
import Derived.Laws.IdiomStrings
import Derived.Laws.Concat
import Derived.Lib.Hide
namespace Go.Proofs.YtncedhhgclofbaaDoor
open Go Go.RowKit

/-- A string's bytes. -/
abbrev lst (s : ByteArray) : List UInt8 := s.data.toList
theorem lst_length (s : ByteArray) : (lst s).length = s.size := rfl
theorem lst_append (s t : ByteArray) : lst (s ++ t) = lst s ++ lst t := by simp
theorem lst_extract (s : ByteArray) (i j : Nat) : lst (s.extract i j) = ((lst s).drop i).take (j - i) := by
  show (s.extract i j).data.toList = _
  rw [ByteArray.data_extract, Array.toList_extract, List.extract_eq_take_drop]
theorem lst_inj {s t : ByteArray} (h : lst s = lst t) : s = t := by
  cases s; cases t
  simp only [lst] at h
  rw [Array.toList_inj.1 h]
/-- Bytes turned into a string. -/
theorem run_conv_bytes {P : Program} (w : World) (src dst e : TypeId) (A : Option Addr) (n c B : Nat) (l : List UInt8) (hs : P.underlying src = some (.slice e)) (he : P.underlying e = some (.int .u8)) (hd : P.underlying dst = some .string)
    (hr : Reads w B 1 A n (bytes l)) (hnil : (convert src dst (.slice none 0 c)).run P w = .ok (.string ⟨#[]⟩) w) : (convert src dst (.slice A n c)).run P w = .ok (.string ⟨l.toArray⟩) w := by
  have hl : l.length = n := by have := hr.1; rw [bytes_length] at this; omega
  rcases Nat.eq_zero_or_pos n with h0 | h0
  · subst h0
    have : l = [] := List.eq_nil_of_length_eq_zero hl
    subst this
    cases A with
    | none => exact hnil
    | some a => exact run_convert_bytes_back w src dst e a c [] hs he hd (fun j hj => by simp at hj)
  · obtain ⟨b, off, rfl, _⟩ := hr.addr (by omega)
    subst hl
    refine run_convert_bytes_back w src dst e ⟨b, off, none⟩ c l hs he hd (fun j hj => ?_)
    rw [add_lit, hr.cell rfl j (by omega), bytes_at, List.getElem?_eq_getElem hj]
    rfl
theorem conv_nil (w : World) (c : Nat) : (convert 56 9 (.slice none 0 c)).run Tryd.prog w = .ok (.string ⟨#[]⟩) w := by
  rw [run_convert_bytes_string w _ _ _ none 0 c Tryd.underlying56 Tryd.underlying5 Tryd.underlying9]
  rfl
theorem conv_reads (w : World) (A : Option Addr) (n c B : Nat) (l : List UInt8) (hr : Reads w B 1 A n (bytes l)) : (convert 56 9 (.slice A n c)).run Tryd.prog w = .ok (.string ⟨l.toArray⟩) w :=
  run_conv_bytes w _ _ _ A n c B l Tryd.underlying56 Tryd.underlying5 Tryd.underlying9 hr (conv_nil w c)
theorem conv_made (w : World) (l : List UInt8) (n : Nat) (cs : Array Value) (hn : l.length = n) (hc : cs = (bytes l).toArray) :
    (convert 56 9 (.slice (some ⟨w.heap.size, 0, none⟩) n n)).run Tryd.prog (w.alloc (.cells cs 5)) = .ok (.string ⟨l.toArray⟩) (w.alloc (.cells cs 5)) := by
  subst hn; subst hc
  refine run_convert_bytes_back _ _ _ _ _ _ l Tryd.underlying56 Tryd.underlying5 Tryd.underlying9 (fun j hj => ?_)
  have hB := Blk.new w 5 (bytes l).toArray rfl
  rw [add_lit, Nat.zero_add, hB.cell]
  simp [bytes, hj]
/-- One byte. -/
theorem byte_any (z : Int) (h0 : 0 ≤ z) (h : z < 256) (w : World) :
    Calls Tryd.prog 30 #[.int .i64 z] w fun e w' => e = .returned (.string ⟨#[UInt8.ofNat z.toNat]⟩) ∧ Below w.heap.size w w' := by
  obtain ⟨n, rfl⟩ := Int.eq_ofNat_of_zero_le h0
  have hcv := conv_made w [UInt8.ofNat n] 1 #[.int .u8 n] rfl (by simp [bytes]; omega)
  go_enter Tryd.func30, Tryd.ntmps30
  go_wp2
  go_ret
  exact ⟨rfl, (Below.refl _ _).alloc (Nat.le_refl _) _⟩
def pair (n : Nat) : List UInt8 := [UInt8.ofNat (n % 256), UInt8.ofNat (n / 256)]
theorem two_any (n : Nat) (h : n < 65536) (w : World) :
    Calls Tryd.prog 21 #[.int .i64 n] w fun e w' => e = .returned (.string ⟨(pair n).toArray⟩) ∧ Below w.heap.size w w' := by
  have hcv := conv_made w (pair n) 2 #[.int .u8 (n % 256), .int .u8 (n / 256)] rfl (by simp [bytes, pair]; omega)
  go_enter Tryd.func21, Tryd.ntmps21
  go_wp2
  go_ret
  exact ⟨rfl, (Below.refl _ _).alloc (Nat.le_refl _) _⟩
theorem little_any (n : Nat) (h : n < 65536) (w : World) :
    Calls Tryd.prog 29 #[.int .i64 n] w fun e w' => e = .returned (.string ⟨(pair n).toArray⟩) ∧ Below w.heap.size w w' := by
  go_enter Tryd.func29, Tryd.ntmps29
  go_wp2_with fail
  refine (byte_any _ (by omega) (by omega) _).mono ?_
  rintro e w1 ⟨rfl, hb1⟩
  go_wp2_with fail
  refine (byte_any _ (by omega) (by omega) _).mono ?_
  rintro e w2 ⟨rfl, hb2⟩
  go_wp2
  go_ret
  refine ⟨?_, hb1.trans (hb2.mono hb1.size)⟩
  congr 2
end Go.Proofs.YtncedhhgclofbaaDoor
namespace Go.Proofs.YtncedhhgclofbaaDoor
open Go Go.RowKit

theorem two_gen (z : Int) (w : World) :
    Calls Tryd.prog 21 #[.int .i64 z] w fun e w' => ∃ t, e = .returned (.string t) ∧ t.size = 2 ∧ (0 ≤ z ∧ z < 65536 → lst t = pair z.toNat) ∧ Below w.heap.size w w' := by
  have hcv := conv_made w [UInt8.ofNat (z % 256).toNat, UInt8.ofNat (z / 256 % 256).toNat] 2 #[.int .u8 (z % 256), .int .u8 (z / 256 % 256)] rfl (by simp [bytes]; omega)
  go_enter Tryd.func21, Tryd.ntmps21
  go_wp2
  go_ret
  refine ⟨_, rfl, rfl, fun h => ?_, (Below.refl _ _).alloc (Nat.le_refl _) _⟩
  show [UInt8.ofNat (z % 256).toNat, UInt8.ofNat (z / 256 % 256).toNat] = _
  unfold pair
  have e1 : (z % 256).toNat = z.toNat % 256 := by omega
  have e2 : (z / 256 % 256).toNat = z.toNat / 256 := by omega
  rw [e1, e2]
theorem byte_gen (z : Int) (w : World) :
    Calls Tryd.prog 30 #[.int .i64 z] w fun e w' => ∃ t, e = .returned (.string t) ∧ t.size = 1 ∧ lst t = [UInt8.ofNat (z % 256).toNat] ∧ Below w.heap.size w w' := by
  have hcv := conv_made w [UInt8.ofNat (z % 256).toNat] 1 #[.int .u8 (z % 256)] rfl (by simp [bytes]; omega)
  go_enter Tryd.func30, Tryd.ntmps30
  go_wp2
  go_ret
  exact ⟨_, rfl, rfl, rfl, (Below.refl _ _).alloc (Nat.le_refl _) _⟩
set_option maxRecDepth 100000 in
theorem little_gen (z : Int) (w : World) :
    Calls Tryd.prog 29 #[.int .i64 z] w fun e w' => ∃ t, e = .returned (.string t) ∧ t.size = 2 ∧ (0 ≤ z ∧ z < 65536 → lst t = pair z.toNat) ∧ Below w.heap.size w w' := by
  go_enter Tryd.func29, Tryd.ntmps29
  go_wp2_with fail
  refine (byte_gen _ _).mono ?_
  rintro e w1 ⟨t1, rfl, h1, h2, hb1⟩
  go_wp2_with fail
  refine (byte_gen _ _).mono ?_
  rintro e w2 ⟨t2, rfl, h3, h4, hb2⟩
  have hs1 : t1.size ≤ 1 := by omega
  have hs2 : t2.size ≤ 1 := by omega
  have H1 := Lib.hid h1
  have H2 := Lib.hid h2
  have H3 := Lib.hid h3
  have H4 := Lib.hid h4
  clear h1 h2 h3 h4
  go_wp2
  go_ret
  refine ⟨_, rfl, ?_, fun h => ?_, hb1.trans (hb2.mono hb1.size)⟩
  · rw [← lst_length, lst_append, List.length_append, lst_length, lst_length, H1.out, H3.out]
  · rw [lst_append, H2.out, H4.out]
    unfold pair
    have e0 : z.tmod 256 = z % 256 := Int.tmod_eq_emod_of_nonneg h.1
    have e3 : z.tdiv 256 = z / 256 := Int.tdiv_eq_ediv_of_nonneg h.1
    rw [e0, e3, IntWalk.wrap64_in _ (by omega)]
    have e5 : (z % 256 % 256).toNat = z.toNat % 256 := by omega
    have e6 : (z / 256 % 256).toNat = z.toNat / 256 := by omega
    rw [e5, e6]
    rfl
end Go.Proofs.YtncedhhgclofbaaDoor
