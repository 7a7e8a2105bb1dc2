/- Bld, Png: put together. -/
import Derived.Test.YtkegkelaffohjaaGreatDoorQCFilmTwiceBitT
import Derived.Lib.Builder
import Derived.Lib.AppendStr
import Derived.Lib.UnsafeStr
import Derived.Lib.Slices
import Derived.Lib.Strings
import Derived.Lib.Walk
import Derived.Laws.Externs
import Derived.Test.YtkegkelaffohjaaGreatDoorKCFilmTwice2
import Derived.Test.YtkegkelaffohjaaGreatDoorKCFilmTwice1
import Derived.Test.YtkegkelaffohjaaGreatDoorKCFilmTwice6
import Derived.Test.YtkegkelaffohjaaGreatDoorKCFilmTwice7
/- strings.Builder: WriteString, String: the walks (turned from the kit's shelf to this program's numbers). sum.table, MoreCRC, CRC; chunk.Number, Value: the walks. A builder that is kept; tiles.bytesOf: the walk. -/
namespace Go.Proofs.YtkegkelaffohjaaGreatDoor
open Go Go.RowKit
theorem bldSize : (Tryz.prog.info? 104).map (·.size) = some 2 := by kernel_rfl
theorem bldLies : liesAt Tryz.prog Tryz.prog.depth 104 (2 / Tryz.prog.cellsOf 104) 0 104 1 = true := by kernel_rfl
theorem byteCellsN : Tryz.prog.cellsOf 5 = 1 := by kernel_rfl
set_option maxHeartbeats 1000000 in
set_option maxRecDepth 100000 in
theorem copyCheck_used (b : Nat) (w : World) (h0 : w.cell? ⟨b, 0, none⟩ = some (.pointer (some ⟨b, 0, none⟩))) :
  Calls Tryz.prog 112 #[.pointer (some ⟨b, 0, none⟩)] w fun e w' => e = .returned (.tuple #[]) ∧ w' = w := by
 obtain ⟨j, hj, _⟩ := Option.map_eq_some_iff.1 bldSize
 go_enter Tryz.func112, Tryz.ntmps112
 go_wp2
 rw [Lib.run_neq_ptr_same w _ Tryz.underlying101 hj]
 go_wp2
 go_end0
 exact ⟨rfl, rfl⟩
set_option maxHeartbeats 1000000 in
set_option maxRecDepth 100000 in
theorem copyCheck_fresh (b : Nat) (w : World) (h0 : w.cell? ⟨b, 0, none⟩ = some (.pointer none)) (hsh : w.shape? b = some (104, 2)) (hfz : w.frozen? ⟨b, 0, none⟩ = false) :
  Calls Tryz.prog 112 #[.pointer (some ⟨b, 0, none⟩)] w fun e w' => e = .returned (.tuple #[]) ∧ w' = w.setCell ⟨b, 0, none⟩ (.pointer (some ⟨b, 0, none⟩)) := by
 obtain ⟨j, hj, hjs⟩ := Option.map_eq_some_iff.1 bldSize
 have h1 := Lib.run_to_unsafe w ⟨b, 0, none⟩ Tryz.underlying101 Tryz.underlying157 hj (by rw [hjs]; decide) hsh (Nat.zero_lt_succ 1)
 have h3 := Lib.run_from_unsafe w ⟨b, 0, none⟩ Tryz.underlying157 Tryz.underlying101 hj hsh bldLies
 go_enter Tryz.func112, Tryz.ntmps112
 go_wp2
 rw [run_callFunc_extern Tryz.func149 (by kernel_rfl) (by kernel_rfl) (by kernel_rfl) (e := Extern.AbiNoEscape.same) (by kernel_rfl)]
 rw [Lib.run_noEscape]
 simp only [Result.andThen]
 rw [Oper.upon_value]
 go_wp2
 go_end0
 exact ⟨rfl, rfl⟩
theorem copyCheck_any (B b : Nat) (bs : List Value) (w : World) (h : Lib.IsBuilder 104 5 B b bs w) :
  Calls Tryz.prog 112 #[.pointer (some ⟨b, 0, none⟩)] w fun e w' => e = .returned (.tuple #[]) ∧ (Lib.BuilderAt 104 5 B b (.pointer (some ⟨b, 0, none⟩)) bs w' ∧ Below B w w') := by
 rcases h with h | h
 ·refine (copyCheck_fresh b w h.cell0 h.shape h.frozen0).mono ?_
  rintro e w' ⟨rfl, rfl⟩
  exact ⟨rfl, h.used _, (Below.refl B w).setCell (p := ⟨b, 0, none⟩) h.1 _⟩
 ·refine (copyCheck_used b w h.cell0).mono ?_
  rintro e w' ⟨rfl, rfl⟩
  exact ⟨rfl, h, Below.refl B _⟩
set_option maxHeartbeats 2000000 in
set_option maxRecDepth 100000 in
theorem writeString_any (B b : Nat) (l : List UInt8) (s : ByteArray) (w : World) (h : Lib.IsBuilder 104 5 B b (bytes l) w) (hlen : l.length + s.size ≤ 1099511627776) (hBw : B ≤ w.heap.size) :
  Calls Tryz.prog 74 #[.pointer (some ⟨b, 0, none⟩), .string s] w fun e w' => e = .returned (.tuple #[.int .i64 s.size, .nilIface]) ∧ (Lib.IsBuilder 104 5 B b (bytes (l ++ lst s)) w' ∧ Below B w w') := by
 obtain ⟨i0, hi, hz0, hz1, hz2⟩ := info_parts byteInfo
 have hbl := bytes_length l
 go_enter Tryz.func74, Tryz.ntmps74
 go_wp2_with fail
 refine (copyCheck_any B b _ _ h).mono ?_
 rintro e w1 ⟨rfl, h1, hb1⟩
 obtain ⟨hB, v, hbk, hown, hne⟩ := h1
 have c0 : w1.cell? ⟨b, 0, none⟩ = some (.pointer (some ⟨b, 0, none⟩)) := by rw [Lib.cell_of_heap hbk]; rfl
 have c1 : w1.cell? ⟨b, 1, none⟩ = some v := by rw [Lib.cell_of_heap hbk]; rfl
 go_wp2_with (at_builtin; refine Lib.wpList_append_own_string _ rfl _ _ 102 9 rfl B 5 i0 Tryz.underlying102 Tryz.underlying9 hi hz0 hz1 hz2 _ _ _ rfl hown s rfl ?c3 ?c4 ?c5 ?_)
 case c3 => unfold maxLen; omega
 case c4 => omega
 case c5 => have := hb1.size; omega
 intro v' w2 hown' hgrow _
 have hlt : b < w1.heap.size := by
  rcases Nat.lt_or_ge b w1.heap.size with h' | h'
  ·exact h'
  ·simp [Array.getElem?_eq_none h'] at hbk
 have hb2 : w2.heap[b]? = some (.cells #[.pointer (some ⟨b, 0, none⟩), v] 104 (0, 0)) := by
  rw [hgrow.block b hlt (fun e => hne e.symm)]
  exact hbk
 have d0 : w2.cell? ⟨b, 0, none⟩ = some (.pointer (some ⟨b, 0, none⟩)) := by rw [Lib.cell_of_heap hb2]; rfl
 have d1 : w2.cell? ⟨b, 1, none⟩ = some v := by rw [Lib.cell_of_heap hb2]; rfl
 have f1 : w2.frozen? ⟨b, 1, none⟩ = false := Lib.frozen_of_heap hb2 1
 obtain ⟨ao, n', cap, rfl⟩ : ∃ ao n' cap, v' = .slice ao n' cap := by
  rcases hown'.2 with ⟨hv, _⟩ | ⟨g, cap, cur, hv, _⟩
  ·exact ⟨_, _, _, hv⟩
  ·exact ⟨_, _, _, hv⟩
 clear hbl
 go_wp2
 go_ret2
 have e : bytes (l ++ lst s) = bytes l ++ Lib.strCells s := by rw [bytes_append]; rfl
 refine ⟨rfl, ?_, ?_⟩
 ·rw [e]
  exact .inr (Lib.BuilderAt.put (T := 104) (e := 5) hB hb2 (bs' := bytes l ++ Lib.strCells s) (by rw [List.length_append, Lib.strCells_length, bytes_length]; exact hown') (by decide))
 ·exact (hb1.grown hgrow (by have := hb1.size; omega) (fun k hk => (hown.lt k hk).1)).setCell (p := ⟨b, 1, none⟩) hB _
set_option maxHeartbeats 1000000 in
set_option maxRecDepth 100000 in
theorem bstring_any (B b : Nat) (l : List UInt8) (w : World) (h : Lib.IsBuilder 104 5 B b (bytes l) w) (h0 : l ≠ []) :
  Calls Tryz.prog 49 #[.pointer (some ⟨b, 0, none⟩)] w fun e w' => e = .returned (.string ⟨l.toArray⟩) ∧ Below B w w' := by
 obtain ⟨p, hB, v, hbk, hown, hne⟩ : ∃ p, Lib.BuilderAt 104 5 B b p (bytes l) w := by
  rcases h with h | h
  ·exact ⟨_, h⟩
  ·exact ⟨_, h⟩
 have hl0 : l.length ≠ 0 := by simpa using h0
 rw [bytes_length] at hown
 obtain ⟨g, cap, cur, rfl, hbg, hg, hnc, hcm, hcs, htake⟩ : ∃ g cap cur, v = .slice (some ⟨g, 0, none⟩) l.length cap ∧ B ≤ g ∧ w.heap[g]? = some (.cells cur 5 (0, 0)) ∧ l.length ≤ cap ∧ cap ≤ maxLen ∧ cur.size = cap * 1 ∧ cur.toList.take (l.length * 1) = bytes l := by
  rcases hown.2 with ⟨_, hz⟩ | ⟨g, cap, cur, hv, r⟩
  ·exact absurd hz hl0
  ·exact ⟨g, cap, cur, hv, r⟩
 have c1 : w.drew.cell? ⟨b, 1, none⟩ = some (.slice (some ⟨g, 0, none⟩) l.length cap) := by
  have : w.drew.heap[b]? = some (.cells #[p, .slice (some ⟨g, 0, none⟩) l.length cap] 104 (0, 0)) := hbk
  rw [Lib.cell_of_heap this]; rfl
 have hSD : (Builtin.unsafeSliceData_ #[102] 136 #[.slice (some ⟨g, 0, none⟩) l.length cap]).run Tryz.prog w.drew = .ok (.pointer (some ⟨g, 0, none⟩)) w.drew :=
  Lib.run_unsafeSliceData_row _ _ _ _ _ _ (by omega)
 have hUS : (Builtin.unsafeString_ #[136, 3] 9 #[.pointer (some ⟨g, 0, none⟩), .int .i64 l.length]).run Tryz.prog w.drew = .ok (.string ⟨l.toArray⟩) (w.drew.freeze ⟨g, 0, none⟩ l.length) := by
  refine Lib.run_unsafeString_row w.drew 136 3 9 5 Tryz.underlying136 byteCellsN g cur.size (by have hg' : w.drew.heap[g]? = some (.cells cur 5 (0, 0)) := hg; simp [World.shape?, hg']) l h0 (by omega) (by unfold maxLen at hcm; omega) ?_
  intro j x hx
  have := hown.cells (g := g) rfl j (.int .u8 x.toNat) (by simp [bytes, hx])
  exact this
 go_enter Tryz.func49, Tryz.ntmps49
 go_wp2
 go_region
 all_goals (go_wp2; go_ret; exact ⟨rfl, Lib.below_freeze (Below.drew (Below.refl B w)) (p := ⟨g, 0, none⟩) hbg _⟩)
end Go.Proofs.YtkegkelaffohjaaGreatDoor
namespace Go.Proofs.YtkegkelaffohjaaGreatDoor
open Go Go.RowKit
theorem u32_xor_nat (a b : Nat) (ha : a < 4294967296) (hb : b < 4294967296) : bits .xor .u32 (a : Int) (b : Int) = ((a ^^^ b : Nat) : Int) := by
 have hx : a ^^^ b < 2 ^ 32 := Nat.xor_lt_two_pow (by omega) (by omega)
 show IntKind.u32.wrap ((BitVec.ofInt 32 (a : Int) ^^^ BitVec.ofInt 32 (b : Int)).toNat : Int) = _
 rw [BitVec.toNat_xor, BitVec.ofInt_natCast, BitVec.ofInt_natCast, BitVec.toNat_ofNat, BitVec.toNat_ofNat, Nat.mod_eq_of_lt (by omega), Nat.mod_eq_of_lt (by omega), IntWalk.u32_in _ (by omega)]
theorem u8_xor_nat (a b : Nat) (ha : a < 256) (hb : b < 256) : bits .xor .u8 (a : Int) (b : Int) = ((a ^^^ b : Nat) : Int) := by
 have hx : a ^^^ b < 2 ^ 8 := Nat.xor_lt_two_pow (by omega) (by omega)
 show IntKind.u8.wrap ((BitVec.ofInt 8 (a : Int) ^^^ BitVec.ofInt 8 (b : Int)).toNat : Int) = _
 rw [BitVec.toNat_xor, BitVec.ofInt_natCast, BitVec.ofInt_natCast, BitVec.toNat_ofNat, BitVec.toNat_ofNat, Nat.mod_eq_of_lt (by omega), Nat.mod_eq_of_lt (by omega), IntKind.wrap_u8]
 omega
theorem u32_max (x : Nat) (h : x < 4294967296) : bits .xor .u32 IntKind.u32.max (x : Int) = ((x ^^^ 4294967295 : Nat) : Int) := by
 rw [show (IntKind.u32.max : Int) = ((4294967295 : Nat) : Int) from rfl, u32_xor_nat _ _ (by omega) h, Nat.xor_comm]
set_option maxRecDepth 100000 in
theorem number_any (n : Nat) (w : World) (hn : n < 4294967296) :
  Calls Tryz.prog 69 #[.int .u32 n] w fun e w' => ∃ t : ByteArray, e = .returned (.string t) ∧ lst t = Crc.num n ∧ Below w.heap.size w w' := by
 have hcv := conv_made w (Crc.num n) 4 #[.int .u8 ((n : Int) / 16777216), .int .u8 ((n : Int) / 65536 % 256), .int .u8 ((n : Int) / 256 % 256), .int .u8 ((n : Int) % 256)] rfl (by
  simp only [Crc.num, bytes, List.map_cons, List.map_nil, UInt8.toNat_ofNat']
  congr 1
  have e1 : ((n / 16777216 % 2 ^ 8 : Nat) : Int) = (n : Int) / 16777216 := by omega
  have e2 : ((n / 65536 % 2 ^ 8 : Nat) : Int) = (n : Int) / 65536 % 256 := by omega
  have e3 : ((n / 256 % 2 ^ 8 : Nat) : Int) = (n : Int) / 256 % 256 := by omega
  have e4 : ((n % 2 ^ 8 : Nat) : Int) = (n : Int) % 256 := by omega
  rw [e1, e2, e3, e4])
 go_enter Tryz.func69, Tryz.ntmps69
 go_wp2_with fail
 go_ret
 exact ⟨_, rfl, rfl, (Below.refl _ _).alloc (Nat.le_refl _) _⟩
theorem val_snoc (l : List UInt8) (b : UInt8) : Crc.val (l ++ [b]) = Crc.val l * 256 + b.toNat := by
 unfold Crc.val
 rw [List.foldl_append]
 rfl
theorem val_lt (l : List UInt8) : Crc.val l < 256 ^ l.length := by
 have h : ∀ (n : Nat) (l : List UInt8), l.length = n → Crc.val l < 256 ^ n := by
  intro n
  induction n with
  | zero => intro l hl; rw [List.eq_nil_of_length_eq_zero hl]; decide
  | succ n ih =>
   intro l hl
   rcases List.eq_nil_or_concat l with e | ⟨m, b, e⟩
   ·rw [e] at hl; simp at hl
   ·rw [e, List.concat_eq_append] at hl ⊢
    rw [List.length_append] at hl
    have := ih m (by simpa using hl)
    have hb := b.toNat_lt
    rw [val_snoc, Nat.pow_succ]
    omega
 exact h _ l rfl
theorem value_any (s : ByteArray) (w : World) (hs : s.size ≤ 4) :
  Calls Tryz.prog 53 #[.string s] w fun e w' => e = .returned (.int .u32 (Crc.val (lst s))) ∧ w' = w := by
 go_enter Tryz.func53, Tryz.ntmps53
 go_wp2_with fail
 go_loop [2, 6] (fun n i => ∃ j : Nat, j ≤ s.size ∧ i = .int .i64 j ∧ n = .int .u32 (Crc.val ((lst s).take j))) (fun _ i => s.size - (intOf i).toNat)
 case atStart => exact ⟨0, Nat.zero_le _, rfl, by simp [Crc.val]⟩
 case round =>
  obtain ⟨j, hj, rfl, rfl⟩ := hrel
  obtain ⟨x, hx⟩ : ∃ x, x = Crc.val ((lst s).take j) := ⟨_, rfl⟩
  rw [← hx]
  have HX := Lib.hid hx
  clear hx
  by_cases hlt : j < s.size
  ·obtain ⟨y, hy⟩ : ∃ y : UInt8, s[j] = y := ⟨_, rfl⟩
   go_wp2_with fail
   go_round
   case rel =>
    have hv := val_lt ((lst s).take j)
    rw [List.length_take, lst_length, Nat.min_eq_left hj, ← HX.out] at hv
    have h3 : (256 : Nat) ^ j ≤ 256 ^ 3 := Nat.pow_le_pow_right (by omega) (by omega)
    have hyl := y.toNat_lt
    have hor : bits .or .u32 ((x : Int) * 256 % 4294967296) ((y.toNat : Int) % 4294967296) = ((x * 256 + y.toNat : Nat) : Int) := by
     have e1 : (x : Int) * 256 % 4294967296 = ((x * 256 : Nat) : Int) := by omega
     have e2 : (y.toNat : Int) % 4294967296 = (y.toNat : Int) := by omega
     have hjn : (x * 256) ||| y.toNat = x * 256 + y.toNat := nat_join 8 (x * 256) y.toNat (by omega) (by omega)
     rw [e1, e2, u32_or_nat _ _ (by omega) (by omega), hjn]
    have e4 : Crc.val ((lst s).take (j + 1)) = x * 256 + y.toNat := by
     rw [List.take_succ_eq_append_getElem (by rw [lst_length]; exact hlt), val_snoc, ← HX.out, ← hy]
     rfl
    exact ⟨j + 1, hlt, by go_num, by rw [hor, e4]⟩
   case measure => simp [intOf]; omega
  ·go_wp2_with fail
   go_ret
   have : j = s.size := by omega
   rw [HX.out, this, List.take_of_length_le (by rw [lst_length]; exact Nat.le_refl _)]
   exact ⟨rfl, rfl⟩
def tabTo (i : Nat) : List Value := (List.range 256).map fun k => Value.int .u32 (if k < i then Crc.tab k else 0 : Nat)
theorem zero181 : Tryz.zeroCells235 = (tabTo 0).toArray := by
 kernel_rfl
theorem tab_bit (c : Nat) (h : c < 4294967296) : bits .xor .u32 ((c : Int) / 2) (bits .and .u32 3988292384 (-bits .and .u32 (c : Int) 1 % 4294967296)) = ((Crc.bit c : Nat) : Int) := by
 have h1 : bits .and .u32 (c : Int) 1 = ((c % 2 : Nat) : Int) := by
  rw [show (1 : Int) = ((1 : Nat) : Int) from rfl, u32_and_nat _ _ h (by omega), Nat.and_one_is_mod]
 have h2 : (c : Int) / 2 = ((c / 2 : Nat) : Int) := by omega
 unfold Crc.bit
 rw [h1, h2, Nat.shiftRight_eq_div_pow]
 rcases Nat.mod_two_eq_zero_or_one c with e | e
 ·rw [e, if_neg (by omega), show -(((0 : Nat)) : Int) % 4294967296 = ((0 : Nat) : Int) by rfl, show (3988292384 : Int) = ((3988292384 : Nat) : Int) from rfl, u32_and_nat _ _ (by omega) (by omega), Nat.and_zero, u32_xor_nat _ _ (by omega) (by omega)]
 ·rw [e, if_pos rfl, show -(((1 : Nat)) : Int) % 4294967296 = ((4294967295 : Nat) : Int) by rfl, show (3988292384 : Int) = ((3988292384 : Nat) : Int) from rfl, u32_and_nat _ _ (by omega) (by omega), show 3988292384 &&& 4294967295 = 3988292384 by decide, u32_xor_nat _ _ (by omega) (by omega)]
theorem tabTo_at (i k : Nat) (h : k < 256) : (tabTo i)[k]? = some (.int .u32 (if k < i then Crc.tab k else 0 : Nat)) := by
 unfold tabTo
 rw [List.getElem?_map, List.getElem?_range h]
 rfl
theorem tabTo_set (i : Nat) (h : i < 256) : (tabTo i).set i (.int .u32 (Crc.tab i)) = tabTo (i + 1) := by
 refine List.ext_getElem? fun k => ?_
 have hl : ∀ i, (tabTo i).length = 256 := fun i => by unfold tabTo; rw [List.length_map, List.length_range]
 rw [List.getElem?_set, hl]
 rcases Nat.lt_or_ge k 256 with hk | hk
 ·rw [tabTo_at _ _ hk, tabTo_at _ _ hk]
  by_cases e : i = k
  ·subst e
   rw [if_pos rfl, if_pos h, if_pos (by omega)]
  ·rw [if_neg e]
   by_cases c : k < i
   ·rw [if_pos c, if_pos (by omega)]
   ·rw [if_neg c, if_neg (by omega)]
 ·rw [if_neg (by omega), List.getElem?_eq_none (by rw [hl]; exact hk), List.getElem?_eq_none (by rw [hl]; exact hk)]
set_option maxRecDepth 100000 in
theorem table_any (w : World) :
  Calls Tryz.prog 115 #[] w fun e w' => ∃ g, e = .returned (.pointer (some ⟨g, 0, none⟩)) ∧ Blk w' g 235 (tabTo 256).toArray ∧ w.heap.size ≤ g ∧ Below w.heap.size w w' := by
 go_enter Tryz.func115, Tryz.ntmps115
 go_wp2_with fail
 have hB : Blk (w.alloc (.cells Tryz.zeroCells235 235)) w.heap.size 235 (tabTo 0).toArray := by
  rw [← zero181]
  exact Blk.new w _ _ rfl
 have hb0 := (Below.refl w.heap.size w).alloc (Nat.le_refl _) (.cells Tryz.zeroCells235 235)
 generalize w.alloc (.cells Tryz.zeroCells235 235) = w1 at *
 go_loopw [4] (fun i wr => ∃ j : Nat, j ≤ 256 ∧ i = .int .i64 j ∧ Blk wr w.heap.size 235 (tabTo j).toArray ∧ Below w.heap.size w wr) (fun i _ => 256 - (intOf i).toNat)
 case atStart => exact ⟨0, Nat.zero_le _, rfl, hB, hb0⟩
 case round =>
  obtain ⟨j, hj, rfl, hBj, hbj⟩ := hrel
  clear hB hb0
  by_cases hlt : j < 256
  ·have hjw : IntKind.u32.wrap (j : Int) = j := IntWalk.u32_in _ (by omega)
   go_wp2_with fail
   go_loopw [3, 9] (fun cv kv wx => ∃ k : Nat, k ≤ 8 ∧ kv = .int .i64 k ∧ cv = .int .u32 (Crc.bits8 j k) ∧ wx = wr) (fun _ kv _ => 8 - (intOf kv).toNat)
   case atStart => exact ⟨0, by omega, rfl, rfl, rfl⟩
   case round =>
    obtain ⟨k, hk, rfl, rfl, rfl⟩ := hrel
    by_cases hk8 : k < 8
    ·have hbt := tab_bit (Crc.bits8 j k) (Crc.bits8_lt (by omega) k)
     go_wp2_with fail
     go_roundw
     case rel =>
      exact ⟨k + 1, hk8, by go_num, rfl, trivial⟩
     case measure => simp [intOf]; omega
    ·have hk9 : k = 8 := by omega
     subst hk9
     obtain ⟨x, hx⟩ : ∃ x, x = Crc.bits8 j 8 := ⟨_, rfl⟩
     rw [← hx]
     have hcl : wr.cell? ⟨w.heap.size, j, none⟩ = some (.int .u32 0) := by
      rw [hBj.cell]
      have := tabTo_at j j hlt
      rw [if_neg (by omega)] at this
      simpa using this
     have hcf := hBj.free j
     have hset := hBj.set_ j (.int .u32 x)
     have hts := tabTo_set j hlt
     have HTS := Lib.hid hts
     have HX := Lib.hid hx
     clear hts hx
     go_wp2_with fail
     go_roundw
     case rel =>
      refine ⟨j + 1, hlt, by go_num, ?_, hbj.setCell (p := ⟨w.heap.size, j, none⟩) (Nat.le_refl _) _⟩
      rw [← HTS.out]
      have e : Crc.tab j = x := HX.out.symm
      rw [e]
      simpa using hset
     case measure => simp [intOf]; omega
  ·have hj6 : j = 256 := by omega
   subst hj6
   go_wp2_with fail
   go_ret
   exact ⟨w.heap.size, rfl, hBj, Nat.le_refl _, hbj⟩
set_option maxRecDepth 100000 in
set_option maxHeartbeats 1000000 in
theorem crc_any (s : ByteArray) (w : World) (hs : s.size ≤ 1099511627776) :
  Calls Tryz.prog 55 #[.string s] w fun e w' => e = .returned (.int .u32 (Crc.crc (lst s))) ∧ Below w.heap.size w w' := by
 suffices H : ∀ w : World, Calls Tryz.prog 80 #[.int .u32 0, .string s] w fun e w' => e = .returned (.int .u32 (Crc.crc (lst s))) ∧ Below w.heap.size w w' by
  go_enter Tryz.func55, Tryz.ntmps55
  go_wp2_with fail
  refine (H _).mono ?_
  rintro e w1 ⟨rfl, h1⟩
  go_wp2
  go_ret
  exact ⟨rfl, h1⟩
 intro w
 go_enter Tryz.func80, Tryz.ntmps80
 go_wp2_with fail
 refine (table_any _).mono ?_
 rintro e w1 ⟨g, rfl, hB, hg, hb1⟩
 have hgl := hB.lt
 go_wp2_with fail
 go_loopw [0, 12] (fun cv iv wr => ∃ j : Nat, j ≤ s.size ∧ iv = .int .i64 j ∧ cv = .int .u32 (Crc.run 4294967295 ((lst s).take j)) ∧ ∃ q, wr = w1.drewN q) (fun _ iv _ => s.size - (intOf iv).toNat)
 case atStart => exact ⟨0, Nat.zero_le _, rfl, by rw [show (0 : Int) = ((0 : Nat) : Int) from rfl, u32_max 0 (by omega)]; rfl, 0, rfl⟩
 case round =>
  obtain ⟨j, hj, rfl, rfl, q, rfl⟩ := hrel
  obtain ⟨x, hx⟩ : ∃ x, x = Crc.run 4294967295 ((lst s).take j) := ⟨_, rfl⟩
  rw [← hx]
  have hxl : x < 4294967296 := by rw [hx]; exact Crc.run_lt _ (by decide)
  have HX := Lib.hid hx
  clear hx
  by_cases hlt : j < s.size
  ·obtain ⟨y, hy⟩ : ∃ y : UInt8, s[j] = y := ⟨_, rfl⟩
   obtain ⟨k, hk⟩ : ∃ k, k = (x ^^^ y.toNat) % 256 := ⟨_, rfl⟩
   have hkx : bits .xor .u8 ((x : Int) % 256) (y.toNat : Int) = (k : Int) := by
    rw [show (x : Int) % 256 = ((x % 256 : Nat) : Int) by omega, u8_xor_nat _ _ (by omega) y.toNat_lt, ← Crc.low_xor, ← hk]
   have hkl : k < 256 := by omega
   have hcell : w1.cell? ⟨g, k, none⟩ = some (.int .u32 (Crc.tab k)) := by
    rw [hB.cell]
    have := tabTo_at 256 k hkl
    rw [if_pos hkl] at this
    simpa using this
   have hcell2 : (w1.drewN q).drew.cell? ⟨g, k, none⟩ = some (.int .u32 (Crc.tab k)) := hcell
   have hyl := y.toNat_lt
   have HK := Lib.hid hk
   clear hk
   go_wp2_with fail
   go_region
   go_wp2
   go_roundw
   case rel =>
    have h2 : (x : Int) / 256 = ((x / 256 : Nat) : Int) := by omega
    have h3 : bits .xor .u32 (Crc.tab k : Int) ((x : Int) / 256) = ((Crc.step x y : Nat) : Int) := by
     rw [h2, u32_xor_nat _ _ (Crc.tab_lt hkl) (by omega)]
     unfold Crc.step
     rw [← HK.out, Nat.shiftRight_eq_div_pow]
    refine ⟨j + 1, hlt, by go_num, ?_, q + 1, rfl⟩
    rw [h3, List.take_succ_eq_append_getElem (by rw [lst_length]; exact hlt), HX.out]
    unfold Crc.run
    rw [List.foldl_append, ← hy]
    rfl
   case measure => simp [intOf]; omega
  ·have hje : j = s.size := by omega
   have hm := u32_max x hxl
   have hR : x ^^^ 4294967295 = Crc.crc (lst s) := by rw [HX.out, hje, List.take_of_length_le (by rw [lst_length]; exact Nat.le_refl _)]; rfl
   have HR := Lib.hid hR
   clear hje hR
   go_wp2_with fail
   go_ret
   rw [← HR.out]
   exact ⟨rfl, below_drewN hb1 q⟩
end Go.Proofs.YtkegkelaffohjaaGreatDoor
namespace Go.Proofs.YtkegkelaffohjaaGreatDoor
open Go Go.RowKit
abbrev IsBd (B b : Nat) (l : List UInt8) (w : World) : Prop := Lib.IsBuilder 104 5 B b (bytes l) w
theorem isBd_below {B b : Nat} {l : List UInt8} {w w' : World} (h : IsBd B b l w) (hb : Below w.heap.size w w') : IsBd B b l w' := by
 have key : ∀ p, Lib.BuilderAt 104 5 B b p (bytes l) w → Lib.BuilderAt 104 5 B b p (bytes l) w' := by
  rintro p ⟨h1, v, h2, h3, h4⟩
  refine ⟨h1, v, ?_, ?_, h4⟩
  ·rw [hb.block b (Array.getElem?_eq_some_iff.1 h2).1]
   exact h2
  ·refine ⟨h3.1, ?_⟩
   rcases h3.2 with h5 | ⟨g, cap, cur, e, r1, r2, r3⟩
   ·exact .inl h5
   ·refine .inr ⟨g, cap, cur, e, r1, ?_, r3⟩
    rw [hb.block g (Array.getElem?_eq_some_iff.1 r2).1]
    exact r2
 rcases h with h | h
 ·exact .inl (key _ h)
 ·exact .inr (key _ h)
theorem pxBytes_snoc (l : List Px) (k : Nat) (h : k < l.length) : Pak.pxBytes (l.take (k + 1)) = Pak.pxBytes (l.take k) ++ [l[k].r, l[k].g, l[k].b, l[k].a] := by
 rw [List.take_succ_eq_append_getElem h]
 unfold Pak.pxBytes
 rw [List.flatMap_append]
 rfl
structure PbR (w : World) (l : List Px) (k : Nat) (v : Value) (wr : World) : Prop where
 own : Own wr w.heap.size 1 v (4 * k) (bytes (Pak.pxBytes (l.take k)))
 bel : Below w.heap.size w wr
end Go.Proofs.YtkegkelaffohjaaGreatDoor
/- png.Rows, Head, Unpack, Colors: the walks. Printed by mk.py. -/
namespace Go.Proofs.YtkegkelaffohjaaGreatDoor
open Go Go.RowKit
set_option maxRecDepth 100000 in
set_option maxHeartbeats 2000000 in
theorem prows_any (W H : Nat) (A : Option Addr) (n c : Nat) (l : List Px) (w : World) (hp : Reads w w.heap.size 4 A n (pxCells l)) (hl : l.length = H * W) (hW : 1 ≤ W ∧ W ≤ 256) (hH : H ≤ 256) :
  Calls Tryz.prog 41 #[.agg #[.int .i64 W, .int .i64 H, .slice A n c]] w fun e w' => ∃ z : ByteArray, e = .returned (.string z) ∧ lst z = Film.rowsOf W H l ∧ Below w.heap.size w w' := by
 obtain ⟨i0, hi, hz0, hz1, hz2⟩ := info_parts byteInfo
 obtain rfl := hp.pxLen
 have hn : l.length ≤ 65536 := by rw [hl]; exact Nat.mul_le_mul hH hW.2
 obtain ⟨gp, hgp⟩ : ∃ gp, gp = w.heap.size := ⟨_, rfl⟩
 obtain ⟨w1, hw1⟩ : ∃ w1, w1 = w.alloc (.cells #[.int .i64 W, .int .i64 H, .slice A l.length c] 44) := ⟨_, rfl⟩
 have B1 : Blk w1 gp 44 #[.int .i64 W, .int .i64 H, .slice A l.length c] := by rw [hw1]; exact Blk.new _ _ _ hgp
 have K1 : Below w.heap.size w w1 := by rw [hw1]; exact (Below.refl _ _).alloc (Nat.le_refl _) _
 have HP := Lib.hid (show Reads w1 w1.heap.size 4 A l.length (pxCells l) from (hp.below K1 (Nat.le_refl _)).more K1.size)
 have q0 : w1.cell? ⟨gp, 0, none⟩ = some (.int .i64 W) := by rw [B1.cell]; rfl
 have q2 : w1.cell? ⟨gp, 2, none⟩ = some (.slice A l.length c) := by rw [B1.cell]; rfl
 have HW1 := Lib.hid hw1
 have HGP := Lib.hid hgp
 have HL := Lib.hid hl
 have hgl := B1.lt
 clear hp hw1 hgp hl
 go_enter Tryz.func41, Tryz.ntmps41
 go_upto_region 1 with (fail)
 rw [← HW1.out, ← HGP.out]
 go_wp2_with fail
 go_loopw [3, 11] (fun v i wr => ∃ k : Nat, k ≤ l.length ∧ i = .int .i64 k ∧ PbR w1 l k v wr) (fun _ i _ => l.length - (intOf i).toNat)
 case atStart => exact ⟨0, Nat.zero_le _, rfl, ⟨Own.nil _ _ _, Below.refl _ _⟩⟩
 case round =>
  obtain ⟨k, hk, rfl, ho, hb⟩ := hrel
  obtain ⟨Av, cv, rfl, hc, _⟩ := ho.form
  by_cases hlt : k < l.length
  ·obtain ⟨gA, oA, rfl, _⟩ := HP.out.addr (by omega)
   obtain ⟨p0, p1, p2, p3⟩ := ((HP.out.below hb (Nat.le_refl _)).px k hlt)
   have hS := pxBytes_snoc l k hlt
   obtain ⟨q, hq⟩ : ∃ q, q = l[k] := ⟨_, rfl⟩
   rw [← hq] at p0 p1 p2 p3 hS
   obtain ⟨X, hX⟩ : ∃ X, X = Pak.pxBytes (l.take k) := ⟨_, rfl⟩
   obtain ⟨Y, hY⟩ : ∃ Y, Y = Pak.pxBytes (l.take (k + 1)) := ⟨_, rfl⟩
   rw [← hX] at ho hS
   rw [← hY] at hS
   have hNB : bytes X ++ [.int .u8 q.r.toNat, .int .u8 q.g.toNat, .int .u8 q.b.toNat, .int .u8 q.a.toNat] = bytes Y := by rw [hS, bytes_append]; rfl
   have HY := Lib.hid hY
   have HBW := Lib.hid hb
   have hz := hb.size
   have HNB := Lib.hid hNB
   have hl2 : l.length ≤ 65536 := hn
   clear hX hY hS hq hb hNB
   go_wp2_with (at_builtin; refine wpList_append_S rfl (.tmp 15) (.tmp 24) 102 102 rfl w1.heap.size 5 i0 (.int .u8 0) 1 1 Tryz.underlying102 hi hz0 hz1 hz2 rfl (by decide) (.slice Av (4 * k) cv) (4 * k) (bytes X) rfl ((ho.alloc _).alloc _) (bytes_one _) 4 [.int .u8 q.r.toNat, .int .u8 q.g.toNat, .int .u8 q.b.toNat, .int .u8 q.a.toNat] (Src.made Tryz.underlying102 (by first | rfl | simp) rfl (by intro v hv; simp only [List.mem_cons, List.not_mem_nil, or_false] at hv; rcases hv with rfl | rfl | rfl | rfl <;> rfl)) (4 * (k + 1)) (by omega) (bytes Y) HNB.out (by unfold maxLen; omega) (by omega) (by first | omega | (simp; done) | (simp; omega)) ?_; intro A9 c9 w9 ho9 hg9 ha9)
   go_roundw
   case rel =>
    refine ⟨k + 1, hlt, by go_num, by rw [← HY.out]; exact ho9, ?_⟩
    exact ((HBW.out.alloc hz _).alloc (Nat.le_trans hz (by simp)) _).grown hg9 (by simp; omega) fun x hx => (ho.lt x hx).1
   case measure => simp [intOf]; omega
  ·have e : k = l.length := by omega
   subst e
   rw [List.take_length] at ho
   obtain ⟨z, hz⟩ : ∃ z : ByteArray, z = ⟨(Pak.pxBytes l).toArray⟩ := ⟨_, rfl⟩
   have hcv := conv_reads wr Av (4 * l.length) cv wr.heap.size (Pak.pxBytes l) ho.reads.2
   rw [← hz] at hcv
   have hzl : lst z = Pak.pxBytes l := by rw [hz]
   have hzs : z.size = H * (4 * W) := by rw [← lst_length, hzl, Pak.pxBytes_length, HL.out, Nat.mul_left_comm]
   have hz3 : z.size ≤ 300000 := by rw [← lst_length, hzl, Pak.pxBytes_length]; omega
   have q0 : wr.cell? ⟨gp, 0, none⟩ = some (.int .i64 W) := bcell_ hb hgl q0
   have hwi : (4 : Int) * (W : Int) = ((4 * W : Nat) : Int) := by omega
   obtain ⟨V, hV⟩ : ∃ V, V = 4 * W := ⟨_, rfl⟩
   rw [← hV] at hwi hzs
   have hVw : IntKind.i64.wrap (V : Int) = V := IntWalk.i64_in _ (by omega)
   have HZL := Lib.hid hzl
   have HV := Lib.hid hV
   have HZS := Lib.hid hzs
   clear hz hzl hzs ho hV q2
   go_wp2_with fail
   refine (frows_any V 4 H z wr (by omega) (by omega) hz3 HZS.out).mono ?_
   rintro e w2 ⟨r, rfl, hr, hb2⟩
   have hb3 := K1.trans ((hb.trans (hb2.mono hb.size)).mono K1.size)
   clear hb2
   go_wp2_with fail
   go_ret
   refine ⟨r, rfl, ?_, hb3⟩
   rw [hr, HZL.out, HV.out]
   rfl
end Go.Proofs.YtkegkelaffohjaaGreatDoor
