/- bits.Writer: what stands of one in memory; one, Put, Text: the walks. Strings as lists of bytes: bytes turned into a string; layercakeref1.Byte, little, two, Low: the walks. Two bytes of whatever number; one byte: the walks. bits.Reader: NewReader, At, Left, Get: the walks. bits.Writer: Turned, Align, Bytes, Text; bits.Reader: Align, Bytes: the walks. deflate.stored: the walk. -/
import Derived.Test.YtkegkelaffohjaaGreatDoorKCFilmTwice0
import Derived.Test.YtkegkelaffohjaaGreatDoorKCFilmTwice5
import Derived.Test.YtkegkelaffohjaaGreatDoorProg
import Derived.WalkKit
import Derived.WalkLawsBesides
import Derived.WalkArith
import Derived.WalkSpells
import Derived.Handy
import Derived.KernelRfl
import Derived.BigRegion
import Derived.BigQuiet
import Derived.Deep.QuietTactic
import Derived.Lib.Hide
import Derived.LoopTactic
import Derived.Laws.BitsAllLaws
import Derived.Laws.IdiomStrings
import Derived.Laws.Concat
import Derived.Test.YtkegkelaffohjaaGreatDoorKCFilmTwice4
import Derived.Test.YtkegkelaffohjaaGreatDoorKCFilmTwice2
import Derived.Lib.Strings
import Derived.Deep.Cut
import Derived.Deep.DeepCutAuto
namespace Go.Proofs.YtkegkelaffohjaaGreatDoor
open Go Go.RowKit
def bytes (l : List UInt8) : List Value := l.map fun b => .int .u8 b.toNat
theorem bytes_length (l : List UInt8) : (bytes l).length = l.length := by simp [bytes]
theorem bytes_one (l : List UInt8) : ∀ u ∈ bytes l, u.oneCell' = true := by
 intro u hu
 obtain ⟨b, _, rfl⟩ := List.mem_map.1 hu
 rfl
theorem bytes_append (l m : List UInt8) : bytes (l ++ m) = bytes l ++ bytes m := by simp [bytes]
theorem bytes_at (l : List UInt8) (i : Nat) : (bytes l)[i]? = (l[i]?).map fun b => Value.int .u8 b.toNat := by simp [bytes]
theorem byteInfo : (Tryz.prog.info? 5).map (fun i => (i.zero, i.size, i.bytes)) = some (some (.int .u8 0), 1, 1) := by kernel_rfl
structure BW (w : World) (B g : Nat) (T : TypeId) (r : List Value) (v : Value) (bs : List Bool) : Prop where
 blk : Blk w g T (v :: .int .i64 bs.length :: r).toArray
 own : Own w B 1 v (Bit.pack bs).length (bytes (Bit.pack bs))
 ne : v.ownBlock ≠ some g
theorem fits_any (n k : Nat) (w : World) (hk : k ≤ 32) (hn : n < 2 ^ k) :
  Calls Tryz.prog 160 #[.int .u32 n, .int .i64 k] w fun e w' => e = .returned (.bool true) ∧ w' = w := by
 have h32 : (2 : Nat) ^ k ≤ 2 ^ 32 := Nat.pow_le_pow_right (by omega) hk
 have h1 : IntKind.u64.wrap (n : Int) = n := by
  have : (2 : Nat) ^ 32 = 4294967296 := rfl
  exact IntWalk.u64_in _ (by omega)
 have h2 : ((n : Int) / 2 ^ k == 0) = true := by
  have : n / 2 ^ k = 0 := Nat.div_eq_of_lt hn
  rw [beq_iff_eq]
  exact_mod_cast this
 go_enter Tryz.func160, Tryz.ntmps160
 go_wp2
 go_ret
 exact ⟨rfl, rfl⟩
theorem Own.cellAt {w : World} {base n c g off : Nat} {xs : List Value} (h : Own w base 1 (.slice (some ⟨g, off, none⟩) n c) n xs) (i : Nat) (hi : i < n) : w.cell? ⟨g, off + i, none⟩ = xs[i]? ∧ w.frozen? ⟨g, off + i, none⟩ = false := by
 refine ⟨h.reads.2.cell rfl i (by omega), ?_⟩
 have := h.there i hi
 have := (this 0 (by omega)).2
 simpa using this
theorem Own.setByte {w : World} {base n c g off : Nat} {l : List UInt8} (h : Own w base 1 (.slice (some ⟨g, off, none⟩) n c) n (bytes l)) (i : Nat) (hi : i < n) (b : UInt8) :
  Own (w.setCell ⟨g, off + i, none⟩ (.int .u8 b.toNat)) base 1 (.slice (some ⟨g, off, none⟩) n c) n (bytes (l.set i b)) := by
 have hl : l.length = n := by have := h.1; rw [bytes_length] at this; omega
 have := h.setOne i hi [.int .u8 b.toNat] (bytes (l.set i b)) rfl (by rw [bytes_length, List.length_set, hl]; omega) (fun j hj => by
  have : j = 0 := by omega
  subst this
  rw [bytes_at, List.getElem?_set]
  simp [hl, hi]) (fun j hj => by
  rw [bytes_at, bytes_at, List.getElem?_set]
  rw [if_neg (by omega)])
 simpa [World.setCells] using this
set_option maxHeartbeats 1000000 in
set_option maxRecDepth 100000 in
theorem one_any (B g : Nat) (T : TypeId) (r : List Value) (v : Value) (bs : List Bool) (b : Bool) (w : World) (h : BW w B g T r v bs) (hl : bs.length ≤ 1099511627776) (hB : B ≤ w.heap.size) :
  Calls Tryz.prog 161 #[.pointer (some ⟨g, 0, none⟩), .int .u32 b.toNat] w fun e w' => e = .returned (.tuple #[]) ∧ ∃ v', BW w' B g T r v' (bs ++ [b]) ∧ Fresh w v v' ∧ Keeps (fun x => x = g ∨ v.ownBlock = some x) w w' := by
 obtain ⟨hb, ho, hne⟩ := h
 obtain ⟨A, c, rfl, hc, hr⟩ := ho.form
 obtain ⟨i0, hi, hz0, hz1, hz2⟩ := info_parts byteInfo
 have hpl := Bit.pack_length bs
 have hlast := Bit.pack_last bs
 have hsmall := Bit.byteOf_small bs
 have h2k : 2 ^ (bs.length % 8) ≤ 128 := Nat.pow_le_pow_right (show 0 < 2 by omega) (show bs.length % 8 ≤ 7 by omega)
 have hmore : (if bs.length % 8 = 0 then Bit.pack bs ++ [0] else Bit.pack bs).set (bs.length / 8) (UInt8.ofNat (Bit.byteOf bs (bs.length / 8) + b.toNat * 2 ^ (bs.length % 8))) = Bit.pack (bs ++ [b]) := by
  by_cases h8 : bs.length % 8 = 0
  ·rw [if_pos h8, Bit.pack_new _ _ h8, List.set_append_right _ _ (by omega), h8, Bit.byteOf_beyond _ _ (by omega)]
   have : bs.length / 8 - (Bit.pack bs).length = 0 := by omega
   simp [this]
  ·rw [if_neg h8, Bit.pack_more _ _ h8]
 obtain ⟨V, hV⟩ : ∃ V, V = UInt8.ofNat (Bit.byteOf bs (bs.length / 8) + b.toNat * 2 ^ (bs.length % 8)) := ⟨_, rfl⟩
 have hval : bits .or .u8 (Bit.byteOf bs (bs.length / 8) : Int) ((b.toNat : Int) % 256 * 2 ^ (bs.length % 8) % 256) = (V.toNat : Int) := by
  have e1 : (b.toNat : Int) % 256 * 2 ^ (bs.length % 8) % 256 = ((b.toNat <<< (bs.length % 8) : Nat) : Int) := by
   rw [Nat.shiftLeft_eq]
   cases b
   ·simp
   ·have : (2 : Int) ^ (bs.length % 8) = ((2 ^ (bs.length % 8) : Nat) : Int) := by norm_cast
    simp only [Bool.toNat_true, Nat.one_mul, this]
    omega
  have e2 : b.toNat <<< (bs.length % 8) < 256 := by rw [Nat.shiftLeft_eq]; cases b <;> simp <;> omega
  have e3 : b.toNat * 2 ^ (bs.length % 8) ≤ 2 ^ (bs.length % 8) := by cases b <;> simp
  rw [e1, u8_or_nat _ _ (Bit.byteOf_lt _ _) e2, Bit.or_add _ _ _ hsmall, hV, UInt8.toNat_ofNat_of_lt' (by show _ < 256; omega)]
 rw [← hV] at hmore
 clear hV hsmall h2k
 obtain ⟨x, hx⟩ : ∃ x, x = Bit.byteOf bs (bs.length / 8) := ⟨_, rfl⟩
 have hxl : x ≤ 255 := by rw [hx]; exact Nat.le_of_lt_succ (Bit.byteOf_lt _ _)
 obtain ⟨m, hm⟩ : ∃ m, m = bs.length / 8 := ⟨_, rfl⟩
 rw [← hx] at hval
 rw [← hm] at hmore hx hlast
 rw [← hx] at hlast
 obtain ⟨n, hn⟩ : ∃ n, n = (Bit.pack bs).length := ⟨_, rfl⟩
 rw [← hn] at ho hne hc hr hb hpl ⊢
 have d0 : w.cell? ⟨g, 0, none⟩ = some (.slice A n c) := by rw [hb.cell]; simp
 have d1 : w.cell? ⟨g, 1, none⟩ = some (.int .i64 bs.length) := by rw [hb.cell]; simp
 have gl := hb.lt
 have f0 := hb.free 0
 have f1 := hb.free 1
 have HV := Lib.hid hval
 clear hval
 by_cases h8 : bs.length % 8 = 0
 ·have hz8 : ((bs.length : Int) % 8 == 0) = true := by rw [beq_iff_eq]; omega
  have hpB : n ≤ 137438953473 := by omega
  have nA : some g ≠ (Value.slice A n c).ownBlock := fun e => hne e.symm
  have hnm : n = m := by omega
  obtain ⟨X, hX⟩ : ∃ X, X = Bit.pack bs ++ [0] := ⟨_, rfl⟩
  rw [if_pos h8, ← hX] at hmore
  have hX1 : (bytes X)[m]? = some (.int .u8 x) := by
   rw [hX, bytes_append, List.getElem?_append_right (by rw [bytes_length]; omega), bytes_length, ← hn, hnm, Nat.sub_self, hx, Bit.byteOf_beyond _ _ (by omega)]
   rfl
  have HXe : bytes (Bit.pack bs) ++ [.int .u8 0] = bytes X := by rw [hX, bytes_append]; rfl
  subst hnm
  have HX := Lib.hid hX1
  have HXs := Lib.hid hmore
  have HN := Lib.hid hn
  clear hm hn hpl hX1 hmore hx hX h8 hlast
  go_enter Tryz.func161, Tryz.ntmps161
  go_wp2_with (at_builtin; refine wpList_append_S rfl (.tmp 14) (.tmp 15) 102 102 rfl B 5 i0 (.int .u8 0) 1 1 Tryz.underlying102 hi hz0 hz1 hz2 rfl (by decide) (.slice A n c) n (bytes (Bit.pack bs)) rfl (ho.alloc _) (bytes_one _) 1 [.int .u8 0] (Src.made Tryz.underlying102 (by first | rfl | simp) rfl (by intro u hu; cases List.mem_singleton.1 hu; rfl)) (n + 1) rfl (bytes X) HXe (by unfold maxLen; omega) (by omega) (by first | omega | (simp; done) | (simp; omega)) ?_; intro A' c' w4 hown4 hg4 hat4; have e1 : w4.cell? ⟨g, 1, none⟩ = some (.int .i64 bs.length) := (hg4.cell_far ⟨g, 1, none⟩ (by simp; omega) nA).trans ((World.cell?_alloc_lt w _ ⟨g, 1, none⟩ gl).trans d1); have e0 : w4.cell? ⟨g, 0, none⟩ = some (.slice A n c) := (hg4.cell_far ⟨g, 0, none⟩ (by simp; omega) nA).trans ((World.cell?_alloc_lt w _ ⟨g, 0, none⟩ gl).trans d0); have B4 : Blk w4 g T (.slice A n c :: .int .i64 bs.length :: r).toArray := (hb.alloc _).grown hg4 nA; have q0 := B4.free 0; have q1 := B4.free 1; obtain ⟨q, off, rfl, hBq, hqs⟩ := hown4.addr (Nat.succ_pos _))
  have Bt := B4.set_ 0 (.slice (some ⟨q, off, none⟩) (n + 1) c')
  have hfr : Fresh w (.slice A n c) (.slice (some ⟨q, off, none⟩) (n + 1) c') := fun y hy => by
   rcases hat4 with e | e <;> rw [e] at hy
   ·exact .inl hy
   ·have : w.heap.size + 1 = y := by simpa using hy
    exact .inr (by omega)
  have nq : g ≠ q := by
   rintro rfl
   rcases hfr g rfl with e | e
   ·exact hne e
   ·omega
  have Ot := hown4.setCell (p := ⟨g, 0, none⟩) (by intro e; injection e with e; exact nq e.symm) (.slice (some ⟨q, off, none⟩) (n + 1) c')
  have Kt : Keeps (fun y => y = g ∨ (Value.slice A n c).ownBlock = some y) w (w4.setCell ⟨g, 0, none⟩ (.slice (some ⟨q, off, none⟩) (n + 1) c')) :=
   Keeps.setCell (Keeps.grown ((Keeps.refl _ w).alloc (.cells #[.int .u8 0] 5)) hg4 (fun y hy _ => .inr hy)) (fun _ => .inl rfl) _
  have Bt' : Blk (w4.setCell ⟨g, 0, none⟩ (.slice (some ⟨q, off, none⟩) (n + 1) c')) g T (.slice (some ⟨q, off, none⟩) (n + 1) c' :: .int .i64 bs.length :: r).toArray := by
   have := Bt
   simpa using this
  generalize w4.setCell ⟨g, 0, none⟩ (.slice (some ⟨q, off, none⟩) (n + 1) c') = wt at *
  have t0 : wt.cell? ⟨g, 0, none⟩ = some (.slice (some ⟨q, off, none⟩) (n + 1) c') := by rw [Bt'.cell]; simp
  have t1 : wt.cell? ⟨g, 1, none⟩ = some (.int .i64 bs.length) := by rw [Bt'.cell]; simp
  have p1 := Bt'.free 1
  obtain ⟨tq, pq⟩ := Ot.cellAt n (by omega)
  rw [HX.out] at tq
  clear d0 d1 f0 f1 e0 e1 q0 q1 hg4 hat4 hown4 B4 hb ho hr Bt
  go_region
  go_wp2
  go_end0
  rw [HV.out]
  refine ⟨rfl, .slice (some ⟨q, off, none⟩) (n + 1) c', ⟨?_, ?_, ?_⟩, ?_, ?_⟩
  ·have := (Bt'.far (p := ⟨q, off + n, none⟩) nq (.int .u8 V.toNat)).set_ 1 (.int .i64 (bs.length + 1))
   have e : ((bs ++ [b]).length : Int) = bs.length + 1 := by simp
   rw [e]
   exact Blk.drew (by simpa using this)
  ·have := (Ot.setByte n (by omega) V).setCell (p := ⟨g, 1, none⟩) (by intro e; injection e with e; exact nq e.symm) (.int .i64 (bs.length + 1))
   rw [HXs.out] at this
   have hl : (Bit.pack (bs ++ [b])).length = n + 1 := by have := this.1; rw [bytes_length] at this; omega
   rw [hl]
   exact this
  ·intro e; injection e with e; exact nq e.symm
  ·exact hfr
  ·refine Keeps.drew (Keeps.setCell (Keeps.setCell Kt ?_ _) (fun _ => .inl rfl) _)
   intro hlt
   rcases hfr q rfl with e | e
   ·exact .inr e
   ·exact absurd hlt (by show ¬ q < _; omega)
 ·have hz8 : ((bs.length : Int) % 8 == 0) = false := by rw [beq_eq_false_iff_ne]; omega
  obtain ⟨q, off, rfl, hBq, hqs⟩ := ho.addr (by omega)
  have nq : g ≠ q := by rintro rfl; exact hne rfl
  rw [if_neg h8] at hmore
  have hnm : n = m + 1 := by omega
  subst hnm
  have hX1 : (bytes (Bit.pack bs))[m]? = some (.int .u8 x) := by
   rw [bytes_at, hlast h8, Option.map_some, UInt8.toNat_ofNat_of_lt' (by show _ < 256; omega)]
  obtain ⟨tq, pq⟩ := ho.cellAt m (by omega)
  rw [hX1] at tq
  have HXs := Lib.hid hmore
  have HN := Lib.hid hn
  have hpB : m ≤ 137438953473 := by omega
  clear hm hn hpl hX1 hmore hx h8 hlast
  go_enter Tryz.func161, Tryz.ntmps161
  go_wp2_with fail
  go_region
  go_wp2
  go_end0
  rw [HV.out]
  refine ⟨rfl, .slice (some ⟨q, off, none⟩) (m + 1) c, ⟨?_, ?_, ?_⟩, Fresh.refl _ _, ?_⟩
  ·have := (hb.far (p := ⟨q, off + m, none⟩) nq (.int .u8 V.toNat)).set_ 1 (.int .i64 (bs.length + 1))
   have e : ((bs ++ [b]).length : Int) = bs.length + 1 := by simp
   rw [e]
   exact Blk.drew (by simpa using this)
  ·have := (ho.setByte m (by omega) V).setCell (p := ⟨g, 1, none⟩) (by intro e; injection e with e; exact nq e.symm) (.int .i64 (bs.length + 1))
   rw [HXs.out] at this
   have hl : (Bit.pack (bs ++ [b])).length = m + 1 := by have := this.1; rw [bytes_length] at this; omega
   rw [hl]
   exact this
  ·exact hne
  ·exact Keeps.drew (Keeps.setCell (Keeps.setCell (Keeps.refl _ w) (fun _ => .inr rfl) _) (fun _ => .inl rfl) _)
def Wrote (w : World) (B g : Nat) (T : TypeId) (r : List Value) (v : Value) (bs : List Bool) (w' : World) : Prop :=
 ∃ v', BW w' B g T r v' bs ∧ Fresh w v v' ∧ Keeps (fun x => x = g ∨ v.ownBlock = some x) w w'
theorem Wrote.trans {w w1 w2 : World} {B g : Nat} {T : TypeId} {r : List Value} {v v1 : Value} {bs : List Bool} (hg : g < w.heap.size) (hv : Fresh w v v1) (hk : Keeps (fun x => x = g ∨ v.ownBlock = some x) w w1) (h : Wrote w1 B g T r v1 bs w2) : Wrote w B g T r v bs w2 := by
 obtain ⟨v2, h1, h2, h3⟩ := h
 refine ⟨v2, h1, fun y hy => ?_, hk.trans h3 fun y hy hs => ?_⟩
 ·rcases h2 y hy with e | e
  ·exact hv y e
  ·exact .inr (Nat.le_trans hk.size e)
 ·rcases hs with rfl | e
  ·exact .inl rfl
  ·rcases hv y e with e2 | e2
   ·exact .inr e2
   ·omega
structure PutR (w : World) (B g : Nat) (T : TypeId) (r : List Value) (v : Value) (bs : List Bool) (n i : Nat) (wr : World) : Prop where
 wrote : Wrote w B g T r v (bs ++ Bit.low n i) wr
theorem low_succ (n i : Nat) : Bit.low n (i + 1) = Bit.low n i ++ [n.testBit i] := by simp [Bit.low, List.range_succ]
set_option maxHeartbeats 1000000 in
set_option maxRecDepth 100000 in
theorem put_any (B g : Nat) (T : TypeId) (r : List Value) (v : Value) (bs : List Bool) (n k : Nat) (w : World) (h : BW w B g T r v bs) (hk : k ≤ 32) (hn : n < 2 ^ k) (hl : bs.length ≤ 549755813888) (hB : B ≤ w.heap.size) :
  Calls Tryz.prog 138 #[.pointer (some ⟨g, 0, none⟩), .int .u32 n, .int .i64 k] w fun e w' => e = .returned .nilIface ∧ Wrote w B g T r v (bs ++ Bit.low n k) w' := by
 have h32 : (2 : Nat) ^ k ≤ 2 ^ 32 := Nat.pow_le_pow_right (by omega) hk
 have hn32 : n < 4294967296 := by omega
 have gl := h.blk.lt
 go_enter Tryz.func138, Tryz.ntmps138
 go_wp2_with fail
 refine (fits_any n k _ hk hn).mono ?_
 rintro e w1 ⟨rfl, rfl⟩
 clear h32 hn
 go_wp2_with fail
 go_loopw [14] (fun i wr => ∃ j : Nat, j ≤ k ∧ i = .int .i64 j ∧ PutR w1 B g T r v bs n j wr) (fun i _ => k - (intOf i).toNat)
 case atStart => exact ⟨0, Nat.zero_le _, rfl, ⟨v, by simpa [Bit.low] using h, Fresh.refl _ _, Keeps.refl _ _⟩⟩
 case round =>
  obtain ⟨j, hj, rfl, ⟨v1, h1, hf1, hk1⟩⟩ := hrel
  by_cases hlt : j < k
  ·have hs1 := hk1.size
   have hb : bits .and .u32 ((n : Int) / 2 ^ j) 1 = ((n.testBit j).toNat : Int) := by
    have e1 : (n : Int) / 2 ^ j = ((n / 2 ^ j : Nat) : Int) := by norm_cast
    have e3 : n / 2 ^ j ≤ n := Nat.div_le_self _ _
    rw [e1, show (1 : Int) = ((1 : Nat) : Int) from rfl, u32_and_nat _ _ (by omega) (by omega), Nat.and_one_is_mod, Nat.testBit_eq_decide_div_mod_eq]
    have h2 := Nat.mod_two_eq_zero_or_one (n / 2 ^ j)
    rcases h2 with h | h <;> simp [h]
   have hlen : (bs ++ Bit.low n j).length ≤ 1099511627776 := by rw [List.length_append, Bit.low_length]; omega
   go_wp2_with fail
   refine (one_any B g T r v1 _ (n.testBit j) _ h1 hlen (by omega)).mono ?_
   rintro e w2 ⟨rfl, hw⟩
   go_wp2
   go_roundw
   case rel =>
    refine ⟨j + 1, by omega, by go_num, ⟨?_⟩⟩
    rw [low_succ, ← List.append_assoc]
    exact Wrote.trans gl hf1 hk1 hw
   case measure => simp [intOf]; omega
  ·go_wp2_with fail
   go_ret
   have : j = k := by omega
   subst this
   exact ⟨rfl, v1, h1, hf1, hk1⟩
end Go.Proofs.YtkegkelaffohjaaGreatDoor
namespace Go.Proofs.YtkegkelaffohjaaGreatDoor
open Go Go.RowKit
abbrev lst (s : ByteArray) : List UInt8 := s.data.toList
theorem lst_length (s : ByteArray) : (lst s).length = s.size := rfl
theorem lst_append (s t : ByteArray) : lst (s ++ t) = lst s ++ lst t := by simp
theorem lst_extract (s : ByteArray) (i j : Nat) : lst (s.extract i j) = ((lst s).drop i).take (j - i) := by
 show (s.extract i j).data.toList = _
 rw [ByteArray.data_extract, Array.toList_extract, List.extract_eq_take_drop]
theorem lst_inj {s t : ByteArray} (h : lst s = lst t) : s = t := by
 cases s; cases t
 simp only [lst] at h
 rw [Array.toList_inj.1 h]
theorem run_conv_bytes {P : Program} (w : World) (src dst e : TypeId) (A : Option Addr) (n c B : Nat) (l : List UInt8) (hs : P.underlying src = some (.slice e)) (he : P.underlying e = some (.int .u8)) (hd : P.underlying dst = some .string)
  (hr : Reads w B 1 A n (bytes l)) (hnil : (convert src dst (.slice none 0 c)).run P w = .ok (.string ⟨#[]⟩) w) : (convert src dst (.slice A n c)).run P w = .ok (.string ⟨l.toArray⟩) w := by
 have hl : l.length = n := by have := hr.1; rw [bytes_length] at this; omega
 rcases Nat.eq_zero_or_pos n with h0 | h0
 ·subst h0
  have : l = [] := List.eq_nil_of_length_eq_zero hl
  subst this
  cases A with
  | none => exact hnil
  | some a => exact run_convert_bytes_back w src dst e a c [] hs he hd (fun j hj => by simp at hj)
 ·obtain ⟨b, off, rfl, _⟩ := hr.addr (by omega)
  subst hl
  refine run_convert_bytes_back w src dst e ⟨b, off, none⟩ c l hs he hd (fun j hj => ?_)
  rw [add_lit, hr.cell rfl j (by omega), bytes_at, List.getElem?_eq_getElem hj]
  rfl
theorem conv_nil (w : World) (c : Nat) : (convert 102 9 (.slice none 0 c)).run Tryz.prog w = .ok (.string ⟨#[]⟩) w := by
 rw [run_convert_bytes_string w _ _ _ none 0 c Tryz.underlying102 Tryz.underlying5 Tryz.underlying9]
 rfl
theorem conv_reads (w : World) (A : Option Addr) (n c B : Nat) (l : List UInt8) (hr : Reads w B 1 A n (bytes l)) : (convert 102 9 (.slice A n c)).run Tryz.prog w = .ok (.string ⟨l.toArray⟩) w :=
 run_conv_bytes w _ _ _ A n c B l Tryz.underlying102 Tryz.underlying5 Tryz.underlying9 hr (conv_nil w c)
theorem conv_made (w : World) (l : List UInt8) (n : Nat) (cs : Array Value) (hn : l.length = n) (hc : cs = (bytes l).toArray) :
  (convert 102 9 (.slice (some ⟨w.heap.size, 0, none⟩) n n)).run Tryz.prog (w.alloc (.cells cs 5)) = .ok (.string ⟨l.toArray⟩) (w.alloc (.cells cs 5)) := by
 subst hn; subst hc
 refine run_convert_bytes_back _ _ _ _ _ _ l Tryz.underlying102 Tryz.underlying5 Tryz.underlying9 (fun j hj => ?_)
 have hB := Blk.new w 5 (bytes l).toArray rfl
 rw [add_lit, Nat.zero_add, hB.cell]
 simp [bytes, hj]
end Go.Proofs.YtkegkelaffohjaaGreatDoor
namespace Go.Proofs.YtkegkelaffohjaaGreatDoor
open Go Go.RowKit
theorem newReader_any (s : ByteArray) (w : World) :
  Calls Tryz.prog 117 #[.string s] w fun e w' => e = .returned (.pointer (some ⟨w.heap.size, 0, none⟩)) ∧ w' = w.alloc (.cells #[.string s, .int .i64 0] 237) := by
 go_enter Tryz.func117, Tryz.ntmps117
 go_wp2
 go_ret
 exact ⟨rfl, rfl⟩
theorem at_any (g : Nat) (s : ByteArray) (p : Nat) (w : World) (hb : Blk w g 237 #[.string s, .int .i64 p]) :
  Calls Tryz.prog 120 #[.pointer (some ⟨g, 0, none⟩)] w fun e w' => e = .returned (.int .i64 p) ∧ w' = w := by
 have d1 : w.cell? ⟨g, 1, none⟩ = some (.int .i64 p) := by rw [hb.cell]; rfl
 go_enter Tryz.func120, Tryz.ntmps120
 go_wp2
 go_ret
 exact ⟨rfl, rfl⟩
theorem left_any (g : Nat) (s : ByteArray) (p : Nat) (w : World) (hb : Blk w g 237 #[.string s, .int .i64 p]) (hs : s.size ≤ 1099511627776) (hp : p ≤ 8 * s.size) :
  Calls Tryz.prog 186 #[.pointer (some ⟨g, 0, none⟩)] w fun e w' => e = .returned (.int .i64 (8 * s.size - p : Nat)) ∧ ∃ q, w' = w.drewN q := by
 have d0 : w.cell? ⟨g, 0, none⟩ = some (.string s) := by rw [hb.cell]; rfl
 have d1 : w.cell? ⟨g, 1, none⟩ = some (.int .i64 p) := by rw [hb.cell]; rfl
 have h1 : IntKind.i64.wrap (8 * (s.size : Int)) = 8 * s.size := IntWalk.i64_in _ (by omega)
 have h2 : IntKind.i64.wrap (8 * (s.size : Int) - p) = 8 * s.size - p := IntWalk.i64_in _ (by omega)
 have h3 : ((8 * s.size - p : Nat) : Int) = 8 * s.size - p := by omega
 rw [h3]
 clear h3
 go_enter Tryz.func186, Tryz.ntmps186
 go_wp2
 go_quiet (fail)
 go_wp2
 go_ret
 exact ⟨rfl, _, rfl⟩
structure GetR (w : World) (g : Nat) (s : ByteArray) (p j : Nat) (wr : World) : Prop where
 blk : Blk wr g 237 #[.string s, .int .i64 (p + j : Nat)]
 keeps : Keeps (fun x => x = g) w wr
set_option maxHeartbeats 2000000 in
set_option maxRecDepth 100000 in
theorem get_any (g : Nat) (s : ByteArray) (p k : Nat) (w : World) (hb : Blk w g 237 #[.string s, .int .i64 p]) (hs : s.size ≤ 1099511627776) (hp : p + k ≤ 8 * s.size) (hk : k ≤ 32) :
  Calls Tryz.prog 174 #[.pointer (some ⟨g, 0, none⟩), .int .i64 k] w fun e w' => e = .returned (.tuple #[.int .u32 (Bit.val (((Bit.bits (lst s)).drop p).take k)), .nilIface]) ∧ GetR w g s p k w' := by
 have hlt : ¬ ((8 * s.size - p : Nat) : Int) < k := by omega
 go_enter Tryz.func174, Tryz.ntmps174
 go_wp2_with fail
 refine (left_any g s p _ hb hs (by omega)).mono ?_
 rintro e w1 ⟨rfl, q, rfl⟩
 have hb1 := hb.drewN q
 obtain ⟨l, hl⟩ : ∃ l : Nat, l = 8 * s.size - p := ⟨_, rfl⟩
 rw [← hl] at hlt ⊢
 clear hl
 have hlt2 : ¬ l < k := by omega
 obtain ⟨w1, hw1⟩ : ∃ w1, w1 = w.drewN q := ⟨_, rfl⟩
 rw [← hw1] at hb1 ⊢
 have K1 : Keeps (fun x => x = g) w w1 := by rw [hw1]; exact (Keeps.refl _ w).drewN q
 clear hw1
 go_wp2_with fail
 go_loopw [6, 21] (fun v i wr => ∃ j : Nat, j ≤ k ∧ i = .int .i64 j ∧ v = .int .u32 (Bit.val (((Bit.bits (lst s)).drop p).take j)) ∧ GetR w g s p j wr) (fun _ i _ => k - (intOf i).toNat)
 case atStart => exact ⟨0, Nat.zero_le _, rfl, by simp [Bit.val], hb1, K1⟩
 case round =>
  obtain ⟨j, hj, rfl, rfl, ⟨hbr, hkr⟩⟩ := hrel
  by_cases hjk : j < k
  ·have e0 : wr.cell? ⟨g, 0, none⟩ = some (.string s) := by rw [hbr.cell]; rfl
   have e1 : wr.cell? ⟨g, 1, none⟩ = some (.int .i64 (p + j : Nat)) := by rw [hbr.cell]; rfl
   have f1 := hbr.free 1
   obtain ⟨x, hx⟩ : ∃ x, x = Bit.val (((Bit.bits (lst s)).drop p).take j) := ⟨_, rfl⟩
   rw [← hx]
   obtain ⟨a, ha⟩ : ∃ a, a = p + j := ⟨_, rfl⟩
   rw [← ha] at e1
   have hal : a / 8 < s.size := by omega
   have ha8 : a ≤ 8796093022208 := by omega
   have HX := Lib.hid hx
   have HA := Lib.hid ha
   clear hx ha
   obtain ⟨b, hb8⟩ : ∃ b : Nat, b = a / 8 := ⟨_, rfl⟩
   obtain ⟨r, hr8⟩ : ∃ r : Nat, r = a % 8 := ⟨_, rfl⟩
   have hq : (a : Int) / 8 = b := by omega
   have hr : (a : Int) % 8 = r := by omega
   have hr7 : r ≤ 7 := by omega
   have hbs : b < s.size := by omega
   have HB8 := Lib.hid hb8
   have HR8 := Lib.hid hr8
   clear hb8 hr8 hal
   obtain ⟨y, hy⟩ : ∃ y : Nat, s[b].toNat = y := ⟨_, rfl⟩
   have hy255 : y < 256 := by rw [← hy]; exact s[b].toNat_lt
   have hband : bits .and .u8 ((y : Int) / 2 ^ r) 1 = ((y.testBit r).toNat : Int) := by
    have e1 : (y : Int) / 2 ^ r = ((y / 2 ^ r : Nat) : Int) := by norm_cast
    have e3 : y / 2 ^ r ≤ y := Nat.div_le_self _ _
    rw [e1, show (1 : Int) = ((1 : Nat) : Int) from rfl, u8_and_nat _ _ (by omega) (by omega), Nat.and_one_is_mod, Nat.testBit_eq_decide_div_mod_eq]
    have h2 := Nat.mod_two_eq_zero_or_one (y / 2 ^ r)
    rcases h2 with h | h <;> simp [h]
   go_wp2_with fail
   go_region
   go_wp2
   go_roundw
   case rel =>
    have hbit : (Bit.bits (lst s))[p + j]'(by rw [Bit.bits_length, lst_length]; omega) = y.testBit r := by
     have h1 := Bit.bits_at (lst s) a (by have := HA.out; rw [lst_length]; omega)
     rw [← HB8.out, ← HR8.out, List.getElem?_eq_getElem (l := lst s) (i := b) (by rw [lst_length]; exact hbs)] at h1
     have h2 : (Bit.bits (lst s))[p + j]? = some (y.testBit r) := by rw [← HA.out, h1, ← hy]; rfl
     exact (List.getElem?_eq_some_iff.1 h2).2
    have hmore := Bit.val_more (Bit.bits (lst s)) p j (by rw [Bit.bits_length, lst_length]; omega)
    rw [hbit, ← HX.out] at hmore
    have hxl : x < 2 ^ j := by
     have h1 := Bit.val_lt (((Bit.bits (lst s)).drop p).take j)
     rw [← HX.out, List.length_take, List.length_drop, Bit.bits_length, lst_length, Nat.min_eq_left (by omega)] at h1
     exact h1
    have h2j : (2 : Nat) ^ j ≤ 2 ^ 31 := Nat.pow_le_pow_right (by omega) (by omega)
    have hor : bits .or .u32 (x : Int) (((y.testBit r).toNat : Int) % 4294967296 * 2 ^ j % 4294967296) = ((x ||| ((y.testBit r).toNat <<< j) : Nat) : Int) := by
     have e1 : ((y.testBit r).toNat : Int) % 4294967296 * 2 ^ j % 4294967296 = (((y.testBit r).toNat <<< j : Nat) : Int) := by
      rw [Nat.shiftLeft_eq]
      have : (2 : Int) ^ j = ((2 ^ j : Nat) : Int) := (Int.natCast_pow 2 j).symm
      cases y.testBit r
      ·simp
      ·simp only [Bool.toNat_true, Nat.one_mul, this]
       omega
     have e2 : (y.testBit r).toNat <<< j < 4294967296 := by rw [Nat.shiftLeft_eq]; cases y.testBit r <;> simp <;> omega
     rw [e1, u32_or_nat _ _ (by omega) e2]
    rw [hor, ← hmore]
    refine ⟨j + 1, by omega, by go_num, rfl, ⟨?_, ?_⟩⟩
    ·have := (hbr.set_ 1 (.int .i64 (a + 1))).drew
     have e : ((p + (j + 1) : Nat) : Int) = a + 1 := by have := HA.out; omega
     rw [e]
     exact this
    ·exact (hkr.setCell (p := ⟨g, 1, none⟩) (fun _ => rfl) _).drew
   case measure => simp [intOf]; omega
  ·go_wp2_with fail
   have : j = k := by omega
   subst this
   go_ret2
   exact ⟨rfl, hbr, hkr⟩
theorem get_none (g : Nat) (s : ByteArray) (p k : Nat) (E : Nat → Addr) (w : World) (hE : Er4 w E) (hb : Blk w g 237 #[.string s, .int .i64 p]) (hs : s.size ≤ 1099511627776) (hps : p ≤ 8 * s.size) (hp : 8 * s.size < p + k) (hk : k ≤ 32) :
  Calls Tryz.prog 174 #[.pointer (some ⟨g, 0, none⟩), .int .i64 k] w fun e w' => e = .returned (.tuple #[.int .u32 0, errV (E 0)]) ∧ ∃ q, w' = w.drewN q := by
 have hx := hE.text
 have hlt : ((8 * s.size - p : Nat) : Int) < k := by omega
 have hlt2 : 8 * s.size - p < k := by omega
 obtain ⟨l, hl⟩ : ∃ l : Nat, l = 8 * s.size - p := ⟨_, rfl⟩
 rw [← hl] at hlt hlt2
 have HL := Lib.hid hl
 clear hl
 go_enter Tryz.func174, Tryz.ntmps174
 go_wp2_with fail
 refine (left_any g s p _ hb hs hps).mono ?_
 rintro e w1 ⟨rfl, q, rfl⟩
 rw [← HL.out]
 go_wp2_with fail
 go_quiet (fail)
 go_wp2
 go_ret2
 exact ⟨rfl, q + nq, World.drewN_drewN _ _ _⟩
end Go.Proofs.YtkegkelaffohjaaGreatDoor
namespace Go.Proofs.YtkegkelaffohjaaGreatDoor
open Go Go.RowKit
theorem wtext_any (B g : Nat) (T : TypeId) (r : List Value) (v : Value) (bs : List Bool) (w : World) (h : BW w B g T r v bs) :
  Calls Tryz.prog 141 #[.pointer (some ⟨g, 0, none⟩)] w fun e w' => e = .returned (.string ⟨(Bit.pack bs).toArray⟩) ∧ w' = w := by
 obtain ⟨A, c, rfl, hc, hr⟩ := h.own.form
 have d0 : w.cell? ⟨g, 0, none⟩ = some (.slice A (Bit.pack bs).length c) := by rw [h.blk.cell]; simp
 have hcv := conv_reads w A (Bit.pack bs).length c _ _ hr
 go_enter Tryz.func141, Tryz.ntmps141
 go_wp2_with fail
 go_ret
 exact ⟨rfl, rfl⟩
structure TurnedR (w : World) (B g : Nat) (T : TypeId) (r : List Value) (v : Value) (bs : List Bool) (n k i : Nat) (wr : World) : Prop where
 wrote : Wrote w B g T r v (bs ++ (Huf.high n k).take i) wr
theorem high_drop (n : Nat) : ∀ (k i : Nat), i ≤ k → (Huf.high n k).drop i = Huf.high n (k - i)
 | k, 0, _ => rfl
 | 0, i + 1, h => absurd h (by omega)
 | k + 1, i + 1, h => by
  rw [Huf.high, List.drop_succ_cons, high_drop n k i (by omega), show k + 1 - (i + 1) = k - i by omega]
theorem high_take (n k i : Nat) (h : i < k) : (Huf.high n k).take (i + 1) = (Huf.high n k).take i ++ [n.testBit (k - 1 - i)] := by
 have hl : i < (Huf.high n k).length := by rw [Huf.high_length]; exact h
 rw [List.take_succ_eq_append_getElem hl]
 congr 2
 have h1 := high_drop n k i (by omega)
 rw [List.drop_eq_getElem_cons hl, show k - i = (k - 1 - i) + 1 by omega, Huf.high] at h1
 injection h1 with h1 _
set_option maxHeartbeats 1000000 in
set_option maxRecDepth 100000 in
theorem turned_any (B g : Nat) (T : TypeId) (r : List Value) (v : Value) (bs : List Bool) (n k : Nat) (w : World) (h : BW w B g T r v bs) (hk : k ≤ 32) (hn : n < 2 ^ k) (hl : bs.length ≤ 549755813888) (hB : B ≤ w.heap.size) :
  Calls Tryz.prog 148 #[.pointer (some ⟨g, 0, none⟩), .int .u32 n, .int .i64 k] w fun e w' => e = .returned .nilIface ∧ Wrote w B g T r v (bs ++ Huf.high n k) w' := by
 have h32 : (2 : Nat) ^ k ≤ 2 ^ 32 := Nat.pow_le_pow_right (by omega) hk
 have hn32 : n < 4294967296 := by omega
 have gl := h.blk.lt
 go_enter Tryz.func148, Tryz.ntmps148
 go_wp2_with fail
 refine (fits_any n k _ hk hn).mono ?_
 rintro e w1 ⟨rfl, rfl⟩
 clear h32 hn
 go_wp2_with fail
 go_loopw [7] (fun i wr => ∃ j : Nat, j ≤ k ∧ i = .int .i64 ((k : Int) - 1 - j) ∧ TurnedR w1 B g T r v bs n k j wr) (fun i _ => (intOf i + 1).toNat)
 case atStart => exact ⟨0, Nat.zero_le _, by go_num, ⟨v, by simpa using h, Fresh.refl _ _, Keeps.refl _ _⟩⟩
 case round =>
  obtain ⟨j, hj, rfl, ⟨v1, h1, hf1, hk1⟩⟩ := hrel
  by_cases hlt : j < k
  ·have hs1 := hk1.size
   obtain ⟨q, hq⟩ : ∃ q : Nat, q = k - 1 - j := ⟨_, rfl⟩
   have hqe : (k : Int) - 1 - j = (q : Int) := by omega
   have htake := high_take n k j hlt
   rw [← hq] at htake
   rw [hqe]
   have HQ := Lib.hid hq
   have HT := Lib.hid htake
   have HQE := Lib.hid hqe
   have hq32 : q < 32 := by omega
   have hb : bits .and .u32 ((n : Int) / 2 ^ q) 1 = ((n.testBit q).toNat : Int) := by
    have e1 : (n : Int) / 2 ^ q = ((n / 2 ^ q : Nat) : Int) := by norm_cast
    have e3 : n / 2 ^ q ≤ n := Nat.div_le_self _ _
    rw [e1, show (1 : Int) = ((1 : Nat) : Int) from rfl, u32_and_nat _ _ (by omega) (by omega), Nat.and_one_is_mod, Nat.testBit_eq_decide_div_mod_eq]
    have h2 := Nat.mod_two_eq_zero_or_one (n / 2 ^ q)
    rcases h2 with h | h <;> simp [h]
   have hlen : (bs ++ (Huf.high n k).take j).length ≤ 1099511627776 := by rw [List.length_append, List.length_take, Huf.high_length]; omega
   clear hq htake hqe
   go_wp2_with fail
   refine (one_any B g T r v1 _ (n.testBit q) _ h1 hlen (by omega)).mono ?_
   rintro e w2 ⟨rfl, hw⟩
   go_wp2
   go_roundw
   case rel =>
    refine ⟨j + 1, by omega, ?_, ⟨?_⟩⟩
    ·have := HQE.out
     rw [show (k : Int) - 1 - ((j + 1 : Nat) : Int) = (q : Int) - 1 by omega]
    ·rw [HT.out, ← List.append_assoc]
     exact Wrote.trans gl hf1 hk1 hw
   case measure => simp [intOf]
  ·have hjk : j = k := by omega
   subst hjk
   have hneg : (j : Int) - 1 - j = -1 := by omega
   rw [hneg]
   rw [List.take_of_length_le (by rw [Huf.high_length]; exact Nat.le_refl _)] at h1
   go_wp2_with fail
   go_ret
   exact ⟨rfl, v1, h1, hf1, hk1⟩
theorem align_pack (bs : List Bool) : Bit.pack (Inf.align bs) = Bit.pack bs ∧ (Inf.align bs).length = 8 * (Bit.pack bs).length := by
 have hl : (Inf.align bs).length = 8 * ((bs.length + 7) / 8) := by unfold Inf.align; rw [List.length_append, List.length_replicate]; omega
 refine ⟨?_, by rw [hl, Bit.pack_length]⟩
 have : Inf.align bs = Bit.bits (Bit.pack bs) := (Bit.bits_pack bs).symm
 rw [this, Inf.pack_bits]
theorem walign_any (B g : Nat) (T : TypeId) (r : List Value) (v : Value) (bs : List Bool) (w : World) (h : BW w B g T r v bs) (hl : bs.length ≤ 549755813888) :
  Calls Tryz.prog 139 #[.pointer (some ⟨g, 0, none⟩)] w fun e w' => e = .returned (.tuple #[]) ∧ BW w' B g T r v (Inf.align bs) ∧ Keeps (fun x => x = g) w w' := by
 obtain ⟨hb, ho, hne⟩ := h
 obtain ⟨A, c, rfl, hc, hr⟩ := ho.form
 obtain ⟨e1, e2⟩ := align_pack bs
 have hpl := Bit.pack_length bs
 have d0 : w.cell? ⟨g, 0, none⟩ = some (.slice A (Bit.pack bs).length c) := by rw [hb.cell]; simp
 have d1 : w.cell? ⟨g, 1, none⟩ = some (.int .i64 bs.length) := by rw [hb.cell]; simp
 have f1 := hb.free 1
 obtain ⟨n, hn⟩ : ∃ n, n = (Bit.pack bs).length := ⟨_, rfl⟩
 have E1 := Lib.hid e1
 have E2 := Lib.hid e2
 have HN := Lib.hid hn
 rw [← hn] at d0
 have hn2 : n ≤ 100000000000 := by omega
 clear e1 e2 hn hpl
 go_enter Tryz.func139, Tryz.ntmps139
 go_wp2
 go_end0
 refine ⟨rfl, ⟨?_, ?_, ?_⟩, Keeps.setCell (S := fun x => x = g) (p := ⟨g, 1, none⟩) (Keeps.refl _ w) (fun _ => rfl) _⟩
 ·have := hb.set_ 1 (.int .i64 (8 * n))
  rw [E2.out, ← HN.out]
  have e : ((8 * n : Nat) : Int) = 8 * n := by omega
  rw [e, HN.out]
  rw [HN.out] at this
  simpa using this
 ·rw [E1.out]
  exact ho.setCell (p := ⟨g, 1, none⟩) (fun e => hne e) _
 ·exact hne
theorem bits_append (a b : List UInt8) : Bit.bits (a ++ b) = Bit.bits a ++ Bit.bits b := by
 have h : Bit.pack (Bit.bits a ++ Bit.bits b) = a ++ b := by
  refine List.ext_getElem (by rw [Bit.pack_length, List.length_append, Bit.bits_length, Bit.bits_length, List.length_append]; omega) fun j h1 h2 => ?_
  rw [Bit.pack_get]
  rw [List.length_append] at h2
  have e : Bit.byteOf (Bit.bits a ++ Bit.bits b) j = if j < a.length then Bit.byteOf (Bit.bits a) j else Bit.byteOf (Bit.bits b) (j - a.length) := by
   unfold Bit.byteOf
   split
   ·rename_i hj
    rw [List.drop_append_of_le_length (by rw [Bit.bits_length]; omega), List.take_append_of_le_length (by rw [List.length_drop, Bit.bits_length]; omega)]
   ·rename_i hj
    rw [List.drop_append, List.drop_of_length_le (by rw [Bit.bits_length]; omega), List.nil_append, Bit.bits_length, show 8 * j - 8 * a.length = 8 * (j - a.length) by omega]
  rw [e]
  by_cases hj : j < a.length
  ·rw [if_pos hj, List.getElem_append_left hj]
   have h3 := Inf.pack_bits a
   have h4 : j < (Bit.pack (Bit.bits a)).length := by rw [h3]; exact hj
   have := Bit.pack_get (Bit.bits a) j h4
   rw [← this]
   simp only [h3]
  ·rw [if_neg hj, List.getElem_append_right (by omega)]
   have h3 := Inf.pack_bits b
   have h4 : j - a.length < (Bit.pack (Bit.bits b)).length := by rw [h3]; omega
   have := Bit.pack_get (Bit.bits b) (j - a.length) h4
   rw [← this]
   simp only [h3]
 rw [← h, Bit.bits_pack]
 have : 8 * (((Bit.bits a ++ Bit.bits b).length + 7) / 8) - (Bit.bits a ++ Bit.bits b).length = 0 := by rw [List.length_append, Bit.bits_length, Bit.bits_length]; omega
 rw [this]
 simp
theorem pack_bytes (bs : List Bool) (s : List UInt8) : Bit.pack (Inf.align bs ++ Bit.bits s) = Bit.pack bs ++ s := by
 have : Inf.align bs = Bit.bits (Bit.pack bs) := (Bit.bits_pack bs).symm
 rw [this, ← bits_append, Inf.pack_bits]
set_option maxHeartbeats 1000000 in
set_option maxRecDepth 100000 in
theorem wbytes_any (B g : Nat) (T : TypeId) (r : List Value) (v : Value) (bs : List Bool) (s : ByteArray) (w : World) (h : BW w B g T r v bs) (hl : bs.length ≤ 549755813888) (hs : s.size ≤ 1073741824) (hB : B ≤ w.heap.size) :
  Calls Tryz.prog 140 #[.pointer (some ⟨g, 0, none⟩), .string s] w fun e w' => e = .returned (.tuple #[]) ∧ Wrote w B g T r v (Inf.align bs ++ Bit.bits (lst s)) w' := by
 obtain ⟨i0, hi, hz0, hz1, hz2⟩ := info_parts byteInfo
 go_enter Tryz.func140, Tryz.ntmps140
 go_wp2_with fail
 refine (walign_any B g T r v bs _ h hl).mono ?_
 rintro e w1 ⟨rfl, ⟨hb, ho, hne⟩, hk1⟩
 obtain ⟨A, c, rfl, hc, hr⟩ := ho.form
 obtain ⟨e1, e2⟩ := align_pack bs
 have hpl := Bit.pack_length bs
 have hsz := hk1.size
 have gl := hb.lt
 rw [e1] at ho hb hc hr
 obtain ⟨X, hX⟩ : ∃ X, X = Bit.pack bs := ⟨_, rfl⟩
 rw [← hX] at ho hb hc hr hpl e2
 have d0 : w1.cell? ⟨g, 0, none⟩ = some (.slice A X.length c) := by rw [hb.cell]; simp
 obtain ⟨n, hn⟩ : ∃ n, n = X.length := ⟨_, rfl⟩
 rw [← hn] at d0 ho hb hc hr
 have hn2 : n ≤ 100000000000 := by omega
 have nA : some g ≠ (Value.slice A n c).ownBlock := fun e => hne (by rw [e1, ← hX, ← hn]; exact e.symm)
 have HE1 := Lib.hid e1
 have HX := Lib.hid hX
 have HN := Lib.hid hn
 have HE2 := Lib.hid e2
 have HNE := Lib.hid hne
 clear e1 e2 hX hn hpl hne h
 go_wp2_with (at_builtin; refine wpList_append_S rfl (.tmp 10) (.tmp 11) 102 9 rfl B 5 i0 (.int .u8 0) 1 1 Tryz.underlying102 hi hz0 hz1 hz2 rfl (by decide) (.slice A n c) n (bytes X) rfl ho (bytes_one _) s.size (byteCells s) (Src.ofString _ Tryz.underlying9 _) (n + s.size) rfl (bytes (X ++ lst s)) (by rw [bytes_append]; rfl) (by unfold maxLen; omega) (by omega) (by first | omega | (simp; done) | (simp; omega)) ?_; intro A' c' w4 hown4 hg4 hat4; have B4 : Blk w4 g T (.slice A n c :: .int .i64 (Inf.align bs).length :: r).toArray := hb.grown hg4 nA; have q0 := B4.free 0; have q1 := B4.free 1; have e0 : w4.cell? ⟨g, 0, none⟩ = some (.slice A n c) := (by rw [B4.cell]; simp); have t0 : (w4.setCell ⟨g, 0, none⟩ (.slice A' (n + s.size) c')).cell? ⟨g, 0, none⟩ = some (.slice A' (n + s.size) c') := (by rw [(B4.set_ 0 _).cell]; simp); have t1 : (w4.setCell ⟨g, 0, none⟩ (.slice A' (n + s.size) c')).cell? ⟨g, 1, none⟩ = some (.int .i64 (Inf.align bs).length) := (by rw [(B4.set_ 0 _).cell]; simp); have p1 : (w4.setCell ⟨g, 0, none⟩ (.slice A' (n + s.size) c')).frozen? ⟨g, 1, none⟩ = false := (B4.set_ 0 _).free 1)
 obtain ⟨q, hq⟩ : ∃ q, q = (Value.slice A' (n + s.size) c').ownBlock := ⟨_, rfl⟩
 have hfr : Fresh w1 (.slice A n c) (.slice A' (n + s.size) c') := fun y hy => by
  rcases hat4 with e | e <;> rw [e] at hy
  ·exact .inl hy
  ·have : w1.heap.size = y := by simpa using hy
   exact .inr (by omega)
 have nq : (Value.slice A' (n + s.size) c').ownBlock ≠ some g := by
  intro e
  rcases hfr g e with e2 | e2
  ·exact nA e2.symm
  ·omega
 have Bt := B4.set_ 0 (.slice A' (n + s.size) c')
 have Ot := hown4.setCell (p := ⟨g, 0, none⟩) (fun e => nq e) (.slice A' (n + s.size) c')
 have Kt : Keeps (fun y => y = g ∨ (Value.slice A n c).ownBlock = some y) w1 (w4.setCell ⟨g, 0, none⟩ (.slice A' (n + s.size) c')) :=
  Keeps.setCell (Keeps.grown (Keeps.refl _ w1) hg4 (fun y hy _ => .inr hy)) (fun _ => .inl rfl) _
 have Bt' : Blk (w4.setCell ⟨g, 0, none⟩ (.slice A' (n + s.size) c')) g T (.slice A' (n + s.size) c' :: .int .i64 (Inf.align bs).length :: r).toArray := by
  have := Bt
  simpa using this
 go_end0
 have hpk : Bit.pack (Inf.align bs ++ Bit.bits (lst s)) = X ++ lst s := by rw [pack_bytes, HX.out]
 have hpn : (X ++ lst s).length = n + s.size := by rw [List.length_append, lst_length, ← HN.out]
 refine ⟨rfl, .slice A' (n + s.size) c', ⟨?_, ?_, nq⟩, ?_, ?_⟩
 ·have := Bt'.set_ 1 (.int .i64 (8 * (n + s.size)))
  have e : ((Inf.align bs ++ Bit.bits (lst s)).length : Int) = 8 * (n + s.size) := by
   have h1 := HE2.out
   have h2 := HN.out
   rw [List.length_append, Bit.bits_length, lst_length]
   omega
  rw [e]
  simpa using this
 ·rw [hpk, hpn]
  exact Ot.setCell (p := ⟨g, 1, none⟩) (fun e => nq e) _
 ·intro y hy
  rcases hfr y hy with e | e
  ·exact .inl (by rw [HE1.out, ← HX.out, ← HN.out]; exact e)
  ·exact .inr (Nat.le_trans hsz e)
 ·have hk2 : Keeps (fun y => y = g ∨ (Value.slice A n c).ownBlock = some y) w1 _ := Keeps.setCell (S := fun y => y = g ∨ (Value.slice A n c).ownBlock = some y) (p := ⟨g, 1, none⟩) Kt (fun _ => .inl rfl) (.int .i64 (8 * (n + s.size)))
  rw [HE1.out, ← HX.out, ← HN.out]
  exact Keeps.trans (hk1.mono fun x _ hx => .inl hx) hk2 fun y _ h => h
end Go.Proofs.YtkegkelaffohjaaGreatDoor
namespace Go.Proofs.YtkegkelaffohjaaGreatDoor
open Go Go.RowKit
theorem xor_16 (n : Nat) (h : n < 65536) : n ^^^ 65535 = 65535 - n := by
 have h1 : (BitVec.ofNat 16 n ^^^ BitVec.allOnes 16).toNat = (~~~ BitVec.ofNat 16 n).toNat := by rw [BitVec.xor_allOnes]
 rw [BitVec.toNat_xor, BitVec.toNat_not, BitVec.toNat_ofNat, BitVec.toNat_allOnes, Nat.mod_eq_of_lt (by omega)] at h1
 exact h1
theorem u32_flip (n : Nat) (h : n ≤ 65535) : bits .xor .u32 (n : Int) 65535 = ((65535 - n : Nat) : Int) := by
 have hx : n ^^^ 65535 = 65535 - n := xor_16 n (by omega)
 have e : ∀ a : Nat, a < 4294967296 → (BitVec.ofInt 32 (a : Int)).toNat = a := fun a ha => by
  rw [BitVec.ofInt_natCast, BitVec.toNat_ofNat]
  exact Nat.mod_eq_of_lt (by omega)
 show IntKind.u32.wrap ((BitVec.ofInt 32 (n : Int) ^^^ BitVec.ofInt 32 ((65535 : Nat) : Int)).toNat : Int) = _
 rw [BitVec.toNat_xor, e _ (by omega), e _ (by omega), hx, IntWalk.u32_in _ (by omega)]
theorem align_same (bs : List Bool) (h : bs.length % 8 = 0) : Inf.align bs = bs := by
 unfold Inf.align
 have : 8 * ((bs.length + 7) / 8) - bs.length = 0 := by omega
 rw [this]
 simp
theorem align_len (bs : List Bool) : (Inf.align bs).length % 8 = 0 ∧ (Inf.align bs).length ≤ bs.length + 7 ∧ bs.length ≤ (Inf.align bs).length := by
 unfold Inf.align
 rw [List.length_append, List.length_replicate]
 omega
def stoBits (last : Nat) (t : List UInt8) (bs : List Bool) : List Bool := Inf.align (bs ++ Bit.low last 3) ++ Bit.low t.length 16 ++ Bit.low (65535 - t.length) 16 ++ Bit.bits t
theorem storedF_last (f : Nat) (t : List UInt8) (bs : List Bool) (h : t.length ≤ 65535) : Inf.storedF (f + 1) t bs = stoBits 1 t bs := by
 rw [Inf.storedF, if_pos h]
 rfl
theorem storedF_more (f : Nat) (t : List UInt8) (bs : List Bool) (h : 65535 < t.length) : Inf.storedF (f + 1) t bs = Inf.storedF f (t.drop 65535) (stoBits 0 (t.take 65535) bs) := by
 rw [Inf.storedF, if_neg (by omega)]
 unfold stoBits
 rw [List.length_take, Nat.min_eq_left (by omega)]
structure StoR (w : World) (g : Nat) (bs : List Bool) (wr : World) (v : Value) : Prop where
 bw : BW wr w.heap.size g 215 [] v bs
 bel : Below w.heap.size w wr
theorem StoR.wrote {w wr w' : World} {g : Nat} {bs b2 : List Bool} {v : Value} (h : StoR w g bs wr v) (hg : w.heap.size ≤ g) (hw : Wrote wr w.heap.size g 215 [] v b2 w') : ∃ v', StoR w g b2 w' v' := by
 obtain ⟨v', h1, h2, h3⟩ := hw
 refine ⟨v', h1, h.bel.trans (h3.below (fun x hx => ?_) h.bel.size)⟩
 rcases hx with e | e
 ·omega
 ·exact (h.bw.own.lt x e).1
theorem StoR.aligned {w wr w' : World} {g : Nat} {bs b2 : List Bool} {v : Value} (h : StoR w g bs wr v) (hg : w.heap.size ≤ g) (hb : BW w' w.heap.size g 215 [] v b2) (hk : Keeps (fun x => x = g) wr w') : StoR w g b2 w' v :=
 ⟨hb, h.bel.trans (hk.below (fun x hx => by omega) h.bel.size)⟩
set_option maxHeartbeats 2000000 in
set_option maxRecDepth 100000 in
theorem stored_any (s : ByteArray) (w : World) (hs : s.size ≤ 300000) :
  Calls Tryz.prog 106 #[.string s] w fun e w' => e = .returned (.string ⟨(Inf.stored (lst s)).toArray⟩) ∧ Below w.heap.size w w' := by
 obtain ⟨R, hR⟩ : ∃ R, R = Inf.storedF ((lst s).length + 1) (lst s) [] := ⟨_, rfl⟩
 have hst : Inf.stored (lst s) = Bit.pack R := by rw [hR]; rfl
 rw [hst]
 have HR := Lib.hid hR
 clear hR hst
 obtain ⟨w0, hw0⟩ : ∃ w0, w0 = w.alloc (.cells #[.slice none 0 0, .int .i64 0] 215) := ⟨_, rfl⟩
 have hS0 : StoR w w.heap.size [] w0 (.slice none 0 0) := by
  rw [hw0]
  exact ⟨⟨Blk.new w _ _ rfl, Own.nil _ _ _, fun e => by cases e⟩, (Below.refl _ _).alloc (Nat.le_refl _) _⟩
 obtain ⟨g, hg⟩ : ∃ g, g = w.heap.size := ⟨_, rfl⟩
 have HS0 := Lib.hid (show StoR w g [] w0 (.slice none 0 0) by rw [hg]; exact hS0)
 have HGE := Lib.hid (show w.heap.size ≤ g by omega)
 have HW0 := Lib.hid hw0
 clear hS0 hw0
 go_enter Tryz.func106, Tryz.ntmps106
 go_wp2_with fail
 rw [← HW0.out, ← hg]
 clear hg
 go_loopw [0] (fun sv wr => ∃ (t : ByteArray) (f : Nat) (bs : List Bool) (v : Value), sv = .string t ∧ t.size ≤ s.size ∧ t.size < f ∧ Inf.storedF f (lst t) bs = R ∧ bs.length + 100 * t.size ≤ 100 * s.size ∧ StoR w g bs wr v) (fun sv _ => match sv with | .string t => t.size | _ => 0)
 case atStart => exact ⟨s, (lst s).length + 1, [], _, rfl, Nat.le_refl _, Nat.lt_succ_self _, HR.out.symm, by simp, HS0.out⟩
 case round =>
  clear HS0 HW0 w0 HR
  obtain ⟨t, f, bs, v, rfl, hts, hf, hRe, hbl, hS⟩ := hrel
  obtain ⟨f, rfl⟩ : ∃ f', f = f' + 1 := ⟨f - 1, by omega⟩
  have hsl : ∃ (n : Nat) (last : Nat), n = min 65535 t.size ∧ last = (if n = t.size then 1 else 0) := ⟨_, _, rfl, rfl⟩
  obtain ⟨n, last, hn, hlast⟩ := hsl
  have hn1 : n ≤ 65535 := by omega
  have hn2 : n ≤ t.size := by omega
  have hl1 : last ≤ 1 := by rw [hlast]; split <;> omega
  have HS := Lib.hid hS
  have HRE := Lib.hid hRe
  have HN := Lib.hid hn
  have HL := Lib.hid hlast
  clear hS hRe hn hlast
  go_upto_region 2 with (fail)
  go_cut [4] (fun a wx => a = .int .i64 (n : Nat) ∧ wr = wx)
  case first => as_aux_lemma =>
   have hn := HN.out
   rcases Nat.lt_trichotomy 65535 t.size with h | h | h
   ·have h1 : (65535 : Int) < t.size := by omega
    rw [Nat.min_eq_left (by omega)] at hn
    subst hn
    clear h
    go_wp2_with fail
    go_meet
    case rel => first | exact ⟨rfl, rfl⟩ | (refine ⟨?_, rfl⟩; simp; omega)
   ·rw [← h, Nat.min_self] at hn
    subst hn
    have h1 : (t.size : Int) = 65535 := by omega
    go_wp2_with fail
    go_meet
    case rel => first | exact ⟨rfl, rfl⟩ | (refine ⟨?_, rfl⟩; simp; omega)
   ·have h1 : (t.size : Int) < 65535 := by omega
    have h2 : (t.size : Int) ≤ 65535 := by omega
    rw [Nat.min_eq_right (by omega)] at hn
    clear h
    subst hn
    go_wp2_with fail
    go_meet
    case rel => first | exact ⟨rfl, rfl⟩ | (refine ⟨?_, rfl⟩; simp; omega)
  case rest =>
  obtain ⟨rfl, rfl⟩ := hcut
  go_upto_if 14 with (fail)
  go_cut [5] (fun b wx => b = .int .u32 (last : Nat) ∧ wr = wx)
  case first => as_aux_lemma =>
   have hlast := HL.out
   by_cases h : n = t.size
   ·rw [if_pos h] at hlast
    subst hlast
    have h2 : ((n : Int) == t.size) = true := by rw [h]; simp
    clear h
    go_wp2_with fail
    go_meet
    case rel => exact ⟨rfl, rfl⟩
   ·rw [if_neg h] at hlast
    subst hlast
    have h2 : ((n : Int) == t.size) = false := by rw [beq_eq_false_iff_ne]; omega
    clear h
    go_wp2_with fail
    go_meet
    case rel => exact ⟨rfl, rfl⟩
  case rest => as_aux_lemma =>
   obtain ⟨rfl, rfl⟩ := hcut
   have hge := HGE.out
   have hz := HS.out.bel.size
   go_wp2_with fail
   refine (put_any w.heap.size g 215 [] v bs last 3 _ HS.out.bw (by omega) (by omega) (by omega) hz).mono ?_
   rintro e w1 ⟨rfl, hw1⟩
   obtain ⟨v1, HS1⟩ := HS.out.wrote hge hw1
   replace HS1 := Lib.hid HS1
   have hl3 : (bs ++ Bit.low last 3).length = bs.length + 3 := by rw [List.length_append, Bit.low_length]
   clear hw1 HS hz
   go_wp2_with fail
   refine (walign_any w.heap.size g 215 [] v1 _ _ HS1.out.bw (by omega)).mono ?_
   rintro e w2 ⟨rfl, hb2, hk2⟩
   have HS2 := Lib.hid (HS1.out.aligned hge hb2 hk2)
   obtain ⟨al1, al2, al3⟩ := align_len (bs ++ Bit.low last 3)
   obtain ⟨X, hX⟩ : ∃ X, X = Inf.align (bs ++ Bit.low last 3) := ⟨_, rfl⟩
   rw [← hX] at HS2 al1 al2 al3
   have HX := Lib.hid hX
   have hz := HS2.out.bel.size
   have hxl : X.length ≤ bs.length + 10 := by omega
   have HA := Lib.hid al1
   have q1 : IntKind.u32.wrap (n : Int) = (n : Nat) := IntWalk.u32_in _ (by omega)
   clear hb2 hk2 HS1 al1 al2 al3 hX hl3
   go_wp2_with fail
   refine (put_any w.heap.size g 215 [] v1 X n 16 _ HS2.out.bw (by omega) (by omega) (by omega) hz).mono ?_
   rintro e w3 ⟨rfl, hw3⟩
   obtain ⟨v3, HS3⟩ := HS2.out.wrote hge hw3
   replace HS3 := Lib.hid HS3
   have hz := HS3.out.bel.size
   have q2 := u32_flip n hn1
   have hl3 : (X ++ Bit.low n 16).length = X.length + 16 := by rw [List.length_append, Bit.low_length]
   clear hw3 HS2
   go_wp2_with fail
   refine (put_any w.heap.size g 215 [] v3 _ (65535 - n) 16 _ HS3.out.bw (by omega) (by omega) (by omega) hz).mono ?_
   rintro e w4 ⟨rfl, hw4⟩
   obtain ⟨v4, HS4⟩ := HS3.out.wrote hge hw4
   replace HS4 := Lib.hid HS4
   have hz := HS4.out.bel.size
   have hl4 : (X ++ Bit.low n 16 ++ Bit.low (65535 - n) 16).length = X.length + 32 := by rw [List.length_append, hl3, Bit.low_length]
   have hn2i : (n : Int) ≤ t.size := by omega
   have hxz : (t.extract 0 n).size = n := by rw [← lst_length, lst_extract, List.length_take, List.drop_zero, lst_length]; omega
   have HXZ := Lib.hid hxz
   have HL4 := Lib.hid hl4
   clear hw4 HS3 q1 q2 hxz hl3 hl4
   go_wp2_with fail
   refine (wbytes_any w.heap.size g 215 [] v4 _ (t.extract 0 n) _ HS4.out.bw (by rw [HL4.out]; omega) (by rw [HXZ.out]; omega) hz).mono ?_
   rintro e w5 ⟨rfl, hw5⟩
   obtain ⟨v5, HS5⟩ := HS4.out.wrote hge hw5
   rw [align_same _ (by rw [HL4.out]; have := HA.out; omega)] at HS5
   have hsb : X ++ Bit.low n 16 ++ Bit.low (65535 - n) 16 ++ Bit.bits (lst (t.extract 0 n)) = stoBits last (lst (t.extract 0 n)) bs := by unfold stoBits; rw [lst_length, HXZ.out, HX.out]
   have hsl : (stoBits last (lst (t.extract 0 n)) bs).length = X.length + 32 + 8 * n := by rw [← hsb, List.length_append, HL4.out, Bit.bits_length, lst_length, HXZ.out]
   rw [hsb] at HS5
   replace HS5 := Lib.hid HS5
   have hz := HS5.out.bel.size
   have HSL := Lib.hid hsl
   clear hw5 HS4 hsb hsl
   by_cases hend : n = t.size
   ·have hl := HL.out
    rw [if_pos hend] at hl
    have he : t.extract 0 n = t := lst_inj (by rw [lst_extract, List.drop_zero, Nat.sub_zero, List.take_of_length_le (by rw [lst_length]; omega)])
    have hRf : R = stoBits 1 (lst t) bs := by rw [← HRE.out, storedF_last f (lst t) bs (by rw [lst_length]; omega)]
    rw [he, hl, ← hRf] at HS5
    have hemp : t.extract n t.size = ⟨#[]⟩ := lst_inj (by rw [lst_extract, List.drop_of_length_le (by rw [lst_length]; omega), List.take_nil])
    have hq : (t.extract n t.size).toList.isEmpty = true := by rw [hemp, Lib.toList_data]; first | rfl | simp | decide
    clear hend hl he hRf hemp
    go_wp2_with fail
    refine (wtext_any w.heap.size g 215 [] v5 R _ HS5.out.bw).mono ?_
    rintro e w6 ⟨rfl, rfl⟩
    go_wp2_with fail
    go_ret
    exact ⟨rfl, HS5.out.bel⟩
   ·have hl := HL.out
    rw [if_neg hend] at hl
    have hn3 : n = 65535 := by have := HN.out; omega
    have hrest : lst (t.extract n t.size) = (lst t).drop 65535 := by rw [lst_extract, hn3, List.take_of_length_le (by rw [List.length_drop, lst_length]; omega)]
    have hhead : lst (t.extract 0 n) = (lst t).take 65535 := by rw [lst_extract, List.drop_zero, hn3, Nat.sub_zero]
    have hRf : Inf.storedF f (lst (t.extract n t.size)) (stoBits last (lst (t.extract 0 n)) bs) = R := by rw [← HRE.out, storedF_more f (lst t) bs (by rw [lst_length]; omega), hrest, hhead, hl]
    have hsz : (t.extract n t.size).size = t.size - n := by rw [← lst_length, hrest, List.length_drop, lst_length, hn3]
    have hq : (t.extract n t.size).toList.isEmpty = false := by
     have h1 : (t.extract n t.size).toList = lst (t.extract n t.size) := Lib.toList_data _
     rw [h1, List.isEmpty_eq_false_iff]
     intro e
     have := congrArg List.length e
     rw [lst_length, hsz] at this
     simp at this
     omega
    have HF := Lib.hid hRf
    have HZ := Lib.hid hsz
    have HN3 := Lib.hid hn3
    clear hl hend hrest hhead hRf hsz hn3
    go_wp2_with fail
    go_roundw
    case rel =>
     have := HSL.out
     have := HZ.out
     have := HN3.out
     exact ⟨t.extract n t.size, f, _, v5, rfl, by omega, by omega, HF.out, by omega, HS5.out⟩
    case measure => have := HZ.out; have := HN3.out; simp only; omega
end Go.Proofs.YtkegkelaffohjaaGreatDoor
