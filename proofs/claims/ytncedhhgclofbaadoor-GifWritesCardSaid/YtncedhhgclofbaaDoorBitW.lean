/- bits.Writer: what stands of one in memory; one, Put, Text: the walks. -/
import Derived.Test.YtncedhhgclofbaaDoorMem
import Derived.Test.YtncedhhgclofbaaDoorLzwLaw
import Derived.Test.YtncedhhgclofbaaDoorProg
import Derived.WalkKit
import Derived.WalkLawsBesides
import Derived.WalkArith
import Derived.WalkSpells
import Derived.Handy
import Derived.KernelRfl
import Derived.BigRegion
import Derived.BigQuiet
import Derived.Deep.QuietTactic
import Derived.Lib.Hide
import Derived.LoopTactic
import Derived.Laws.BitsAllLaws
namespace Go.Proofs.YtncedhhgclofbaaDoor
open Go Go.RowKit

/-- Bytes as cells. -/
def bytes (l : List UInt8) : List Value := l.map fun b => .int .u8 b.toNat
theorem bytes_length (l : List UInt8) : (bytes l).length = l.length := by simp [bytes]
theorem bytes_one (l : List UInt8) : ∀ u ∈ bytes l, u.oneCell' = true := by
  intro u hu
  obtain ⟨b, _, rfl⟩ := List.mem_map.1 hu
  rfl
theorem bytes_append (l m : List UInt8) : bytes (l ++ m) = bytes l ++ bytes m := by simp [bytes]
theorem bytes_at (l : List UInt8) (i : Nat) : (bytes l)[i]? = (l[i]?).map fun b => Value.int .u8 b.toNat := by simp [bytes]
theorem bytes_set (l : List UInt8) (i : Nat) (b : UInt8) : bytes (l.set i b) = (bytes l).set i (.int .u8 b.toNat) := by simp [bytes, List.map_set]
theorem byteInfo : (Tryd.prog.info? 5).map (fun i => (i.zero, i.size, i.bytes)) = some (some (.int .u8 0), 1, 1) := by kernel_rfl

/-- A writer of bits at the beginning of block g; r: what stands behind it in the block. -/
structure BW (w : World) (B g : Nat) (T : TypeId) (r : List Value) (v : Value) (bs : List Bool) : Prop where
  blk : Blk w g T (v :: .int .i64 bs.length :: r).toArray
  own : Own w B 1 v (Bit.pack bs).length (bytes (Bit.pack bs))
  ne : v.ownBlock ≠ some g

theorem fits_any (n k : Nat) (w : World) (hk : k ≤ 32) (hn : n < 2 ^ k) :
    Calls Tryd.prog 79 #[.int .u32 n, .int .i64 k] w fun e w' => e = .returned (.bool true) ∧ w' = w := by
  have h32 : (2 : Nat) ^ k ≤ 2 ^ 32 := Nat.pow_le_pow_right (by omega) hk
  have h1 : IntKind.u64.wrap (n : Int) = n := by
    have : (2 : Nat) ^ 32 = 4294967296 := rfl
    exact IntWalk.u64_in _ (by omega)
  have h2 : ((n : Int) / 2 ^ k == 0) = true := by
    have : n / 2 ^ k = 0 := Nat.div_eq_of_lt hn
    rw [beq_iff_eq]
    exact_mod_cast this
  go_enter Tryd.func79, Tryd.ntmps79
  go_wp2
  go_ret
  exact ⟨rfl, rfl⟩
theorem Own.cellAt {w : World} {base n c g off : Nat} {xs : List Value} (h : Own w base 1 (.slice (some ⟨g, off, none⟩) n c) n xs) (i : Nat) (hi : i < n) : w.cell? ⟨g, off + i, none⟩ = xs[i]? ∧ w.frozen? ⟨g, off + i, none⟩ = false := by
  refine ⟨h.reads.2.cell rfl i (by omega), ?_⟩
  have := h.there i hi
  have := (this 0 (by omega)).2
  simpa using this
theorem Own.setByte {w : World} {base n c g off : Nat} {l : List UInt8} (h : Own w base 1 (.slice (some ⟨g, off, none⟩) n c) n (bytes l)) (i : Nat) (hi : i < n) (b : UInt8) :
    Own (w.setCell ⟨g, off + i, none⟩ (.int .u8 b.toNat)) base 1 (.slice (some ⟨g, off, none⟩) n c) n (bytes (l.set i b)) := by
  have hl : l.length = n := by have := h.1; rw [bytes_length] at this; omega
  have := h.setOne i hi [.int .u8 b.toNat] (bytes (l.set i b)) rfl (by rw [bytes_length, List.length_set, hl]; omega) (fun j hj => by
    have : j = 0 := by omega
    subst this
    rw [bytes_at, List.getElem?_set]
    simp [hl, hi]) (fun j hj => by
    rw [bytes_at, bytes_at, List.getElem?_set]
    rw [if_neg (by omega)])
  simpa [World.setCells] using this
set_option maxHeartbeats 1000000 in
set_option maxRecDepth 100000 in
theorem one_any (B g : Nat) (T : TypeId) (r : List Value) (v : Value) (bs : List Bool) (b : Bool) (w : World) (h : BW w B g T r v bs) (hl : bs.length ≤ 1099511627776) (hB : B ≤ w.heap.size) :
    Calls Tryd.prog 80 #[.pointer (some ⟨g, 0, none⟩), .int .u32 b.toNat] w fun e w' => e = .returned (.tuple #[]) ∧ ∃ v', BW w' B g T r v' (bs ++ [b]) ∧ Fresh w v v' ∧ Keeps (fun x => x = g ∨ v.ownBlock = some x) w w' := by
  obtain ⟨hb, ho, hne⟩ := h
  obtain ⟨A, c, rfl, hc, hr⟩ := ho.form
  obtain ⟨i0, hi, hz0, hz1, hz2⟩ := info_parts byteInfo
  have hpl := Bit.pack_length bs
  have hlast := Bit.pack_last bs
  have hsmall := Bit.byteOf_small bs
  have h2k : 2 ^ (bs.length % 8) ≤ 128 := Nat.pow_le_pow_right (show 0 < 2 by omega) (show bs.length % 8 ≤ 7 by omega)
  have hmore : (if bs.length % 8 = 0 then Bit.pack bs ++ [0] else Bit.pack bs).set (bs.length / 8) (UInt8.ofNat (Bit.byteOf bs (bs.length / 8) + b.toNat * 2 ^ (bs.length % 8))) = Bit.pack (bs ++ [b]) := by
    by_cases h8 : bs.length % 8 = 0
    · rw [if_pos h8, Bit.pack_new _ _ h8, List.set_append_right _ _ (by omega), h8, Bit.byteOf_beyond _ _ (by omega)]
      have : bs.length / 8 - (Bit.pack bs).length = 0 := by omega
      simp [this]
    · rw [if_neg h8, Bit.pack_more _ _ h8]
  obtain ⟨V, hV⟩ : ∃ V, V = UInt8.ofNat (Bit.byteOf bs (bs.length / 8) + b.toNat * 2 ^ (bs.length % 8)) := ⟨_, rfl⟩
  have hval : bits .or .u8 (Bit.byteOf bs (bs.length / 8) : Int) ((b.toNat : Int) % 256 * 2 ^ (bs.length % 8) % 256) = (V.toNat : Int) := by
    have e1 : (b.toNat : Int) % 256 * 2 ^ (bs.length % 8) % 256 = ((b.toNat <<< (bs.length % 8) : Nat) : Int) := by
      rw [Nat.shiftLeft_eq]
      cases b
      · simp
      · have : (2 : Int) ^ (bs.length % 8) = ((2 ^ (bs.length % 8) : Nat) : Int) := by norm_cast
        simp only [Bool.toNat_true, Nat.one_mul, this]
        omega
    have e2 : b.toNat <<< (bs.length % 8) < 256 := by rw [Nat.shiftLeft_eq]; cases b <;> simp <;> omega
    have e3 : b.toNat * 2 ^ (bs.length % 8) ≤ 2 ^ (bs.length % 8) := by cases b <;> simp
    rw [e1, u8_or_nat _ _ (Bit.byteOf_lt _ _) e2, Bit.or_add _ _ _ hsmall, hV, UInt8.toNat_ofNat_of_lt' (by show _ < 256; omega)]
  rw [← hV] at hmore
  clear hV hsmall h2k
  obtain ⟨x, hx⟩ : ∃ x, x = Bit.byteOf bs (bs.length / 8) := ⟨_, rfl⟩
  have hxl : x ≤ 255 := by rw [hx]; exact Nat.le_of_lt_succ (Bit.byteOf_lt _ _)
  obtain ⟨m, hm⟩ : ∃ m, m = bs.length / 8 := ⟨_, rfl⟩
  rw [← hx] at hval
  rw [← hm] at hmore hx hlast
  rw [← hx] at hlast
  obtain ⟨n, hn⟩ : ∃ n, n = (Bit.pack bs).length := ⟨_, rfl⟩
  rw [← hn] at ho hne hc hr hb hpl ⊢
  have d0 : w.cell? ⟨g, 0, none⟩ = some (.slice A n c) := by rw [hb.cell]; simp
  have d1 : w.cell? ⟨g, 1, none⟩ = some (.int .i64 bs.length) := by rw [hb.cell]; simp
  have gl := hb.lt
  have f0 := hb.free 0
  have f1 := hb.free 1
  have HV := Lib.hid hval
  clear hval
  by_cases h8 : bs.length % 8 = 0
  · have hz8 : ((bs.length : Int) % 8 == 0) = true := by rw [beq_iff_eq]; omega
    have hpB : n ≤ 137438953473 := by omega
    have nA : some g ≠ (Value.slice A n c).ownBlock := fun e => hne e.symm
    have hnm : n = m := by omega
    obtain ⟨X, hX⟩ : ∃ X, X = Bit.pack bs ++ [0] := ⟨_, rfl⟩
    rw [if_pos h8, ← hX] at hmore
    have hX1 : (bytes X)[m]? = some (.int .u8 x) := by
      rw [hX, bytes_append, List.getElem?_append_right (by rw [bytes_length]; omega), bytes_length, ← hn, hnm, Nat.sub_self, hx, Bit.byteOf_beyond _ _ (by omega)]
      rfl
    have HXe : bytes (Bit.pack bs) ++ [.int .u8 0] = bytes X := by rw [hX, bytes_append]; rfl
    subst hnm
    have HX := Lib.hid hX1
    have HXs := Lib.hid hmore
    have HN := Lib.hid hn
    clear hm hn hpl hX1 hmore hx hX h8 hlast
    go_enter Tryd.func80, Tryd.ntmps80
    go_wp2_with (at_builtin; refine wpList_append_S rfl (.tmp 14) (.tmp 15) 56 56 rfl B 5 i0 (.int .u8 0) 1 1 Tryd.underlying56 hi hz0 hz1 hz2 rfl (by decide) (.slice A n c) n (bytes (Bit.pack bs)) rfl (ho.alloc _) (bytes_one _) 1 [.int .u8 0] (Src.made Tryd.underlying56 (by first | rfl | simp) rfl (by intro u hu; cases List.mem_singleton.1 hu; rfl)) (n + 1) rfl (bytes X) HXe (by unfold maxLen; omega) (by omega) (by first | omega | (simp; done) | (simp; omega)) ?_; intro A' c' w4 hown4 hg4 hat4; have e1 : w4.cell? ⟨g, 1, none⟩ = some (.int .i64 bs.length) := (hg4.cell_far ⟨g, 1, none⟩ (by simp; omega) nA).trans ((World.cell?_alloc_lt w _ ⟨g, 1, none⟩ gl).trans d1); have e0 : w4.cell? ⟨g, 0, none⟩ = some (.slice A n c) := (hg4.cell_far ⟨g, 0, none⟩ (by simp; omega) nA).trans ((World.cell?_alloc_lt w _ ⟨g, 0, none⟩ gl).trans d0); have B4 : Blk w4 g T (.slice A n c :: .int .i64 bs.length :: r).toArray := (hb.alloc _).grown hg4 nA; have q0 := B4.free 0; have q1 := B4.free 1; obtain ⟨q, off, rfl, hBq, hqs⟩ := hown4.addr (Nat.succ_pos _))
    have Bt := B4.set_ 0 (.slice (some ⟨q, off, none⟩) (n + 1) c')
    have hfr : Fresh w (.slice A n c) (.slice (some ⟨q, off, none⟩) (n + 1) c') := fun y hy => by
      rcases hat4 with e | e <;> rw [e] at hy
      · exact .inl hy
      · have : w.heap.size + 1 = y := by simpa using hy
        exact .inr (by omega)
    have nq : g ≠ q := by
      rintro rfl
      rcases hfr g rfl with e | e
      · exact hne e
      · omega
    have Ot := hown4.setCell (p := ⟨g, 0, none⟩) (by intro e; injection e with e; exact nq e.symm) (.slice (some ⟨q, off, none⟩) (n + 1) c')
    have Kt : Keeps (fun y => y = g ∨ (Value.slice A n c).ownBlock = some y) w (w4.setCell ⟨g, 0, none⟩ (.slice (some ⟨q, off, none⟩) (n + 1) c')) :=
      Keeps.setCell (Keeps.grown ((Keeps.refl _ w).alloc (.cells #[.int .u8 0] 5)) hg4 (fun y hy _ => .inr hy)) (fun _ => .inl rfl) _
    have Bt' : Blk (w4.setCell ⟨g, 0, none⟩ (.slice (some ⟨q, off, none⟩) (n + 1) c')) g T (.slice (some ⟨q, off, none⟩) (n + 1) c' :: .int .i64 bs.length :: r).toArray := by
      have := Bt
      simpa using this
    generalize w4.setCell ⟨g, 0, none⟩ (.slice (some ⟨q, off, none⟩) (n + 1) c') = wt at *
    have t0 : wt.cell? ⟨g, 0, none⟩ = some (.slice (some ⟨q, off, none⟩) (n + 1) c') := by rw [Bt'.cell]; simp
    have t1 : wt.cell? ⟨g, 1, none⟩ = some (.int .i64 bs.length) := by rw [Bt'.cell]; simp
    have p1 := Bt'.free 1
    obtain ⟨tq, pq⟩ := Ot.cellAt n (by omega)
    rw [HX.out] at tq
    clear d0 d1 f0 f1 e0 e1 q0 q1 hg4 hat4 hown4 B4 hb ho hr Bt
    go_region
    go_wp2
    go_end0
    rw [HV.out]
    refine ⟨rfl, .slice (some ⟨q, off, none⟩) (n + 1) c', ⟨?_, ?_, ?_⟩, ?_, ?_⟩
    · have := (Bt'.far (p := ⟨q, off + n, none⟩) nq (.int .u8 V.toNat)).set_ 1 (.int .i64 (bs.length + 1))
      have e : ((bs ++ [b]).length : Int) = bs.length + 1 := by simp
      rw [e]
      exact Blk.drew (by simpa using this)
    · have := (Ot.setByte n (by omega) V).setCell (p := ⟨g, 1, none⟩) (by intro e; injection e with e; exact nq e.symm) (.int .i64 (bs.length + 1))
      rw [HXs.out] at this
      have hl : (Bit.pack (bs ++ [b])).length = n + 1 := by have := this.1; rw [bytes_length] at this; omega
      rw [hl]
      exact this
    · intro e; injection e with e; exact nq e.symm
    · exact hfr
    · refine Keeps.drew (Keeps.setCell (Keeps.setCell Kt ?_ _) (fun _ => .inl rfl) _)
      intro hlt
      rcases hfr q rfl with e | e
      · exact .inr e
      · exact absurd hlt (by show ¬ q < _; omega)
  · have hz8 : ((bs.length : Int) % 8 == 0) = false := by rw [beq_eq_false_iff_ne]; omega
    obtain ⟨q, off, rfl, hBq, hqs⟩ := ho.addr (by omega)
    have nq : g ≠ q := by rintro rfl; exact hne rfl
    rw [if_neg h8] at hmore
    have hnm : n = m + 1 := by omega
    subst hnm
    have hX1 : (bytes (Bit.pack bs))[m]? = some (.int .u8 x) := by
      rw [bytes_at, hlast h8, Option.map_some, UInt8.toNat_ofNat_of_lt' (by show _ < 256; omega)]
    obtain ⟨tq, pq⟩ := ho.cellAt m (by omega)
    rw [hX1] at tq
    have HXs := Lib.hid hmore
    have HN := Lib.hid hn
    have hpB : m ≤ 137438953473 := by omega
    clear hm hn hpl hX1 hmore hx h8 hlast
    go_enter Tryd.func80, Tryd.ntmps80
    go_wp2_with fail
    go_region
    go_wp2
    go_end0
    rw [HV.out]
    refine ⟨rfl, .slice (some ⟨q, off, none⟩) (m + 1) c, ⟨?_, ?_, ?_⟩, Fresh.refl _ _, ?_⟩
    · have := (hb.far (p := ⟨q, off + m, none⟩) nq (.int .u8 V.toNat)).set_ 1 (.int .i64 (bs.length + 1))
      have e : ((bs ++ [b]).length : Int) = bs.length + 1 := by simp
      rw [e]
      exact Blk.drew (by simpa using this)
    · have := (ho.setByte m (by omega) V).setCell (p := ⟨g, 1, none⟩) (by intro e; injection e with e; exact nq e.symm) (.int .i64 (bs.length + 1))
      rw [HXs.out] at this
      have hl : (Bit.pack (bs ++ [b])).length = m + 1 := by have := this.1; rw [bytes_length] at this; omega
      rw [hl]
      exact this
    · exact hne
    · exact Keeps.drew (Keeps.setCell (Keeps.setCell (Keeps.refl _ w) (fun _ => .inr rfl) _) (fun _ => .inl rfl) _)
/-- What a call that writes bits leaves. -/
def Wrote (w : World) (B g : Nat) (T : TypeId) (r : List Value) (v : Value) (bs : List Bool) (w' : World) : Prop :=
  ∃ v', BW w' B g T r v' bs ∧ Fresh w v v' ∧ Keeps (fun x => x = g ∨ v.ownBlock = some x) w w'
theorem Wrote.trans {w w1 w2 : World} {B g : Nat} {T : TypeId} {r : List Value} {v v1 : Value} {bs : List Bool} (hg : g < w.heap.size) (hv : Fresh w v v1) (hk : Keeps (fun x => x = g ∨ v.ownBlock = some x) w w1) (h : Wrote w1 B g T r v1 bs w2) : Wrote w B g T r v bs w2 := by
  obtain ⟨v2, h1, h2, h3⟩ := h
  refine ⟨v2, h1, fun y hy => ?_, hk.trans h3 fun y hy hs => ?_⟩
  · rcases h2 y hy with e | e
    · exact hv y e
    · exact .inr (Nat.le_trans hk.size e)
  · rcases hs with rfl | e
    · exact .inl rfl
    · rcases hv y e with e2 | e2
      · exact .inr e2
      · omega
/-- Put's relation: so many bits are there. -/
structure PutR (w : World) (B g : Nat) (T : TypeId) (r : List Value) (v : Value) (bs : List Bool) (n i : Nat) (wr : World) : Prop where
  wrote : Wrote w B g T r v (bs ++ Bit.low n i) wr
theorem low_succ (n i : Nat) : Bit.low n (i + 1) = Bit.low n i ++ [n.testBit i] := by simp [Bit.low, List.range_succ]
set_option maxHeartbeats 1000000 in
set_option maxRecDepth 100000 in
theorem put_any (B g : Nat) (T : TypeId) (r : List Value) (v : Value) (bs : List Bool) (n k : Nat) (w : World) (h : BW w B g T r v bs) (hk : k ≤ 32) (hn : n < 2 ^ k) (hl : bs.length ≤ 549755813888) (hB : B ≤ w.heap.size) :
    Calls Tryd.prog 71 #[.pointer (some ⟨g, 0, none⟩), .int .u32 n, .int .i64 k] w fun e w' => e = .returned .nilIface ∧ Wrote w B g T r v (bs ++ Bit.low n k) w' := by
  have h32 : (2 : Nat) ^ k ≤ 2 ^ 32 := Nat.pow_le_pow_right (by omega) hk
  have hn32 : n < 4294967296 := by omega
  have gl := h.blk.lt
  go_enter Tryd.func71, Tryd.ntmps71
  go_wp2_with fail
  refine (fits_any n k _ hk hn).mono ?_
  rintro e w1 ⟨rfl, rfl⟩
  clear h32 hn
  go_wp2_with fail
  go_loopw [14] (fun i wr => ∃ j : Nat, j ≤ k ∧ i = .int .i64 j ∧ PutR w1 B g T r v bs n j wr) (fun i _ => k - (intOf i).toNat)
  case atStart => exact ⟨0, Nat.zero_le _, rfl, ⟨v, by simpa [Bit.low] using h, Fresh.refl _ _, Keeps.refl _ _⟩⟩
  case round =>
    obtain ⟨j, hj, rfl, ⟨v1, h1, hf1, hk1⟩⟩ := hrel
    by_cases hlt : j < k
    · have hs1 := hk1.size
      have hb : bits .and .u32 ((n : Int) / 2 ^ j) 1 = ((n.testBit j).toNat : Int) := by
        have e1 : (n : Int) / 2 ^ j = ((n / 2 ^ j : Nat) : Int) := by norm_cast
        have e3 : n / 2 ^ j ≤ n := Nat.div_le_self _ _
        rw [e1, show (1 : Int) = ((1 : Nat) : Int) from rfl, u32_and_nat _ _ (by omega) (by omega), Nat.and_one_is_mod, Nat.testBit_eq_decide_div_mod_eq]
        have h2 := Nat.mod_two_eq_zero_or_one (n / 2 ^ j)
        rcases h2 with h | h <;> simp [h]
      have hlen : (bs ++ Bit.low n j).length ≤ 1099511627776 := by rw [List.length_append, Bit.low_length]; omega
      go_wp2_with fail
      refine (one_any B g T r v1 _ (n.testBit j) _ h1 hlen (by omega)).mono ?_
      rintro e w2 ⟨rfl, hw⟩
      go_wp2
      go_roundw
      case rel =>
        refine ⟨j + 1, by omega, by go_num, ⟨?_⟩⟩
        rw [low_succ, ← List.append_assoc]
        exact Wrote.trans gl hf1 hk1 hw
      case measure => simp [intOf]; omega
    · go_wp2_with fail
      go_ret
      have : j = k := by omega
      subst this
      exact ⟨rfl, v1, h1, hf1, hk1⟩
end Go.Proofs.YtncedhhgclofbaaDoor
