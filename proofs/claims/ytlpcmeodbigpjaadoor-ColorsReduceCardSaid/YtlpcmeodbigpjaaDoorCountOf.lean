/- The reference's CountOf: the walk. -/
import Derived.Test.YtlpcmeodbigpjaaDoorPlainOf
import Derived.Test.YtlpcmeodbigpjaaDoorPart
import Derived.Test.YtlpcmeodbigpjaaDoorTally
import Derived.Test.YtlpcmeodbigpjaaDoorCount
import Derived.Test.YtlpcmeodbigpjaaDoorBase
namespace Go.Proofs.YtlpcmeodbigpjaaDoor
open Go Go.RowKit

/-! ### some cells set in the midst -/
theorem useCells_put_in (l : List (Px × Nat)) (k : Nat) (hk : k < l.length) (x : Px) (t j : Nat) (hj : j < 4) : (useCells (l.set k (x, t)))[k * 5 + j]? = (pxCs x)[j]? := by
  rw [useCells_at _ k (by simpa using hk) j (by omega), List.getElem_set_self]
  match j, hj with
  | 0, _ => rfl
  | 1, _ => rfl
  | 2, _ => rfl
  | 3, _ => rfl
theorem useCells_put_out (l : List (Px × Nat)) (k : Nat) (hk : k < l.length) (x : Px) (j : Nat) (hj : j < k * 5 ∨ k * 5 + 4 ≤ j) : (useCells (l.set k (x, l[k].2)))[j]? = (useCells l)[j]? := by
  by_cases hl : j < l.length * 5
  · have hq : j / 5 < l.length := by omega
    have e : j = j / 5 * 5 + j % 5 := by omega
    rw [e, useCells_at _ (j / 5) (by simpa using hq) _ (Nat.mod_lt _ (by omega)), useCells_at _ (j / 5) hq _ (Nat.mod_lt _ (by omega)), List.getElem_set]
    split
    · rename_i h
      have h4 : j % 5 = 4 := by omega
      rw [h4]
      simp only [h]
      simp [useCs]
    · rfl
  · rw [List.getElem?_eq_none (by rw [useCells_length, List.length_set]; omega), List.getElem?_eq_none (by rw [useCells_length]; omega)]

/-- Colors so far, none counted. -/
def cols (l : List Px) (k : Nat) : List (Px × Nat) := (List.range l.length).map fun j => (if j < k then l.getD j default else ⟨0, 0, 0, 0⟩, 0)
theorem cols_length (l : List Px) (k : Nat) : (cols l k).length = l.length := by simp [cols]
theorem cols_at (l : List Px) (k j : Nat) (h : j < (cols l k).length) : (cols l k)[j] = (if j < k then l.getD j default else ⟨0, 0, 0, 0⟩, 0) := by simp [cols]
theorem cols_succ (l : List Px) (k : Nat) (hk : k < l.length) : cols l (k + 1) = (cols l k).set k (l[k], 0) := by
  apply List.ext_getElem (by simp [cols_length])
  intro j h1 h2
  rw [List.getElem_set, cols_at]
  by_cases e : k = j
  · subst e
    simp [hk]
  · rw [if_neg e, cols_at]
    by_cases h3 : j < k
    · rw [if_pos h3, if_pos (by omega)]
    · rw [if_neg h3, if_neg (by omega)]
theorem cols_all (l : List Px) : cols l l.length = Col.tally l [] := by
  rw [Col.tally_nil]
  apply List.ext_getElem (by simp [cols_length])
  intro j h1 h2
  have hj : j < l.length := by simpa using h2
  rw [cols_at, if_pos hj]
  simp [hj]
theorem cols_zero (l : List Px) : cols l 0 = List.replicate l.length (⟨0, 0, 0, 0⟩, 0) := by
  apply List.ext_getElem (by simp [cols_length])
  intro j h1 h2
  rw [cols_at]
  simp
theorem made_use (n : Nat) : (madeCells (Value.agg #[.int .u8 0, .int .u8 0, .int .u8 0, .int .u8 0, .int .i64 0]).cells (n * 5)).toList = useCells (List.replicate n (⟨0, 0, 0, 0⟩, 0)) := by
  apply List.ext_getElem?
  intro t
  by_cases ht : t < n * 5
  · rw [made_at _ _ t ht]
    have e : t = t / 5 * 5 + t % 5 := by omega
    have h5 : t % 5 < 5 := Nat.mod_lt _ (by omega)
    conv => rhs; rw [e]
    rw [useCells_at _ (t / 5) (by simp; omega) _ h5]
    simp only [List.getElem_replicate]
    have hz : (Value.agg #[.int .u8 0, .int .u8 0, .int .u8 0, .int .u8 0, .int .i64 0]).cells.size = 5 := rfl
    rw [hz]
    generalize t % 5 = j at h5
    match j, h5 with
    | 0, _ => rfl
    | 1, _ => rfl
    | 2, _ => rfl
    | 3, _ => rfl
    | 4, _ => rfl
  · rw [List.getElem?_eq_none (by simp [madeCells]; omega), List.getElem?_eq_none (by rw [useCells_length]; simp; omega)]

theorem ruseInfo : (Tryd.prog.info? 57).map (fun i => (i.zero, i.size, i.bytes)) = some (some (.agg #[.int .u8 0, .int .u8 0, .int .u8 0, .int .u8 0, .int .i64 0]), 5, 16) := by kernel_rfl

/-- The relations of CountOf's loops. -/
structure CO (w1 : World) (u : Nat) (L : List (Px × Nat)) (i : Value) (wr : World) (k : Nat) : Prop where
  hi : i = .int .i64 k
  own : Own wr w1.heap.size 5 (.slice (some ⟨w1.heap.size, 0, none⟩) u u) u (useCells L)
  bel : Below w1.heap.size w1 wr

set_option maxRecDepth 100000 in
set_option maxHeartbeats 1000000 in
theorem countof_any (W H : Int) (A : Option Addr) (n c : Nat) (ps : List Px) (w : World) (hp : Reads w w.heap.size 4 A n (pxCells ps)) (hn : n ≤ 1048576) :
    Calls Tryd.prog 11 #[.agg #[.int .i64 W, .int .i64 H, .slice A n c]] w
      fun e w' => ∃ A' c', e = .returned (.slice A' (Col.uses ps).length c') ∧ Own w' w.heap.size 5 (.slice A' (Col.uses ps).length c') (Col.uses ps).length (useCells (Col.uses ps)) ∧ Below w.heap.size w w' := by
  obtain rfl := hp.pxLen
  obtain ⟨i0, hi, hz0, hz1, hz2⟩ := info_parts ruseInfo
  have HC := Lib.hid (Col.unl_count ps)
  have hul := (unl_len ps ps.length (Nat.le_refl _))
  rw [List.take_length] at hul
  obtain ⟨hu1, hu2⟩ := hul
  have hlt2 := Lib.hid (Col.unl_lt ps ps.length (Nat.le_refl _))
  rw [List.take_length] at hlt2
  go_enter Tryd.func11, Tryd.ntmps11
  go_wp2_with fail
  refine (unlike_any W H A ps.length c ps _ ((hp.alloc (Nat.le_refl _) _).more (by first | omega | (simp; done) | (simp; omega))) hn).mono ?_
  rintro e w1 ⟨A1, c1, A2, c2, rfl, ho1, ho2, hb1⟩
  obtain ⟨l, hl⟩ : ∃ l, l = (Col.unl ps).1 := ⟨_, rfl⟩
  obtain ⟨s, hs⟩ : ∃ s, s = (Col.unl ps).2 := ⟨_, rfl⟩
  rw [← hl, ← hs] at HC hlt2
  rw [← hl] at ho1 hu1 ⊢
  rw [← hs] at ho2 hu2
  clear hl hs
  have hr1 := ho1.reads.2
  have hr2 := ho2.reads.2
  have hz1' : w.heap.size + 1 ≤ w1.heap.size := by have := hb1.size; simpa using this
  have hbw : Below w.heap.size w w1 := Below.trans (by go_grown) (hb1.mono (by first | omega | (simp; done) | (simp; omega)))
  clear hb1 ho1 ho2
  have hm1 : l.length * 16 ≤ 140737488351232 := by omega
  go_wp2_with (refine wpList_make_full _ rfl (.tmp 14) (.tmp 14) 36 rfl w1.heap.size 57 i0 _ 5 Tryd.underlying36 hi hz0 hz1 .i64 .i64 _ _ l.length rfl rfl rfl rfl (by rw [hz2]; omega) (by unfold maxLen; omega) (Nat.le_refl _) ?_; intro w2 hrow2 hg2)
  have hown2 := Own.of_row hrow2
  rw [made_use, ← cols_zero l] at hown2
  have hb2 : Below w1.heap.size w1 w2 := Below.grown (Below.refl _ _) hg2 (Nat.le_refl _) (fun g hg => by cases hg)
  clear hrow2 hg2
  go_loopw [6] (fun i wr => ∃ k, k ≤ l.length ∧ CO w1 l.length (cols l k) i wr k) (fun i _ => l.length - (intOf i).toNat)
  case atStart => exact ⟨0, Nat.zero_le _, rfl, hown2, hb2⟩
  case round =>
    obtain ⟨k, hk, rfl, hown, hb⟩ := hrel
    obtain ⟨wo, rfl⟩ : ∃ wo : World, wo = wr := ⟨_, rfl⟩
    have hsz := hb.size
    by_cases hlt : k < l.length
    · obtain ⟨gl, ol, rfl, hgl⟩ := hr1.addr (by omega)
      obtain ⟨p0, p1, p2, p3⟩ := (hr1.below hb (Nat.le_refl _)).px k hlt
      have hth := hown.thereAt (k * 5) 4 (by omega)
      have hkc : k < (cols l k).length := by rw [cols_length]; exact hlt
      have hset := hown.setPart (k * 5) (pxCs l[k]) (useCells ((cols l k).set k (l[k], (cols l k)[k].2))) (by simp [pxCs]; omega) (by rw [useCells_length, List.length_set, cols_length])
        (fun j hj => useCells_put_in _ k hkc _ _ j (by simpa [pxCs] using hj)) (fun j hj => useCells_put_out _ k hkc _ j (by simpa [pxCs] using hj))
      have e0 : (cols l k)[k].2 = 0 := by rw [cols_at]
      rw [e0, ← cols_succ l k hlt, Nat.zero_add] at hset
      clear e0
      rw [Nat.zero_add] at hth
      go_wp2_with (refine wpList_store_px rfl 46 (by kernel_rfl) (.tmp 29) (.tmp 27) rfl w1.heap.size (k * 5) l[k] ?_ ?_ ?_ ?_)
      · kernel_rfl
      · kernel_rfl
      · exact hth
      go_wp2_with fail
      go_roundw
      case rel => exact ⟨k + 1, by omega, by go_num, hset, Below.setCells_ hb (Nat.le_refl _) _ _⟩
      case measure => simp [intOf]; omega
    · have e : k = l.length := by omega
      subst e
      rw [cols_all] at hown
      go_wp2_with fail
      go_loopw [7] (fun i wr => ∃ k, k ≤ ps.length ∧ CO w1 l.length (Col.tally l (s.take k)) i wr k) (fun i _ => ps.length - (intOf i).toNat)
      case atStart => exact ⟨0, Nat.zero_le _, rfl, hown, hb⟩
      case round =>
        clear hown hb
        obtain ⟨k, hk, rfl, hown, hb⟩ := hrel
        obtain ⟨wo, rfl⟩ : ∃ wo : World, wo = wr := ⟨_, rfl⟩
        have hsz := hb.size
        by_cases hlt : k < ps.length
        · obtain ⟨gs, os, rfl, hgs⟩ := hr2.addr (by omega)
          have hks : k < s.length := by omega
          obtain ⟨j, hj, hjl⟩ := hlt2.out s[k] (List.getElem_mem hks)
          have d0 : wo.cell? ⟨gs, os + k, none⟩ = some (.int .i64 j) := by
            rw [(hr2.below hb (Nat.le_refl _)).cell rfl k (by omega), ints_at s k hks, hj]
          have hjt : j < (Col.tally l (s.take k)).length := by rw [Col.tally_length]; exact hjl
          have hv : (Col.tally l (s.take k))[j].2 ≤ k := by
            rw [Col.tally_at l _ j hjl]
            have := List.count_le_length (a := (j : Int)) (l := s.take k)
            have h2 : (s.take k).length ≤ k := List.length_take_le _ _
            show List.count _ _ ≤ k
            omega
          have d1 : wo.cell? ⟨w1.heap.size, j * 5 + 4, none⟩ = some (.int .i64 (Col.tally l (s.take k))[j].2) := by
            have := hown.reads.2.cell rfl (j * 5 + 4) (by omega)
            rw [Nat.zero_add] at this
            rw [this, useCells_at _ j hjt 4 (by omega)]
            rfl
          have f1 : wo.frozen? ⟨w1.heap.size, j * 5 + 4, none⟩ = false := by
            have := (hown.thereAt (j * 5 + 4) 1 (by omega) 0 (by omega)).2
            rwa [Nat.zero_add] at this
          have hset := hown.setAt (j * 5 + 4) (by omega) (.int .i64 ((Col.tally l (s.take k))[j].2 + 1 : Nat))
          rw [← useCells_set _ j hjt, ← Col.tally_snoc l _ j hjl hjt, ← hj] at hset
          have ht : s.take k ++ [s[k]] = s.take (k + 1) := (List.take_succ_eq_append_getElem hks).symm
          rw [ht, Nat.zero_add] at hset
          clear ht
          have hj0 : (0 : Int) ≤ j := by omega
          have hj1 : (j : Int) < l.length := by omega
          clear hj
          generalize (Col.tally l (s.take k))[j].2 = v at *
          go_wp2_with fail
          go_roundw
          case rel => exact ⟨k + 1, by omega, by go_num, hset, Below.setCell hb (Nat.le_refl _) _⟩
          case measure => simp [intOf]; omega
        · have e : k = ps.length := by omega
          subst e
          have et : s.take ps.length = s := List.take_of_length_le (by omega)
          rw [et, HC.out] at hown
          have hlen : l.length = (Col.uses ps).length := by rw [← HC.out, Col.tally_length]
          clear et
          go_wp2_with fail
          go_ret
          rw [hlen] at hown ⊢
          exact ⟨_, _, rfl, hown.mono (by omega), hbw.trans (hb.mono (by omega))⟩
end Go.Proofs.YtlpcmeodbigpjaaDoor
