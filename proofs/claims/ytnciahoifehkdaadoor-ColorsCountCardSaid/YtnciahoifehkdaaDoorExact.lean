/- colors.Exact: the walk. -/
import Derived.Test.YtnciahoifehkdaaDoorCountOf
import Derived.Test.YtnciahoifehkdaaDoorCode
namespace Go.Proofs.YtnciahoifehkdaaDoor
open Go Go.RowKit

theorem useMap_place (us : List (Px × Nat)) (x : Px) (hx : Col.placeOf x (us.map (·.1)) < us.length) : mfind x (useMap us) 0 = some (Col.placeOf x (us.map (·.1)), .int .i64 (Col.placeOf x (us.map (·.1)) : Nat)) := by
  cases hf : mfind x (useMap us) 0 with
  | none =>
    rw [mfind_none, useMap_keys] at hf
    have := Col.placeOf_at x (us.map (·.1)) (by simpa using hx)
    exact absurd (this ▸ List.getElem_mem _) hf
  | some q =>
    obtain ⟨j, v⟩ := q
    obtain ⟨hj, rfl, hx2, _⟩ := useMap_some hf
    obtain ⟨_, h1, h2⟩ := mfind_some hf
    have e : Col.placeOf x (us.map (·.1)) = j := by
      refine Col.placeOf_of x _ j (by simp; omega) (fun t ht => ?_) (fun h => by simpa using hx2)
      rw [List.getElem_map]
      exact h2 t _ _ (by omega) (useMap_at us t (by omega))
    rw [e]
theorem useMap_next (us : List (Px × Nat)) (k : Nat) (hk : k < us.length) (hnd : (us.map (·.1)).Nodup) : mput us[k].1 (.int .i64 k) (useMap (us.take k)) = useMap (us.take (k + 1)) := by
  have hno : mfind us[k].1 (useMap (us.take k)) 0 = none := by
    rw [mfind_none, useMap_keys]
    intro hm
    obtain ⟨q, hq, e⟩ := List.mem_map.1 hm
    obtain ⟨t, ht, e2⟩ := List.getElem_of_mem hq
    have htk : t < k := by have := List.length_take_le k us; omega
    rw [List.getElem_take] at e2
    have h1 : (us.map (·.1))[t]'(by simp; omega) = (us.map (·.1))[k]'(by simp; omega) := by
      rw [List.getElem_map, List.getElem_map, e2, e]
    exact (List.pairwise_iff_getElem.1 hnd) t k (by simp; omega) (by simp; omega) htk h1
  rw [mput_none _ hno]
  have e : us.take (k + 1) = us.take k ++ [(us[k].1, us[k].2)] := List.take_succ_eq_append_getElem hk
  rw [e, useMap_snoc]
  congr 3
  rw [List.length_take]
  have : min k us.length = k := by omega
  rw [this]

set_option maxRecDepth 100000 in
theorem exact_shape (W H : Int) (A : Option Addr) (n c : Nat) (most : Int) (E : Nat → Addr) (w : World) (hE : ErrsAt w E) (hr : rightB W H n = false) :
    Calls Tryd.prog 40 #[.agg #[.int .i64 W, .int .i64 H, .slice A n c], .int .i64 most] w
      fun e w' => e = .returned (.tuple #[.slice none 0 0, .slice none 0 0, errV (E 2)]) ∧ Below w.heap.size w w' := by
  go_enter Tryd.func40, Tryd.ntmps40
  go_wp2_with fail
  refine (count_bad W H A n c _ _ _ (cell_past _ hE.shape) hr).mono ?_
  rintro e w1 ⟨rfl, hb1⟩
  go_wp2_with fail
  go_ret3
  exact ⟨rfl, Below.trans (by go_grown) (hb1.mono (by first | omega | (simp; done) | (simp; omega)))⟩
set_option maxRecDepth 100000 in
theorem exact_bound (W H : Int) (A : Option Addr) (n c : Nat) (ps : List Px) (most : Int) (E : Nat → Addr) (w : World) (hp : Reads w w.heap.size 4 A n (pxCells ps)) (hE : ErrsAt w E) (hr : rightB W H n = true) (hm : sideB most = false) :
    Calls Tryd.prog 40 #[.agg #[.int .i64 W, .int .i64 H, .slice A n c], .int .i64 most] w
      fun e w' => e = .returned (.tuple #[.slice none 0 0, .slice none 0 0, errV (E 1)]) ∧ Below w.heap.size w w' := by
  go_enter Tryd.func40, Tryd.ntmps40
  go_wp2_with fail
  refine (count_any W H A n c ps _ ((hp.alloc (Nat.le_refl _) _).more (by first | omega | (simp; done) | (simp; omega))) hr).mono ?_
  rintro e w1 ⟨A1, c1, rfl, ho1, hb1⟩
  have hbw : Below w.heap.size w w1 := Below.trans (by go_grown) (hb1.mono (by first | omega | (simp; done) | (simp; omega)))
  have hb0 := (hE.below hbw).bound
  clear ho1 hb1
  go_wp2_with fail
  refine (many_any most _).mono ?_
  rintro e w2 ⟨rfl, rfl⟩
  rw [hm]
  go_wp2_with fail
  go_quiet (fail)
  go_wp2
  go_ret3
  exact ⟨rfl, below_drewN hbw _⟩
set_option maxRecDepth 100000 in
theorem exact_many (W H : Int) (A : Option Addr) (n c : Nat) (ps : List Px) (most : Int) (E : Nat → Addr) (w : World) (hp : Reads w w.heap.size 4 A n (pxCells ps)) (hE : ErrsAt w E) (hr : rightB W H n = true) (hm : sideB most = true)
    (hmany : most < (Col.uses ps).length) :
    Calls Tryd.prog 40 #[.agg #[.int .i64 W, .int .i64 H, .slice A n c], .int .i64 most] w
      fun e w' => e = .returned (.tuple #[.slice none 0 0, .slice none 0 0, errV (E 6)]) ∧ Below w.heap.size w w' := by
  go_enter Tryd.func40, Tryd.ntmps40
  go_wp2_with fail
  refine (count_any W H A n c ps _ ((hp.alloc (Nat.le_refl _) _).more (by first | omega | (simp; done) | (simp; omega))) hr).mono ?_
  rintro e w1 ⟨A1, c1, rfl, ho1, hb1⟩
  have hbw : Below w.heap.size w w1 := Below.trans (by go_grown) (hb1.mono (by first | omega | (simp; done) | (simp; omega)))
  have hb0 := (hE.below hbw).colors
  clear ho1 hb1
  go_wp2_with fail
  refine (many_any most _).mono ?_
  rintro e w2 ⟨rfl, rfl⟩
  rw [hm]
  go_wp2_with fail
  go_quiet (fail)
  go_wp2
  go_ret3
  exact ⟨rfl, below_drewN hbw _⟩

/-- The relations of Exact's loops. -/
structure EX1 (w w1 : World) (W H : Int) (A : Option Addr) (n c : Nat) (us : List (Px × Nat)) (v i : Value) (wr : World) (k : Nat) : Prop where
  hk : k ≤ us.length
  hi : i = .int .i64 k
  own : Own wr (w1.heap.size + 1) 4 v k (pxCells ((us.take k).map (·.1)))
  map : MapAt wr w1.heap.size pxV (useMap (us.take k))
  bel : Below w1.heap.size w1 wr
structure EX2 (w1 wa : World) (us : List (Px × Nat)) (s : List Int) (v i : Value) (wr : World) (k : Nat) : Prop where
  hk : k ≤ s.length
  hi : i = .int .i64 k
  own : Own wr wa.heap.size 1 v k (ints (s.take k))
  map : MapAt wr w1.heap.size pxV (useMap us)
  bel : Below wa.heap.size wa wr

set_option maxRecDepth 100000 in
set_option maxHeartbeats 1000000 in
theorem exact_ok (W H : Int) (A : Option Addr) (n c : Nat) (ps : List Px) (most : Int) (w : World) (hp : Reads w w.heap.size 4 A n (pxCells ps)) (hr : rightB W H n = true) (hm : sideB most = true)
    (hmany : (Col.uses ps).length ≤ most) :
    Calls Tryd.prog 40 #[.agg #[.int .i64 W, .int .i64 H, .slice A n c], .int .i64 most] w
      fun e w' => ∃ A1 c1 A2 c2, e = .returned (.tuple #[.slice A1 (Col.unl ps).1.length c1, .slice A2 n c2, .nilIface]) ∧ Own w' w.heap.size 4 (.slice A1 (Col.unl ps).1.length c1) (Col.unl ps).1.length (pxCells (Col.unl ps).1) ∧
        Own w' w.heap.size 1 (.slice A2 n c2) n (ints (Col.unl ps).2) ∧ Below w.heap.size w w' := by
  have hn := rightB_le hr
  obtain rfl := hp.pxLen
  have hmm := @run_makeMap Tryd.prog
  have hzz : ∀ W : World, (zeroValue 3).run Tryd.prog W = .ok (.int .i64 0) W := fun _ => by kernel_rfl
  have hcol := Col.unl_cols ps
  have hnum := Col.unl_nums ps
  have hin := Col.unl_in ps
  rw [hcol] at hnum hin
  obtain ⟨l, hl⟩ : ∃ l, l = (Col.unl ps).1 := ⟨_, rfl⟩
  obtain ⟨s, hs⟩ : ∃ s, s = (Col.unl ps).2 := ⟨_, rfl⟩
  have HL := Lib.hid (hl.trans hcol)
  have HS := Lib.hid (hs.trans hnum)
  have hsl : s.length = ps.length := by rw [hs, hnum, List.length_map]
  have hll : l.length = (Col.uses ps).length := by rw [hl, hcol, List.length_map]
  rw [← hl, ← hs]
  clear hl hs
  have hnd := Col.uses_nodup ps ps.length (Nat.le_refl _)
  have hub := (Col.uses_take_bounds ps ps.length (Nat.le_refl _)).1
  rw [List.take_length] at hnd hub
  have HND := Lib.hid hnd
  have HIN := Lib.hid hin
  clear hcol hnum hin hnd
  have hm1 := sideB_true hm
  go_enter Tryd.func40, Tryd.ntmps40
  go_wp2_with fail
  refine (count_any W H A ps.length c ps _ ((hp.alloc (Nat.le_refl _) _).more (by first | omega | (simp; done) | (simp; omega))) hr).mono ?_
  rintro e w1 ⟨A1, c1, rfl, ho1, hb1⟩
  have B1 := (Blk.new w 24 #[.int .i64 W, .int .i64 H, .slice A ps.length c] rfl).below hb1 (by first | omega | (simp; done) | (simp; omega))
  have hbw : Below w.heap.size w w1 := Below.trans (by go_grown) (hb1.mono (by first | omega | (simp; done) | (simp; omega)))
  have hr1 := ho1.reads.2
  clear ho1 hb1
  obtain ⟨us, hus⟩ : ∃ us, us = Col.uses ps := ⟨_, rfl⟩
  rw [← hus] at hr1 hmany HND HIN hub HL HS hll ⊢
  clear hus
  go_wp2_with fail
  refine (many_any most _).mono ?_
  rintro e w2 ⟨rfl, rfl⟩
  rw [hm]
  go_wp2_with fail
  go_loopw [4, 36] (fun v i wr => ∃ k, EX1 w w1 W H A ps.length c us v i wr k) (fun _ i _ => us.length - (intOf i).toNat)
  case atStart => exact ⟨0, Nat.zero_le _, rfl, Own.nil _ _ _, MapAt.new w1 pxV, Below.alloc (Below.refl _ _) (Nat.le_refl _) _⟩
  case round =>
    obtain ⟨k, hk, rfl, hown, hmap, hb⟩ := hrel
    obtain ⟨wo, rfl⟩ : ∃ wo : World, wo = wr := ⟨_, rfl⟩
    have hml := hmap.lt
    by_cases hlt : k < us.length
    · obtain ⟨b, off, rfl, hbl⟩ := hr1.addr (by omega)
      have hrk := hr1.below hb (Nat.le_refl _)
      have q0 : wo.cell? ⟨b, off + k * 5, none⟩ = some (.int .u8 us[k].1.r.toNat) := by
        have := hrk.cell rfl (k * 5) (by omega)
        rw [this]; exact useCells_at us k hlt 0 (by omega)
      have q1 : wo.cell? ⟨b, off + k * 5 + 1, none⟩ = some (.int .u8 us[k].1.g.toNat) := by
        rw [Nat.add_assoc, hrk.cell rfl (k * 5 + 1) (by omega)]; exact useCells_at us k hlt 1 (by omega)
      have q2 : wo.cell? ⟨b, off + k * 5 + 2, none⟩ = some (.int .u8 us[k].1.b.toNat) := by
        rw [Nat.add_assoc, hrk.cell rfl (k * 5 + 2) (by omega)]; exact useCells_at us k hlt 2 (by omega)
      have q3 : wo.cell? ⟨b, off + k * 5 + 3, none⟩ = some (.int .u8 us[k].1.a.toNat) := by
        rw [Nat.add_assoc, hrk.cell rfl (k * 5 + 3) (by omega)]; exact useCells_at us k hlt 3 (by omega)
      have q4 : wo.cell? ⟨b, off + k * 5 + 4, none⟩ = some (.int .i64 us[k].2) := by
        rw [Nat.add_assoc, hrk.cell rfl (k * 5 + 4) (by omega)]; exact useCells_at us k hlt 4 (by omega)
      clear hrk
      obtain ⟨Ao, co, rfl, hco, hro⟩ := hown.form
      have hblk : ∀ g, (Value.slice Ao k co).ownBlock = some g → w1.heap.size + 1 ≤ g ∧ g < wo.heap.size := fun g hg => hown.lt g hg
      have HM := Lib.hid (useMap_next us k hlt HND.out)
      have HT := Lib.hid (show pxCells ((us.take (k + 1)).map (·.1)) = pxCells ((us.take k).map (·.1)) ++ pxCs us[k].1 by
        rw [List.take_succ_eq_append_getElem hlt, List.map_append, pxCells_append]; simp [pxCells])
      obtain ⟨x, hx⟩ : ∃ x, x = us[k].1 := ⟨_, rfl⟩
      rw [← hx] at q0 q1 q2 q3 HM HT
      clear hx
      obtain ⟨i0, hi, hz0, hz1, hz2⟩ := info_parts pxInfo
      go_wp2_with (first
        | (at_mapUpdate; refine wpList_mapUpdate_at rfl (.tmp 41) (.tmp 43) (.tmp 44) 161 rfl pxKey Tryd.underlying161 rfl (hmap.alloc _) x rfl (.int .i64 k) rfl ?_; intro w3 hmap3 hg3; have b0 : w3.cell? ⟨wo.heap.size, 0, none⟩ = some (.int .u8 x.r.toNat) := hg3.cell (cell_made _ _ _ rfl rfl) (by simp; omega); have b1 : w3.cell? ⟨wo.heap.size, 1, none⟩ = some (.int .u8 x.g.toNat) := hg3.cell (cell_made _ _ _ rfl rfl) (by simp; omega); have b2 : w3.cell? ⟨wo.heap.size, 2, none⟩ = some (.int .u8 x.b.toNat) := hg3.cell (cell_made _ _ _ rfl rfl) (by simp; omega); have b3 : w3.cell? ⟨wo.heap.size, 3, none⟩ = some (.int .u8 x.a.toNat) := hg3.cell (cell_made _ _ _ rfl rfl) (by simp; omega); have hown3 : Own w3 (w1.heap.size + 1) 4 (.slice Ao k co) k (pxCells ((us.take k).map (·.1))) := (hown.alloc _).kept hg3 (.inr (fun e => by have h8 := (hblk _ e).1; omega)); have hz3 : wo.heap.size + 1 ≤ w3.heap.size := by have hs3 := hg3.size; simpa using hs3)
        | (at_builtin; refine wpList_append_S rfl (.tmp 45) (.tmp 48) 22 22 rfl (w1.heap.size + 1) 26 i0 _ 4 4 Tryd.underlying22 hi hz0 hz1 hz2 rfl (by decide) (.slice Ao k co) (k) (pxCells ((us.take k).map (·.1))) rfl (hown3.alloc _) (pxCells_one _) (1) ([.int .u8 x.r.toNat, .int .u8 x.g.toNat, .int .u8 x.b.toNat, .int .u8 x.a.toNat]) (Src.made Tryd.underlying22 (by first | rfl | simp) rfl (by intro u hu; exact pxCells_one [x] u hu)) (k + 1) (by omega) (pxCells ((us.take (k + 1)).map (·.1))) (by rw [HT.out]; rfl) (by unfold maxLen; omega) (by omega) (by first | omega | (simp; done) | (simp; omega)) ?_; intro A' c' w4 hown4 hg4 hat4))
      have hs4 := hg4.size
      simp at hs4
      go_roundw
      case rel =>
        refine ⟨k + 1, by omega, by go_num, hown4, ?_, ?_⟩
        · rw [← HM.out]
          exact (hmap3.alloc _).grown hg4 (fun e => by have := (hblk _ e.symm).1; omega)
        · exact Below.grown (Below.alloc (Below.grown (Below.alloc hb (by omega) _) hg3 (by simp; omega) (fun g hg => by simp at hg; omega)) (by omega) _) hg4 (by simp; omega) (fun g hg => by have := (hblk g hg).1; omega)
      case measure => simp [intOf]; omega
    · have e : k = us.length := by omega
      subst e
      rw [List.take_length] at hown hmap
      have hwl := B1.lt
      have d2 : wo.cell? ⟨w.heap.size, 2, none⟩ = some (.slice A ps.length c) := bcell_ hb hwl (by rw [B1.cell]; rfl)
      obtain ⟨Ap, cp, rfl, hcp, hrp⟩ := hown.form
      go_wp2_with fail
      have hbw2 := hbw.trans (hb.mono hbw.size)
      go_loopw [5, 54] (fun v i wr => ∃ k, EX2 w1 wo us s v i wr k) (fun _ i _ => ps.length - (intOf i).toNat)
      case atStart => exact ⟨0, Nat.zero_le _, rfl, Own.nil _ _ _, hmap, Below.refl _ _⟩
      case round =>
        obtain ⟨k, hk, rfl, hown2, hmap2, hb2⟩ := hrel
        obtain ⟨wq, rfl⟩ : ∃ wq : World, wq = wr := ⟨_, rfl⟩
        have hsz2 := hb2.size
        by_cases hlt : k < ps.length
        · obtain ⟨b, off, rfl, hbl⟩ := hp.addr (by omega)
          obtain ⟨p0, p1, p2, p3⟩ := (hp.below (hbw2.trans (hb2.mono hbw2.size)) (Nat.le_refl _)).px k hlt
          have HF := Lib.hid (useMap_place us ps[k] (by simpa using HIN.out ps[k] (List.getElem_mem hlt)))
          have HT := Lib.hid (show ints (s.take (k + 1)) = ints (s.take k) ++ [.int .i64 (Col.placeOf ps[k] (us.map (·.1)) : Nat)] by
            have hks : k < s.length := by omega
            rw [List.take_succ_eq_append_getElem hks, ← ints_snoc]
            congr 3
            simp [HS.out])
          obtain ⟨Ao, co, rfl, hco, hro⟩ := hown2.form
          have hblk : ∀ g, (Value.slice Ao k co).ownBlock = some g → wo.heap.size ≤ g ∧ g < wq.heap.size := fun g hg => hown2.lt g hg
          generalize Col.placeOf ps[k] (us.map (·.1)) = pl at *
          obtain ⟨i0, hi, hz0, hz1, hz2⟩ := info_parts intInfo
          go_wp2_with (first
            | (refine wpList_lookup_at rfl (.tmp 59) (.tmp 60) 161 false rfl pxKey Tryd.underlying161 (hzz _) rfl (hmap2.alloc _) ps[k] rfl (.int .i64 pl) (by rw [HF.out]; rfl) ?_)
            | (at_builtin; refine wpList_append_S rfl (.tmp 58) (.tmp 62) 63 63 rfl (wo.heap.size) 3 i0 (.int .i64 0) 1 8 Tryd.underlying63 hi hz0 hz1 hz2 rfl (by decide) (.slice Ao k co) (k) (ints (s.take k)) rfl ((hown2.alloc _).alloc _) (ints_one _) (1) ([.int .i64 pl]) (Src.made Tryd.underlying63 (by first | rfl | simp) rfl (by intro u hu; cases List.mem_singleton.1 hu; rfl)) (k + 1) (by omega) (ints (s.take (k + 1))) (by rw [HT.out]) (by unfold maxLen; omega) (by omega) (by first | omega | (simp; done) | (simp; omega)) ?_; intro A' c' w4 hown4 hg4 hat4))
          have hs4 := hg4.size
          simp at hs4
          go_roundw
          case rel =>
            refine ⟨k + 1, by omega, by go_num, hown4, ?_, ?_⟩
            · exact ((hmap2.alloc _).alloc _).grown hg4 (fun e => by have := (hblk _ e.symm).1; omega)
            · exact Below.grown (Below.alloc (Below.alloc hb2 (by omega) _) (by simp; omega) _) hg4 (by simp; omega) (fun g hg => by have := (hblk g hg).1; omega)
          case measure => simp [intOf]; omega
        · have e : k = ps.length := by omega
          subst e
          have et : s.take ps.length = s := List.take_of_length_le (by omega)
          rw [et] at hown2
          obtain ⟨Ao, co, rfl, hco, hro⟩ := hown2.form
          rw [← HL.out] at hown
          go_wp2_with fail
          go_ret3
          rw [hll]
          exact ⟨Ap, cp, Ao, co, rfl, (hown.below hb2 (Nat.le_refl _)).mono (by omega), hown2.mono (by omega), hbw2.trans (hb2.mono (by omega))⟩
end Go.Proofs.YtnciahoifehkdaaDoor
