/- tiles.newTile (its closure, slices.ContainsFunc), cut: the walks. -/
import Derived.Test.YtmimdckcbmmplaaGreatDoorCrop
import Derived.Test.YtmimdckcbmmplaaGreatDoorPxKey
namespace Go.Proofs.YtmimdckcbmmplaaGreatDoor
open Go Go.RowKit

theorem Own.capLe {w : World} {base size m c n : Nat} {A : Option Addr} {xs : List Value} (h : Own w base size (.slice A m c) n xs) : n ≤ c := by
  obtain ⟨_, _, e, h2, _⟩ := h.form
  injection e with _ _ e3
  omega
set_option maxRecDepth 100000 in
theorem tileBad_any (x q : Px) (pb b off n c : Nat) (w : World) (hb : Blk w pb 22 #[.slice (some ⟨b, off, none⟩) n c]) (hn : 0 < n) (q0 : w.cell? ⟨b, off, none⟩ = some (.int .u8 q.r.toNat)) (q1 : w.cell? ⟨b, off + 1, none⟩ = some (.int .u8 q.g.toNat)) (q2 : w.cell? ⟨b, off + 2, none⟩ = some (.int .u8 q.b.toNat)) (q3 : w.cell? ⟨b, off + 3, none⟩ = some (.int .u8 q.a.toNat)) :
    Calls Tryz.prog 63 #[.agg #[.int .u8 x.r.toNat, .int .u8 x.g.toNat, .int .u8 x.b.toNat, .int .u8 x.a.toNat], .pointer (some ⟨pb, 0, none⟩)] w fun e w' => e = .returned (.bool (!decide (x = q))) ∧ Below w.heap.size w w' := by
  have c0 : w.cell? ⟨pb, 0, none⟩ = some (.slice (some ⟨b, off, none⟩) n c) := (hb.cell 0).trans rfl
  have lb := cell_lt q0
  have lp := hb.lt
  have p0 := fun o => cell_past (w := w) o c0
  have r0 := fun o => cell_past (w := w) o q0
  have r1 := fun o => cell_past (w := w) o q1
  have r2 := fun o => cell_past (w := w) o q2
  have r3 := fun o => cell_past (w := w) o q3
  have hnq := fun w => run_neq_px w x q
  unfold pxV at hnq
  have n1 : (0 : Int) < (n : Int) := by omega
  clear c0 q0 q1 q2 q3
  go_enter Tryz.func63, Tryz.ntmps63
  go_wp2_with fail
  go_quiet (fail)
  go_wp2_with fail
  go_ret
  exact ⟨rfl, below_drewN (by go_grown) _⟩

/-- Where a pixel stands first that is not as the first one: nowhere, if all are alike. -/
def IdxSays (l : List Px) (e : Ending) : Prop := ∃ r : Int, e = .returned (.int .i64 r) ∧ ((Til.flatB l = true ∧ r = -1) ∨ (Til.flatB l = false ∧ 0 ≤ r))
theorem flatB_of {l : List Px} (h : ∀ j, (hj : j < l.length) → l[j] = l.getD 0 default) : Til.flatB l = true := by
  unfold Til.flatB
  rw [List.all_eq_true]
  intro p hp
  obtain ⟨j, hj, rfl⟩ := List.getElem_of_mem hp
  simpa using h j hj
theorem flatB_not {l : List Px} {k : Nat} (hk : k < l.length) (h : ¬ l[k] = l.getD 0 default) : Til.flatB l = false := by
  cases hf : Til.flatB l with
  | false => rfl
  | true =>
    have := Til.flatB_at hf k hk
    rw [List.getD_eq_getElem?_getD, List.getElem?_eq_getElem hk] at this
    exact absurd this h
set_option maxRecDepth 100000 in
set_option maxHeartbeats 1000000 in
theorem indexTile_any (b off n c pb : Nat) (l : List Px) (w : World) (hp : Reads w w.heap.size 4 (some ⟨b, off, none⟩) n (pxCells l)) (hb : Blk w pb 22 #[.slice (some ⟨b, off, none⟩) n c]) (hn : 0 < n) (hm : n ≤ 1048576) :
    Calls Tryz.prog 93 #[.slice (some ⟨b, off, none⟩) n c, .func (.func 63) #[] #[.pointer (some ⟨pb, 0, none⟩)]] w fun e w' => IdxSays l e ∧ Below w.heap.size w w' := by
  obtain rfl := hp.pxLen
  obtain ⟨q, hq⟩ : ∃ q, l.getD 0 default = q := ⟨_, rfl⟩
  have hq0 : l[0] = q := by rw [← hq, List.getD_eq_getElem?_getD, List.getElem?_eq_getElem hn]; rfl
  have HQ := Lib.hid hq
  have HQ0 := Lib.hid hq0
  clear hq hq0
  go_enter Tryz.func93, Tryz.ntmps93
  go_wp2_with fail
  go_loopw [8] (fun i wr => ∃ k : Nat, k ≤ l.length ∧ i = .int .i64 k ∧ Below w.heap.size w wr ∧ ∀ j, (hj : j < l.length) → j < k → l[j] = q) (fun i _ => l.length - (intOf i).toNat)
  case atStart => exact ⟨0, Nat.zero_le _, rfl, Below.refl _ _, fun j _ hj => by omega⟩
  case round =>
    obtain ⟨k, hk, rfl, hbl, hall⟩ := hrel
    obtain ⟨wo, rfl⟩ : ∃ wo : World, wo = wr := ⟨_, rfl⟩
    have HA := Lib.hid hall
    clear hall
    by_cases hlt : k < l.length
    · have hpo := (hp.below hbl (Nat.le_refl _)).more hbl.size
      obtain ⟨y0, y1, y2, y3⟩ := hpo.px k hlt
      obtain ⟨z0, z1, z2, z3⟩ := hpo.px 0 hn
      rw [HQ0.out, Nat.zero_mul, Nat.add_zero] at z0 z1 z2 z3
      have Z0 := Lib.hid z0
      have Z1 := Lib.hid z1
      have Z2 := Lib.hid z2
      have Z3 := Lib.hid z3
      have HB := Lib.hid (hb.below hbl hb.lt)
      obtain ⟨x, hx⟩ : ∃ x, l[k] = x := ⟨_, rfl⟩
      rw [hx] at y0 y1 y2 y3
      have HX := Lib.hid hx
      clear z0 z1 z2 z3 hpo hx
      by_cases e : x = q
      · have HE := Lib.hid e
        have hd : (!decide (x = q)) = false := by simp [e]
        clear e
        go_wp2_with fail
        refine (tileBad_any x q pb b off l.length c _ HB.out hn Z0.out Z1.out Z2.out Z3.out).mono ?_
        rw [hd]
        rintro e w3 ⟨rfl, hb3⟩
        go_wp2_with fail
        go_roundw
        case rel =>
          refine ⟨k + 1, by omega, by go_num, hbl.trans (hb3.mono hbl.size), fun j hj hjk => ?_⟩
          by_cases ej : j = k
          · subst ej; rw [HX.out]; exact HE.out
          · exact HA.out j hj (by omega)
        case measure => simp [intOf]; omega
      · have HF := Lib.hid (flatB_not hlt (by rw [HX.out, HQ.out]; exact e))
        have hd : (!decide (x = q)) = true := by simp [e]
        clear e
        go_wp2_with fail
        refine (tileBad_any x q pb b off l.length c _ HB.out hn Z0.out Z1.out Z2.out Z3.out).mono ?_
        rw [hd]
        rintro e w3 ⟨rfl, hb3⟩
        go_wp2_with fail
        go_ret
        exact ⟨⟨_, rfl, .inr ⟨HF.out, by omega⟩⟩, hbl.trans (hb3.mono hbl.size)⟩
    · have HF := Lib.hid (flatB_of (l := l) fun j hj => by rw [HQ.out]; exact HA.out j hj (by omega))
      go_wp2_with fail
      go_ret
      exact ⟨⟨_, rfl, .inl ⟨HF.out, rfl⟩⟩, hbl⟩

set_option maxRecDepth 100000 in
theorem containsTile_any (b off n c pb : Nat) (l : List Px) (w : World) (hp : Reads w w.heap.size 4 (some ⟨b, off, none⟩) n (pxCells l)) (hb : Blk w pb 22 #[.slice (some ⟨b, off, none⟩) n c]) (hn : 0 < n) (hm : n ≤ 1048576) :
    Calls Tryz.prog 62 #[.slice (some ⟨b, off, none⟩) n c, .func (.func 63) #[] #[.pointer (some ⟨pb, 0, none⟩)]] w fun e w' => e = .returned (.bool (!Til.flatB l)) ∧ Below w.heap.size w w' := by
  go_enter Tryz.func62, Tryz.ntmps62
  go_wp2_with fail
  refine (indexTile_any b off n c pb l _ hp hb hn hm).mono ?_
  rintro e w1 ⟨⟨r, rfl, hr⟩, hb1⟩
  rcases hr with ⟨hf, rfl⟩ | ⟨hf, h0⟩
  · have HF := Lib.hid hf
    go_wp2_with fail
    go_ret
    exact ⟨by rw [HF.out]; rfl, hb1⟩
  · have HF := Lib.hid hf
    go_wp2_with fail
    go_ret
    exact ⟨by rw [HF.out]; first | (simp; done) | (simp; omega), hb1⟩

set_option maxRecDepth 100000 in
set_option maxHeartbeats 2000000 in
theorem newTile_any (W H : Nat) (A : Option Addr) (n c : Nat) (l : List Px) (w : World) (hp : Reads w w.heap.size 4 A n (pxCells l)) (hn : 0 < n) (hm : n ≤ 1048576) (hc : n ≤ c) :
    Calls Tryz.prog 40 #[.int .i64 W, .int .i64 H, .slice A n c] w
      fun e w' => ∃ t : TM, e = .returned (.pointer (some ⟨t.b, 0, none⟩)) ∧ t.w = W ∧ t.A = A ∧ w.heap.size ≤ t.b ∧ t.l = Til.small l ∧ TileIn w' t ∧ Below w.heap.size w w' := by
  obtain ⟨b, off, rfl, hbl⟩ := hp.addr (by omega)
  have hp1 := fun o => (hp.alloc (Nat.le_refl _) o).more (show w.heap.size ≤ (w.alloc o).heap.size by simp)
  have HP1 := Lib.hid hp1
  have hln := hp.pxLen
  have HLN := Lib.hid hln
  have c1 : (1 : Int) ≤ (c : Int) := by omega
  clear hp1 hln
  cases hf : Til.flatB l with
  | false =>
    have HF := Lib.hid hf
    have HS := Lib.hid (show Til.small l = l by rw [Til.small, if_neg (by rw [hf]; exact Bool.false_ne_true)])
    clear hf
    go_enter Tryz.func40, Tryz.ntmps40
    go_wp2_with fail
    refine (containsTile_any b off n c w.heap.size l _ (HP1.out _) (Blk.new _ _ _ rfl) hn hm).mono ?_
    rw [HF.out]
    rintro e w1 ⟨rfl, hb1⟩
    have B1 := (Blk.new w 22 #[.slice (some ⟨b, off, none⟩) n c] rfl).below hb1 (by simp)
    have hbw : Below w.heap.size w w1 := Below.trans (by go_grown) (hb1.mono (by simp))
    have cB := B1.cell
    have lB := B1.lt
    clear hb1
    go_wp2_with fail
    go_ret
    refine ⟨⟨w1.heap.size, W, H, some ⟨b, off, none⟩, n, c, l⟩, rfl, rfl, rfl, hbw.size, HS.out.symm, ⟨Blk.new _ _ _ rfl, ?_⟩, hbw.alloc hbw.size _⟩
    exact ((hp.below hbw (Nat.le_refl _)).more hbw.size).alloc (Nat.le_refl _) _ |>.more (by simp)
  | true =>
    have HF := Lib.hid hf
    have HS := Lib.hid (show Til.small l = l.take 1 by rw [Til.small, if_pos hf])
    clear hf
    go_enter Tryz.func40, Tryz.ntmps40
    go_wp2_with fail
    refine (containsTile_any b off n c w.heap.size l _ (HP1.out _) (Blk.new _ _ _ rfl) hn hm).mono ?_
    rw [HF.out]
    rintro e w1 ⟨rfl, hb1⟩
    have B1 := (Blk.new w 22 #[.slice (some ⟨b, off, none⟩) n c] rfl).below hb1 (by simp)
    have hbw : Below w.heap.size w w1 := Below.trans (by go_grown) (hb1.mono (by simp))
    have cB := B1.cell
    have fB := B1.free
    have lB := B1.lt
    clear hb1
    go_wp2_with fail
    go_ret
    refine ⟨⟨w1.heap.size, W, H, some ⟨b, off, none⟩, 1, 1, l.take 1⟩, rfl, rfl, rfl, hbw.size, HS.out.symm, ⟨Blk.new _ _ _ (by simp [World.setCell]), ?_⟩, (hbw.setCell (Nat.le_refl _) _).alloc (by have := hbw.size; simp [World.setCell]; omega) _⟩
    have h1 := (hp.take (k := 1) (by omega)).below (hbw.setCell (p := ⟨w.heap.size, 0, none⟩) (Nat.le_refl _) (.slice (some ⟨b, off, none⟩) 1 1)) (Nat.le_refl _)
    have e : (pxCells l).take (1 * 4) = pxCells (l.take 1) := by
      match l, HLN.out with
      | a :: r, _ => rfl
      | [], h => simp at h; omega
    rw [e] at h1
    exact ((h1.more (by have := hbw.size; simp [World.setCell]; omega)).alloc (Nat.le_refl _) _).more (by simp)

set_option maxRecDepth 100000 in
set_option maxHeartbeats 1000000 in
theorem cut_any (W H : Nat) (A : Option Addr) (n c : Nat) (ps : List Px) (r : Til.R) (w : World) (hp : Reads w w.heap.size 4 A n (pxCells ps)) (hW : W ≤ 256) (hH : H ≤ 256) (hn : ps.length = H * W) (hr : Til.In W H r) :
    Calls Tryz.prog 23 #[.agg #[.int .i64 W, .int .i64 H, .slice A n c], .agg #[.int .i64 r.x, .int .i64 r.y, .int .i64 r.w, .int .i64 r.h]] w
      fun e w' => ∃ t : TM, e = .returned (.pointer (some ⟨t.b, 0, none⟩)) ∧ t.w = r.w ∧ Above w.heap.size t ∧ t.l = Til.small (Til.crop ps W r) ∧ TileIn w' t ∧ Below w.heap.size w w' := by
  have hm1 : 1 * 1 ≤ r.h * r.w ∧ r.h * r.w ≤ 16 * 16 := ⟨Nat.mul_le_mul hr.h1 hr.w1, Nat.mul_le_mul hr.h16 hr.w16⟩
  have HMM := Lib.hid hm1
  have hp1 := fun o o2 => ((hp.alloc (Nat.le_refl _) o).more (show w.heap.size ≤ (w.alloc o).heap.size by simp)).alloc (Nat.le_refl _) o2 |>.more (show (w.alloc o).heap.size ≤ ((w.alloc o).alloc o2).heap.size by simp)
  have HP1 := Lib.hid hp1
  have HRI := Lib.hid hr
  have HN := Lib.hid hn
  clear hp1 hp hr hm1 hn
  go_enter Tryz.func23, Tryz.ntmps23
  go_wp2_with fail
  refine (crop_any W H A n c ps r _ (HP1.out _ _) hW hH HN.out HRI.out).mono ?_
  rintro e w1 ⟨A', c', rfl, hO, hb1⟩
  have B2 := (Blk.new (w.alloc (.cells #[.int .i64 W, .int .i64 H, .slice A n c] 24)) 35 #[.int .i64 r.x, .int .i64 r.y, .int .i64 r.w, .int .i64 r.h] (g := w.heap.size + 1) (by simp)).below hb1 (by simp)
  have hbw : Below w.heap.size w w1 := Below.trans (by go_grown) (hb1.mono (by simp; omega))
  have c2 := B2.cell
  have l2 := B2.lt
  have RO := Lib.hid hO.reads.2
  have HCV := Lib.hid hO.capLe
  have HLO := Lib.hid (fun b off (e : A' = some ⟨b, off, none⟩) => (hO.lt b (by rw [e]; rfl)).1)
  clear hO hb1
  have HNT := Lib.hid (newTile_any r.w r.h A' (r.h * r.w) c' (Til.crop ps W r) (w1.alloc (.cells #[.int .i64 r.w, .int .i64 r.h, .slice A' (r.h * r.w) c'] 24)) ((RO.out.alloc (Nat.le_refl _) _).more (by simp)) (by have := HMM.out; omega) (by have := HMM.out; omega) HCV.out)
  go_wp2_with fail
  with_reducible refine HNT.out.mono ?_
  rintro e w2 ⟨t, rfl, ht1, htA, htb, ht2, ht3, hb2⟩
  have HAB := Lib.hid (show Above w.heap.size t from ⟨by have := hbw.size; simp at htb; omega, fun b off e => by have := HLO.out b off (htA.symm.trans e); simp at this; omega⟩)
  have HT1 := Lib.hid ht1
  have HT2 := Lib.hid ht2
  have HT3 := Lib.hid ht3
  have hbw2 : Below w.heap.size w w2 := (hbw.alloc hbw.size _).trans (hb2.mono (by have := hbw.size; simp; omega))
  clear ht1 ht2 ht3 hb2 htA htb
  go_wp2_with fail
  go_ret
  exact ⟨t, rfl, HT1.out, HAB.out, HT2.out, HT3.out, hbw2⟩
end Go.Proofs.YtmimdckcbmmplaaGreatDoor
