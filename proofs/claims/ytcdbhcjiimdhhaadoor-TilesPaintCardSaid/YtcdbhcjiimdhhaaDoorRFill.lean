/- raster.each with the closure raster.Fill$1: the walk. Printed by mkeach.py. raster.near (its closure, slices.ContainsFunc of ints): the walks. raster.check with a fault: the walks. raster.Fill (its closure): the walks. -/
import Derived.Test.YtcdbhcjiimdhhaaDoorCrop
import Derived.Test.YtcdbhcjiimdhhaaDoorBase
import Derived.Test.YtcdbhcjiimdhhaaDoorMem
import Derived.Deep.QuietTactic
import Derived.BigQuiet
import Derived.Test.YtcdbhcjiimdhhaaDoorCode
import Derived.Test.YtcdbhcjiimdhhaaDoorTileLaw
import Derived.Deep.RegionHeld3
namespace Go.Proofs.YtcdbhcjiimdhhaaDoor
open Go Go.RowKit

set_option maxRecDepth 100000 in
set_option maxHeartbeats 4000000 in
theorem eachFill_any (W' H' : Nat) (c1 c2 c3 : Value) (f : Nat → Nat → Px) (w : World) (hW : W' ≤ 256) (hH : H' ≤ 256)
    (how : ∀ (x y : Nat) (w' : World), x < W' → y < H' → Below w.heap.size w w' → Calls Tryd.prog 59 #[.int .i64 x, .int .i64 y, c1, c2, c3] w' fun e w'' => e = .returned (.agg #[.int .u8 (f x y).r.toNat, .int .u8 (f x y).g.toNat, .int .u8 (f x y).b.toNat, .int .u8 (f x y).a.toNat]) ∧ Below w'.heap.size w' w'') :
    Calls Tryd.prog 58 #[.int .i64 W', .int .i64 H', .func (.func 59) #[] #[c1, c2, c3]] w
      fun e w' => ∃ A' c', e = .returned (.agg #[.int .i64 W', .int .i64 H', .slice A' (H' * W') c']) ∧ Own w' w.heap.size 4 (.slice A' (H' * W') c') (H' * W') (pxCells (Lay.grid f W' H')) ∧ Below w.heap.size w w' := by
  obtain ⟨i0, hi, hz0, hz1, hz2⟩ := info_parts pxInfo
  have HOW := Lib.hid how
  clear how
  have HGL := Lib.hid (Lay.grid_length f W' H')
  go_enter Tryd.func58, Tryd.ntmps58
  go_wp2_with fail
  obtain ⟨w2, hw2⟩ : ∃ w2, w2 = (w.alloc (.cells #[.int .i64 0, .int .i64 0, .slice none 0 0] 24)).alloc (.cells #[.int .i64 W', .int .i64 H', .slice none 0 0] 24) := ⟨_, rfl⟩
  have F0 : EaR W' H' w (.slice none 0 0) [] w2 := by
    rw [hw2]
    exact ⟨(Blk.new _ _ _ rfl).alloc _, Blk.new _ _ _ (by simp), Own.nil _ _ _, by go_grown⟩
  rw [← hw2]
  clear hw2
  go_loopw [14] (fun i wr => ∃ (k : Nat) (v : Value), k ≤ H' ∧ i = .int .i64 k ∧ EaR W' H' w v (Lay.grid f W' k) wr) (fun i _ => H' - (intOf i).toNat)
  case atStart => exact ⟨0, _, Nat.zero_le _, rfl, F0⟩
  case round =>
    clear F0
    obtain ⟨k, v0, hk, rfl, F0⟩ := hrel
    obtain ⟨wo, rfl⟩ : ∃ wo : World, wo = wr := ⟨_, rfl⟩
    have c5 := F0.b5.cell
    have c1' := F0.b1.cell
    have f1 := F0.b1.free
    by_cases hlt : k < H'
    · go_wp2_with fail
      go_loopw [18] (fun i wr => ∃ (j : Nat) (v : Value), j ≤ W' ∧ i = .int .i64 j ∧ EaR W' H' w v (Lay.gridTo f W' k j) wr) (fun i _ => W' - (intOf i).toNat)
      case atStart => exact ⟨0, v0, Nat.zero_le _, rfl, by rw [Lay.gridTo_zero]; exact F0⟩
      case round =>
        clear F0 c5 c1' f1
        obtain ⟨j, v, hj, rfl, F⟩ := hrel
        obtain ⟨wi, rfl⟩ : ∃ wi : World, wi = wr := ⟨_, rfl⟩
        by_cases hjl : j < W'
        · obtain ⟨Av, cv, rfl, hcv, _⟩ := F.own.form
          have hlen := Lay.gridTo_length f W' k j
          have HS := Lib.hid (Lay.gridTo_succ f W' k j)
          obtain ⟨l, hl⟩ : ∃ l, l = Lay.gridTo f W' k j := ⟨_, rfl⟩
          rw [← hl] at F hlen HS
          have hll : l.length ≤ 131072 := by
            have := Nat.mul_le_mul hk hW
            have : H' * 256 ≤ 65536 := by omega
            omega
          have HL := Lib.hid hl
          clear hl hlen
          obtain ⟨q, hq⟩ : ∃ q, f j k = q := ⟨_, rfl⟩
          have HQ := Lib.hid hq
          clear hq
          have hcall := HOW.out j k wi.drew hjl hlt F.bel.drew
          rw [HQ.out] at hcall
          have HC := Lib.hid hcall
          clear hcall
          have s5 : wi.cell? ⟨w.heap.size + 1, 2, none⟩ = some (.slice Av l.length cv) := (F.b5.cell 2).trans rfl
          have h5l := F.b5.lt
          go_wp2_with fail
          have p5 := fun o => cell_past (w := wi) o s5
          go_region_law
            (first
              | (refine step_append_Own _ rfl (.tmp 22) (.tmp 27) 22 22 rfl (w.heap.size + 2) 41 i0 _ 4 4 Tryd.underlying22 hi hz0 hz1 hz2 rfl (by decide) (.slice Av l.length cv) l.length (pxCells l) rfl ((F.own.below (Below.fromDrew hbA) (Nat.le_refl _)).alloc _) (pxCells_one _) 1 (pxCs q) (Src.blk Tryd.underlying22 (Blk.new _ _ _ rfl) rfl (pxCells_one [q])) (by unfold maxLen; omega) (by omega) (by simp; omega) ?_; intro vT wT hownT hgT hatT; obtain ⟨AT, cT, rfl, hcT, _⟩ := hownT.form; have t5 : wT.cell? ⟨w.heap.size + 1, 2, none⟩ = some (.slice Av l.length cv) := (hgT.cell_far ⟨w.heap.size + 1, 2, none⟩ (by simp; omega) (fun e => F.n5 e.symm)).trans (cell_past _ (bkeep hbA s5)); have f5 : wT.frozen? ⟨w.heap.size + 1, 2, none⟩ = false := (hgT.frozen_far ⟨w.heap.size + 1, 2, none⟩ (by simp; omega) (fun e => F.n5 e.symm)).trans (free_past _ (by simp; omega) (bfree_ hbA h5l (F.b5.free 2))))
              | (go_simp; go_at_call 59; refine HC.out.mono ?_; rintro e wA ⟨rfl, hbA⟩; have hzA : wi.heap.size ≤ wA.heap.size := hbA.size; have a5 := bkeep hbA s5; have r5 := fun o => cell_past (w := wA) o a5))
          all_goals
            have F9 := F.push (Below.fromDrew hbA) hownT hgT
            have HF9 := Lib.hid F9
            clear F9 hownT hgT hatT t5 f5 a5 r5 p5 s5
            go_wp2_with fail
            go_roundw
            case rel => exact ⟨j + 1, _, by omega, by go_num, by rw [Lay.gridTo_succ, HQ.out, ← HL.out]; exact HF9.out⟩
            case measure => simp [intOf]; omega
        · go_wp2_with fail
          have e : j = W' := by omega
          subst e
          rw [Lay.gridTo_full] at F
          go_roundw
          case rel => exact ⟨k + 1, v, by omega, by go_num, F⟩
          case measure => simp [intOf]; omega
    · have e : k = H' := by omega
      rw [e] at F0
      have ho := F0.own
      rw [HGL.out] at ho
      obtain ⟨Av, cv, hv, hcv, _⟩ := ho.form
      subst hv
      have n1 : (Value.slice Av (H' * W') cv).ownBlock ≠ some w.heap.size := fun e => by have := (ho.lt _ e).1; omega
      have HO := Lib.hid ho
      have HN1 := Lib.hid n1
      clear ho n1 e
      go_wp2_with fail
      refine bodyPost_ret (v := .agg #[.int .i64 W', .int .i64 H', .slice Av (H' * W') cv]) (by simp [results, Tryd.results58, go_sem, c1']) rfl ⟨Av, cv, rfl, ?_, ?_⟩
      · exact (((HO.out.setCell HN1.out _).setCell HN1.out _).setCell HN1.out _).mono (by omega)
      · exact (((F0.bel.setCell (Nat.le_refl _) _).setCell (Nat.le_refl _) _).setCell (Nat.le_refl _) _)
end Go.Proofs.YtcdbhcjiimdhhaaDoor
namespace Go.Proofs.YtcdbhcjiimdhhaaDoor
open Go Go.RowKit

theorem rnear1_any (n : Int) (w : World) : Calls Tryd.prog 71 #[.int .i64 n] w fun e w' => e = .returned (.bool (!nearB n)) ∧ w = w' := by
  rcases (show n < -10000 ∨ (-10000 ≤ n ∧ 10000 < n) ∨ (-10000 ≤ n ∧ n ≤ 10000) by omega) with h1 | ⟨h1, h2⟩ | ⟨h1, h2⟩
  all_goals
    go_enter Tryd.func71, Tryd.ntmps71
    go_wp2_with fail
    go_ret
  all_goals exact ⟨by first | (simp [nearB, *]; done) | (simp [nearB, *]; omega) | (simp [nearB]; omega), rfl⟩

/-- Where a number stands first that is not near: nowhere, if all are. -/
def NearSays (zs : List Int) (e : Ending) : Prop := ∃ r : Int, e = .returned (.int .i64 r) ∧ ((zs.all nearB = true ∧ r = -1) ∨ (zs.all nearB = false ∧ 0 ≤ r))
theorem near_all {zs : List Int} (h : ∀ j, (hj : j < zs.length) → nearB zs[j] = true) : zs.all nearB = true := by
  rw [List.all_eq_true]
  intro p hp
  obtain ⟨j, hj, rfl⟩ := List.getElem_of_mem hp
  exact h j hj
theorem near_not {zs : List Int} {k : Nat} (hk : k < zs.length) (h : nearB zs[k] = false) : zs.all nearB = false := by
  rw [List.all_eq_false]
  exact ⟨zs[k], List.getElem_mem hk, by simp [h]⟩
set_option maxRecDepth 100000 in
set_option maxHeartbeats 1000000 in
theorem indexNear_any (A : Option Addr) (n c : Nat) (zs : List Int) (w : World) (hp : Reads w w.heap.size 1 A n (ints zs)) (hm : n ≤ 1048576) :
    Calls Tryd.prog 79 #[.slice A n c, .func (.func 71) #[] #[]] w fun e w' => NearSays zs e ∧ Below w.heap.size w w' := by
  have hln : n = zs.length := by have := hp.1; rw [ints_length] at this; omega
  subst hln
  go_enter Tryd.func79, Tryd.ntmps79
  go_wp2_with fail
  go_loopw [8] (fun i wr => ∃ k : Nat, k ≤ zs.length ∧ i = .int .i64 k ∧ Below w.heap.size w wr ∧ ∀ j, (hj : j < zs.length) → j < k → nearB zs[j] = true) (fun i _ => zs.length - (intOf i).toNat)
  case atStart => exact ⟨0, Nat.zero_le _, rfl, Below.refl _ _, fun j _ hj => by omega⟩
  case round =>
    obtain ⟨k, hk, rfl, hbl, hall⟩ := hrel
    obtain ⟨wo, rfl⟩ : ∃ wo : World, wo = wr := ⟨_, rfl⟩
    have HA := Lib.hid hall
    clear hall
    by_cases hlt : k < zs.length
    · have hpo := (hp.below hbl (Nat.le_refl _)).more hbl.size
      obtain ⟨b, off, rfl, hb⟩ := hpo.addr (by omega)
      have y0 := hpo.cell rfl k (by omega)
      rw [ints_at zs k hlt] at y0
      obtain ⟨x, hx⟩ : ∃ x, zs[k] = x := ⟨_, rfl⟩
      rw [hx] at y0
      have HX := Lib.hid hx
      clear hpo hx
      cases e : nearB x with
      | true =>
        have HE := Lib.hid e
        clear e
        go_wp2_with fail
        refine (rnear1_any x _).mono ?_
        rw [HE.out]
        rintro e w3 ⟨rfl, rfl⟩
        go_wp2_with fail
        go_roundw
        case rel =>
          refine ⟨k + 1, by omega, by go_num, by first | exact hbl | exact hbl.drew | exact (hbl.drew).drew, fun j hj hjk => ?_⟩
          by_cases ej : j = k
          · subst ej; rw [HX.out]; exact HE.out
          · exact HA.out j hj (by omega)
        case measure => simp [intOf]; omega
      | false =>
        have HE := Lib.hid e
        have HF := Lib.hid (near_not hlt (by rw [HX.out]; exact e))
        clear e
        go_wp2_with fail
        refine (rnear1_any x _).mono ?_
        rw [HE.out]
        rintro e w3 ⟨rfl, rfl⟩
        go_wp2_with fail
        go_ret
        exact ⟨⟨_, rfl, .inr ⟨HF.out, by omega⟩⟩, by first | exact hbl | exact hbl.drew | exact (hbl.drew).drew⟩
    · have HF := Lib.hid (near_all (zs := zs) fun j hj => HA.out j hj (by omega))
      go_wp2_with fail
      go_ret
      exact ⟨⟨_, rfl, .inl ⟨HF.out, rfl⟩⟩, hbl⟩

set_option maxRecDepth 100000 in
theorem rnear_any (A : Option Addr) (n c : Nat) (zs : List Int) (b : Bool) (w : World) (hp : Reads w w.heap.size 1 A n (ints zs)) (hm : n ≤ 1048576) (hb : zs.all nearB = b) :
    Calls Tryd.prog 49 #[.slice A n c] w fun e w' => e = .returned (.bool b) ∧ Below w.heap.size w w' := by
  subst hb
  have key : Calls Tryd.prog 70 #[.slice A n c, .func (.func 71) #[] #[]] w fun e w' => e = .returned (.bool (!zs.all nearB)) ∧ Below w.heap.size w w' := by
    go_enter Tryd.func70, Tryd.ntmps70
    go_wp2_with fail
    refine (indexNear_any A n c zs _ hp hm).mono ?_
    rintro e w1 ⟨⟨r, rfl, hr⟩, hb1⟩
    rcases hr with ⟨hf, rfl⟩ | ⟨hf, h0⟩
    · have HF := Lib.hid hf
      clear hf
      go_wp2_with fail
      go_ret
      exact ⟨by rw [HF.out]; rfl, hb1⟩
    · have HF := Lib.hid hf
      clear hf
      go_wp2_with fail
      go_ret
      exact ⟨by rw [HF.out]; first | (simp; done) | (simp; omega), hb1⟩
  obtain ⟨bb, hbb⟩ : ∃ bb, zs.all nearB = bb := ⟨_, rfl⟩
  rw [hbb] at key ⊢
  have HK := Lib.hid key
  clear key hbb
  go_enter Tryd.func49, Tryd.ntmps49
  go_wp2_with fail
  refine HK.out.mono ?_
  rintro e w1 ⟨rfl, hb1⟩
  go_wp2_with fail
  go_ret
  exact ⟨by simp, hb1⟩
/-- Numbers in a block. -/
theorem ints_blk {w : World} {g : Nat} {t : TypeId} {zs : List Int} (h : Blk w g t (ints zs).toArray) : Reads w w.heap.size 1 (some ⟨g, 0, none⟩) zs.length (ints zs) :=
  ⟨by rw [ints_length]; omega, fun _ => ⟨g, 0, rfl, h.lt, fun j u hu => by rw [Nat.zero_add, h.cell]; simpa using hu⟩⟩
end Go.Proofs.YtcdbhcjiimdhhaaDoor
namespace Go.Proofs.YtcdbhcjiimdhhaaDoor
open Go Go.RowKit

set_option maxRecDepth 100000 in
theorem rcheck_bound (W H : Int) (A : Option Addr) (n c : Nat) (E : Nat → Addr) (w : World) (hE : ErrsAt w E) (h : rightB W H n = true) :
    Calls Tryd.prog 57 #[.agg #[.int .i64 W, .int .i64 H, .slice A n c], .bool false] w fun e w' => e = .returned (errV (E 1)) ∧ Below w.heap.size w w' := by
  have HE := Lib.hid hE
  clear hE
  go_enter Tryd.func57, Tryd.ntmps57
  go_wp2_with fail
  refine (rright_any W H A n c _).mono ?_
  rw [h]
  rintro e w1 ⟨rfl, hb1⟩
  have hb := Below.trans (show Below w.heap.size w (w.alloc (.cells #[.int .i64 W, .int .i64 H, .slice A n c] 24)) by go_grown) (hb1.mono (by simp))
  have dS := (HE.out.below hb).bound
  clear hb1
  go_wp2_with fail
  go_ret
  exact ⟨rfl, hb⟩
set_option maxRecDepth 100000 in
theorem rcheck_shape (W H : Int) (A : Option Addr) (n c : Nat) (b : Bool) (E : Nat → Addr) (w : World) (hE : ErrsAt w E) (h : rightB W H n = false) :
    Calls Tryd.prog 57 #[.agg #[.int .i64 W, .int .i64 H, .slice A n c], .bool b] w fun e w' => e = .returned (errV (E 2)) ∧ Below w.heap.size w w' := by
  have HE := Lib.hid hE
  clear hE
  go_enter Tryd.func57, Tryd.ntmps57
  go_wp2_with fail
  refine (rright_any W H A n c _).mono ?_
  rw [h]
  rintro e w1 ⟨rfl, hb1⟩
  have hb := Below.trans (show Below w.heap.size w (w.alloc (.cells #[.int .i64 W, .int .i64 H, .slice A n c] 24)) by go_grown) (hb1.mono (by simp))
  have dS := (HE.out.below hb).shape
  clear hb1
  go_wp2_with fail
  go_ret
  exact ⟨rfl, hb⟩
end Go.Proofs.YtcdbhcjiimdhhaaDoor
namespace Go.Proofs.YtcdbhcjiimdhhaaDoor
open Go Go.RowKit

theorem fillAt_in {ps : List Px} {W : Nat} {X Y Wr Hr : Int} {p : Px} {x y : Nat} (h1 : X ≤ x) (h2 : (x : Int) < X + Wr) (h3 : Y ≤ y) (h4 : (y : Int) < Y + Hr) : Til.fillAt ps W X Y Wr Hr p x y = p := by
  rw [Til.fillAt, if_pos]
  simp only [Til.inPart, Bool.and_eq_true, decide_eq_true_eq]
  omega
theorem fillAt_out {ps : List Px} {W : Nat} {X Y Wr Hr : Int} {p : Px} {x y : Nat} (h : ¬ (X ≤ x ∧ (x : Int) < X + Wr ∧ Y ≤ y ∧ (y : Int) < Y + Hr)) : Til.fillAt ps W X Y Wr Hr p x y = ps.getD (y * W + x) default := by
  rw [Til.fillAt, if_neg]
  simp only [Til.inPart, Bool.and_eq_true, decide_eq_true_eq]
  omega
set_option maxRecDepth 100000 in
set_option maxHeartbeats 1000000 in
theorem fill1_any (W : Nat) (H : Int) (A : Option Addr) (n c : Nat) (ps : List Px) (X Y Wr Hr : Int) (p : Px) (rb qb pb : Nat) (x y : Nat) (q : Px) (w : World) (b1 : Blk w pb 24 #[.int .i64 W, .int .i64 H, .slice A n c]) (b2 : Blk w rb 49 #[.int .i64 X, .int .i64 Y, .int .i64 Wr, .int .i64 Hr])
    (b3 : Blk w qb 41 #[.int .u8 p.r.toNat, .int .u8 p.g.toNat, .int .u8 p.b.toNat, .int .u8 p.a.toNat]) (hp : Reads w w.heap.size 4 A n (pxCells ps)) (hq : Til.fillAt ps W X Y Wr Hr p x y = q) (hk : y * W + x < ps.length) (hn : ps.length ≤ 1048576)
    (hX : -10000 ≤ X ∧ X ≤ 10000) (hY : -10000 ≤ Y ∧ Y ≤ 10000) (hWr : -10000 ≤ Wr ∧ Wr ≤ 10000) (hHr : -10000 ≤ Hr ∧ Hr ≤ 10000) :
    Calls Tryd.prog 59 #[.int .i64 x, .int .i64 y, .pointer (some ⟨rb, 0, none⟩), .pointer (some ⟨qb, 0, none⟩), .pointer (some ⟨pb, 0, none⟩)] w
      fun e w' => e = .returned (.agg #[.int .u8 q.r.toNat, .int .u8 q.g.toNat, .int .u8 q.b.toNat, .int .u8 q.a.toNat]) ∧ Below w.heap.size w w' := by
  obtain rfl := hp.pxLen
  have c1 := (b1.alloc (.cells #[.int .u8 0, .int .u8 0, .int .u8 0, .int .u8 0] 41)).cell
  have c2 := (b2.alloc (.cells #[.int .u8 0, .int .u8 0, .int .u8 0, .int .u8 0] 41)).cell
  have c3 := (b3.alloc (.cells #[.int .u8 0, .int .u8 0, .int .u8 0, .int .u8 0] 41)).cell
  have l1 := b1.lt
  have l2 := b2.lt
  have l3 := b3.lt
  clear b1 b2 b3
  rcases (show (x : Int) < X ∨ (X ≤ x ∧ X + Wr ≤ (x : Int)) ∨ (X ≤ x ∧ (x : Int) < X + Wr ∧ (y : Int) < Y) ∨ (X ≤ x ∧ (x : Int) < X + Wr ∧ Y ≤ y ∧ Y + Hr ≤ (y : Int)) ∨ (X ≤ x ∧ (x : Int) < X + Wr ∧ Y ≤ y ∧ (y : Int) < Y + Hr) by omega) with h1 | ⟨h1, h2⟩ | ⟨h1, h2, h3⟩ | ⟨h1, h2, h3, h4⟩ | ⟨h1, h2, h3, h4⟩
  case inr.inr.inr.inr =>
    rw [fillAt_in h1 h2 h3 h4] at hq
    subst hq
    clear hk hp
    go_enter Tryd.func59, Tryd.ntmps59
    go_wp2_with fail
    refine bodyPost_ret (v := .agg #[.int .u8 p.r.toNat, .int .u8 p.g.toNat, .int .u8 p.b.toNat, .int .u8 p.a.toNat]) (by simp [results, Tryd.results59, go_sem]) rfl ⟨rfl, by go_grown⟩
  all_goals
    rw [fillAt_out (by omega)] at hq
    obtain ⟨k, hke⟩ : ∃ k, y * W + x = k := ⟨_, rfl⟩
    rw [hke] at hk hq
    obtain ⟨b, off, rfl, hb⟩ := hp.addr (by omega)
    have yy := (hp.alloc (Nat.le_refl _) (.cells #[.int .u8 0, .int .u8 0, .int .u8 0, .int .u8 0] 41)).px k hk
    have hqe : ps[k] = q := by rw [← hq, List.getD_eq_getElem?_getD, List.getElem?_eq_getElem hk]; rfl
    rw [hqe] at yy
    obtain ⟨y0, y1, y2, y3⟩ := yy
    obtain ⟨z, hz⟩ : ∃ z, y * W = z := ⟨_, rfl⟩
    have hzk : z + x = k := by rw [← hz]; exact hke
    have hz' : (y : Int) * (W : Int) = (z : Int) := by rw [← hz, Int.natCast_mul]
    have hw1 : IntKind.i64.wrap ((y : Int) * (W : Int)) = (z : Int) := by rw [hz']; exact IntWalk.i64_in _ (by omega)
    have e4 : (z : Int) + (x : Int) = (k : Int) := by rw [← hzk, Int.natCast_add]
    have hw2 : IntKind.i64.wrap ((z : Int) + (x : Int)) = (k : Int) := by rw [e4]; exact IntWalk.i64_in _ (by omega)
    have k0 : (0 : Int) ≤ (k : Int) := by omega
    have k1 : (k : Int) < (ps.length : Int) := by omega
    clear hqe hq hz hzk hke hp
    go_enter Tryd.func59, Tryd.ntmps59
    go_wp2_with fail
    refine bodyPost_ret (v := .agg #[.int .u8 q.r.toNat, .int .u8 q.g.toNat, .int .u8 q.b.toNat, .int .u8 q.a.toNat]) (by simp [results, Tryd.results59, go_sem]) rfl ⟨rfl, by go_grown⟩
end Go.Proofs.YtcdbhcjiimdhhaaDoor
