/- layercakeref3.Clean, colorsOK: the walks. -/
import Derived.Test.YtncedhhgclofbaaDoorGifLaw
import Derived.Test.YtncedhhgclofbaaDoorUnlikeOf
namespace Go.Proofs.YtncedhhgclofbaaDoor
open Go Go.RowKit

theorem clean_take (ps : List Px) (k : Nat) (hk : k < ps.length) : (Gif.clean (ps.take (k + 1)) ++ ps.drop (k + 1)) = (Gif.clean (ps.take k) ++ ps.drop k).set k (Gif.cl ps[k]) := by
  have hl : (Gif.clean (ps.take k)).length = k := by simp [Gif.clean]; omega
  rw [List.take_succ_eq_append_getElem hk, Gif.clean, List.map_append, List.set_append_right _ _ (by omega), hl, Nat.sub_self, List.drop_eq_getElem_cons hk, List.set_cons_zero]
  simp [Gif.clean]
theorem clean_mid (ps : List Px) (k : Nat) (hk : k < ps.length) : (Gif.clean (ps.take k) ++ ps.drop k)[k]? = some ps[k] := by
  have hl : (Gif.clean (ps.take k)).length = k := by simp [Gif.clean]; omega
  rw [List.getElem?_append_right (by omega), hl, Nat.sub_self, List.getElem?_drop, Nat.add_zero, List.getElem?_eq_getElem hk]
/-- What the loop of Clean keeps. -/
structure ClR (w : World) (W H : Int) (ps : List Px) (A' : Option Addr) (c' g : Nat) (k : Nat) (wr : World) : Prop where
  blk : Blk wr g 35 #[.int .i64 W, .int .i64 H, .slice A' ps.length c']
  low : Blk wr (w.heap.size + 1) 35 #[.int .i64 0, .int .i64 0, .slice none 0 0]
  own : Own wr w.heap.size 4 (.slice A' ps.length c') ps.length (pxCells (Gif.clean (ps.take k) ++ ps.drop k))
  ne : (Value.slice A' ps.length c').ownBlock ≠ some g
  ne1 : (Value.slice A' ps.length c').ownBlock ≠ some (w.heap.size + 1)
  gl : w.heap.size ≤ g
  g1 : g ≠ w.heap.size + 1
  bel : Below w.heap.size w wr
set_option maxRecDepth 100000 in
set_option maxHeartbeats 1000000 in
theorem clean_any (W H : Int) (A : Option Addr) (n c : Nat) (ps : List Px) (w : World) (hp : Reads w w.heap.size 4 A n (pxCells ps)) (hn : n ≤ 1048576) :
    Calls Tryd.prog 12 #[.agg #[.int .i64 W, .int .i64 H, .slice A n c]] w
      fun e w' => ∃ A' c', e = .returned (.agg #[.int .i64 W, .int .i64 H, .slice A' n c']) ∧ Own w' w.heap.size 4 (.slice A' n c') n (pxCells (Gif.clean ps)) ∧ Below w.heap.size w w' := by
  obtain rfl := hp.pxLen
  go_enter Tryd.func12, Tryd.ntmps12
  go_wp2_with fail
  refine (own_any W H A ps.length c ps _ ((hp.below (Below.alloc (Below.alloc (Below.refl _ _) (Nat.le_refl _) _) (by simp) _) (Nat.le_refl _)).more (by simp; omega)) hn).mono ?_
  rintro e w1 ⟨A', c', rfl, ho1, hb1⟩
  have hw1 : Below w.heap.size w w1 := Below.trans (by go_grown) (hb1.mono (by first | omega | (simp; done) | (simp; omega)))
  have hB1 := (Blk.new (w.alloc (.cells #[.int .i64 W, .int .i64 H, .slice A ps.length c] 35)) 35 #[.int .i64 0, .int .i64 0, .slice none 0 0] (g := w.heap.size + 1) (by first | omega | (simp; done) | (simp; omega))).below hb1 (by first | omega | (simp; done) | (simp; omega))
  have hs1 := hw1.size
  have hlo : ∀ g, (Value.slice A' ps.length c').ownBlock = some g → w.heap.size + 2 ≤ g ∧ g < w1.heap.size := fun g hg => by have := ho1.lt g hg; simp at this; omega
  go_wp2_with fail
  go_loopw [4] (fun i wr => ∃ k : Nat, k ≤ ps.length ∧ i = .int .i64 k ∧ ClR w W H ps A' c' w1.heap.size k wr) (fun i _ => ps.length - (intOf i).toNat)
  case atStart =>
    refine ⟨0, Nat.zero_le _, rfl, ⟨Blk.new _ _ _ rfl, hB1.alloc _, ?_, fun e => by have := (hlo _ e).2; omega, fun e => by have := (hlo _ e).1; omega, hs1, by have := hB1.lt; omega, hw1.alloc hs1 _⟩⟩
    have := (ho1.alloc (.cells #[.int .i64 W, .int .i64 H, .slice A' ps.length c'] 35)).mono (base' := w.heap.size) (by simp; omega)
    simpa [Gif.clean] using this
  case round =>
    obtain ⟨k, hk, rfl, ⟨hblk, hlow, hown, hne, hne1, hgl, hg1, hbel⟩⟩ := hrel
    have d0 : wr.cell? ⟨w1.heap.size, 0, none⟩ = some (.int .i64 W) := by rw [hblk.cell]; rfl
    have d1 : wr.cell? ⟨w1.heap.size, 1, none⟩ = some (.int .i64 H) := by rw [hblk.cell]; rfl
    have d2 : wr.cell? ⟨w1.heap.size, 2, none⟩ = some (.slice A' ps.length c') := by rw [hblk.cell]; rfl
    by_cases hlt : k < ps.length
    · obtain ⟨g, off, rfl, hg1', hg2⟩ := hown.addr (by omega)
      have hmid := clean_mid ps k hlt
      have hst := clean_take ps k hlt
      have hll : k < (Gif.clean (ps.take k) ++ ps.drop k).length := (List.getElem?_eq_some_iff.1 hmid).1
      have hpx := (hown.reads.2).px k hll
      have hge := (List.getElem?_eq_some_iff.1 hmid).2
      rw [hge] at hpx
      obtain ⟨_, _, _, p3⟩ := hpx
      have hth := hown.there k hlt
      by_cases ha : ps[k].a = 0
      · have hq : ((ps[k].a.toNat : Int) == 0) = true := by rw [ha]; rfl
        have hset := hown.setPx k hlt Px.zero
        have hcl : Gif.cl ps[k] = Px.zero := by unfold Gif.cl; rw [if_pos ha]
        rw [← hcl, ← hst] at hset
        have HSET := Lib.hid hset
        have HCL := Lib.hid hcl
        clear hmid hst hge ha hset hcl
        go_wp2_with (refine wpList_store_px rfl 52 (by kernel_rfl) (.tmp 25) (.tmp 24) rfl g (off + k * 4) Px.zero ?_ ?_ ?_ ?_)
        · kernel_rfl
        · kernel_rfl
        · exact hth
        go_wp2_with fail
        go_roundw
        case rel =>
          have hset := HSET.out
          rw [HCL.out] at hset
          have nq : w1.heap.size ≠ g := fun e => hne (by rw [e]; rfl)
          have nq1 : w.heap.size + 1 ≠ g := fun e => hne1 (by rw [e]; rfl)
          exact ⟨k + 1, by omega, by go_num, ⟨hblk.setCells_ nq _ _, hlow.setCells_ nq1 _ _, hset, hne, hne1, hgl, hg1, Below.setCells_ hbel hg1' _ _⟩⟩
        case measure => simp [intOf]; omega
      · have hq : ((ps[k].a.toNat : Int) == 0) = false := by
          rw [beq_eq_false_iff_ne]
          intro e
          exact ha (UInt8.toNat_inj.1 (by simpa using e))
        have hcl : Gif.cl ps[k] = ps[k] := by unfold Gif.cl; rw [if_neg ha]
        have hsame : Gif.clean (ps.take (k + 1)) ++ ps.drop (k + 1) = Gif.clean (ps.take k) ++ ps.drop k := by
          rw [hst, hcl]
          conv => lhs; arg 3; rw [← hge]
          exact List.set_getElem_self hll
        have HS := Lib.hid hsame
        clear hmid hst hge ha hcl hsame
        go_wp2_with fail
        go_roundw
        case rel => exact ⟨k + 1, by omega, by go_num, ⟨hblk, hlow, by rw [HS.out]; exact hown, hne, hne1, hgl, hg1, hbel⟩⟩
        case measure => simp [intOf]; omega
    · have e : k = ps.length := by omega
      subst e
      rw [List.take_length, List.drop_length, List.append_nil] at hown
      have l0 : wr.cell? ⟨w.heap.size + 1, 0, none⟩ = some (.int .i64 0) := by rw [hlow.cell]; rfl
      have l1 : wr.cell? ⟨w.heap.size + 1, 1, none⟩ = some (.int .i64 0) := by rw [hlow.cell]; rfl
      have l2 : wr.cell? ⟨w.heap.size + 1, 2, none⟩ = some (.slice none 0 0) := by rw [hlow.cell]; rfl
      have g0 := hlow.free 0
      have g1 := hlow.free 1
      have g2 := hlow.free 2
      have B9 := ((hlow.set_ 0 (.int .i64 W)).set_ 1 (.int .i64 H)).set_ 2 (.slice A' ps.length c')
      go_wp2_with fail
      have r0 := B9.cell
      refine bodyPost_ret (v := .agg #[.int .i64 W, .int .i64 H, .slice A' ps.length c']) (by simp [results, Tryd.results12, go_sem, r0]) rfl ⟨A', c', rfl, ?_, ?_⟩
      · exact ((hown.setCell (p := ⟨w.heap.size + 1, 0, none⟩) hne1 _).setCell (p := ⟨w.heap.size + 1, 1, none⟩) hne1 _).setCell (p := ⟨w.heap.size + 1, 2, none⟩) hne1 _
      · exact ((hbel.setCell (p := ⟨w.heap.size + 1, 0, none⟩) (Nat.le_succ _) _).setCell (p := ⟨w.heap.size + 1, 1, none⟩) (Nat.le_succ _) _).setCell (p := ⟨w.heap.size + 1, 2, none⟩) (Nat.le_succ _) _
set_option maxRecDepth 100000 in
set_option maxHeartbeats 2000000 in
theorem colorsOK_any (W H : Int) (A : Option Addr) (n c : Nat) (ps : List Px) (w : World) (hp : Reads w w.heap.size 4 A n (pxCells ps)) (hn : n ≤ 1048576) :
    Calls Tryd.prog 32 #[.agg #[.int .i64 W, .int .i64 H, .slice A n c]] w
      fun e w' => e = .returned (.bool (Gif.colOK ps)) ∧ Below w.heap.size w w' := by
  obtain rfl := hp.pxLen
  go_enter Tryd.func32, Tryd.ntmps32
  go_wp2_with fail
  go_loop [3] (fun i => ∃ k : Nat, k ≤ ps.length ∧ i = .int .i64 k ∧ (ps.take k).all Gif.okA = true) (fun i => ps.length - (intOf i).toNat)
  case atStart => exact ⟨0, Nat.zero_le _, rfl, rfl⟩
  case round =>
    obtain ⟨k, hk, rfl, hall⟩ := hrel
    by_cases hlt : k < ps.length
    · obtain ⟨b, off, rfl, hbl⟩ := hp.addr (by omega)
      obtain ⟨p0, p1, p2, p3⟩ := hp.px k hlt
      have hal : (ps.take (k + 1)).all Gif.okA = ((ps.take k).all Gif.okA && Gif.okA ps[k]) := by
        rw [List.take_succ_eq_append_getElem hlt, List.all_append]
        simp
      rw [hall, Bool.true_and] at hal
      have HAL := Lib.hid hal
      have hbad : Gif.okA ps[k] = false → Gif.colOK ps = false := fun h => by
        unfold Gif.colOK
        have : ps.all Gif.okA = false := by
          rw [← Bool.not_eq_true, List.all_eq_true]
          intro h2
          have := h2 ps[k] (List.getElem_mem hlt)
          rw [h] at this
          cases this
        rw [this, Bool.false_and]
      have HBAD := Lib.hid hbad
      obtain ⟨x, hx⟩ : ∃ x, x = ps[k] := ⟨_, rfl⟩
      rw [← hx] at p3
      have HX := Lib.hid hx
      clear hal hbad hx hall p0 p1 p2
      by_cases h0 : x.a = 0
      · have hq : ((x.a.toNat : Int) != 0) = false := by rw [h0]; rfl
        have hok : Gif.okA x = true := by unfold Gif.okA; rw [h0]; rfl
        have HOK := Lib.hid hok
        clear h0 hok
        go_wp2_with fail
        go_round
        case rel => exact ⟨k + 1, by omega, by go_num, by rw [HAL.out, ← HX.out, HOK.out]⟩
        case measure => simp [intOf]; omega
      · have hq : ((x.a.toNat : Int) != 0) = true := by
          rw [bne_iff_ne]
          intro e
          exact h0 (UInt8.toNat_inj.1 (by simpa using e))
        by_cases h255 : x.a = 255
        · have hq2 : ((x.a.toNat : Int) != 255) = false := by rw [h255]; rfl
          have hok : Gif.okA x = true := by unfold Gif.okA; rw [h255]; rfl
          have HOK := Lib.hid hok
          clear h0 hok h255
          go_wp2_with fail
          go_round
          case rel => exact ⟨k + 1, by omega, by go_num, by rw [HAL.out, ← HX.out, HOK.out]⟩
          case measure => simp [intOf]; omega
        · have hq2 : ((x.a.toNat : Int) != 255) = true := by
            rw [bne_iff_ne]
            intro e
            exact h255 (UInt8.toNat_inj.1 (by
              have : (255 : UInt8).toNat = 255 := rfl
              omega))
          have hno : Gif.okA x = false := by
            unfold Gif.okA
            simp [h0, h255]
          have hfin : Gif.colOK ps = false := HBAD.out (by rw [← HX.out]; exact hno)
          have HFIN := Lib.hid hfin
          clear h0 hno h255 hfin
          go_wp2_with fail
          go_ret
          exact ⟨by rw [HFIN.out]; rfl, (Below.refl _ _).alloc (Nat.le_refl _) _⟩
    · have e : k = ps.length := by omega
      subst e
      rw [List.take_length] at hall
      have hfin : Gif.colOK ps = decide ((Col.unl (Gif.clean ps)).1.length ≤ 256) := by unfold Gif.colOK; rw [hall, Bool.true_and]
      have HF := Lib.hid hfin
      clear hfin hall hk
      go_wp2_with fail
      refine (clean_any W H A ps.length c ps _ ((hp.alloc (Nat.le_refl _) _).more (by first | omega | (simp; done) | (simp; omega))) hn).mono ?_
      rintro e w1 ⟨A1, c1, rfl, ho1, hb1⟩
      have hw1 : Below w.heap.size w w1 := Below.trans (by go_grown) (hb1.mono (by first | omega | (simp; done) | (simp; omega)))
      go_wp2_with fail
      refine (unlike_any W H A1 ps.length c1 _ _ ho1.reads.2 hn).mono ?_
      rintro e w2 ⟨A3, c3, A4, c4, rfl, _, _, hb2⟩
      have hw2 := hw1.trans (hb2.mono hw1.size)
      go_wp2_with fail
      go_ret
      refine ⟨?_, hw2⟩
      rw [HF.out]
      congr 2
      simp
      constructor <;> intro h <;> omega
end Go.Proofs.YtncedhhgclofbaaDoor
