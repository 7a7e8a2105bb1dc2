/- GifOf: the walk. -/
import Derived.Test.YtncedhhgclofbaaDoorFrErr
import Derived.Test.YtncedhhgclofbaaDoorGifChk
import Derived.Test.YtncedhhgclofbaaDoorClean
import Derived.Test.YtncedhhgclofbaaDoorUnlikeOf
import Derived.Test.YtncedhhgclofbaaDoorText
import Derived.Test.YtncedhhgclofbaaDoorBare
import Derived.Test.YtncedhhgclofbaaDoorGifWr0
import Derived.Test.YtncedhhgclofbaaDoorRefLzwW
import Derived.Deep.RegionHeld3
namespace Go.Proofs.YtncedhhgclofbaaDoor
open Go Go.RowKit

/-- A fact laid aside: a structure, for 'contradiction' looks through Lib.Hid and compares numbers by reckoning. -/
structure Kept (p : Prop) : Prop where
  out : p
/-- One's own pixel. -/
theorem own_px (w : World) (p : Px) : Own (w.alloc (.cells #[.int .u8 p.r.toNat, .int .u8 p.g.toNat, .int .u8 p.b.toNat, .int .u8 p.a.toNat] 52)) w.heap.size 4 (.slice (some ⟨w.heap.size, 0, none⟩) 1 1) 1 (pxCells [p]) := by
  have hB := Blk.new w 52 #[.int .u8 p.r.toNat, .int .u8 p.g.toNat, .int .u8 p.b.toNat, .int .u8 p.a.toNat] rfl
  refine ⟨rfl, .inr ⟨w.heap.size, 0, 1, rfl, Nat.le_refl _, by simp, Nat.le_refl _, by decide, fun j hj => ?_, fun j hj => ?_⟩⟩
  · rw [Nat.zero_add, hB.cell]
    simp [pxCells, pxCs]
  · rw [Nat.zero_add, hB.cell, hB.free]
    refine ⟨?_, rfl⟩
    simp
    omega
/-- Bytes of the first q numbers, zeros behind them. -/
def numK (ns : List Int) (q : Nat) : List UInt8 := Gif.nums (ns.take q) ++ List.replicate (ns.length - q) 0
theorem numK_zero (ns : List Int) : numK ns 0 = List.replicate ns.length 0 := by simp [numK, Gif.nums]
theorem numK_all (ns : List Int) : numK ns ns.length = Gif.nums ns := by simp [numK]
theorem numK_at (ns : List Int) (q : Nat) (h : q < ns.length) : (numK ns q)[q]? = some 0 := by
  unfold numK Gif.nums
  have hl : ((ns.take q).map fun z => UInt8.ofNat z.toNat).length = q := by simp; omega
  rw [List.getElem?_append_right (by omega), hl, Nat.sub_self]
  obtain ⟨d, hd⟩ : ∃ d, ns.length - q = d + 1 := ⟨ns.length - q - 1, by omega⟩
  rw [hd]
  rfl
theorem numK_succ (ns : List Int) (q : Nat) (h : q < ns.length) : numK ns (q + 1) = (numK ns q).set q (UInt8.ofNat (ns[q]).toNat) := by
  unfold numK Gif.nums
  have hl : ((ns.take q).map fun z => UInt8.ofNat z.toNat).length = q := by simp; omega
  rw [List.set_append_right _ _ (by omega), hl, Nat.sub_self, List.take_succ_eq_append_getElem h, List.map_append]
  obtain ⟨d, hd⟩ : ∃ d, ns.length - q = d + 1 := ⟨ns.length - q - 1, by omega⟩
  rw [hd, List.replicate_succ, List.set_cons_zero, show ns.length - (q + 1) = d by omega]
  simp
theorem ofNat_mod (x : Int) (h : 0 ≤ x) : (((UInt8.ofNat x.toNat).toNat : Nat) : Int) = x % 256 := by
  rw [UInt8.toNat_ofNat']
  omega
theorem conv_next {w w' : World} (hb : Below w.heap.size w w') {A : Option Addr} {n c : Nat} {l : List UInt8} {s : ByteArray} (hr : Reads w w.heap.size 1 A n (bytes l)) (hs : s = ⟨l.toArray⟩) : (convert 56 9 (.slice A n c)).run Tryd.prog w' = .ok (.string s) w' := by
  rw [hs]
  exact conv_reads w' A n c _ l (hr.below hb (Nat.le_refl _))
/-- What GifOf gives. -/
def GifO (w : World) (R : List UInt8 ⊕ (Nat × Int)) (e : Ending) (w' : World) : Prop :=
  Below w.heap.size w w' ∧ match R with
  | .inl s => ∃ t, e = .returned (.tuple #[.string t, .agg #[.int .i64 0, .int .i64 (-1)]]) ∧ lst t = s
  | .inr f => e = .returned (.tuple #[.string ⟨#[]⟩, .agg #[.int .i64 (f.1 + 1 : Nat), .int .i64 f.2]])
/-- What the loop of GifOf keeps. -/
structure GoR (w : World) (R : List UInt8 ⊕ (Nat × Int)) (first : Fr) (fs : List Fr) (i : Nat) (t : ByteArray) (wr : World) : Prop where
  eq : Gif.body first (fs.drop i) i (lst t) = R
  most : t.size ≤ 1000 + 600000 * i
  bel : Below w.heap.size w wr
set_option maxHeartbeats 40000000 in
set_option maxRecDepth 100000 in
theorem gifOf_any (A : Option Addr) (n c : Nat) (ms : List FM) (loops : Int) (w : World) (hF : Frs w w.heap.size A n ms) :
    Calls Tryd.prog 13 #[.slice A n c, .int .i64 loops] w fun e w' => GifO w (Gif.gif (ms.map (·.f)) loops) e w' := by
  obtain ⟨R, hR⟩ : ∃ R, R = Gif.gif (ms.map (·.f)) loops := ⟨_, rfl⟩
  rw [← hR]
  have HR := Kept.mk hR
  clear hR
  obtain rfl := hF.len
  have hwS : Below w.heap.size w (w.alloc (.cells #[.int .i64 0, .int .i64 0] 43)) := by go_grown
  have hFS := (hF.below hwS (Nat.le_refl _)).more hwS.size
  have HBS := Kept.mk (Blk.new w 43 #[.int .i64 0, .int .i64 0] rfl)
  go_enter Tryd.func13, Tryd.ntmps13
  go_wp2_with fail
  refine (boundsOf_any A ms.length c ms loops _ hFS).mono ?_
  rintro e w1 ⟨rfl, hb1⟩
  have hS1 := HBS.out.below hb1 HBS.out.lt
  have hw1 := hwS.trans (hb1.mono hwS.size)
  cases hbad : Gif.bad (ms.map (·.f)) loops with
  | true =>
    rw [if_pos rfl]
    have hRb : R = .inr (1, -1) := by rw [HR.out]; exact gif_bad _ _ hbad
    clear hbad hb1
    go_wp2_with fail
    refine (bare_any 2 w1).mono ?_
    rintro e w2 ⟨rfl, hb2⟩
    have hS2 := hS1.below hb2 hS1.lt
    have hw2 := hw1.trans (hb2.mono hw1.size)
    have s0 : w2.cell? ⟨w.heap.size, 0, none⟩ = some (.int .i64 0) := by rw [hS2.cell]; rfl
    have s1 : w2.cell? ⟨w.heap.size, 1, none⟩ = some (.int .i64 0) := by rw [hS2.cell]; rfl
    have z0 := hS2.free 0
    have z1 := hS2.free 1
    have e0 : (w2.setCell ⟨w.heap.size, 0, none⟩ (.int .i64 2)).cell? ⟨w.heap.size, 0, none⟩ = some (.int .i64 2) := by rw [(hS2.set_ 0 _).cell]; rfl
    have e1 : ((w2.setCell ⟨w.heap.size, 0, none⟩ (.int .i64 2)).setCell ⟨w.heap.size, 1, none⟩ (.int .i64 (-1))).cell? ⟨w.heap.size, 1, none⟩ = some (.int .i64 (-1)) := by rw [((hS2.set_ 0 _).set_ 1 _).cell]; rfl
    go_wp2_with fail
    refine bodyPost_ret (v := .tuple #[.string ⟨#[]⟩, .agg #[.int .i64 2, .int .i64 (-1)]]) (by simp [results, Tryd.results13, go_sem, e0, e1]) rfl ⟨?_, ?_⟩
    · exact (hw2.setCell (Nat.le_refl _) _).setCell (Nat.le_refl _) _
    · rw [hRb]
      rfl
  | false =>
    rw [if_neg (by decide)]
    obtain ⟨m0, r, rfl⟩ : ∃ m0 r, ms = m0 :: r := by
      cases ms with
      | nil => cases hbad
      | cons x r => exact ⟨x, r, rfl⟩
    replace hbad : Gif.bad (m0.f :: r.map (·.f)) loops = false := hbad
    have hb2 := bad_no2 hbad
    rw [List.length_map] at hb2
    obtain ⟨hn16, hlp0, hlp1⟩ := hb2
    have hRg : R = Gif.body m0.f ((m0 :: r).map (·.f)) 0 (Gif.head m0.f (r.length + 1) loops) := by
      rw [HR.out, List.map_cons, gif_ok _ _ _ hbad, List.length_map]
    have HRG := Kept.mk hRg
    obtain ⟨lp, hlp⟩ := Int.eq_ofNat_of_zero_le hlp0
    subst hlp
    have hlpn : lp ≤ 65535 := by omega
    clear hbad hRg hlp0 hlp1
    have hF1 := hFS.below hb1 (Nat.le_refl _)
    obtain ⟨b, off, rfl, hbl⟩ := hF.1.addr (by simp)
    obtain ⟨N, hN⟩ : ∃ N, N = (m0 :: r).length := ⟨_, rfl⟩
    have hN1 : 1 ≤ N := by rw [hN]; simp
    have hN16 : N ≤ 16 := by rw [hN]; simpa using hn16
    obtain ⟨ms, hms⟩ : ∃ ms, ms = m0 :: r := ⟨_, rfl⟩
    have hm0 : ∀ h : 0 < ms.length, ms[0] = m0 := by rw [hms]; intro _; rfl
    rw [← hms] at hF hFS hF1 hN HRG ⊢
    have HM0 := Kept.mk hm0
    have HN := Kept.mk hN
    have HMS := Kept.mk hms
    have c0 : w1.cell? ⟨b, off, none⟩ = some (.int .i64 m0.f.wide) := by have := hF1.at 0 (by omega) 0 (by omega); rw [hm0] at this; simpa [frCs] using this
    have c1 : w1.cell? ⟨b, off + 1, none⟩ = some (.int .i64 m0.f.high) := by have := hF1.at 0 (by omega) 1 (by omega); rw [hm0] at this; simpa [frCs] using this
    rw [← hN]
    have hz1 := hw1.size
    have HS1 := Kept.mk hS1
    have hF1w := hF1.more hb1.size
    clear hms hm0 hN hF hb1 hFS hS1 hwS
    have hbl1 : b < w1.heap.size := by omega
    have h0N : 0 < N := hN1
    have h0Z : (0 : Int) < (N : Int) := by omega
    go_wp2_with fail
    go_cut [7] (fun v wx => ∃ t : ByteArray, v = .string t ∧ t.size = 13 ∧ (Gif.right m0.f = true → lst t = [71, 73, 70, 56, 57, 97] ++ pair m0.f.wide.toNat ++ pair m0.f.high.toNat ++ [112, 0, 0]) ∧ Below w1.heap.size w1 wx)
    case first => as_aux_lemma =>
      refine wp_region_held_drew (S := (fun w' => Below w1.heap.size w1 w' ∧ w'.cell? ⟨b, off, none⟩ = some (.int .i64 m0.f.wide) ∧ w'.cell? ⟨b, off + 1, none⟩ = some (.int .i64 m0.f.high))) (by kernel_rfl) ?_ (fun hHeld => ?_)
      · exact ⟨(Below.refl _ _).drew, c0, c1⟩
      refine wpAnyH_take (i := 0) (v := ?_) rfl (by kernel_rfl) (by kernel_rfl) (by kernel_rfl) (fun _ _ _ h => h) (Or.inl ⟨by rfl, ?_⟩) (by assumption) ?_
      rotate_left
      · intro w hSw; (try dsimp only at hSw); go_simp <;> with_reducible rfl
      (try simp only [Act.put, List.getElem_toArray, List.getElem_cons_zero, List.setIfInBounds_toArray, List.set_cons_zero, List.set_cons_succ])
      refine wpAnyH_take (i := 1) (v := ?_) rfl (by kernel_rfl) (by kernel_rfl) (by kernel_rfl) (fun _ _ _ h => h) (Or.inl ⟨by rfl, ?_⟩) (by assumption) ?_
      rotate_left
      · intro w hSw; (try dsimp only at hSw); go_simp <;> with_reducible rfl
      (try simp only [Act.put, List.getElem_toArray, List.getElem_cons_zero, List.getElem_cons_succ, List.setIfInBounds_toArray, List.set_cons_zero, List.set_cons_succ])
      refine wpAnyH_take (i := 2) (v := ?_) rfl (by kernel_rfl) (by kernel_rfl) (by kernel_rfl) (fun _ _ _ h => h) (Or.inl ⟨by rfl, ?_⟩) (by assumption) ?_
      rotate_left
      · intro w hSw; (try dsimp only at hSw); go_simp <;> with_reducible rfl
      (try simp only [Act.put, List.getElem_toArray, List.getElem_cons_zero, List.getElem_cons_succ, List.setIfInBounds_toArray, List.set_cons_zero, List.set_cons_succ])
      refine wpAnyH_take (i := 3) (v := ?_) rfl (by kernel_rfl) (by kernel_rfl) (by kernel_rfl) (fun _ _ _ h => h) (Or.inl ⟨by rfl, ?_⟩) (by assumption) ?_
      rotate_left
      · intro w hSw; (try dsimp only at hSw); go_simp <;> with_reducible rfl
      (try simp only [Act.put, List.getElem_toArray, List.getElem_cons_zero, List.getElem_cons_succ, List.setIfInBounds_toArray, List.set_cons_zero, List.set_cons_succ])
      refine wpAnyH_take (i := 4) (v := ?_) rfl (by kernel_rfl) (by kernel_rfl) (by kernel_rfl) (fun _ _ _ h => h) (Or.inl ⟨by rfl, ?_⟩) (by assumption) ?_
      rotate_left
      · intro w hSw; (try dsimp only at hSw); go_simp <;> with_reducible rfl
      (try simp only [Act.put, List.getElem_toArray, List.getElem_cons_zero, List.getElem_cons_succ, List.setIfInBounds_toArray, List.set_cons_zero, List.set_cons_succ])
      refine wpAnyH_take (i := 7) (v := ?_) rfl (by kernel_rfl) (by kernel_rfl) (by kernel_rfl) (fun _ _ _ h => h) (Or.inl ⟨by rfl, ?_⟩) (by assumption) ?_
      rotate_left
      · intro w hSw; (try dsimp only at hSw); go_simp <;> with_reducible rfl
      (try simp only [Act.put, List.getElem_toArray, List.getElem_cons_zero, List.getElem_cons_succ, List.setIfInBounds_toArray, List.set_cons_zero, List.set_cons_succ])
      refine wpAnyH_take (i := 8) (v := ?_) rfl (by kernel_rfl) (by kernel_rfl) (by kernel_rfl) (fun _ _ _ h => h) (Or.inl ⟨by rfl, ?_⟩) (by assumption) ?_
      rotate_left
      · intro w hSw; (try dsimp only at hSw); go_simp <;> with_reducible rfl
      (try simp only [Act.put, List.getElem_toArray, List.getElem_cons_zero, List.getElem_cons_succ, List.setIfInBounds_toArray, List.set_cons_zero, List.set_cons_succ])
      refine wpAnyH_take (i := 9) (v := ?_) rfl (by kernel_rfl) (by kernel_rfl) (by kernel_rfl) (fun _ _ _ h => h) (Or.inl ⟨by rfl, ?_⟩) (by assumption) ?_
      rotate_left
      · intro w hSw; (try dsimp only at hSw); go_simp <;> with_reducible rfl
      (try simp only [Act.put, List.getElem_toArray, List.getElem_cons_zero, List.getElem_cons_succ, List.setIfInBounds_toArray, List.set_cons_zero, List.set_cons_succ])
      refine wpAnyH_take (i := 10) (v := ?_) rfl (by kernel_rfl) (by kernel_rfl) (by kernel_rfl) (fun _ _ _ h => h) (Or.inl ⟨by rfl, ?_⟩) (by assumption) ?_
      rotate_left
      · intro w hSw; (try dsimp only at hSw); go_simp <;> with_reducible rfl
      (try simp only [Act.put, List.getElem_toArray, List.getElem_cons_zero, List.getElem_cons_succ, List.setIfInBounds_toArray, List.set_cons_zero, List.set_cons_succ])
      refine wpAnyH_take (i := 11) (v := ?_) rfl (by kernel_rfl) (by kernel_rfl) (by kernel_rfl) (fun _ _ _ h => h) (Or.inl ⟨by rfl, ?_⟩) (by assumption) ?_
      rotate_left
      · intro w hSw; (try dsimp only at hSw); go_simp <;> with_reducible rfl
      (try simp only [Act.put, List.getElem_toArray, List.getElem_cons_zero, List.getElem_cons_succ, List.setIfInBounds_toArray, List.set_cons_zero, List.set_cons_succ])
      refine wpAnyH_ready (rs := [5]) (by kernel_rfl) (by simp) ?_
      refine AllReadyH.cons rfl (fun K hK => ?_) AllReadyH.nil
      go_simp
      (go_at_call 29; with_reducible refine (little_gen m0.f.wide _).mono ?_; rintro e wHa ⟨tHa, rfl, zHa, pHa, BHa⟩; have PHa := Kept.mk pHa; clear pHa)
      refine hK.out _ _ ?_ (fun hHeld => ?_)
      · obtain ⟨z0, z1, z2⟩ := hHeld; exact ⟨z0.trans (BHa.mono z0.size), bkeep BHa z1, bkeep BHa z2⟩
      clear hK K
      (try simp only [Act.put, List.getElem_toArray, List.getElem_cons_zero, List.getElem_cons_succ, List.setIfInBounds_toArray, List.set_cons_zero, List.set_cons_succ])
      refine wpAnyH_take (i := 6) (v := ?_) rfl (by kernel_rfl) (by kernel_rfl) (by kernel_rfl) (fun _ _ _ h => h) (Or.inl ⟨by rfl, ?_⟩) (by assumption) ?_
      rotate_left
      · intro w hSw; (try dsimp only at hSw); go_simp <;> with_reducible rfl
      (try simp only [Act.put, List.getElem_toArray, List.getElem_cons_zero, List.getElem_cons_succ, List.setIfInBounds_toArray, List.set_cons_zero, List.set_cons_succ])
      refine wpAnyH_ready (rs := [12]) (by kernel_rfl) (by simp) ?_
      refine AllReadyH.cons rfl (fun K hK => ?_) AllReadyH.nil
      go_simp
      (go_at_call 29; with_reducible refine (little_gen m0.f.high _).mono ?_; rintro e wHb ⟨tHb, rfl, zHb, pHb, BHb⟩; have PHb := Kept.mk pHb; clear pHb)
      refine hK.out _ _ ?_ (fun hHeld => ?_)
      · obtain ⟨z0, z1, z2⟩ := hHeld; exact ⟨z0.trans (BHb.mono z0.size), bkeep BHb z1, bkeep BHb z2⟩
      clear hK K
      (try simp only [Act.put, List.getElem_toArray, List.getElem_cons_zero, List.getElem_cons_succ, List.setIfInBounds_toArray, List.set_cons_zero, List.set_cons_succ])
      refine wpAnyH_take (i := 13) (v := ?_) rfl (by kernel_rfl) (by kernel_rfl) (by kernel_rfl) (fun _ _ _ h => h) (Or.inl ⟨by rfl, ?_⟩) (by assumption) ?_
      rotate_left
      · intro w hSw; (try dsimp only at hSw); go_simp <;> with_reducible rfl
      (try simp only [Act.put, List.getElem_toArray, List.getElem_cons_zero, List.getElem_cons_succ, List.setIfInBounds_toArray, List.set_cons_zero, List.set_cons_succ])
      refine wpAnyH_ready (rs := [14]) (by kernel_rfl) (by simp) ?_
      refine AllReadyH.cons rfl (fun K hK => ?_) AllReadyH.nil
      go_simp
      (go_at_call 30; with_reducible refine (byte_gen 112 _).mono ?_; rintro e wHc ⟨tHc, rfl, zHc, pHc, BHc⟩; have PHc := Kept.mk pHc; clear pHc)
      refine hK.out _ _ ?_ (fun hHeld => ?_)
      · obtain ⟨z0, z1, z2⟩ := hHeld; exact ⟨z0.trans (BHc.mono z0.size), bkeep BHc z1, bkeep BHc z2⟩
      clear hK K
      (try simp only [Act.put, List.getElem_toArray, List.getElem_cons_zero, List.getElem_cons_succ, List.setIfInBounds_toArray, List.set_cons_zero, List.set_cons_succ])
      refine wpAnyH_take (i := 15) (v := ?_) rfl (by kernel_rfl) (by kernel_rfl) (by kernel_rfl) (fun _ _ _ h => h) (Or.inl ⟨by rfl, ?_⟩) (by assumption) ?_
      rotate_left
      · intro w hSw; (try dsimp only at hSw); go_simp <;> with_reducible rfl
      (try simp only [Act.put, List.getElem_toArray, List.getElem_cons_zero, List.getElem_cons_succ, List.setIfInBounds_toArray, List.set_cons_zero, List.set_cons_succ])
      refine wpAnyH_ready (rs := [16]) (by kernel_rfl) (by simp) ?_
      refine AllReadyH.cons rfl (fun K hK => ?_) AllReadyH.nil
      go_simp
      (go_at_call 30; with_reducible refine (byte_gen 0 _).mono ?_; rintro e wHd ⟨tHd, rfl, zHd, pHd, BHd⟩; have PHd := Kept.mk pHd; clear pHd)
      refine hK.out _ _ ?_ (fun hHeld => ?_)
      · obtain ⟨z0, z1, z2⟩ := hHeld; exact ⟨z0.trans (BHd.mono z0.size), bkeep BHd z1, bkeep BHd z2⟩
      clear hK K
      (try simp only [Act.put, List.getElem_toArray, List.getElem_cons_zero, List.getElem_cons_succ, List.setIfInBounds_toArray, List.set_cons_zero, List.set_cons_succ])
      refine wpAnyH_take (i := 17) (v := ?_) rfl (by kernel_rfl) (by kernel_rfl) (by kernel_rfl) (fun _ _ _ h => h) (Or.inl ⟨by rfl, ?_⟩) (by assumption) ?_
      rotate_left
      · intro w hSw; (try dsimp only at hSw); go_simp <;> with_reducible rfl
      (try simp only [Act.put, List.getElem_toArray, List.getElem_cons_zero, List.getElem_cons_succ, List.setIfInBounds_toArray, List.set_cons_zero, List.set_cons_succ])
      refine wpAnyH_ready (rs := [18]) (by kernel_rfl) (by simp) ?_
      refine AllReadyH.cons rfl (fun K hK => ?_) AllReadyH.nil
      go_simp
      (go_at_call 30; with_reducible refine (byte_gen 0 _).mono ?_; rintro e wHe ⟨tHe, rfl, zHe, pHe, BHe⟩; have PHe := Kept.mk pHe; clear pHe)
      refine hK.out _ _ ?_ (fun hHeld => ?_)
      · obtain ⟨z0, z1, z2⟩ := hHeld; exact ⟨z0.trans (BHe.mono z0.size), bkeep BHe z1, bkeep BHe z2⟩
      clear hK K
      (try simp only [Act.put, List.getElem_toArray, List.getElem_cons_zero, List.getElem_cons_succ, List.setIfInBounds_toArray, List.set_cons_zero, List.set_cons_succ])
      refine wpAnyH_take (i := 19) (v := ?_) rfl (by kernel_rfl) (by kernel_rfl) (by kernel_rfl) (fun _ _ _ h => h) (Or.inl ⟨by rfl, ?_⟩) (by assumption) ?_
      rotate_left
      · intro w hSw; (try dsimp only at hSw); go_simp <;> with_reducible rfl
      (try simp only [Act.put, List.getElem_toArray, List.getElem_cons_zero, List.getElem_cons_succ, List.setIfInBounds_toArray, List.set_cons_zero, List.set_cons_succ])
      refine wpAnyH_take (i := 20) (v := ?_) rfl (by kernel_rfl) (by kernel_rfl) (by kernel_rfl) (fun _ _ _ h => h) (Or.inl ⟨by rfl, ?_⟩) (by assumption) ?_
      rotate_left
      · intro w hSw; (try dsimp only at hSw); go_simp <;> with_reducible rfl
      (try simp only [Act.put, List.getElem_toArray, List.getElem_cons_zero, List.getElem_cons_succ, List.setIfInBounds_toArray, List.set_cons_zero, List.set_cons_succ])
      refine wpAnyH_done (by kernel_rfl) ?_ _
      go_wp2_with fail
      go_meet
      case rel =>
        refine ⟨_, rfl, ?_, fun hrt => ?_, hHeld.1⟩
        · rw [← lst_length]
          simp only [lst_append, List.length_append, lst_length, zHa, zHb, zHc, zHd, zHe]
          rfl
        · have hrt2 := rightB_true hrt
          simp only [lst_append, PHc.out, PHd.out, PHe.out]
          rw [PHa.out (by omega), PHb.out (by omega)]
          simp only [List.append_assoc]
          rfl
    case rest => as_aux_lemma =>
      obtain ⟨t0, rfl, ht0, hhd, hW3⟩ := hcut
      have HHD := Kept.mk hhd
      have hz3 := hW3.size
      clear hhd c0 c1
      go_upto_if 53 with (fail)
      go_cut [7] (fun v wx => ∃ t : ByteArray, v = .string t ∧ t.size ≤ 1000 ∧ (Gif.right m0.f = true → lst t = Gif.head m0.f N lp) ∧ Below w1.heap.size w1 wx)
      case first => as_aux_lemma =>
        by_cases h1 : 1 < N
        · go_wp2_with fail
          refine (byte_gen 33 _).mono ?_
          rintro e wA ⟨tA, rfl, htA, hpA, hbA⟩
          have hIA := hW3.trans (hbA.mono hz3)
          have hzA := hIA.size
          have HPA := Kept.mk hpA
          clear hpA hbA
          go_wp2_with fail
          refine (byte_gen 255 _).mono ?_
          rintro e wB ⟨tB, rfl, htB, hpB, hbB⟩
          have hIB := hIA.trans (hbB.mono hzA)
          have hzB := hIB.size
          have HPB := Kept.mk hpB
          clear hpB hbB
          go_wp2_with fail
          refine (byte_gen 11 _).mono ?_
          rintro e wC ⟨tC, rfl, htC, hpC, hbC⟩
          have hIC := hIB.trans (hbC.mono hzB)
          have hzC := hIC.size
          have HPC := Kept.mk hpC
          clear hpC hbC
          go_wp2_with fail
          refine (byte_gen 3 _).mono ?_
          rintro e wD ⟨tD, rfl, htD, hpD, hbD⟩
          have hID := hIC.trans (hbD.mono hzC)
          have hzD := hID.size
          have HPD := Kept.mk hpD
          clear hpD hbD
          go_wp2_with fail
          refine (byte_gen 1 _).mono ?_
          rintro e wE ⟨tE, rfl, htE, hpE, hbE⟩
          have hIE := hID.trans (hbE.mono hzD)
          have hzE := hIE.size
          have HPE := Kept.mk hpE
          clear hpE hbE
          go_wp2_with fail
          refine (little_gen lp _).mono ?_
          rintro e wF ⟨tF, rfl, htF, hpF, hbF⟩
          have hIF := hIE.trans (hbF.mono hzE)
          have hzF := hIF.size
          have HPF := Kept.mk hpF
          clear hpF hbF
          go_wp2_with fail
          refine (byte_gen 0 _).mono ?_
          rintro e wG ⟨tG, rfl, htG, hpG, hbG⟩
          have hIG := hIF.trans (hbG.mono hzF)
          have hzG := hIG.size
          have HPG := Kept.mk hpG
          clear hpG hbG
          go_wp2_with fail
          go_meet
          case rel =>
            refine ⟨_, rfl, ?_, fun hrt => ?_, hIG⟩
            · rw [← lst_length]
              simp only [lst_append, List.length_append, lst_length, ht0, htA, htB, htC, htD, htE, htF, htG]
              decide
            · simp only [lst_append, HHD.out hrt, HPA.out, HPB.out, HPC.out, HPD.out, HPE.out, HPG.out]
              rw [HPF.out (by omega)]
              unfold Gif.head
              rw [if_pos h1]
              simp only [List.append_assoc]
              rfl
        · go_wp2_with fail
          go_meet
          case rel =>
            refine ⟨t0, rfl, by omega, fun hrt => ?_, hW3⟩
            rw [HHD.out hrt]
            unfold Gif.head
            rw [if_neg h1]
            simp
      case rest => as_aux_lemma =>
        obtain ⟨t1, rfl, ht1, hhd, hW4⟩ := hcut
        have hfs : (ms.map (·.f)).length = N := by rw [List.length_map, HN.out]
        have hfs0 : ms.map (·.f) = m0.f :: (r.map (·.f)) := by rw [HMS.out]; rfl
        have hR0 : Gif.body m0.f ((ms.map (·.f)).drop 0) 0 (lst t1) = R := by
          rw [List.drop_zero, HRG.out]
          cases hrt : Gif.right m0.f with
          | true =>
            rw [hhd hrt, HN.out, HMS.out]
            rfl
          | false =>
            have he : Gif.err m0.f m0.f = some 2 := by
              unfold Gif.err
              rw [if_pos (.inl hrt)]
            rw [hfs0]
            unfold Gif.body
            rw [he]
        have HW0 := Kept.mk (GoR.mk (w := w1) hR0 (Nat.le_trans ht1 (by omega)) hW4)
        clear hhd hR0 ht1 hW4 hfs0 hW3 hz3
        go_wp2_with fail
        go_loopw [7, 8] (fun v i wr => ∃ (k : Nat) (t : ByteArray), v = .string t ∧ i = .int .i64 k ∧ k ≤ N ∧ GoR w1 R m0.f (ms.map (·.f)) k t wr) (fun _ i _ => N - (intOf i).toNat)
        case atStart => exact ⟨0, t1, rfl, rfl, Nat.zero_le _, HW0.out⟩
        case round => as_aux_lemma =>
          clear HW0
          obtain ⟨k, t, rfl, rfl, hk, hW⟩ := hrel
          have hbel := hW.bel
          have hzr := hbel.size
          have hmo := hW.most
          have HEQ := Kept.mk hW.eq
          clear hW
          have hSr := HS1.out.below hbel HS1.out.lt
          by_cases hlt : k < N
          · have hkm : k < ms.length := by rw [← HN.out]; exact hlt
            have hFr := (hF1w.below hbel (Nat.le_refl _)).more hzr
            obtain ⟨m, hm⟩ : ∃ m, m = ms[k] := ⟨_, rfl⟩
            have hpm := hFr.px k hkm
            rw [← hm] at hpm
            have k0 : wr.cell? ⟨b, off + k * 4, none⟩ = some (.int .i64 m.f.wide) := by have := hFr.at k hkm 0 (by omega); rw [← hm] at this; simpa [frCs] using this
            have k1 : wr.cell? ⟨b, off + k * 4 + 1, none⟩ = some (.int .i64 m.f.high) := by have := hFr.at k hkm 1 (by omega); rw [← hm] at this; simpa [frCs] using this
            have k2 : wr.cell? ⟨b, off + k * 4 + 2, none⟩ = some (.slice m.A m.n m.c) := by have := hFr.at k hkm 2 (by omega); rw [← hm] at this; simpa [frCs] using this
            have k3 : wr.cell? ⟨b, off + k * 4 + 3, none⟩ = some (.int .i64 m.f.delay) := by have := hFr.at k hkm 3 (by omega); rw [← hm] at this; simpa [frCs] using this
            have hfe := frameError_any (some ⟨b, off, none⟩) ms.length c ms k hkm wr hFr
            rw [← hm, HM0.out (by omega), ← HN.out] at hfe
            have HFE := Kept.mk hfe
            have hdrop : (ms.map (·.f)).drop k = m.f :: (ms.map (·.f)).drop (k + 1) := by
              rw [List.drop_eq_getElem_cons (by rw [List.length_map]; exact hkm), List.getElem_map, ← hm]
            have heq := HEQ.out
            rw [hdrop] at heq
            unfold Gif.body at heq
            rw [err_of] at heq
            have HQ := Kept.mk heq
            have hmn := hpm.pxLen
            have HMN := Kept.mk hmn
            have hbr : b < wr.heap.size := by omega
            have ht7 : t.size ≤ 10000000 := by omega
            clear hdrop heq hm hmn hkm hfe hFr
            go_wp2_with fail
            refine HFE.out.mono ?_
            rintro e wA ⟨rfl, hbA⟩
            have hwA := hbel.trans (hbA.mono hzr)
            cases he0 : Gif.err0 m0.f m.f with
            | some c0 =>
              have hRf := HQ.out
              rw [he0] at hRf
              have hRf2 : R = .inr (c0, (k : Int)) := hRf.symm
              have HRF := Kept.mk hRf2
              clear hRf hRf2 he0 k0 k1 k2 k3 hpm
              obtain ⟨n1, hn1⟩ : ∃ n1 : Nat, n1 = c0 + 1 := ⟨_, rfl⟩
              have hn1p : 0 < n1 := by omega
              have hn1b : ((n1 : Int) == 0) = false := by rw [beq_eq_false_iff_ne]; omega
              have herr : errN (some c0) = .int .i64 (n1 : Nat) := by rw [hn1]; rfl
              rw [herr]
              clear herr
              have HN1 := Kept.mk hn1
              clear hn1
              obtain ⟨wB, hwBe⟩ : ∃ wB, wB = wA := ⟨_, rfl⟩
              have hwB := hwA
              rw [← hwBe] at hwB ⊢
              clear hwBe hwA hbA
              have hSB := HS1.out.below hwB HS1.out.lt
              have hwE := hw1.trans (hwB.mono hz1)
              have z0 := hSB.free 0
              have z1 := hSB.free 1
              have s0 : wB.cell? ⟨w.heap.size, 0, none⟩ = some (.int .i64 0) := by rw [hSB.cell]; rfl
              have s1 : wB.cell? ⟨w.heap.size, 1, none⟩ = some (.int .i64 0) := by rw [hSB.cell]; rfl
              have e0 : (wB.setCell ⟨w.heap.size, 0, none⟩ (.int .i64 n1)).cell? ⟨w.heap.size, 0, none⟩ = some (.int .i64 n1) := by rw [(hSB.set_ 0 _).cell]; rfl
              have e1 : ((wB.setCell ⟨w.heap.size, 0, none⟩ (.int .i64 n1)).setCell ⟨w.heap.size, 1, none⟩ (.int .i64 (k : Int))).cell? ⟨w.heap.size, 1, none⟩ = some (.int .i64 (k : Int)) := by rw [((hSB.set_ 0 _).set_ 1 _).cell]; rfl
              (repeat (first | go_values | go_skip | go_guarded | go_step | go_upon | (simp only at *; go_simp) | (go_values <;> (try go_simp)) | (go_ite <;> go_prune <;> (try go_simp)))); (try simp only [Exit.then])
              refine bodyPost_ret (v := .tuple #[.string ⟨#[]⟩, .agg #[.int .i64 n1, .int .i64 k]]) (by simp [results, Tryd.results13, go_sem, e0, e1]) rfl ⟨?_, ?_⟩
              · exact (hwE.setCell (Nat.le_refl _) _).setCell (Nat.le_refl _) _
              · rw [HRF.out, HN1.out]
            | none =>
              obtain ⟨hok1, hok2, hok3⟩ := err0_none he0
              have hrt := rightB_true hok1
              obtain ⟨⟨hWa, hWb⟩, ⟨hHa, hHb⟩, -, hP6⟩ := hrt
              have hmn := HMN.out
              have hn6 : m.n ≤ 65536 := by omega
              have hRf := HQ.out
              rw [he0] at hRf
              have hpA := (hpm.below hbA (Nat.le_refl _)).more hbA.size
              have hcol := colorsOK_any m.f.wide m.f.high m.A m.n m.c m.f.ps wA hpA (by omega)
              have HCOL := Kept.mk hcol
              have a0 := bkeep hbA k0
              have a1 := bkeep hbA k1
              have a2 := bkeep hbA k2
              have a3 := bkeep hbA k3
              have HRA := Kept.mk hRf
              clear hRf he0 hcol hok1 hmn k0 k1 k2 k3 hpm
              have herr : errN none = .int .i64 0 := rfl
              rw [herr]
              clear herr
              go_wp2_with fail
              refine HCOL.out.mono ?_
              rintro e wB ⟨rfl, hbB⟩
              have hzA := hwA.size
              have hwB := hwA.trans (hbB.mono hzA)
              have hpB := (hpA.below hbB (Nat.le_refl _)).more hbB.size
              have b0 := bkeep hbB a0
              have b1 := bkeep hbB a1
              have b2 := bkeep hbB a2
              have b3 := bkeep hbB a3
              clear hpA a0 a1 a2 a3 hbA hwA
              cases hc : Gif.colOK m.f.ps with
              | false =>
                have hRf := HRA.out
                rw [hc] at hRf
                have hRf2 : R = .inr (6, (k : Int)) := hRf.symm
                have HRF := Kept.mk hRf2
                clear hRf hRf2 hc hbB b0 b1 b2 b3 hpB
                have hSB := HS1.out.below hwB HS1.out.lt
                have hwE := hw1.trans (hwB.mono hz1)
                have z0 := hSB.free 0
                have z1 := hSB.free 1
                have s0 : wB.cell? ⟨w.heap.size, 0, none⟩ = some (.int .i64 0) := by rw [hSB.cell]; rfl
                have s1 : wB.cell? ⟨w.heap.size, 1, none⟩ = some (.int .i64 0) := by rw [hSB.cell]; rfl
                have e0 : (wB.setCell ⟨w.heap.size, 0, none⟩ (.int .i64 7)).cell? ⟨w.heap.size, 0, none⟩ = some (.int .i64 7) := by rw [(hSB.set_ 0 _).cell]; rfl
                have e1 : ((wB.setCell ⟨w.heap.size, 0, none⟩ (.int .i64 7)).setCell ⟨w.heap.size, 1, none⟩ (.int .i64 (k : Int))).cell? ⟨w.heap.size, 1, none⟩ = some (.int .i64 (k : Int)) := by rw [((hSB.set_ 0 _).set_ 1 _).cell]; rfl
                (repeat (first | go_values | go_skip | go_guarded | go_step | go_upon | (simp only at *; go_simp) | (go_values <;> (try go_simp)) | (go_ite <;> go_prune <;> (try go_simp)))); (try simp only [Exit.then])
                refine bodyPost_ret (v := .tuple #[.string ⟨#[]⟩, .agg #[.int .i64 7, .int .i64 k]]) (by simp [results, Tryd.results13, go_sem, e0, e1]) rfl ⟨?_, ?_⟩
                · exact (hwE.setCell (Nat.le_refl _) _).setCell (Nat.le_refl _) _
                · rw [HRF.out]
                  rfl
              | true =>
                have hRf := HRA.out
                rw [hc] at hRf
                have hRf2 : Gif.body m0.f ((ms.map (·.f)).drop (k + 1)) (k + 1) (lst t ++ Gif.frame m.f) = R := hRf
                have HRF := Kept.mk hRf2
                have hfl := frame_length m.f (by have := HMN.out; omega) hc
                have HFLN := Kept.mk hfl
                have hul : (Col.unl (Gif.clean m.f.ps)).1.length ≤ 256 := by
                  unfold Gif.colOK at hc
                  rw [Bool.and_eq_true, decide_eq_true_eq] at hc
                  exact hc.2
                have HUL := Kept.mk hul
                clear hRf hRf2 hfl hbB hc hul
                go_wp2_with fail
                refine (clean_any m.f.wide m.f.high m.A m.n m.c m.f.ps _ hpB (by omega)).mono ?_
                rintro e wC ⟨A3, c3, rfl, ho3, hbC⟩
                have hzB := hwB.size
                have hwC := hwB.trans (hbC.mono hzB)
                have d3 := bkeep hbC b3
                have hzC := hwC.size
                have hwD := hwC.alloc hzC (.cells #[.int .i64 m.f.wide, .int .i64 m.f.high, .slice A3 m.n c3] 35)
                have hPD := Blk.new wC 35 #[.int .i64 m.f.wide, .int .i64 m.f.high, .slice A3 m.n c3] rfl
                have hrD := ((ho3.alloc (.cells #[.int .i64 m.f.wide, .int .i64 m.f.high, .slice A3 m.n c3] 35)).reads.2)
                have d3 := cell_past (.cells #[.int .i64 m.f.wide, .int .i64 m.f.high, .slice A3 m.n c3] 35) d3
                clear b0 b1 b2 b3 hpB ho3 hbC hwB
                go_wp2_with fail
                obtain ⟨gp, hgp⟩ : ∃ gp, gp = wC.heap.size := ⟨_, rfl⟩
                rw [← hgp] at hPD hzC ⊢
                generalize wC.alloc (.cells #[.int .i64 m.f.wide, .int .i64 m.f.high, .slice A3 m.n c3] 35) = wD at *
                clear hgp hwC
                refine (unlike_any m.f.wide m.f.high A3 m.n c3 (Gif.clean m.f.ps) wD hrD (by omega)).mono ?_
                rintro e wU ⟨A1, c1, A2, c2, rfl, ho1, ho2, hbU⟩
                have hnl := nums_lt (Gif.clean m.f.ps)
                have hnn := nums_length (Gif.clean m.f.ps)
                have hul := HUL.out
                obtain ⟨u, hu⟩ : ∃ u, u = (Col.unl (Gif.clean m.f.ps)).1 := ⟨_, rfl⟩
                obtain ⟨ns, hns⟩ : ∃ ns, ns = (Col.unl (Gif.clean m.f.ps)).2 := ⟨_, rfl⟩
                have hfr : Gif.frame m.f = Gif.front m.f u ++ Gif.table u (2 ^ (Gif.size u.length + 1)) ++ [UInt8.ofNat (Gif.width (Gif.size u.length))] ++ Blo.blocks (Bit.pack (Lz.lzw (Gif.width (Gif.size u.length)) (Gif.nums ns))) := by
                  unfold Gif.frame
                  rw [← hu, ← hns]
                have hnsz := Col.unl_nums (Gif.clean m.f.ps)
                rw [← hns, ← hu] at hnsz
                have hnsp : ∀ z ∈ ns, 0 ≤ z := by
                  rw [hnsz]
                  intro z hz
                  obtain ⟨x, _, rfl⟩ := List.mem_map.1 hz
                  omega
                have hnsl : ns.length = m.n := by
                  rw [hnsz, List.length_map, HMN.out]
                  simp [Gif.clean]
                rw [← hu, ← hns] at hnl
                rw [← hns] at ho2 hnn
                rw [← hu] at ho1 hul ⊢
                have hcr := Gif.clr_range u
                have HFR := Kept.mk hfr
                have HNL := Kept.mk hnl
                have HNP := Kept.mk hnsp
                have HNN := Kept.mk hnn
                have HNSL := Kept.mk hnsl
                have hPU := hPD.below hbU hPD.lt
                have hwU := hwD.trans (hbU.mono hwD.size)
                have hr1 := ho1.reads.2
                have hr2 := ho2.reads.2
                have u3 := bkeep hbU d3
                have hzU := hwU.size
                clear hnl hnn hu hns hfr hnsz hnsp hnsl HUL hPD hrD hbU hwD ho1 ho2 d3
                obtain ⟨cr, hcr2⟩ : ∃ cr, cr = Gif.clr u := ⟨_, rfl⟩
                rw [← hcr2] at hcr
                have HCR := Kept.mk hcr2
                have HCRR := Kept.mk hcr
                have HAR := Kept.mk (And.intro hN16 (And.intro hk (And.intro hlt (And.intro hmo (And.intro hz1 hzr)))))
                have HWA := Kept.mk (And.intro hWa (And.intro hWb (And.intro hHa (And.intro hHb (And.intro hok2 hok3)))))
                clear hcr2 hcr hn16 hlpn hN1 hN16 hz1 hbl hbl1 h0N h0Z hzr hmo hk hlt hbr hzA hzB hzC hzU hP6 hWa hWb hHa hHb hok2 hok3 hF1 hF1w hbel HRA HQ HEQ HM0 HCOL HFE
                go_wp2_with fail
                go_loop [13, 14] (fun cv i => ∃ j : Nat, i = .int .i64 j ∧ j ≤ u.length ∧ cv = .int .i64 (Gif.clr (u.take j))) (fun _ i => u.length - (intOf i).toNat)
                case atStart => exact ⟨0, rfl, Nat.zero_le _, rfl⟩
                case round => as_aux_lemma =>
                  obtain ⟨j, rfl, hj, rfl⟩ := hrel
                  obtain ⟨cz, hcz⟩ : ∃ cz, cz = Gif.clr (u.take j) := ⟨_, rfl⟩
                  rw [← hcz]
                  have HCZ := Kept.mk hcz
                  clear hcz
                  by_cases hju : j < u.length
                  · obtain ⟨ga, oa, rfl, _⟩ := hr1.addr (by omega)
                    obtain ⟨-, -, -, p3⟩ := hr1.px j hju
                    have hsn : Gif.clr (u.take (j + 1)) = if u[j].a = 0 then (j : Int) else cz := by
                      rw [List.take_succ_eq_append_getElem hju, Gif.clr_snoc, ← HCZ.out, List.length_take, Nat.min_eq_left hj]
                    obtain ⟨x, hx⟩ : ∃ x, x = u[j] := ⟨_, rfl⟩
                    rw [← hx] at p3 hsn
                    have HSN := Kept.mk hsn
                    clear hx hsn
                    by_cases hx0 : x.a = 0
                    · have hq : ((x.a.toNat : Int) == 0) = true := by rw [hx0]; rfl
                      have HX0 := Kept.mk hx0
                      clear hx0
                      go_wp2_with fail
                      go_round
                      case rel => exact ⟨j + 1, by go_num, hju, by rw [HSN.out, if_pos HX0.out]⟩
                      case measure => simp [intOf]; omega
                    · have hq : ((x.a.toNat : Int) == 0) = false := by
                        rw [beq_eq_false_iff_ne]
                        intro e
                        exact hx0 (UInt8.toNat_inj.1 (by simpa using e))
                      have HX0 := Kept.mk hx0
                      clear hx0
                      go_wp2_with fail
                      go_round
                      case rel => exact ⟨j + 1, by go_num, hju, by rw [HSN.out, if_neg HX0.out]⟩
                      case measure => simp [intOf]; omega
                  · have hju2 : j = u.length := by omega
                    have hju3 : (u.length : Int) ≤ j := by omega
                    have hcz2 : cz = cr := by rw [HCZ.out, HCR.out, hju2, List.take_length]
                    clear HCZ
                    subst hcz2
                    clear hju2 hju hj
                    obtain ⟨fl, hfl⟩ : ∃ fl : Nat, fl = if 0 ≤ cz then 9 else 8 := ⟨_, rfl⟩
                    obtain ⟨nu, hnu⟩ : ∃ nu : Nat, nu = cz.toNat := ⟨_, rfl⟩
                    have HFL := Kept.mk hfl
                    have HNU := Kept.mk hnu
                    have hflb : fl ≤ 9 := by rw [hfl]; split <;> omega
                    have hnub : nu ≤ 255 := by have := HCRR.out; omega
                    clear hfl hnu
                    go_upto_if 121 with (fail)
                    go_cut [15, 16] (fun f9 n9 wx => f9 = .int .i64 (fl : Nat) ∧ n9 = .int .i64 (nu : Nat) ∧ wU = wx)
                    case first => as_aux_lemma =>
                      have hfl := HFL.out
                      have hnu := HNU.out
                      by_cases h0 : 0 ≤ cz
                      · have h9 : fl = 9 := by rw [hfl, if_pos h0]
                        have hn9 : (nu : Int) = cz := by omega
                        have H9 := Kept.mk h9
                        have HN9 := Kept.mk hn9
                        clear hfl hnu h9 hn9
                        go_wp2_with fail
                        go_meet
                        case rel => exact ⟨by rw [H9.out]; rfl, by rw [HN9.out], rfl⟩
                      · have h9 : fl = 8 := by rw [hfl, if_neg h0]
                        have hn9 : nu = 0 := by omega
                        have h0 : cz < 0 := by omega
                        have H9 := Kept.mk h9
                        have HN9 := Kept.mk hn9
                        clear hfl hnu h9 hn9
                        rename_i h0n
                        clear h0n
                        go_wp2_with fail
                        go_meet
                        case rel => exact ⟨by rw [H9.out]; rfl, by rw [HN9.out]; rfl, rfl⟩
                    case rest => as_aux_lemma =>
                      obtain ⟨rfl, rfl, rfl⟩ := hcut
                      obtain ⟨hWa, hWb, hHa, hHb, hok2, hok3⟩ := HWA.out
                      obtain ⟨D, hD⟩ := Int.eq_ofNat_of_zero_le hok2
                      obtain ⟨Wn, hWn⟩ := Int.eq_ofNat_of_zero_le (show 0 ≤ m.f.wide by omega)
                      obtain ⟨Hn, hHn⟩ := Int.eq_ofNat_of_zero_le (show 0 ≤ m.f.high by omega)
                      rw [hD] at u3
                      have v0 : wU.cell? ⟨gp, 0, none⟩ = some (.int .i64 Wn) := by rw [hPU.cell, ← hWn]; rfl
                      have v1 : wU.cell? ⟨gp, 1, none⟩ = some (.int .i64 Hn) := by rw [hPU.cell, ← hHn]; rfl
                      have hDl : D ≤ 65535 := by omega
                      have hWl : Wn ≤ 256 := by omega
                      have hHl : Hn ≤ 256 := by omega
                      have HD := Kept.mk hD
                      have HWN := Kept.mk hWn
                      have HHN := Kept.mk hHn
                      have hfb : (fl : Int) % 256 = fl := by omega
                      have hnb : (nu : Int) % 256 = nu := by omega
                      have HFB := Kept.mk hfb
                      have HNB := Kept.mk hnb
                      clear hD hWn hHn hWa hWb hHa hHb hok2 hok3 hfb hnb hPU
                      go_wp2_with fail
                      go_cut [7] (fun v wx => ∃ tt : ByteArray, v = .string tt ∧ tt.size = t.size + 8 ∧ lst tt = lst t ++ [33, 249, 4, UInt8.ofNat fl] ++ pair D ++ [UInt8.ofNat nu, 0] ∧ Below wU.heap.size wU wx)
                      case first => as_aux_lemma =>
                        have hkN : k < N := HAR.out.2.2.1
                        have l0 : (9223372036854775807 < t.size + 1) = False := eq_false (by omega)
                        have l1 : (9223372036854775807 < t.size + 1 + 1) = False := eq_false (by omega)
                        have l2 : (9223372036854775807 < t.size + 1 + 1 + 1) = False := eq_false (by omega)
                        have l3 : (9223372036854775807 < t.size + 1 + 1 + 1 + 1) = False := eq_false (by omega)
                        have l4 : (9223372036854775807 < t.size + 1 + 1 + 1 + 1 + 2) = False := eq_false (by omega)
                        have l5 : (9223372036854775807 < t.size + 1 + 1 + 1 + 1 + 2 + 1) = False := eq_false (by omega)
                        have l6 : (9223372036854775807 < t.size + 1 + 1 + 1 + 1 + 2 + 1 + 1) = False := eq_false (by omega)
                        refine wp_region_held_drew (S := (fun w' => Below wU.heap.size wU w' ∧ w'.cell? ⟨b, off + k * 4 + 3, none⟩ = some (.int .i64 (D : Nat)))) (by kernel_rfl) ?_ (fun hHeld => ?_)
                        · exact ⟨(Below.refl _ _).drew, u3⟩
                        refine wpAnyH_take (i := 0) (v := ?_) rfl (by kernel_rfl) (by kernel_rfl) (by kernel_rfl) (fun _ _ _ h => h) (Or.inl ⟨by rfl, ?_⟩) (by assumption) ?_
                        rotate_left
                        · intro w hSw; (try dsimp only at hSw); go_simp <;> with_reducible rfl
                        (try simp only [Act.put, List.getElem_toArray, List.getElem_cons_zero, List.setIfInBounds_toArray, List.set_cons_zero, List.set_cons_succ])
                        refine wpAnyH_take (i := 7) (v := ?_) rfl (by kernel_rfl) (by kernel_rfl) (by kernel_rfl) (fun _ _ _ h => h) (Or.inl ⟨by rfl, ?_⟩) (by assumption) ?_
                        rotate_left
                        · intro w hSw; (try dsimp only at hSw); go_simp <;> with_reducible rfl
                        (try simp only [Act.put, List.getElem_toArray, List.getElem_cons_zero, List.getElem_cons_succ, List.setIfInBounds_toArray, List.set_cons_zero, List.set_cons_succ])
                        refine wpAnyH_take (i := 10) (v := ?_) rfl (by kernel_rfl) (by kernel_rfl) (by kernel_rfl) (fun _ _ _ h => h) (Or.inl ⟨by rfl, ?_⟩) (by assumption) ?_
                        rotate_left
                        · intro w hSw; (try dsimp only at hSw); go_simp <;> with_reducible rfl
                        (try simp only [Act.put, List.getElem_toArray, List.getElem_cons_zero, List.getElem_cons_succ, List.setIfInBounds_toArray, List.set_cons_zero, List.set_cons_succ])
                        refine wpAnyH_take (i := 11) (v := ?_) rfl (by kernel_rfl) (by kernel_rfl) (by kernel_rfl) (fun _ _ _ h => h) (Or.inl ⟨by rfl, ?_⟩) (by assumption) ?_
                        rotate_left
                        · intro w hSw; (try dsimp only at hSw); go_simp <;> with_reducible rfl
                        (try simp only [Act.put, List.getElem_toArray, List.getElem_cons_zero, List.getElem_cons_succ, List.setIfInBounds_toArray, List.set_cons_zero, List.set_cons_succ])
                        refine wpAnyH_take (i := 12) (v := ?_) rfl (by kernel_rfl) (by kernel_rfl) (by kernel_rfl) (fun _ _ _ h => h) (Or.inl ⟨by rfl, ?_⟩) (by assumption) ?_
                        rotate_left
                        · intro w hSw; (try dsimp only at hSw); go_simp <;> with_reducible rfl
                        (try simp only [Act.put, List.getElem_toArray, List.getElem_cons_zero, List.getElem_cons_succ, List.setIfInBounds_toArray, List.set_cons_zero, List.set_cons_succ])
                        refine wpAnyH_take (i := 13) (v := ?_) rfl (by kernel_rfl) (by kernel_rfl) (by kernel_rfl) (fun _ _ _ h => h) (Or.inl ⟨by rfl, ?_⟩) (by assumption) ?_
                        rotate_left
                        · intro w hSw; (try dsimp only at hSw); go_simp <;> with_reducible rfl
                        (try simp only [Act.put, List.getElem_toArray, List.getElem_cons_zero, List.getElem_cons_succ, List.setIfInBounds_toArray, List.set_cons_zero, List.set_cons_succ])
                        refine wpAnyH_take (i := 14) (v := ?_) rfl (by kernel_rfl) (by kernel_rfl) (by kernel_rfl) (fun _ _ _ h => h) (Or.inl ⟨by rfl, ?_⟩) (by assumption) ?_
                        rotate_left
                        · intro w hSw; (try dsimp only at hSw); go_simp <;> with_reducible rfl
                        (try simp only [Act.put, List.getElem_toArray, List.getElem_cons_zero, List.getElem_cons_succ, List.setIfInBounds_toArray, List.set_cons_zero, List.set_cons_succ])
                        refine wpAnyH_take (i := 17) (v := ?_) rfl (by kernel_rfl) (by kernel_rfl) (by kernel_rfl) (fun _ _ _ h => h) (Or.inl ⟨by rfl, ?_⟩) (by assumption) ?_
                        rotate_left
                        · intro w hSw; (try dsimp only at hSw); go_simp <;> with_reducible rfl
                        (try simp only [Act.put, List.getElem_toArray, List.getElem_cons_zero, List.getElem_cons_succ, List.setIfInBounds_toArray, List.set_cons_zero, List.set_cons_succ])
                        refine wpAnyH_ready (rs := [1]) (by kernel_rfl) (by simp) ?_
                        refine AllReadyH.cons rfl (fun K hK => ?_) AllReadyH.nil
                        go_simp
                        (go_at_call 30; with_reducible refine (byte_gen 33 _).mono ?_; rintro e wpa ⟨tpa, rfl, zpa, ppa, Bpa⟩; have Ppa := Kept.mk ppa; clear ppa)
                        refine hK.out _ _ ?_ (fun hHeld => ?_)
                        · obtain ⟨z0, z1⟩ := hHeld; exact ⟨z0.trans (Bpa.mono z0.size), bkeep Bpa z1⟩
                        clear hK K
                        (try simp only [Act.put, List.getElem_toArray, List.getElem_cons_zero, List.getElem_cons_succ, List.setIfInBounds_toArray, List.set_cons_zero, List.set_cons_succ])
                        refine wpAnyH_take (i := 2) (v := ?_) rfl (by kernel_rfl) (by kernel_rfl) (by kernel_rfl) (fun _ _ _ h => h) (Or.inl ⟨by rfl, ?_⟩) (by assumption) ?_
                        rotate_left
                        · intro w hSw; (try dsimp only at hSw); go_simp <;> with_reducible rfl
                        (try simp only [Act.put, List.getElem_toArray, List.getElem_cons_zero, List.getElem_cons_succ, List.setIfInBounds_toArray, List.set_cons_zero, List.set_cons_succ])
                        refine wpAnyH_ready (rs := [3]) (by kernel_rfl) (by simp) ?_
                        refine AllReadyH.cons rfl (fun K hK => ?_) AllReadyH.nil
                        go_simp
                        (go_at_call 30; with_reducible refine (byte_gen 249 _).mono ?_; rintro e wpb ⟨tpb, rfl, zpb, ppb, Bpb⟩; have Ppb := Kept.mk ppb; clear ppb)
                        refine hK.out _ _ ?_ (fun hHeld => ?_)
                        · obtain ⟨z0, z1⟩ := hHeld; exact ⟨z0.trans (Bpb.mono z0.size), bkeep Bpb z1⟩
                        clear hK K
                        (try simp only [Act.put, List.getElem_toArray, List.getElem_cons_zero, List.getElem_cons_succ, List.setIfInBounds_toArray, List.set_cons_zero, List.set_cons_succ])
                        refine wpAnyH_take (i := 4) (v := ?_) rfl (by kernel_rfl) (by kernel_rfl) (by kernel_rfl) (fun _ _ _ h => h) (Or.inl ⟨by rfl, ?_⟩) (by assumption) ?_
                        rotate_left
                        · intro w hSw; (try dsimp only at hSw); go_simp <;> with_reducible rfl
                        (try simp only [Act.put, List.getElem_toArray, List.getElem_cons_zero, List.getElem_cons_succ, List.setIfInBounds_toArray, List.set_cons_zero, List.set_cons_succ])
                        refine wpAnyH_ready (rs := [5]) (by kernel_rfl) (by simp) ?_
                        refine AllReadyH.cons rfl (fun K hK => ?_) AllReadyH.nil
                        go_simp
                        (go_at_call 30; with_reducible refine (byte_gen 4 _).mono ?_; rintro e wpc ⟨tpc, rfl, zpc, ppc, Bpc⟩; have Ppc := Kept.mk ppc; clear ppc)
                        refine hK.out _ _ ?_ (fun hHeld => ?_)
                        · obtain ⟨z0, z1⟩ := hHeld; exact ⟨z0.trans (Bpc.mono z0.size), bkeep Bpc z1⟩
                        clear hK K
                        (try simp only [Act.put, List.getElem_toArray, List.getElem_cons_zero, List.getElem_cons_succ, List.setIfInBounds_toArray, List.set_cons_zero, List.set_cons_succ])
                        refine wpAnyH_take (i := 6) (v := ?_) rfl (by kernel_rfl) (by kernel_rfl) (by kernel_rfl) (fun _ _ _ h => h) (Or.inl ⟨by rfl, ?_⟩) (by assumption) ?_
                        rotate_left
                        · intro w hSw; (try dsimp only at hSw); go_simp <;> with_reducible rfl
                        (try simp only [Act.put, List.getElem_toArray, List.getElem_cons_zero, List.getElem_cons_succ, List.setIfInBounds_toArray, List.set_cons_zero, List.set_cons_succ])
                        refine wpAnyH_ready (rs := [8]) (by kernel_rfl) (by simp) ?_
                        refine AllReadyH.cons rfl (fun K hK => ?_) AllReadyH.nil
                        go_simp
                        (go_at_call 30; with_reducible refine (byte_gen (fl : Nat) _).mono ?_; rintro e wpd ⟨tpd, rfl, zpd, ppd, Bpd⟩; have Ppd := Kept.mk ppd; clear ppd)
                        refine hK.out _ _ ?_ (fun hHeld => ?_)
                        · obtain ⟨z0, z1⟩ := hHeld; exact ⟨z0.trans (Bpd.mono z0.size), bkeep Bpd z1⟩
                        clear hK K
                        (try simp only [Act.put, List.getElem_toArray, List.getElem_cons_zero, List.getElem_cons_succ, List.setIfInBounds_toArray, List.set_cons_zero, List.set_cons_succ])
                        refine wpAnyH_take (i := 9) (v := ?_) rfl (by kernel_rfl) (by kernel_rfl) (by kernel_rfl) (fun _ _ _ h => h) (Or.inl ⟨by rfl, ?_⟩) (by assumption) ?_
                        rotate_left
                        · intro w hSw; (try dsimp only at hSw); go_simp <;> with_reducible rfl
                        (try simp only [Act.put, List.getElem_toArray, List.getElem_cons_zero, List.getElem_cons_succ, List.setIfInBounds_toArray, List.set_cons_zero, List.set_cons_succ])
                        refine wpAnyH_ready (rs := [15]) (by kernel_rfl) (by simp) ?_
                        refine AllReadyH.cons rfl (fun K hK => ?_) AllReadyH.nil
                        go_simp
                        (go_at_call 29; with_reducible refine (little_gen (D : Nat) _).mono ?_; rintro e wpe ⟨tpe, rfl, zpe, ppe, Bpe⟩; have Ppe := Kept.mk ppe; clear ppe)
                        refine hK.out _ _ ?_ (fun hHeld => ?_)
                        · obtain ⟨z0, z1⟩ := hHeld; exact ⟨z0.trans (Bpe.mono z0.size), bkeep Bpe z1⟩
                        clear hK K
                        (try simp only [Act.put, List.getElem_toArray, List.getElem_cons_zero, List.getElem_cons_succ, List.setIfInBounds_toArray, List.set_cons_zero, List.set_cons_succ])
                        refine wpAnyH_take (i := 16) (v := ?_) rfl (by kernel_rfl) (by kernel_rfl) (by kernel_rfl) (fun _ _ _ h => h) (Or.inl ⟨by rfl, ?_⟩) (by assumption) ?_
                        rotate_left
                        · intro w hSw; (try dsimp only at hSw); go_simp <;> with_reducible rfl
                        (try simp only [Act.put, List.getElem_toArray, List.getElem_cons_zero, List.getElem_cons_succ, List.setIfInBounds_toArray, List.set_cons_zero, List.set_cons_succ])
                        refine wpAnyH_ready (rs := [18]) (by kernel_rfl) (by simp) ?_
                        refine AllReadyH.cons rfl (fun K hK => ?_) AllReadyH.nil
                        go_simp
                        (go_at_call 30; with_reducible refine (byte_gen (nu : Nat) _).mono ?_; rintro e wpf ⟨tpf, rfl, zpf, ppf, Bpf⟩; have Ppf := Kept.mk ppf; clear ppf)
                        refine hK.out _ _ ?_ (fun hHeld => ?_)
                        · obtain ⟨z0, z1⟩ := hHeld; exact ⟨z0.trans (Bpf.mono z0.size), bkeep Bpf z1⟩
                        clear hK K
                        (try simp only [Act.put, List.getElem_toArray, List.getElem_cons_zero, List.getElem_cons_succ, List.setIfInBounds_toArray, List.set_cons_zero, List.set_cons_succ])
                        refine wpAnyH_take (i := 19) (v := ?_) rfl (by kernel_rfl) (by kernel_rfl) (by kernel_rfl) (fun _ _ _ h => h) (Or.inl ⟨by rfl, ?_⟩) (by assumption) ?_
                        rotate_left
                        · intro w hSw; (try dsimp only at hSw); go_simp <;> with_reducible rfl
                        (try simp only [Act.put, List.getElem_toArray, List.getElem_cons_zero, List.getElem_cons_succ, List.setIfInBounds_toArray, List.set_cons_zero, List.set_cons_succ])
                        refine wpAnyH_ready (rs := [20]) (by kernel_rfl) (by simp) ?_
                        refine AllReadyH.cons rfl (fun K hK => ?_) AllReadyH.nil
                        go_simp
                        (go_at_call 30; with_reducible refine (byte_gen 0 _).mono ?_; rintro e wpg ⟨tpg, rfl, zpg, ppg, Bpg⟩; have Ppg := Kept.mk ppg; clear ppg)
                        refine hK.out _ _ ?_ (fun hHeld => ?_)
                        · obtain ⟨z0, z1⟩ := hHeld; exact ⟨z0.trans (Bpg.mono z0.size), bkeep Bpg z1⟩
                        clear hK K
                        (try simp only [Act.put, List.getElem_toArray, List.getElem_cons_zero, List.getElem_cons_succ, List.setIfInBounds_toArray, List.set_cons_zero, List.set_cons_succ])
                        refine wpAnyH_take (i := 21) (v := ?_) rfl (by kernel_rfl) (by kernel_rfl) (by kernel_rfl) (fun _ _ _ h => h) (Or.inl ⟨by rfl, ?_⟩) (by assumption) ?_
                        rotate_left
                        · intro w hSw; (try dsimp only at hSw); go_simp <;> with_reducible rfl
                        (try simp only [Act.put, List.getElem_toArray, List.getElem_cons_zero, List.getElem_cons_succ, List.setIfInBounds_toArray, List.set_cons_zero, List.set_cons_succ])
                        refine wpAnyH_take (i := 22) (v := ?_) rfl (by kernel_rfl) (by kernel_rfl) (by kernel_rfl) (fun _ _ _ h => h) (Or.inl ⟨by rfl, ?_⟩) (by assumption) ?_
                        rotate_left
                        · intro w hSw; (try dsimp only at hSw); go_simp <;> with_reducible rfl
                        (try simp only [Act.put, List.getElem_toArray, List.getElem_cons_zero, List.getElem_cons_succ, List.setIfInBounds_toArray, List.set_cons_zero, List.set_cons_succ])
                        refine wpAnyH_done (by kernel_rfl) ?_ _
                        go_wp2_with fail
                        go_meet
                        case rel =>
                          refine ⟨_, rfl, ?_, ?_, hHeld.1⟩
                          · rw [← lst_length]
                            simp only [lst_append, List.length_append, lst_length, zpa, zpb, zpc, zpd, zpe, zpf, zpg]
                          · simp only [lst_append, Ppa.out, Ppb.out, Ppc.out, Ppd.out, Ppf.out, Ppg.out, HFB.out, HNB.out, Int.toNat_natCast]
                            rw [Ppe.out (by omega), Int.toNat_natCast]
                            simp only [List.append_assoc]
                            rfl
                      case rest => as_aux_lemma =>
                        obtain ⟨tt, rfl, htz, htl, hbP⟩ := hcut
                        have v0 := bkeep hbP v0
                        have v1 := bkeep hbP v1
                        have hwP := hwU.trans (hbP.mono hwU.size)
                        have hr1 := (hr1.below hbP (Nat.le_refl _)).more hbP.size
                        have hr2 := (hr2.below hbP (Nat.le_refl _)).more hbP.size
                        obtain ⟨wP, hwPe⟩ : ∃ wP, wP = wc := ⟨_, rfl⟩
                        rw [← hwPe] at hwP hr1 hr2 v0 v1 ⊢
                        have HTL := Kept.mk htl
                        have htt7 : tt.size ≤ 10000008 := by omega
                        clear htl hwPe hbP u3 htz
                        obtain ⟨S, hS⟩ : ∃ S, S = Gif.size u.length := ⟨_, rfl⟩
                        have hS7 : S ≤ 7 := by rw [hS]; exact Gif.size_le _ hul
                        have hSf : u.length ≤ 2 ^ (S + 1) := by rw [hS]; exact Gif.size_fit _ hul
                        have HS := Kept.mk hS
                        clear hS
                        go_wp2_with fail
                        go_loop [17, 18] (fun v mv => ∃ z : Nat, v = .int .i64 z ∧ mv = .int .i64 (2 ^ (z + 1) : Nat) ∧ z ≤ 7 ∧ Gif.sizeF (8 - z) z u.length = S) (fun v _ => 8 - (intOf v).toNat)
                        case atStart => exact ⟨0, rfl, rfl, by omega, HS.out.symm⟩
                        case round => as_aux_lemma =>
                          obtain ⟨z, rfl, rfl, hz, hzS⟩ := hrel
                          have hzS2 : (if 2 ^ (z + 1) < u.length then Gif.sizeF (8 - z - 1) (z + 1) u.length else z) = S := by
                            rw [← hzS, show 8 - z = (8 - z - 1) + 1 by omega, Gif.sizeF]
                            rfl
                          obtain ⟨Y, hY⟩ : ∃ Y : Nat, Y = 2 ^ (z + 1) := ⟨_, rfl⟩
                          rw [← hY] at hzS2 ⊢
                          have HZ := Kept.mk hzS2
                          have hYl : Y ≤ 256 := by rw [hY]; exact Nat.le_trans (Nat.pow_le_pow_right (show 0 < 2 by omega) (show z + 1 ≤ 8 by omega)) (Nat.le_refl _)
                          have HY := Kept.mk hY
                          clear hzS hzS2 hY
                          by_cases hlt2 : Y < u.length
                          · have hlti : (Y : Int) < u.length := by omega
                            have h8 : z + 1 < 8 := by
                              rcases Nat.lt_or_ge (z + 1) 8 with h | h
                              · exact h
                              · have e : z = 7 := by omega
                                have := HY.out
                                rw [e] at this
                                have e2 : (2 : Nat) ^ (7 + 1) = 256 := by decide
                                omega
                            have hst := HZ.out
                            rw [if_pos hlt2] at hst
                            have HST := Kept.mk hst
                            clear hst
                            go_wp2_with fail
                            go_round
                            case rel => exact ⟨z + 1, by go_num, by rw [Nat.pow_succ 2 (z + 1), ← HY.out]; first | (congr 1; push_cast; omega) | go_num, by omega, by have := HST.out; rw [show 8 - (z + 1) = 8 - z - 1 by omega]; exact this⟩
                            case measure => simp [intOf]; omega
                          · have hlti : (u.length : Int) ≤ Y := by omega
                            have hst := HZ.out
                            rw [if_neg hlt2] at hst
                            subst hst
                            clear hlt2
                            obtain ⟨z8, hz8⟩ : ∃ z8 : Nat, z8 = 128 + z := ⟨_, rfl⟩
                            have hzw : IntKind.i64.wrap (128 + (z : Int)) = (z8 : Int) := by rw [IntWalk.i64_in _ (by omega)]; omega
                            have hzb : (z8 : Int) % 256 = ((128 + z : Nat) : Int) := by omega
                            have HZB := Kept.mk hzb
                            clear hzb hz8
                            go_upto_region 34 with (fail)
                            go_cut [7] (fun v wx => ∃ ts : ByteArray, v = .string ts ∧ ts.size = tt.size + 10 ∧ lst ts = lst t ++ Gif.front m.f u ∧ Below wP.heap.size wP wx)
                            case first => as_aux_lemma =>
                              have l0 : (9223372036854775807 < tt.size + 1) = False := eq_false (by omega)
                              have l1 : (9223372036854775807 < tt.size + 1 + 2) = False := eq_false (by omega)
                              have l2 : (9223372036854775807 < tt.size + 1 + 2 + 2) = False := eq_false (by omega)
                              have l3 : (9223372036854775807 < tt.size + 1 + 2 + 2 + 2) = False := eq_false (by omega)
                              have l4 : (9223372036854775807 < tt.size + 1 + 2 + 2 + 2 + 2) = False := eq_false (by omega)
                              have l5 : (9223372036854775807 < tt.size + 1 + 2 + 2 + 2 + 2 + 1) = False := eq_false (by omega)
                              refine wp_region_held_drew (S := (fun w' => Below wP.heap.size wP w' ∧ w'.cell? ⟨gp, 0, none⟩ = some (.int .i64 Wn) ∧ w'.cell? ⟨gp, 1, none⟩ = some (.int .i64 Hn))) (by kernel_rfl) ?_ (fun hHeld => ?_)
                              · exact ⟨(Below.refl _ _).drew, v0, v1⟩
                              refine wpAnyH_take (i := 0) (v := ?_) rfl (by kernel_rfl) (by kernel_rfl) (by kernel_rfl) (fun _ _ _ h => h) (Or.inl ⟨by rfl, ?_⟩) (by assumption) ?_
                              rotate_left
                              · intro w hSw; (try dsimp only at hSw); go_simp <;> with_reducible rfl
                              (try simp only [Act.put, List.getElem_toArray, List.getElem_cons_zero, List.setIfInBounds_toArray, List.set_cons_zero, List.set_cons_succ])
                              refine wpAnyH_take (i := 7) (v := ?_) rfl (by kernel_rfl) (by kernel_rfl) (by kernel_rfl) (fun _ _ _ h => h) (Or.inl ⟨by rfl, ?_⟩) (by assumption) ?_
                              rotate_left
                              · intro w hSw; (try dsimp only at hSw); go_simp <;> with_reducible rfl
                              (try simp only [Act.put, List.getElem_toArray, List.getElem_cons_zero, List.getElem_cons_succ, List.setIfInBounds_toArray, List.set_cons_zero, List.set_cons_succ])
                              refine wpAnyH_take (i := 8) (v := ?_) rfl (by kernel_rfl) (by kernel_rfl) (by kernel_rfl) (fun _ _ _ h => h) (Or.inl ⟨by rfl, ?_⟩) (by assumption) ?_
                              rotate_left
                              · intro w hSw; (try dsimp only at hSw); go_simp <;> with_reducible rfl
                              (try simp only [Act.put, List.getElem_toArray, List.getElem_cons_zero, List.getElem_cons_succ, List.setIfInBounds_toArray, List.set_cons_zero, List.set_cons_succ])
                              refine wpAnyH_take (i := 11) (v := ?_) rfl (by kernel_rfl) (by kernel_rfl) (by kernel_rfl) (fun _ _ _ h => h) (Or.inl ⟨by rfl, ?_⟩) (by assumption) ?_
                              rotate_left
                              · intro w hSw; (try dsimp only at hSw); go_simp <;> with_reducible rfl
                              (try simp only [Act.put, List.getElem_toArray, List.getElem_cons_zero, List.getElem_cons_succ, List.setIfInBounds_toArray, List.set_cons_zero, List.set_cons_succ])
                              refine wpAnyH_take (i := 12) (v := ?_) rfl (by kernel_rfl) (by kernel_rfl) (by kernel_rfl) (fun _ _ _ h => h) (Or.inl ⟨by rfl, ?_⟩) (by assumption) ?_
                              rotate_left
                              · intro w hSw; (try dsimp only at hSw); go_simp <;> with_reducible rfl
                              (try simp only [Act.put, List.getElem_toArray, List.getElem_cons_zero, List.getElem_cons_succ, List.setIfInBounds_toArray, List.set_cons_zero, List.set_cons_succ])
                              refine wpAnyH_take (i := 15) (v := ?_) rfl (by kernel_rfl) (by kernel_rfl) (by kernel_rfl) (fun _ _ _ h => h) (Or.inl ⟨by rfl, ?_⟩) (by assumption) ?_
                              rotate_left
                              · intro w hSw; (try dsimp only at hSw); go_simp <;> with_reducible rfl
                              (try simp only [Act.put, List.getElem_toArray, List.getElem_cons_zero, List.getElem_cons_succ, List.setIfInBounds_toArray, List.set_cons_zero, List.set_cons_succ])
                              refine wpAnyH_take (i := 16) (v := ?_) rfl (by kernel_rfl) (by kernel_rfl) (by kernel_rfl) (fun _ _ _ h => h) (Or.inl ⟨by rfl, ?_⟩) (by assumption) ?_
                              rotate_left
                              · intro w hSw; (try dsimp only at hSw); go_simp <;> with_reducible rfl
                              (try simp only [Act.put, List.getElem_toArray, List.getElem_cons_zero, List.getElem_cons_succ, List.setIfInBounds_toArray, List.set_cons_zero, List.set_cons_succ])
                              refine wpAnyH_ready (rs := [1]) (by kernel_rfl) (by simp) ?_
                              refine AllReadyH.cons rfl (fun K hK => ?_) AllReadyH.nil
                              go_simp
                              (go_at_call 30; with_reducible refine (byte_gen 44 _).mono ?_; rintro e wqa ⟨tqa, rfl, zqa, pqa, Bqa⟩; have Pqa := Kept.mk pqa; clear pqa)
                              refine hK.out _ _ ?_ (fun hHeld => ?_)
                              · obtain ⟨z0, z1, z2⟩ := hHeld; exact ⟨z0.trans (Bqa.mono z0.size), bkeep Bqa z1, bkeep Bqa z2⟩
                              clear hK K
                              (try simp only [Act.put, List.getElem_toArray, List.getElem_cons_zero, List.getElem_cons_succ, List.setIfInBounds_toArray, List.set_cons_zero, List.set_cons_succ])
                              refine wpAnyH_take (i := 2) (v := ?_) rfl (by kernel_rfl) (by kernel_rfl) (by kernel_rfl) (fun _ _ _ h => h) (Or.inl ⟨by rfl, ?_⟩) (by assumption) ?_
                              rotate_left
                              · intro w hSw; (try dsimp only at hSw); go_simp <;> with_reducible rfl
                              (try simp only [Act.put, List.getElem_toArray, List.getElem_cons_zero, List.getElem_cons_succ, List.setIfInBounds_toArray, List.set_cons_zero, List.set_cons_succ])
                              refine wpAnyH_ready (rs := [3]) (by kernel_rfl) (by simp) ?_
                              refine AllReadyH.cons rfl (fun K hK => ?_) AllReadyH.nil
                              go_simp
                              (go_at_call 29; with_reducible refine (little_gen 0 _).mono ?_; rintro e wqb ⟨tqb, rfl, zqb, pqb, Bqb⟩; have Pqb := Kept.mk pqb; clear pqb)
                              refine hK.out _ _ ?_ (fun hHeld => ?_)
                              · obtain ⟨z0, z1, z2⟩ := hHeld; exact ⟨z0.trans (Bqb.mono z0.size), bkeep Bqb z1, bkeep Bqb z2⟩
                              clear hK K
                              (try simp only [Act.put, List.getElem_toArray, List.getElem_cons_zero, List.getElem_cons_succ, List.setIfInBounds_toArray, List.set_cons_zero, List.set_cons_succ])
                              refine wpAnyH_take (i := 4) (v := ?_) rfl (by kernel_rfl) (by kernel_rfl) (by kernel_rfl) (fun _ _ _ h => h) (Or.inl ⟨by rfl, ?_⟩) (by assumption) ?_
                              rotate_left
                              · intro w hSw; (try dsimp only at hSw); go_simp <;> with_reducible rfl
                              (try simp only [Act.put, List.getElem_toArray, List.getElem_cons_zero, List.getElem_cons_succ, List.setIfInBounds_toArray, List.set_cons_zero, List.set_cons_succ])
                              refine wpAnyH_ready (rs := [5]) (by kernel_rfl) (by simp) ?_
                              refine AllReadyH.cons rfl (fun K hK => ?_) AllReadyH.nil
                              go_simp
                              (go_at_call 29; with_reducible refine (little_gen 0 _).mono ?_; rintro e wqc ⟨tqc, rfl, zqc, pqc, Bqc⟩; have Pqc := Kept.mk pqc; clear pqc)
                              refine hK.out _ _ ?_ (fun hHeld => ?_)
                              · obtain ⟨z0, z1, z2⟩ := hHeld; exact ⟨z0.trans (Bqc.mono z0.size), bkeep Bqc z1, bkeep Bqc z2⟩
                              clear hK K
                              (try simp only [Act.put, List.getElem_toArray, List.getElem_cons_zero, List.getElem_cons_succ, List.setIfInBounds_toArray, List.set_cons_zero, List.set_cons_succ])
                              refine wpAnyH_take (i := 6) (v := ?_) rfl (by kernel_rfl) (by kernel_rfl) (by kernel_rfl) (fun _ _ _ h => h) (Or.inl ⟨by rfl, ?_⟩) (by assumption) ?_
                              rotate_left
                              · intro w hSw; (try dsimp only at hSw); go_simp <;> with_reducible rfl
                              (try simp only [Act.put, List.getElem_toArray, List.getElem_cons_zero, List.getElem_cons_succ, List.setIfInBounds_toArray, List.set_cons_zero, List.set_cons_succ])
                              refine wpAnyH_ready (rs := [9]) (by kernel_rfl) (by simp) ?_
                              refine AllReadyH.cons rfl (fun K hK => ?_) AllReadyH.nil
                              go_simp
                              (go_at_call 29; with_reducible refine (little_gen (Wn : Nat) _).mono ?_; rintro e wqd ⟨tqd, rfl, zqd, pqd, Bqd⟩; have Pqd := Kept.mk pqd; clear pqd)
                              refine hK.out _ _ ?_ (fun hHeld => ?_)
                              · obtain ⟨z0, z1, z2⟩ := hHeld; exact ⟨z0.trans (Bqd.mono z0.size), bkeep Bqd z1, bkeep Bqd z2⟩
                              clear hK K
                              (try simp only [Act.put, List.getElem_toArray, List.getElem_cons_zero, List.getElem_cons_succ, List.setIfInBounds_toArray, List.set_cons_zero, List.set_cons_succ])
                              refine wpAnyH_take (i := 10) (v := ?_) rfl (by kernel_rfl) (by kernel_rfl) (by kernel_rfl) (fun _ _ _ h => h) (Or.inl ⟨by rfl, ?_⟩) (by assumption) ?_
                              rotate_left
                              · intro w hSw; (try dsimp only at hSw); go_simp <;> with_reducible rfl
                              (try simp only [Act.put, List.getElem_toArray, List.getElem_cons_zero, List.getElem_cons_succ, List.setIfInBounds_toArray, List.set_cons_zero, List.set_cons_succ])
                              refine wpAnyH_ready (rs := [13]) (by kernel_rfl) (by simp) ?_
                              refine AllReadyH.cons rfl (fun K hK => ?_) AllReadyH.nil
                              go_simp
                              (go_at_call 29; with_reducible refine (little_gen (Hn : Nat) _).mono ?_; rintro e wqe ⟨tqe, rfl, zqe, pqe, Bqe⟩; have Pqe := Kept.mk pqe; clear pqe)
                              refine hK.out _ _ ?_ (fun hHeld => ?_)
                              · obtain ⟨z0, z1, z2⟩ := hHeld; exact ⟨z0.trans (Bqe.mono z0.size), bkeep Bqe z1, bkeep Bqe z2⟩
                              clear hK K
                              (try simp only [Act.put, List.getElem_toArray, List.getElem_cons_zero, List.getElem_cons_succ, List.setIfInBounds_toArray, List.set_cons_zero, List.set_cons_succ])
                              refine wpAnyH_take (i := 14) (v := ?_) rfl (by kernel_rfl) (by kernel_rfl) (by kernel_rfl) (fun _ _ _ h => h) (Or.inl ⟨by rfl, ?_⟩) (by assumption) ?_
                              rotate_left
                              · intro w hSw; (try dsimp only at hSw); go_simp <;> with_reducible rfl
                              (try simp only [Act.put, List.getElem_toArray, List.getElem_cons_zero, List.getElem_cons_succ, List.setIfInBounds_toArray, List.set_cons_zero, List.set_cons_succ])
                              refine wpAnyH_ready (rs := [17]) (by kernel_rfl) (by simp) ?_
                              refine AllReadyH.cons rfl (fun K hK => ?_) AllReadyH.nil
                              go_simp
                              (go_at_call 30; with_reducible refine (byte_gen (z8 : Nat) _).mono ?_; rintro e wqf ⟨tqf, rfl, zqf, pqf, Bqf⟩; have Pqf := Kept.mk pqf; clear pqf)
                              refine hK.out _ _ ?_ (fun hHeld => ?_)
                              · obtain ⟨z0, z1, z2⟩ := hHeld; exact ⟨z0.trans (Bqf.mono z0.size), bkeep Bqf z1, bkeep Bqf z2⟩
                              clear hK K
                              (try simp only [Act.put, List.getElem_toArray, List.getElem_cons_zero, List.getElem_cons_succ, List.setIfInBounds_toArray, List.set_cons_zero, List.set_cons_succ])
                              refine wpAnyH_take (i := 18) (v := ?_) rfl (by kernel_rfl) (by kernel_rfl) (by kernel_rfl) (fun _ _ _ h => h) (Or.inl ⟨by rfl, ?_⟩) (by assumption) ?_
                              rotate_left
                              · intro w hSw; (try dsimp only at hSw); go_simp <;> with_reducible rfl
                              (try simp only [Act.put, List.getElem_toArray, List.getElem_cons_zero, List.getElem_cons_succ, List.setIfInBounds_toArray, List.set_cons_zero, List.set_cons_succ])
                              refine wpAnyH_take (i := 19) (v := ?_) rfl (by kernel_rfl) (by kernel_rfl) (by kernel_rfl) (fun _ _ _ h => h) (Or.inl ⟨by rfl, ?_⟩) (by assumption) ?_
                              rotate_left
                              · intro w hSw; (try dsimp only at hSw); go_simp <;> with_reducible rfl
                              (try simp only [Act.put, List.getElem_toArray, List.getElem_cons_zero, List.getElem_cons_succ, List.setIfInBounds_toArray, List.set_cons_zero, List.set_cons_succ])
                              refine wpAnyH_done (by kernel_rfl) ?_ _
                              go_wp2_with fail
                              go_meet
                              case rel =>
                                refine ⟨_, rfl, ?_, ?_, hHeld.1⟩
                                · rw [← lst_length]
                                  simp only [lst_append, List.length_append, lst_length, zqa, zqb, zqc, zqd, zqe, zqf]
                                · simp only [lst_append, Pqa.out, Pqf.out, HZB.out, Int.toNat_natCast]
                                  rw [Pqb.out (by omega), Pqc.out (by omega), Pqd.out (by omega), Pqe.out (by omega), HTL.out]
                                  unfold Gif.front
                                  rw [HFL.out, HNU.out, HCR.out, HD.out, HWN.out, HHN.out, HS.out]
                                  simp only [Int.toNat_natCast, List.append_assoc]
                                  rfl
                            case rest => as_aux_lemma =>
                              obtain ⟨ts, rfl, hsz, hsl, hbQ⟩ := hcut
                              have hwQ := hwP.trans (hbQ.mono hwP.size)
                              have hr1 := (hr1.below hbQ (Nat.le_refl _)).more hbQ.size
                              have hr2 := (hr2.below hbQ (Nat.le_refl _)).more hbQ.size
                              obtain ⟨wQ, hwQe⟩ : ∃ wQ, wQ = wc := ⟨_, rfl⟩
                              rw [← hwQe] at hwQ hr1 hr2 ⊢
                              have HSL := Kept.mk hsl
                              have hts7 : ts.size ≤ 10000018 := by omega
                              clear hsl hwQe hbQ hsz v0 v1 HTL
                              go_wp2_with fail
                              go_loopw [7, 19] (fun v i wx => ∃ (j : Nat) (tj : ByteArray), v = .string tj ∧ i = .int .i64 j ∧ j ≤ Y ∧ tj.size = ts.size + 3 * j ∧ lst tj = lst t ++ Gif.front m.f u ++ Gif.table u j ∧ Below wQ.heap.size wQ wx) (fun _ i _ => Y - (intOf i).toNat)
                              case atStart => exact ⟨0, ts, rfl, rfl, Nat.zero_le _, rfl, by rw [HSL.out]; simp [Gif.table], Below.refl _ _⟩
                              case round => as_aux_lemma =>
                                obtain ⟨j, tj, rfl, rfl, hj, hjz, hjl, hbj⟩ := hrel
                                obtain ⟨wj, hwj⟩ : ∃ wj, wj = wr := ⟨_, rfl⟩
                                rw [← hwj] at hbj ⊢
                                clear hwj
                                have HJL := Kept.mk hjl
                                have HJZ := Kept.mk hjz
                                have htj7 : tj.size ≤ 10001000 := by omega
                                have hr1j := (hr1.below hbj (Nat.le_refl _)).more hbj.size
                                have hzj := hbj.size
                                clear hjl hjz
                                by_cases hjY : j < Y
                                · have hbZ := hbj.alloc hzj (.cells #[.int .u8 0, .int .u8 0, .int .u8 0, .int .u8 0] 52)
                                  have hOZ := own_px wj Px.zero
                                  obtain ⟨gq, hgq⟩ : ∃ gq, gq = wj.heap.size := ⟨_, rfl⟩
                                  have hQ1 : wQ.heap.size ≤ gq := by omega
                                  go_upto_if 181 with (fail)
                                  have hOZ : Own (wj.alloc (.cells #[.int .u8 0, .int .u8 0, .int .u8 0, .int .u8 0] 52)) gq 4 (.slice (some ⟨gq, 0, none⟩) 1 1) 1 (pxCells [Px.zero]) := by rw [hgq]; exact hOZ
                                  have hr1z := hr1j.alloc (Nat.le_refl _) (.cells #[.int .u8 0, .int .u8 0, .int .u8 0, .int .u8 0] 52)
                                  rw [← hgq] at hr1z ⊢
                                  generalize wj.alloc (.cells #[.int .u8 0, .int .u8 0, .int .u8 0, .int .u8 0] 52) = wZ at *
                                  obtain ⟨y, hy⟩ : ∃ y, y = u.getD j Px.zero := ⟨_, rfl⟩
                                  have HYY := Kept.mk hy
                                  clear hy hgq hr1j
                                  go_cut [] (fun wx => Own wx gq 4 (.slice (some ⟨gq, 0, none⟩) 1 1) 1 (pxCells [y]) ∧ Below wQ.heap.size wQ wx)
                                  case first => as_aux_lemma =>
                                    by_cases hju : j < u.length
                                    · obtain ⟨ga, oa, rfl, _⟩ := hr1z.addr (by omega)
                                      obtain ⟨p0, p1, p2, p3⟩ := hr1z.px j hju
                                      have hyx : y = u[j] := by rw [HYY.out, List.getD_eq_getElem?_getD, List.getElem?_eq_getElem hju]; rfl
                                      rw [← hyx] at p0 p1 p2 p3
                                      have hset := hOZ.setPx 0 (by omega) y
                                      have hth := hOZ.there 0 (by omega)
                                      have HSET := Kept.mk hset
                                      clear hset hyx
                                      go_wp2_with (refine wpList_store_px rfl 52 (by kernel_rfl) (.tmp 20) (.tmp 185) rfl gq 0 y ?_ ?_ ?_ ?_)
                                      · kernel_rfl
                                      · kernel_rfl
                                      · exact hth
                                      go_wp2_with fail
                                      go_meet
                                      case rel => exact ⟨HSET.out, Below.setCells_ hbZ hQ1 _ _⟩
                                    · have hju3 : u.length ≤ j := by omega
                                      have hyx : y = Px.zero := by rw [HYY.out, List.getD_eq_getElem?_getD, List.getElem?_eq_none (by omega)]; rfl
                                      have HYX := Kept.mk hyx
                                      clear hyx hju
                                      go_wp2_with fail
                                      go_meet
                                      case rel => exact ⟨by rw [HYX.out]; exact hOZ, hbZ⟩
                                  case rest => as_aux_lemma =>
                                    obtain ⟨hOX, hbX⟩ := hcut
                                    obtain ⟨wX, hwX⟩ : ∃ wX, wX = wc := ⟨_, rfl⟩
                                    rw [← hwX] at hOX hbX ⊢
                                    obtain ⟨g0, g1, g2, -⟩ := (hOX.reads.2).px 0 (by simp)
                                    replace g0 : wX.cell? ⟨gq, 0, none⟩ = some (.int .u8 y.r.toNat) := by simpa using g0
                                    replace g1 : wX.cell? ⟨gq, 1, none⟩ = some (.int .u8 y.g.toNat) := by simpa using g1
                                    replace g2 : wX.cell? ⟨gq, 2, none⟩ = some (.int .u8 y.b.toNat) := by simpa using g2
                                    have hzX := hbX.size
                                    clear hwX hOZ hr1z hbZ hOX
                                    obtain ⟨yr, hyr⟩ : ∃ yr : Nat, yr = y.r.toNat := ⟨_, rfl⟩
                                    obtain ⟨yg, hyg⟩ : ∃ yg : Nat, yg = y.g.toNat := ⟨_, rfl⟩
                                    obtain ⟨yb, hyb⟩ : ∃ yb : Nat, yb = y.b.toNat := ⟨_, rfl⟩
                                    have hyrl := y.r.toNat_lt
                                    have hygl := y.g.toNat_lt
                                    have hybl := y.b.toNat_lt
                                    rw [← hyr] at g0 hyrl
                                    rw [← hyg] at g1 hygl
                                    rw [← hyb] at g2 hybl
                                    have HYR := Kept.mk hyr
                                    have HYG := Kept.mk hyg
                                    have HYB := Kept.mk hyb
                                    clear hyr hyg hyb
                                    have l0 : (9223372036854775807 < tj.size + 1) = False := eq_false (by omega)
                                    have l1 : (9223372036854775807 < tj.size + 1 + 1) = False := eq_false (by omega)
                                    have l2 : (9223372036854775807 < tj.size + 1 + 1 + 1) = False := eq_false (by omega)
                                    have wr1 : IntKind.i64.wrap (yr : Int) = yr := IntWalk.i64_in _ (by omega)
                                    have wr2 : IntKind.i64.wrap (yg : Int) = yg := IntWalk.i64_in _ (by omega)
                                    have wr3 : IntKind.i64.wrap (yb : Int) = yb := IntWalk.i64_in _ (by omega)
                                    go_wp2_with fail
                                    refine wp_region_held_drew (S := (fun w' => Below wX.heap.size wX w' ∧ w'.cell? ⟨gq, 0, none⟩ = some (.int .u8 yr) ∧ w'.cell? ⟨gq, 1, none⟩ = some (.int .u8 yg) ∧ w'.cell? ⟨gq, 2, none⟩ = some (.int .u8 yb))) (by kernel_rfl) ?_ (fun hHeld => ?_)
                                    · exact ⟨(Below.refl _ _).drew, g0, g1, g2⟩
                                    refine wpAnyH_take (i := 0) (v := ?_) rfl (by kernel_rfl) (by kernel_rfl) (by kernel_rfl) (fun _ _ _ h => h) (Or.inl ⟨by rfl, ?_⟩) (by assumption) ?_
                                    rotate_left
                                    · intro w hSw; (try dsimp only at hSw); go_simp <;> with_reducible rfl
                                    (try simp only [Act.put, List.getElem_toArray, List.getElem_cons_zero, List.setIfInBounds_toArray, List.set_cons_zero, List.set_cons_succ])
                                    refine wpAnyH_take (i := 1) (v := ?_) rfl (by kernel_rfl) (by kernel_rfl) (by kernel_rfl) (fun _ _ _ h => h) (Or.inl ⟨by rfl, ?_⟩) (by assumption) ?_
                                    rotate_left
                                    · intro w hSw; (try dsimp only at hSw); go_simp <;> with_reducible rfl
                                    (try simp only [Act.put, List.getElem_toArray, List.getElem_cons_zero, List.getElem_cons_succ, List.setIfInBounds_toArray, List.set_cons_zero, List.set_cons_succ])
                                    refine wpAnyH_take (i := 2) (v := ?_) rfl (by kernel_rfl) (by kernel_rfl) (by kernel_rfl) (fun _ _ _ h => h) (Or.inl ⟨by rfl, ?_⟩) (by assumption) ?_
                                    rotate_left
                                    · intro w hSw; (try dsimp only at hSw); go_simp <;> with_reducible rfl
                                    (try simp only [Act.put, List.getElem_toArray, List.getElem_cons_zero, List.getElem_cons_succ, List.setIfInBounds_toArray, List.set_cons_zero, List.set_cons_succ])
                                    refine wpAnyH_take (i := 3) (v := ?_) rfl (by kernel_rfl) (by kernel_rfl) (by kernel_rfl) (fun _ _ _ h => h) (Or.inl ⟨by rfl, ?_⟩) (by assumption) ?_
                                    rotate_left
                                    · intro w hSw; (try dsimp only at hSw); go_simp <;> with_reducible rfl
                                    (try simp only [Act.put, List.getElem_toArray, List.getElem_cons_zero, List.getElem_cons_succ, List.setIfInBounds_toArray, List.set_cons_zero, List.set_cons_succ])
                                    refine wpAnyH_take (i := 6) (v := ?_) rfl (by kernel_rfl) (by kernel_rfl) (by kernel_rfl) (fun _ _ _ h => h) (Or.inl ⟨by rfl, ?_⟩) (by assumption) ?_
                                    rotate_left
                                    · intro w hSw; (try dsimp only at hSw); go_simp <;> with_reducible rfl
                                    (try simp only [Act.put, List.getElem_toArray, List.getElem_cons_zero, List.getElem_cons_succ, List.setIfInBounds_toArray, List.set_cons_zero, List.set_cons_succ])
                                    refine wpAnyH_take (i := 7) (v := ?_) rfl (by kernel_rfl) (by kernel_rfl) (by kernel_rfl) (fun _ _ _ h => h) (Or.inl ⟨by rfl, ?_⟩) (by assumption) ?_
                                    rotate_left
                                    · intro w hSw; (try dsimp only at hSw); go_simp <;> with_reducible rfl
                                    (try simp only [Act.put, List.getElem_toArray, List.getElem_cons_zero, List.getElem_cons_succ, List.setIfInBounds_toArray, List.set_cons_zero, List.set_cons_succ])
                                    refine wpAnyH_take (i := 8) (v := ?_) rfl (by kernel_rfl) (by kernel_rfl) (by kernel_rfl) (fun _ _ _ h => h) (Or.inl ⟨by rfl, ?_⟩) (by assumption) ?_
                                    rotate_left
                                    · intro w hSw; (try dsimp only at hSw); go_simp <;> with_reducible rfl
                                    (try simp only [Act.put, List.getElem_toArray, List.getElem_cons_zero, List.getElem_cons_succ, List.setIfInBounds_toArray, List.set_cons_zero, List.set_cons_succ])
                                    refine wpAnyH_take (i := 11) (v := ?_) rfl (by kernel_rfl) (by kernel_rfl) (by kernel_rfl) (fun _ _ _ h => h) (Or.inl ⟨by rfl, ?_⟩) (by assumption) ?_
                                    rotate_left
                                    · intro w hSw; (try dsimp only at hSw); go_simp <;> with_reducible rfl
                                    (try simp only [Act.put, List.getElem_toArray, List.getElem_cons_zero, List.getElem_cons_succ, List.setIfInBounds_toArray, List.set_cons_zero, List.set_cons_succ])
                                    refine wpAnyH_take (i := 12) (v := ?_) rfl (by kernel_rfl) (by kernel_rfl) (by kernel_rfl) (fun _ _ _ h => h) (Or.inl ⟨by rfl, ?_⟩) (by assumption) ?_
                                    rotate_left
                                    · intro w hSw; (try dsimp only at hSw); go_simp <;> with_reducible rfl
                                    (try simp only [Act.put, List.getElem_toArray, List.getElem_cons_zero, List.getElem_cons_succ, List.setIfInBounds_toArray, List.set_cons_zero, List.set_cons_succ])
                                    refine wpAnyH_take (i := 13) (v := ?_) rfl (by kernel_rfl) (by kernel_rfl) (by kernel_rfl) (fun _ _ _ h => h) (Or.inl ⟨by rfl, ?_⟩) (by assumption) ?_
                                    rotate_left
                                    · intro w hSw; (try dsimp only at hSw); go_simp <;> with_reducible rfl
                                    (try simp only [Act.put, List.getElem_toArray, List.getElem_cons_zero, List.getElem_cons_succ, List.setIfInBounds_toArray, List.set_cons_zero, List.set_cons_succ])
                                    refine wpAnyH_ready (rs := [4]) (by kernel_rfl) (by simp) ?_
                                    refine AllReadyH.cons rfl (fun K hK => ?_) AllReadyH.nil
                                    go_simp
                                    (go_at_call 30; with_reducible refine (byte_gen (yr : Nat) _).mono ?_; rintro e wra ⟨tra, rfl, zra, pra, Bra⟩; have Pra := Kept.mk pra; clear pra)
                                    refine hK.out _ _ ?_ (fun hHeld => ?_)
                                    · obtain ⟨z0, z1, z2, z3⟩ := hHeld; exact ⟨z0.trans (Bra.mono z0.size), bkeep Bra z1, bkeep Bra z2, bkeep Bra z3⟩
                                    clear hK K
                                    (try simp only [Act.put, List.getElem_toArray, List.getElem_cons_zero, List.getElem_cons_succ, List.setIfInBounds_toArray, List.set_cons_zero, List.set_cons_succ])
                                    refine wpAnyH_take (i := 5) (v := ?_) rfl (by kernel_rfl) (by kernel_rfl) (by kernel_rfl) (fun _ _ _ h => h) (Or.inl ⟨by rfl, ?_⟩) (by assumption) ?_
                                    rotate_left
                                    · intro w hSw; (try dsimp only at hSw); go_simp <;> with_reducible rfl
                                    (try simp only [Act.put, List.getElem_toArray, List.getElem_cons_zero, List.getElem_cons_succ, List.setIfInBounds_toArray, List.set_cons_zero, List.set_cons_succ])
                                    refine wpAnyH_ready (rs := [9]) (by kernel_rfl) (by simp) ?_
                                    refine AllReadyH.cons rfl (fun K hK => ?_) AllReadyH.nil
                                    go_simp
                                    (go_at_call 30; with_reducible refine (byte_gen (yg : Nat) _).mono ?_; rintro e wrb ⟨trb, rfl, zrb, prb, Brb⟩; have Prb := Kept.mk prb; clear prb)
                                    refine hK.out _ _ ?_ (fun hHeld => ?_)
                                    · obtain ⟨z0, z1, z2, z3⟩ := hHeld; exact ⟨z0.trans (Brb.mono z0.size), bkeep Brb z1, bkeep Brb z2, bkeep Brb z3⟩
                                    clear hK K
                                    (try simp only [Act.put, List.getElem_toArray, List.getElem_cons_zero, List.getElem_cons_succ, List.setIfInBounds_toArray, List.set_cons_zero, List.set_cons_succ])
                                    refine wpAnyH_take (i := 10) (v := ?_) rfl (by kernel_rfl) (by kernel_rfl) (by kernel_rfl) (fun _ _ _ h => h) (Or.inl ⟨by rfl, ?_⟩) (by assumption) ?_
                                    rotate_left
                                    · intro w hSw; (try dsimp only at hSw); go_simp <;> with_reducible rfl
                                    (try simp only [Act.put, List.getElem_toArray, List.getElem_cons_zero, List.getElem_cons_succ, List.setIfInBounds_toArray, List.set_cons_zero, List.set_cons_succ])
                                    refine wpAnyH_ready (rs := [14]) (by kernel_rfl) (by simp) ?_
                                    refine AllReadyH.cons rfl (fun K hK => ?_) AllReadyH.nil
                                    go_simp
                                    (go_at_call 30; with_reducible refine (byte_gen (yb : Nat) _).mono ?_; rintro e wrc ⟨trc, rfl, zrc, prc, Brc⟩; have Prc := Kept.mk prc; clear prc)
                                    refine hK.out _ _ ?_ (fun hHeld => ?_)
                                    · obtain ⟨z0, z1, z2, z3⟩ := hHeld; exact ⟨z0.trans (Brc.mono z0.size), bkeep Brc z1, bkeep Brc z2, bkeep Brc z3⟩
                                    clear hK K
                                    (try simp only [Act.put, List.getElem_toArray, List.getElem_cons_zero, List.getElem_cons_succ, List.setIfInBounds_toArray, List.set_cons_zero, List.set_cons_succ])
                                    refine wpAnyH_take (i := 15) (v := ?_) rfl (by kernel_rfl) (by kernel_rfl) (by kernel_rfl) (fun _ _ _ h => h) (Or.inl ⟨by rfl, ?_⟩) (by assumption) ?_
                                    rotate_left
                                    · intro w hSw; (try dsimp only at hSw); go_simp <;> with_reducible rfl
                                    (try simp only [Act.put, List.getElem_toArray, List.getElem_cons_zero, List.getElem_cons_succ, List.setIfInBounds_toArray, List.set_cons_zero, List.set_cons_succ])
                                    refine wpAnyH_take (i := 16) (v := ?_) rfl (by kernel_rfl) (by kernel_rfl) (by kernel_rfl) (fun _ _ _ h => h) (Or.inl ⟨by rfl, ?_⟩) (by assumption) ?_
                                    rotate_left
                                    · intro w hSw; (try dsimp only at hSw); go_simp <;> with_reducible rfl
                                    (try simp only [Act.put, List.getElem_toArray, List.getElem_cons_zero, List.getElem_cons_succ, List.setIfInBounds_toArray, List.set_cons_zero, List.set_cons_succ])
                                    refine wpAnyH_done (by kernel_rfl) ?_ _
                                    go_wp2_with fail
                                    go_roundw
                                    case rel =>
                                      refine ⟨j + 1, _, rfl, by go_num, hjY, ?_, ?_, hbX.trans (hHeld.1.mono hzX)⟩
                                      · rw [← lst_length]
                                        simp only [lst_append, List.length_append, lst_length, zra, zrb, zrc]
                                        have := HJZ.out
                                        omega
                                      · simp only [lst_append, Pra.out, Prb.out, Prc.out]
                                        have m1 : ((yr : Int) % 256).toNat = y.r.toNat := by have := HYR.out; omega
                                        have m2 : ((yg : Int) % 256).toNat = y.g.toNat := by have := HYG.out; omega
                                        have m3 : ((yb : Int) % 256).toNat = y.b.toNat := by have := HYB.out; omega
                                        rw [m1, m2, m3, HJL.out, Gif.table_succ, ← HYY.out]
                                        simp
                                    case measure => simp [intOf]; omega
                                · --@m16
                                  have hjY2 : j = Y := by omega
                                  have hjY3 : (Y : Int) ≤ j := by omega
                                  have hjl := HJL.out
                                  rw [hjY2] at hjl
                                  have HJL2 := Kept.mk hjl
                                  have hwJ := hwQ.trans (hbj.mono hwQ.size)
                                  have hr2j := (hr2.below hbj (Nat.le_refl _)).more hbj.size
                                  clear hjl hjY2 HJZ HJL hbj hr1j hr1 hr2 hwQ hjY
                                  have HJL := HJL2
                                  obtain ⟨wd, hwd⟩ : ∃ wd, wd = Gif.width z := ⟨_, rfl⟩
                                  have hwd2 : wd ≤ 8 := by rw [hwd]; unfold Gif.width; omega
                                  have hwd3 : 2 ≤ wd := by rw [hwd]; unfold Gif.width; omega
                                  have hwd4 : z + 1 ≤ wd := by rw [hwd]; unfold Gif.width; omega
                                  have HWD := Kept.mk hwd
                                  clear hwd
                                  go_upto_if 205 with (fail)
                                  go_cut [21] (fun v wx => v = .int .i64 (wd : Nat) ∧ wj = wx)
                                  case first => as_aux_lemma =>
                                    have hwd := HWD.out
                                    unfold Gif.width at hwd
                                    rcases Nat.eq_zero_or_pos z with hz0 | hz0
                                    · have e : wd = 2 := by omega
                                      have hc1 : (z : Int) + 1 < 2 := by omega
                                      have HE := Kept.mk e
                                      clear e hwd hz0
                                      go_wp2_with fail
                                      go_meet
                                      case rel => exact ⟨by rw [HE.out]; rfl, rfl⟩
                                    · have e : wd = z + 1 := by omega
                                      have hc1 : (2 : Int) ≤ (z : Int) + 1 := by omega
                                      have HE := Kept.mk e
                                      clear e hwd
                                      go_wp2_with fail
                                      go_meet
                                      case rel => exact ⟨by rw [HE.out]; go_num, rfl⟩
                                  case rest => as_aux_lemma =>
                                    obtain ⟨rfl, rfl⟩ := hcut
                                    obtain ⟨i0, hi, hz0, hz1', hz2⟩ := info_parts byteInfo
                                    go_wp2_with (refine wpList_make_full _ rfl (.tmp 207) (.tmp 207) 56 rfl wj.heap.size 5 i0 _ 1 Tryd.underlying56 hi hz0 hz1' .i64 .i64 _ _ m.n rfl rfl rfl rfl (by rw [hz2]; omega) (by unfold maxLen; omega) (Nat.le_refl _) ?_; intro w2 hrow2 hg2)
                                    have hown2 := Own.of_row hrow2
                                    rw [made_same _ (.int .u8 0) (by decide) (by intro j hj; have : j = 0 := by simp [Value.cells] at hj; omega
                                                                                 subst this; rfl), Nat.mul_one] at hown2
                                    have hb2 : Below wj.heap.size wj w2 := Below.grown (Below.refl _ _) hg2 (Nat.le_refl _) (fun g hg => by cases hg)
                                    have e0 : List.replicate m.n (Value.int .u8 0) = bytes (numK ns 0) := by rw [numK_zero, HNSL.out]; simp [bytes]
                                    rw [e0] at hown2
                                    clear hrow2 hg2 e0
                                    go_loopw [23] (fun i wx => ∃ q : Nat, q ≤ m.n ∧ i = .int .i64 q ∧ Own wx wj.heap.size 1 (.slice (some ⟨wj.heap.size, 0, none⟩) m.n m.n) m.n (bytes (numK ns q)) ∧ Below wj.heap.size wj wx) (fun i _ => m.n - (intOf i).toNat)
                                    case atStart => exact ⟨0, Nat.zero_le _, rfl, hown2, hb2⟩
                                    case round => as_aux_lemma =>
                                      clear hown2 hb2
                                      obtain ⟨q, hq, rfl, hown, hb⟩ := hrel
                                      obtain ⟨wk, hwk⟩ : ∃ wk, wk = wr := ⟨_, rfl⟩
                                      rw [← hwk] at hown hb ⊢
                                      clear hwk
                                      by_cases hqn : q < m.n
                                      · have hqs : q < ns.length := by rw [HNSL.out]; exact hqn
                                        obtain ⟨ga, oa, rfl, hgal⟩ := hr2j.addr (by omega)
                                        have hcell := (hr2j.below hb (Nat.le_refl _)).cell rfl q (by omega)
                                        rw [ints_at _ _ hqs] at hcell
                                        obtain ⟨x, hx⟩ : ∃ x, x = ns[q] := ⟨_, rfl⟩
                                        have hx0 : 0 ≤ x := by rw [hx]; exact HNP.out _ (List.getElem_mem hqs)
                                        rw [← hx] at hcell
                                        have hst := hown.setByte q hqn (UInt8.ofNat x.toNat)
                                        have hsu := numK_succ ns q hqs
                                        rw [← hx] at hsu
                                        rw [← hsu, Nat.zero_add, ofNat_mod x hx0] at hst
                                        obtain ⟨tq, pq⟩ := hown.cellAt q hqn
                                        rw [bytes_at, numK_at ns q hqs, Option.map_some, Nat.zero_add] at tq
                                        rw [Nat.zero_add] at pq
                                        have HST := Kept.mk hst
                                        clear hst hsu hx
                                        go_wp2_with fail
                                        go_roundw
                                        case rel => exact ⟨q + 1, hqn, by go_num, HST.out, hb.setCell (p := ⟨wj.heap.size, q, none⟩) (Nat.le_refl _) _⟩
                                        case measure => simp [intOf]; omega
                                      · have hqn3 : m.n ≤ q := by omega
                                        have hqe : q = ns.length := by rw [HNSL.out]; omega
                                        have hnk : numK ns q = Gif.nums ns := by rw [hqe]; exact numK_all ns
                                        rw [hnk] at hown
                                        have hcv := conv_reads wk.drew (some ⟨wj.heap.size, 0, none⟩) m.n m.n _ (Gif.nums ns) hown.drew.reads.2
                                        have HRD := Kept.mk hown.reads.2
                                        have hwK := hwJ.trans (hb.mono hwJ.size)
                                        obtain ⟨sL, hsL⟩ : ∃ sL : ByteArray, sL = ⟨(Gif.nums ns).toArray⟩ := ⟨_, rfl⟩
                                        have hsz : sL.size ≤ 65536 := by rw [← lst_length, hsL]; show (Gif.nums ns).length ≤ _; simp only [Gif.nums, List.length_map, HNSL.out]; exact hn6
                                        rw [← hsL] at hcv
                                        have HSLL := Kept.mk hsL
                                        have hrL : ∀ b ∈ lst sL, b.toNat < 2 ^ wd := by
                                          intro b hb
                                          rw [hsL] at hb
                                          have h1 := HNL.out b hb hul
                                          have h3 : (2 : Nat) ^ (z + 1) ≤ 2 ^ wd := Nat.pow_le_pow_right (by omega) hwd4
                                          omega
                                        have hlz : (Lz.lzw wd (lst sL)).length ≤ 24 * 65536 + 30 := by
                                          unfold Lz.lzw
                                          rw [List.length_append, Bit.low_length]
                                          have h1 := Lz.enc_most wd (lst sL).length (lst sL) [] (wd + 1) (Nat.le_refl _) (by omega) (by omega)
                                          rw [lst_length] at h1 ⊢
                                          omega
                                        have hplen : (Bit.pack (Lz.lzw wd (lst sL))).length ≤ 300000 := by rw [Bit.pack_length]; omega
                                        have hblen := Blo.blocksF_length _ (Bit.pack (Lz.lzw wd (lst sL))) (Nat.le_refl _)
                                        have HRL := Kept.mk hrL
                                        have HPLEN := Kept.mk hplen
                                        have HBLEN := Kept.mk hblen
                                        have hwb : (wd : Int) % 256 = wd := by omega
                                        have HWB := Kept.mk hwb
                                        clear hqn hsL hnk hqe hrL hlz hplen hblen hwb hown hr2j
                                        go_wp2_with fail
                                        have l0 : (9223372036854775807 < tj.size + 1) = False := eq_false (by omega)
                                        refine wp_region_held_drew (S := (fun w' => Below wk.heap.size wk w')) (by kernel_rfl) ?_ (fun hHeld => ?_)
                                        · exact (Below.refl _ _).drew
                                        refine wpAnyH_take (i := 0) (v := ?_) rfl (by kernel_rfl) (by kernel_rfl) (by kernel_rfl) (fun _ _ _ h => h) (Or.inl ⟨by rfl, ?_⟩) (by assumption) ?_
                                        rotate_left
                                        · intro w hSw; (try dsimp only at hSw); go_simp <;> with_reducible rfl
                                        (try simp only [Act.put, List.getElem_toArray, List.getElem_cons_zero, List.setIfInBounds_toArray, List.set_cons_zero, List.set_cons_succ])
                                        refine wpAnyH_take (i := 1) (v := ?_) rfl (by kernel_rfl) (by kernel_rfl) (by kernel_rfl) (fun _ _ _ h => h) (Or.inl ⟨by rfl, ?_⟩) (by assumption) ?_
                                        rotate_left
                                        · intro w hSw; (try dsimp only at hSw); go_simp <;> with_reducible rfl
                                        (try simp only [Act.put, List.getElem_toArray, List.getElem_cons_zero, List.getElem_cons_succ, List.setIfInBounds_toArray, List.set_cons_zero, List.set_cons_succ])
                                        refine wpAnyH_take (i := 4) (v := ?_) rfl (by kernel_rfl) (by kernel_rfl) (by kernel_rfl) (fun _ _ _ h => h) (Or.inl ⟨by rfl, ?_⟩) (by assumption) ?_
                                        rotate_left
                                        · intro w hSw; (try dsimp only at hSw); go_simp <;> with_reducible rfl
                                        (try simp only [Act.put, List.getElem_toArray, List.getElem_cons_zero, List.getElem_cons_succ, List.setIfInBounds_toArray, List.set_cons_zero, List.set_cons_succ])
                                        refine wpAnyH_take (i := 5) (v := ?_) rfl (by kernel_rfl) (by kernel_rfl) (by kernel_rfl) (fun _ _ _ h => h) (Or.inl ⟨by rfl, ?_⟩) (by assumption) ?_
                                        rotate_left
                                        · intro w hSw; (try dsimp only at hSw); have hcv3 := conv_next (c := m.n) hSw HRD.out HSLL.out; go_simp <;> with_reducible rfl
                                        (try simp only [Act.put, List.getElem_toArray, List.getElem_cons_zero, List.getElem_cons_succ, List.setIfInBounds_toArray, List.set_cons_zero, List.set_cons_succ])
                                        refine wpAnyH_take (i := 6) (v := ?_) rfl (by kernel_rfl) (by kernel_rfl) (by kernel_rfl) (fun _ _ _ h => h) (Or.inl ⟨by rfl, ?_⟩) (by assumption) ?_
                                        rotate_left
                                        · intro w hSw; (try dsimp only at hSw); go_simp <;> with_reducible rfl
                                        (try simp only [Act.put, List.getElem_toArray, List.getElem_cons_zero, List.getElem_cons_succ, List.setIfInBounds_toArray, List.set_cons_zero, List.set_cons_succ])
                                        refine wpAnyH_ready (rs := [2]) (by kernel_rfl) (by simp) ?_
                                        refine AllReadyH.cons rfl (fun K hK => ?_) AllReadyH.nil
                                        go_simp
                                        (go_at_call 30; with_reducible refine (byte_gen (wd : Nat) _).mono ?_; rintro e wsa ⟨tsa, rfl, zsa, psa, Bsa⟩; have Psa := Kept.mk psa; clear psa)
                                        refine hK.out _ _ ?_ (fun hHeld => ?_)
                                        · exact hHeld.trans (Bsa.mono hHeld.size)
                                        clear hK K
                                        (try simp only [Act.put, List.getElem_toArray, List.getElem_cons_zero, List.getElem_cons_succ, List.setIfInBounds_toArray, List.set_cons_zero, List.set_cons_succ])
                                        refine wpAnyH_take (i := 3) (v := ?_) rfl (by kernel_rfl) (by kernel_rfl) (by kernel_rfl) (fun _ _ _ h => h) (Or.inl ⟨by rfl, ?_⟩) (by assumption) ?_
                                        rotate_left
                                        · intro w hSw; (try dsimp only at hSw); go_simp <;> with_reducible rfl
                                        (try simp only [Act.put, List.getElem_toArray, List.getElem_cons_zero, List.getElem_cons_succ, List.setIfInBounds_toArray, List.set_cons_zero, List.set_cons_succ])
                                        refine wpAnyH_ready (rs := [7]) (by kernel_rfl) (by simp) ?_
                                        refine AllReadyH.cons rfl (fun K hK => ?_) AllReadyH.nil
                                        go_simp
                                        (go_at_call 35; with_reducible refine (lzwOf_any sL wd _ hwd3 hwd2 HRL.out (Nat.le_trans hsz (by decide))).mono ?_; rintro e wsb ⟨tsb, rfl, psb, Bsb⟩; have hbz : tsb.size ≤ 300000 := (by rw [← lst_length, psb]; exact HPLEN.out); have Psb := Kept.mk psb; clear psb)
                                        refine hK.out _ _ ?_ (fun hHeld => ?_)
                                        · exact hHeld.trans (Bsb.mono hHeld.size)
                                        clear hK K
                                        (try simp only [Act.put, List.getElem_toArray, List.getElem_cons_zero, List.getElem_cons_succ, List.setIfInBounds_toArray, List.set_cons_zero, List.set_cons_succ])
                                        refine wpAnyH_ready (rs := [8]) (by kernel_rfl) (by simp) ?_
                                        refine AllReadyH.cons rfl (fun K hK => ?_) AllReadyH.nil
                                        go_simp
                                        (go_at_call 34; with_reducible refine (blocksOf_any tsb (Nat.le_trans hbz (by decide)) _).mono ?_; rintro e wsc ⟨tsc, rfl, psc, Bsc⟩; have hxz : tsc.size ≤ 600001 := (by rw [← lst_length, psc, Psb.out]; exact Nat.le_trans HBLEN.out (by have := HPLEN.out; omega)); have Psc := Kept.mk psc; clear psc; have l1 : (9223372036854775807 < tj.size + 1 + tsc.size) = False := eq_false (by omega))
                                        refine hK.out _ _ ?_ (fun hHeld => ?_)
                                        · exact hHeld.trans (Bsc.mono hHeld.size)
                                        clear hK K
                                        (try simp only [Act.put, List.getElem_toArray, List.getElem_cons_zero, List.getElem_cons_succ, List.setIfInBounds_toArray, List.set_cons_zero, List.set_cons_succ])
                                        refine wpAnyH_take (i := 9) (v := ?_) rfl (by kernel_rfl) (by kernel_rfl) (by kernel_rfl) (fun _ _ _ h => h) (Or.inl ⟨by rfl, ?_⟩) (by assumption) ?_
                                        rotate_left
                                        · intro w hSw; (try dsimp only at hSw); go_simp <;> with_reducible rfl
                                        (try simp only [Act.put, List.getElem_toArray, List.getElem_cons_zero, List.getElem_cons_succ, List.setIfInBounds_toArray, List.set_cons_zero, List.set_cons_succ])
                                        refine wpAnyH_take (i := 10) (v := ?_) rfl (by kernel_rfl) (by kernel_rfl) (by kernel_rfl) (fun _ _ _ h => h) (Or.inl ⟨by rfl, ?_⟩) (by assumption) ?_
                                        rotate_left
                                        · intro w hSw; (try dsimp only at hSw); go_simp <;> with_reducible rfl
                                        (try simp only [Act.put, List.getElem_toArray, List.getElem_cons_zero, List.getElem_cons_succ, List.setIfInBounds_toArray, List.set_cons_zero, List.set_cons_succ])
                                        refine wpAnyH_done (by kernel_rfl) ?_ _
                                        have hft : lst (tj ++ tsa ++ tsc) = lst t ++ Gif.frame m.f := by
                                          simp only [lst_append, Psa.out, Psc.out, Psb.out, HWB.out, Int.toNat_natCast]
                                          rw [HJL.out, HFR.out, ← HS.out, HY.out, HWD.out, HSLL.out]
                                          simp only [List.append_assoc]
                                        have hnz : (tj ++ tsa ++ tsc).size ≤ t.size + 600000 := by
                                          rw [← lst_length, hft, List.length_append, lst_length]
                                          have := HFLN.out
                                          omega
                                        have HFT := Kept.mk hft
                                        have HNZ := Kept.mk hnz
                                        clear hft hnz
                                        have q9 : k < 16 := by obtain ⟨q1, q2, q3, -⟩ := HAR.out; omega
                                        go_wp2_with fail
                                        go_roundw
                                        case rel =>
                                          obtain ⟨q1, q2, q3, q4, -, -⟩ := HAR.out
                                          have q7 : t.size + 600000 ≤ 1000 + 600000 * (k + 1) := by rw [Nat.mul_add]; omega
                                          exact ⟨k + 1, _, rfl, by go_num, q3, ⟨by rw [HFT.out]; exact HRF.out, Nat.le_trans HNZ.out q7, hwK.trans (hHeld.mono hwK.size)⟩⟩
                                        case measure =>
                                          obtain ⟨q1, q2, q3, q4, -, -⟩ := HAR.out
                                          simp [intOf]
                                          omega
          · have hkN : k = N := by omega
            have heq := HEQ.out
            rw [hkN, List.drop_eq_nil_of_le (by rw [hfs]; exact Nat.le_refl _)] at heq
            have hRf : R = .inl (lst t ++ [59]) := heq.symm
            have HRF := Kept.mk hRf
            clear heq hRf
            go_wp2_with fail
            refine (fine_any wr).mono ?_
            rintro e w2 ⟨rfl, hb2⟩
            have hS2 := hSr.below hb2 hSr.lt
            have hw2 := hw1.trans ((hbel.trans (hb2.mono hzr)).mono hz1)
            have s0 : w2.cell? ⟨w.heap.size, 0, none⟩ = some (.int .i64 0) := by rw [hS2.cell]; rfl
            have s1 : w2.cell? ⟨w.heap.size, 1, none⟩ = some (.int .i64 0) := by rw [hS2.cell]; rfl
            have z0 := hS2.free 0
            have z1 := hS2.free 1
            have e0 : (w2.setCell ⟨w.heap.size, 0, none⟩ (.int .i64 0)).cell? ⟨w.heap.size, 0, none⟩ = some (.int .i64 0) := by rw [(hS2.set_ 0 _).cell]; rfl
            have e1 : ((w2.setCell ⟨w.heap.size, 0, none⟩ (.int .i64 0)).setCell ⟨w.heap.size, 1, none⟩ (.int .i64 (-1))).cell? ⟨w.heap.size, 1, none⟩ = some (.int .i64 (-1)) := by rw [((hS2.set_ 0 _).set_ 1 _).cell]; rfl
            (repeat (first | go_values | go_skip | go_guarded | go_step | go_upon | (simp only at *; go_simp) | (go_values <;> (try go_simp)) | (go_ite <;> go_prune <;> (try go_simp)))); (try simp only [Exit.then])
            refine bodyPost_ret (v := .tuple #[.string (t ++ ⟨#[59]⟩), .agg #[.int .i64 0, .int .i64 (-1)]]) (by simp [results, Tryd.results13, go_sem, e0, e1]) rfl ⟨?_, ?_⟩
            · exact (hw2.setCell (Nat.le_refl _) _).setCell (Nat.le_refl _) _
            · rw [HRF.out]
              refine ⟨_, rfl, ?_⟩
              rw [lst_append]
end Go.Proofs.YtncedhhgclofbaaDoor
