/- film.Write: the walk. Printed by mk.py. -/
import Derived.Test.YtkegkelaffohjaaGreatDoorKCFilmTwice11
import Derived.Test.YtkegkelaffohjaaGreatDoorKCFilmTwice12
import Derived.Test.YtkegkelaffohjaaGreatDoorKCFilmTwice10
import Derived.Test.YtkegkelaffohjaaGreatDoorQCFilmTwiceZip
import Derived.Test.YtkegkelaffohjaaGreatDoorQCFilmTwiceGifArgs
import Derived.Test.YtkegkelaffohjaaGreatDoorQCFilmTwiceChRead
namespace Go.Proofs.YtkegkelaffohjaaGreatDoor
open Go Go.RowKit
theorem bad_no3 {f : Fr} {r : List Fr} {loops : Int} (h : Gif.bad (f :: r) loops = false) : r.length + 1 ≤ 16 ∧ 0 ≤ loops ∧ loops ≤ 65535 := by
 simp only [Gif.bad, Bool.or_eq_false_iff, decide_eq_false_iff_not, List.length_cons] at h
 omega
def WroteM (E : Nat → Addr) (w : World) (R : List UInt8 ⊕ (Nat × Int)) (e : Ending) (w' : World) : Prop :=
 Below w.heap.size w w' ∧ match R with
 | .inl s => ∃ t, e = .returned (.tuple #[.string t, .nilIface]) ∧ lst t = s
 | .inr f => ∃ v, e = .returned (.tuple #[.string ⟨#[]⟩, v]) ∧ ErrIs E w' v (f.1 + 1, f.2)
theorem wmade {w : World} {g : Nat} {t : TypeId} {cs : List Value} {base size n : Nat} (h : Blk w g t cs.toArray) (hl : cs.length = n * size) (hb : base ≤ g) (hm : n ≤ maxLen) : Own w base size (.slice (some ⟨g, 0, none⟩) n n) n cs := by
 refine ⟨hl, .inr ⟨g, 0, n, rfl, hb, h.lt, Nat.le_refl _, hm, fun j _ => ?_, fun j hj => ⟨?_, h.free _⟩⟩⟩
 ·rw [Nat.zero_add, h.cell]; simp
 ·rw [Nat.zero_add, h.cell, Array.getElem?_eq_getElem (by simp; omega)]; rfl
namespace Film
def looked (first : Fr) (fs : List Fr) (k : Nat) (Z : List UInt8) : List UInt8 ⊕ (Nat × Int) :=
 match faultAt first (fs.drop k) k with
 | some e => .inr e
 | none => .inl Z
theorem looked_one (first : Fr) (fs : List Fr) (k : Nat) (Z : List UInt8) (hk : k < fs.length) : looked first fs k Z = match Gif.err0 first fs[k] with
  | some c => .inr (c, (k : Int))
  | none => looked first fs (k + 1) Z := by
 unfold looked
 rw [List.drop_eq_getElem_cons hk, faultAt]
 cases Gif.err0 first fs[k] <;> rfl
theorem looked_end (first : Fr) (fs : List Fr) (Z : List UInt8) : looked first fs fs.length Z = .inl Z := by
 unfold looked
 rw [List.drop_length]
 rfl
theorem write_looked (f : Fr) (r : List Fr) (loops : Int) (h : Gif.bad (f :: r) loops = false) : write (f :: r) loops = looked f (f :: r) 0 (film f.wide.toNat f.high.toNat loops.toNat (frsOf (f :: r))) := by
 unfold write looked
 simp only
 rw [h, if_neg (by simp)]
 rfl
end Film
structure FwR (w : World) (F0 : List Chk.C) (W H k : Nat) (rest : List Film.F) (l : List CB) (v : Value) (wr : World) : Prop where
 own : Own wr w.heap.size 2 v l.length (chCells l)
 len : l.length = 2 + 2 * k
 eq : chL l ++ (Film.parts W H k rest ++ [(Film.kIEND, [])]) = F0
 bel : Below w.heap.size w wr
theorem chL_append (a b : List CB) : chL (a ++ b) = chL a ++ chL b := by unfold chL; rw [List.map_append]
theorem chCells_snoc (l : List CB) (x : CB) : chCells l ++ chCs x = chCells (l ++ [x]) := by unfold chCells; rw [List.flatMap_append, List.flatMap_singleton]
set_option maxHeartbeats 8000000 in
set_option maxRecDepth 100000 in
theorem fwrite_any (A : Option Addr) (n c : Nat) (ms : List FM) (loops : Int) (E : Nat → Addr) (w : World) (hE : Er4 w E) (hTb : Tabs w) (hF : Frs w w.heap.size A n ms) (h3 : sumN ms ≤ 3000) :
  Calls Tryz.prog 13 #[.slice A n c, .int .i64 loops] w fun e w' => WroteM E w (Film.write (ms.map (·.f)) loops) e w' := by
 obtain ⟨i0, hi, ci0, ci1, ci2⟩ := info_parts chInfo3
 obtain ⟨R, hR⟩ : ∃ R, R = Film.write (ms.map (·.f)) loops := ⟨_, rfl⟩
 rw [← hR]
 have HR := Lib.hid hR
 clear hR
 have HTB := Lib.hid hTb
 have H3 := Lib.hid h3
 clear hTb h3
 obtain rfl := hF.len
 go_enter Tryz.func13, Tryz.ntmps13
 go_wp2_with fail
 refine (bounds_any A ms.length c ms loops E _ hE hF).mono ?_
 rintro e w1 ⟨rfl, hb1⟩
 cases hbad : Gif.bad (ms.map (·.f)) loops with
 | true =>
  rw [if_pos rfl]
  have hRb : R = .inr (1, -1) := by
   rw [HR.out]
   cases ms with
   | nil => rfl
   | cons m r =>
    replace hbad : Gif.bad (m.f :: r.map (·.f)) loops = true := hbad
    show Film.write (m.f :: r.map (·.f)) loops = _
    unfold Film.write
    simp only
    rw [if_pos hbad]
  clear hbad
  unfold errV
  go_wp2_with fail
  go_ret2
  rw [hRb]
  exact ⟨hb1, _, rfl, rfl⟩
 | false =>
  rw [if_neg (by decide)]
  obtain ⟨m0, r, rfl⟩ : ∃ m0 r, ms = m0 :: r := by
   cases ms with
   | nil => cases hbad
   | cons x r => exact ⟨x, r, rfl⟩
  replace hbad : Gif.bad (m0.f :: r.map (·.f)) loops = false := hbad
  obtain ⟨Z, hZ⟩ : ∃ Z, Z = Film.film m0.f.wide.toNat m0.f.high.toNat loops.toNat (Film.frsOf (m0.f :: r.map (·.f))) := ⟨_, rfl⟩
  have hRl : R = Film.looked m0.f ((m0 :: r).map (·.f)) 0 Z := by
   rw [HR.out, hZ]
   exact Film.write_looked m0.f (r.map (·.f)) loops hbad
  have HRL := Lib.hid hRl.symm
  have HZ := Lib.hid hZ
  clear hZ hRl
  have hb2 := bad_no3 hbad
  rw [List.length_map] at hb2
  obtain ⟨hn16, hlp0, hlp1⟩ := hb2
  obtain ⟨lp, hlp⟩ := Int.eq_ofNat_of_zero_le hlp0
  subst hlp
  have hlpn : lp ≤ 65535 := by omega
  clear hbad hlp0 hlp1
  have hF1 := hF.below hb1 (Nat.le_refl _)
  have hE1 := hE.below hb1
  have HTB1 := Lib.hid (HTB.out.below hb1 HTB.out.size)
  obtain ⟨b, off, rfl, hbl⟩ := hF.1.addr (by simp)
  obtain ⟨N, hN⟩ : ∃ N, N = (m0 :: r).length := ⟨_, rfl⟩
  have hN1 : 1 ≤ N := by rw [hN]; simp
  have hN16 : N ≤ 16 := by rw [hN]; simpa using hn16
  obtain ⟨ms, hms⟩ : ∃ ms, ms = m0 :: r := ⟨_, rfl⟩
  have hm0 : ∀ h : 0 < ms.length, ms[0] = m0 := by rw [hms]; intro _; rfl
  rw [← hms] at hF hF1 hN HRL H3 HR ⊢
  have HM0 := Lib.hid hm0
  have HN := Lib.hid hN
  have HMS := Lib.hid hms
  have HF := Lib.hid hF
  rw [← hN]
  have hz1 := hb1.size
  clear hms hm0 hN hF
  have hbl1 : b < w1.heap.size := by omega
  have hfs : (ms.map (·.f)).length = N := by rw [List.length_map, HN.out]
  go_wp2_with fail
  go_loopw [24] (fun i wr => ∃ k : Nat, i = .int .i64 k ∧ k ≤ N ∧ Film.looked m0.f (ms.map (·.f)) k Z = R ∧ Below w1.heap.size w1 wr) (fun i _ => N - (intOf i).toNat)
  case atStart => exact ⟨0, rfl, Nat.zero_le _, HRL.out, Below.refl _ _⟩
  case round =>
   obtain ⟨k, rfl, hk, hlk, hbel⟩ := hrel
   have hzr := hbel.size
   have HLK := Lib.hid hlk
   clear hlk
   have hFr := (hF1.below hbel hz1).more (Nat.le_trans hz1 hzr)
   have hEr := hE1.below hbel
   by_cases hlt : k < N
   ·have hkm : k < ms.length := by rw [← HN.out]; exact hlt
    have hlk := HLK.out
    rw [Film.looked_one _ _ _ _ (by rw [hfs]; exact hlt), List.getElem_map] at hlk
    obtain ⟨m, hm⟩ : ∃ m, m = ms[k] := ⟨_, rfl⟩
    rw [← hm] at hlk
    have HQ := Lib.hid hlk
    have hpm := (hFr.px k hkm)
    rw [← hm] at hpm
    have hmn : m.n = m.f.ps.length := hpm.pxLen
    have k0 : wr.cell? ⟨b, off + k * 4, none⟩ = some (.int .i64 m.f.wide) := by have := hFr.at k hkm 0 (by omega); rw [← hm] at this; simpa [frCs] using this
    have k1 : wr.cell? ⟨b, off + k * 4 + 1, none⟩ = some (.int .i64 m.f.high) := by have := hFr.at k hkm 1 (by omega); rw [← hm] at this; simpa [frCs] using this
    have k2 : wr.cell? ⟨b, off + k * 4 + 2, none⟩ = some (.slice m.A m.n m.c) := by have := hFr.at k hkm 2 (by omega); rw [← hm] at this; simpa [frCs] using this
    have k3 : wr.cell? ⟨b, off + k * 4 + 3, none⟩ = some (.int .i64 m.f.delay) := by have := hFr.at k hkm 3 (by omega); rw [← hm] at this; simpa [frCs] using this
    have z0 : wr.cell? ⟨b, off, none⟩ = some (.int .i64 m0.f.wide) := by have := hFr.at 0 (by omega) 0 (by omega); rw [HM0.out (by omega)] at this; simpa [frCs] using this
    have z1 : wr.cell? ⟨b, off + 1, none⟩ = some (.int .i64 m0.f.high) := by have := hFr.at 0 (by omega) 1 (by omega); rw [HM0.out (by omega)] at this; simpa [frCs] using this
    have z2 : wr.cell? ⟨b, off + 2, none⟩ = some (.slice m0.A m0.n m0.c) := by have := hFr.at 0 (by omega) 2 (by omega); rw [HM0.out (by omega)] at this; simpa [frCs] using this
    have z3 : wr.cell? ⟨b, off + 3, none⟩ = some (.int .i64 m0.f.delay) := by have := hFr.at 0 (by omega) 3 (by omega); rw [HM0.out (by omega)] at this; simpa [frCs] using this
    have hbr : b < wr.heap.size := by omega
    have HMN := Lib.hid hmn
    clear hlk hm hmn hkm hpm
    have hBF := Blk.new wr 54 #[.int .i64 m.f.wide, .int .i64 m.f.high, .slice m.A m.n m.c, .int .i64 m.f.delay] rfl
    have hwF : Below wr.heap.size wr (wr.alloc (.cells #[.int .i64 m.f.wide, .int .i64 m.f.high, .slice m.A m.n m.c, .int .i64 m.f.delay] 54)) := by go_grown
    have hEF := hEr.below hwF
    go_wp2_with fail
    generalize wr.alloc (.cells #[.int .i64 m.f.wide, .int .i64 m.f.high, .slice m.A m.n m.c, .int .i64 m.f.delay] 54) = wF at *
    have f0 : wF.cell? ⟨wr.heap.size, 0, none⟩ = some (.int .i64 m.f.wide) := by rw [hBF.cell]; rfl
    have f1 : wF.cell? ⟨wr.heap.size, 1, none⟩ = some (.int .i64 m.f.high) := by rw [hBF.cell]; rfl
    have f2 : wF.cell? ⟨wr.heap.size, 2, none⟩ = some (.slice m.A m.n m.c) := by rw [hBF.cell]; rfl
    have f3 : wF.cell? ⟨wr.heap.size, 3, none⟩ = some (.int .i64 m.f.delay) := by rw [hBF.cell]; rfl
    have y0 := bkeep hwF z0
    have y1 := bkeep hwF z1
    have y2 := bkeep hwF z2
    have y3 := bkeep hwF z3
    go_cut [9] (fun v wx => v = errO E (Gif.err0 m0.f m.f) ∧ Below wF.heap.size wF wx)
    case first =>
     go_region_with ((go_at_call 36; refine (frCheck_any m m0 E _ (hEF.below (Below.refl _ _).drew) HMN.out).mono ?_; rintro e wA ⟨rfl, hbA⟩; have hbI := Below.fromDrew hbA))
     all_goals
      go_wp2_with fail
      go_meet
      case rel => exact ⟨rfl, hbI⟩
    case rest =>
     obtain ⟨rfl, hbI⟩ := hcut
     obtain ⟨wA, hwAe⟩ : ∃ wA, wA = wc := ⟨_, rfl⟩
     rw [← hwAe] at hbI ⊢
     clear hwAe f0 f1 f2 f3 y0 y1 y2 y3
     have hwA := hwF.trans (hbI.mono hwF.size)
     have hA := hbel.trans (hwA.mono hzr)
     have hzA := hA.size
     clear hBF hEF hbI hwA hwF k0 k1 k2 k3 z0 z1 z2 z3 hFr
     cases he0 : Gif.err0 m0.f m.f with
     | some c0 =>
      have hRf := HQ.out
      rw [he0] at hRf
      have HRF := Lib.hid hRf.symm
      clear hRf he0
      unfold errO errV
      go_wp2_with fail
      have hRf : R = .inr (c0, (k : Int)) := HRF.out
      refine bodyPost_ret (v := .tuple #[.string ⟨#[]⟩, .iface 88 (.pointer (some ⟨wA.heap.size, 0, none⟩))]) (by simp [results, Tryz.results13, go_sem]) rfl ⟨?_, ?_⟩
      ·exact hb1.trans ((hA.alloc (by omega) _).mono hz1)
      ·rw [hRf]
       refine ⟨_, rfl, ?_⟩
       unfold ErrIs
       rw [if_neg (by simp), if_neg (by simp)]
       exact ⟨_, rfl, Blk.new _ _ _ rfl⟩
     | none =>
      have hRf := HQ.out
      rw [he0] at hRf
      have HRF := Lib.hid hRf
      clear hRf he0
      unfold errO
      go_wp2_with fail
      go_roundw
      case rel => exact ⟨k + 1, by go_num, hlt, HRF.out, hA⟩
      case measure => simp [intOf]; omega
   ·have hkN : k = N := by omega
    have hlk := HLK.out
    rw [hkN, ← hfs, Film.looked_end] at hlk
    obtain ⟨W, H, lp', hWr⟩ := Film.write_ok (HR.out.symm.trans hlk.symm)
    obtain ⟨qs, hqs⟩ : ∃ qs, qs = Film.frsOf (ms.map (·.f)) := ⟨_, rfl⟩
    have hlp' : lp' = lp := by have := hWr.loops; omega
    subst hlp'
    have hlen : qs.length = N := by rw [hqs, ← hWr.len, hfs]
    have hok := hWr.ok
    have hback := hWr.back
    have hZf := hWr.s
    have h20 := (hWr.read (by rw [List.map_map]; have e : (ms.map ((fun x => x.ps.length) ∘ fun x => x.f)) = ms.map (·.n) := List.map_congr_left fun m hm => ((HF.out.2 m hm).pxLen).symm; rw [e]; exact H3.out)).1
    rw [← hqs] at hok hback hZf
    obtain ⟨wL, hwL⟩ : ∃ wL, wL = wr := ⟨_, rfl⟩
    rw [← hwL] at hFr hEr hbel ⊢
    have hat : ∀ i (h : i < ms.length) (h2 : i < qs.length), ms[i].f = Film.toFr W H qs[i] := by
     intro i h h2
     have e := congrArg (fun l => l[i]?) hback
     simp only [List.getElem?_map] at e
     rw [List.getElem?_eq_getElem h, List.getElem?_eq_getElem h2] at e
     exact (Option.some.inj e).symm
    have hW := hok.w
    have hH := hok.h
    have hN0 : 0 < ms.length := by rw [← HN.out]; omega
    have hf0 := hat 0 hN0 (by omega)
    have z0 : wL.cell? ⟨b, off, none⟩ = some (.int .i64 W) := by have := hFr.at 0 (by omega) 0 (by omega); simpa [frCs, hf0, Film.toFr] using this
    have z1 : wL.cell? ⟨b, off + 1, none⟩ = some (.int .i64 H) := by have := hFr.at 0 (by omega) 1 (by omega); simpa [frCs, hf0, Film.toFr] using this
    have hblL : b < wL.heap.size := by have := hbel.size; rw [← hwL] at hzr; omega
    have HHW := Lib.hid (show H * W ≤ 3000 by
     have h1 := (hok.each qs[0] (List.getElem_mem (by omega))).2
     have h2 := (HF.out.2 ms[0] (List.getElem_mem hN0)).pxLen
     have h3 := sumN_mem (List.getElem_mem hN0)
     have h4 := H3.out
     have h5 : ms[0].f.ps = qs[0].2 := by rw [hf0]; rfl
     rw [h5, h1] at h2
     omega)
    have HAT := Lib.hid hat
    have HOK := Lib.hid hok
    have HZF := Lib.hid hZf
    have HTL := Lib.hid (HTB1.out.below hbel (HTB1.out.size))
    have HBL := Lib.hid hbel
    have HRZ := Lib.hid hlk.symm
    have HL20 := Lib.hid h20
    have hlt2 : (N : Int) ≤ k := by omega
    clear hat hok hback hZf hWr hf0 hbel hlk h20 hzr hwL HLK hlt hfs
    have hNp : 0 < N := by omega
    go_upto_region 11 with (fail)
    clear hlt2
    refine wp_region_held_drew (S := (fun w' => w'.cell? ⟨b, off, none⟩ = some (.int .i64 W) ∧ w'.cell? ⟨b, off + 1, none⟩ = some (.int .i64 H))) (by kernel_rfl) ?_ (fun hHeld => ?_)
    ·exact ⟨z0, z1⟩
    refine opT 0 rfl ?_; refine opT 1 rfl ?_; refine opT 2 rfl ?_; refine opT 3 rfl ?_; refine opT 4 rfl ?_; refine opT 5 rfl ?_; refine opT 6 rfl ?_; refine opT 7 rfl ?_; refine opT 8 rfl ?_; refine opT 9 rfl ?_; refine opT 11 rfl ?_; refine opT 12 rfl ?_; refine opT 14 rfl ?_
    refine opD 10 rfl (fun K hK => ?_)
    go_simp
    (go_at_call 37; refine (phead_any W H _ (by omega) (by omega)).mono ?_; rintro e wh ⟨th, rfl, hth, hbh⟩; have HTH := Lib.hid hth; have kb := Below.fromDrew hbh; have HBh := Lib.hid hbh; clear hth hbh)
    refine hK.out _ _ ?_ (fun hHeld => ?_)
    ·exact ⟨bcell_ HBh.out hblL hHeld.1, bcell_ HBh.out hblL hHeld.2⟩
    clear hK K
    (try simp only [Act.put, nz1, nz2, nz3, nz4, nz5, nz6])
    refine opD 13 rfl (fun K hK => ?_)
    go_simp
    (go_at_call 38; refine (fnumber_any N _ (by omega)).mono ?_; rintro e wn ⟨tn, rfl, htn, hbn⟩; have HTN := Lib.hid htn; have hzn : tn.size = 4 := (by rw [← lst_length, htn]; rfl); have kb := kb.trans (hbn.mono kb.size); have HBn := Lib.hid hbn; clear htn hbn)
    refine hK.out _ _ ?_ (fun hHeld => ?_)
    ·exact ⟨bkeep HBn.out hHeld.1, bkeep HBn.out hHeld.2⟩
    clear hK K
    (try simp only [Act.put, nz1, nz2, nz3, nz4, nz5, nz6])
    refine opD 15 rfl (fun K hK => ?_)
    go_simp
    (go_at_call 38; refine (fnumber_any lp' _ (by omega)).mono ?_; rintro e wp ⟨tp, rfl, htp, hbp⟩; have HTP := Lib.hid htp; have hzp : tp.size = 4 := (by rw [← lst_length, htp]; rfl); have kb := kb.trans (hbp.mono kb.size); have HBp := Lib.hid hbp; clear htp hbp)
    refine hK.out _ _ ?_ (fun hHeld => ?_)
    ·exact ⟨bkeep HBp.out hHeld.1, bkeep HBp.out hHeld.2⟩
    clear hK K
    (try simp only [Act.put, nz1, nz2, nz3, nz4, nz5, nz6])
    refine opT 16 rfl ?_; refine opT 17 rfl ?_
    refine opD 18 rfl (fun K hK => ?_)
    go_simp
    refine hK.out _ _ ?_ (fun hHeld => ?_)
    ·exact ⟨cell_past _ hHeld.1, cell_past _ hHeld.2⟩
    clear hK K
    (try simp only [Act.put, nz1, nz2, nz3, nz4, nz5, nz6])
    refine opT 19 rfl ?_
    refine wpAnyH_done (by kernel_rfl) ?_ _
    obtain ⟨l0, hl0⟩ : ∃ l0 : List CB, l0 = [(⟨Film.kIHDR.toArray⟩, th), (⟨#[97, 99, 84, 76]⟩, tn ++ tp)] := ⟨_, rfl⟩
    have hO0 : Own (wp.alloc (.cells #[.string ⟨Film.kIHDR.toArray⟩, .string th, .string ⟨#[97, 99, 84, 76]⟩, .string (tn ++ tp)] 91)) wL.heap.size 2 (.slice (some ⟨wp.heap.size, 0, none⟩) 2 2) 2 (chCells l0) := by
     rw [hl0]
     exact wmade (Blk.new wp 91 #[.string ⟨Film.kIHDR.toArray⟩, .string th, .string ⟨#[97, 99, 84, 76]⟩, .string (tn ++ tp)] rfl) rfl kb.size (by unfold maxLen; omega)
    have kb0 : Below wL.heap.size wL (wp.alloc (.cells #[.string ⟨Film.kIHDR.toArray⟩, .string th, .string ⟨#[97, 99, 84, 76]⟩, .string (tn ++ tp)] 91)) := kb.alloc kb.size _
    obtain ⟨F0, hF0⟩ : ∃ F0, F0 = Film.filmC W H lp' qs := ⟨_, rfl⟩
    have heq0 : chL l0 ++ (Film.parts W H 0 qs ++ [(Film.kIEND, [])]) = F0 := by
     rw [hF0, hl0]
     unfold Film.filmC Film.headC
     show ([(_, lst th), (_, lst (tn ++ tp))] : List Chk.C) ++ _ = _
     rw [HTH.out, lst_append, HTN.out, HTP.out, hlen]
     rfl
    have HW0 := Lib.hid (FwR.mk (k := 0) (v := .slice (some ⟨wp.heap.size, 0, none⟩) 2 2) (by rw [show l0.length = 2 by rw [hl0]; rfl]; exact hO0) (by rw [hl0]; rfl) heq0 kb0)
    have HF0 := Lib.hid hF0
    clear hO0 kb0 heq0 hF0 kb hl0 hHeld hzn hzp
    generalize wp.alloc (.cells #[.string ⟨Film.kIHDR.toArray⟩, .string th, .string ⟨#[97, 99, 84, 76]⟩, .string (tn ++ tp)] 91) = w5 at *
    go_wp2_with fail
    go_loopw [10, 11, 63] (fun v nx i wr => ∃ (k : Nat) (l : List CB), k ≤ N ∧ i = .int .i64 k ∧ nx = .int .i64 (2 * k - 1 : Nat) ∧ FwR wL F0 W H k (qs.drop k) l v wr) (fun _ _ i _ => N - (intOf i).toNat)
    case atStart => exact ⟨0, l0, Nat.zero_le _, rfl, rfl, by rw [List.drop_zero]; exact HW0.out⟩
    case round =>
     clear HW0
     obtain ⟨k, l, hk, rfl, rfl, hW2⟩ := hrel
     obtain ⟨wk, hwk⟩ : ∃ wk, wk = wr := ⟨_, rfl⟩
     rw [← hwk] at hW2 ⊢
     clear hwk
     obtain ⟨n, hn⟩ : ∃ n, n = l.length := ⟨_, rfl⟩
     have hn2 : n = 2 + 2 * k := by rw [hn]; exact hW2.len
     have hnl : n ≤ 34 := by omega
     have HN2 := Lib.hid hn2
     have hown := hW2.own
     rw [← hn] at hown
     obtain ⟨Al, cl, rfl, hcl, _⟩ := hown.form
     have HWL := Lib.hid hW2.eq
     have hbk := hW2.bel
     have HNL := Lib.hid hn
     clear hW2 hn hn2
     by_cases hlt : k < N
     ·have hkm : k < ms.length := by rw [← HN.out]; exact hlt
      have hkq : k < qs.length := by rw [hlen]; exact hlt
      have hFk := (hFr.below hbk (Nat.le_refl _)).more hbk.size
      have hmf := HAT.out k hkm hkq
      obtain ⟨q, hq⟩ : ∃ q, q = qs[k] := ⟨_, rfl⟩
      obtain ⟨m, hm⟩ : ∃ m, m = ms[k] := ⟨_, rfl⟩
      rw [← hq, ← hm] at hmf
      have hqk := (HOK.out.each q (by rw [hq]; exact List.getElem_mem hkq))
      have hpm := hFk.px k hkm
      rw [← hm] at hpm
      have hps : m.f.ps = q.2 := by rw [hmf]; rfl
      rw [hps] at hpm
      have k0 : wk.cell? ⟨b, off + k * 4, none⟩ = some (.int .i64 W) := by have := hFk.at k hkm 0 (by omega); rw [← hm] at this; simpa [frCs, hmf, Film.toFr] using this
      have k1 : wk.cell? ⟨b, off + k * 4 + 1, none⟩ = some (.int .i64 H) := by have := hFk.at k hkm 1 (by omega); rw [← hm] at this; simpa [frCs, hmf, Film.toFr] using this
      have k2 : wk.cell? ⟨b, off + k * 4 + 2, none⟩ = some (.slice m.A m.n m.c) := by have := hFk.at k hkm 2 (by omega); rw [← hm] at this; simpa [frCs] using this
      have k3 : wk.cell? ⟨b, off + k * 4 + 3, none⟩ = some (.int .i64 q.1) := by have := hFk.at k hkm 3 (by omega); rw [← hm] at this; simpa [frCs, hmf, Film.toFr] using this
      have hdrop : qs.drop k = q :: qs.drop (k + 1) := by rw [List.drop_eq_getElem_cons hkq, ← hq]
      have hEQ := HWL.out
      rw [hdrop, Film.parts] at hEQ
      have HEQ := Lib.hid hEQ
      obtain ⟨d, hd⟩ : ∃ d, d = q.1 := ⟨_, rfl⟩
      have hdl : d ≤ 65535 := by rw [hd]; exact hqk.1
      have hql : q.2.length = H * W := hqk.2
      rw [← hd] at k3
      have HPM := Lib.hid (show Reads wL wL.heap.size 4 m.A m.n (pxCells q.2) by have h := hFr.px k hkm; rw [← hm, hps] at h; exact h)
      have HD := Lib.hid hd
      have hEk := hEr.below hbk
      have HTK := Lib.hid (HTL.out.below hbk HTL.out.size)
      have hBF := Blk.new wk 54 #[.int .i64 W, .int .i64 H, .slice m.A m.n m.c, .int .i64 d] rfl
      have hwF : Below wk.heap.size wk (wk.alloc (.cells #[.int .i64 W, .int .i64 H, .slice m.A m.n m.c, .int .i64 d] 54)) := by go_grown
      have hoF := hown.alloc (.cells #[.int .i64 W, .int .i64 H, .slice m.A m.n m.c, .int .i64 d] 54)
      obtain ⟨n0, hn0⟩ : ∃ n0, n0 = 2 * k - 1 := ⟨_, rfl⟩
      obtain ⟨n1, hn1⟩ : ∃ n1, n1 = n0 + 1 := ⟨_, rfl⟩
      rw [← hn0]
      have hnw : IntKind.i64.wrap ((n0 : Int) + 1) = n1 := by rw [hn1]; exact IntWalk.i64_in _ (by omega)
      have hn0l : n0 ≤ 40 := by omega
      have hn1l : n1 ≤ 41 := by omega
      have HN0 := Lib.hid hn0
      have HN1 := Lib.hid hn1
      obtain ⟨gF, hgF⟩ : ∃ gF, gF = wk.heap.size := ⟨_, rfl⟩
      rw [← hgF] at hBF
      have HGF := Lib.hid hgF
      have NE := Lib.hid (show some gF ≠ (Value.slice Al n cl).ownBlock from fun e => by have := (hown.lt gF e.symm).2; omega)
      clear hgF hn0 hn1 hdrop hEQ hm hmf hq hqk hpm hps hFk hd hkm hkq
      go_upto_region 16 with (fail)
      rw [← HGF.out]
      generalize wk.alloc (.cells #[.int .i64 W, .int .i64 H, .slice m.A m.n m.c, .int .i64 d] 54) = wF at *
      have u0 : wF.cell? ⟨gF, 0, none⟩ = some (.int .i64 W) := hBF.cell 0
      have u1 : wF.cell? ⟨gF, 1, none⟩ = some (.int .i64 H) := hBF.cell 1
      have u2 : wF.cell? ⟨gF, 2, none⟩ = some (.slice m.A m.n m.c) := hBF.cell 2
      have u3 : wF.cell? ⟨gF, 3, none⟩ = some (.int .i64 d) := hBF.cell 3
      have kbF := hbk.trans (hwF.mono hbk.size)
      clear k0 k1 k2 k3
      go_wp2_with fail
      refine (control_any n0 W H d m.A m.n m.c wF (by omega) hW.2 hH.2 hdl).mono ?_
      rintro e w6 ⟨tc, rfl, htc, hb6⟩
      have HTC := Lib.hid htc
      have hBF6 := hBF.below hb6 hBF.lt
      have ho6 := hoF.below hb6 (Nat.le_refl _)
      have kb6 := kbF.trans (hb6.mono kbF.size)
      clear htc u0 u1 u2 u3 hb6 hBF hoF kbF hwF
      have hz6 := kb6.size
      go_wp2_with (at_builtin; (refine wpList_append_S rfl (.tmp 68) (.tmp 72) 55 55 rfl wL.heap.size 91 i0 _ 2 32 Tryz.underlying55 hi ci0 ci1 ci2 rfl (by decide) (.slice Al n cl) (n) (chCells l) rfl (ho6.alloc _) (chCells_one _) 1 (chCs (⟨Film.kfcTL.toArray⟩, tc)) (Src.made Tryz.underlying55 (by first | rfl | simp) rfl (by intro u hu; exact chCells_one [(⟨Film.kfcTL.toArray⟩, tc)] u (by unfold chCells; rw [List.flatMap_singleton]; exact hu))) (n + 1) (by omega) (chCells (l ++ [(⟨Film.kfcTL.toArray⟩, tc)])) (chCells_snoc _ _) (by unfold maxLen; omega) (by omega) (by simp; omega) ?_); intro aA ac aw ao ag aa; have B1 := (hBF6.alloc (.cells #[.string ⟨Film.kfcTL.toArray⟩, .string tc] 91)).grown ag NE.out; have q0 : aw.cell? ⟨gF, 0, none⟩ = some (.int .i64 W) := B1.cell 0; have q1 : aw.cell? ⟨gF, 1, none⟩ = some (.int .i64 H) := B1.cell 1; have q2 : aw.cell? ⟨gF, 2, none⟩ = some (.slice m.A m.n m.c) := B1.cell 2)
      have kb1 := (kb6.alloc hz6 (.cells #[.string ⟨Film.kfcTL.toArray⟩, .string tc] 91)).grown ag (by simp; omega) (fun g hg => (hown.lt g hg).1)
      have HB1 := Lib.hid B1
      have HO1 := Lib.hid ao
      clear ag aa B1 ao ho6 hBF6 kb6 hz6
      have hpr := (HPM.out.below kb1 (Nat.le_refl _)).more kb1.size
      refine (prows_any W H m.A m.n m.c q.2 aw hpr hql hW hH.2).mono ?_
      rintro e w8 ⟨z, rfl, hz, hb8⟩
      have kb8 := kb1.trans (hb8.mono kb1.size)
      have hzs : z.size ≤ 65535 := by
       rw [← lst_length, hz, Film.rowsOf_length W H q.2 hql, Nat.mul_add, Nat.mul_one, Nat.mul_left_comm]
       have := HHW.out
       omega
      have HZ8 := Lib.hid hz
      clear hpr q0 q1 q2 hz
      go_wp2_with fail
      refine (zip_any z E w8 ((hEr.below kb8).ers) (HTL.out.below kb8 HTL.out.size) hzs).mono ?_
      rintro e w9 ⟨zz, rfl, hzz, hb9⟩
      have kb9 := kb8.trans (hb9.mono kb8.size)
      have ho9 := HO1.out.below (hb8.trans (hb9.mono hb8.size)) (Nat.le_refl _)
      have hzzs : zz.size ≤ 70000 := by
       have h1 := Inf.zip_length (lst z) (by rw [lst_length]; exact hzs)
       rw [← lst_length, hzz]
       rw [lst_length] at h1
       omega
      have HZZ := Lib.hid (show lst zz = Inf.zip (Film.rowsOf W H q.2) by rw [hzz, HZ8.out])
      have hz9 := kb9.size
      clear hzz hb8 hb9 kb8 kb1
      by_cases h0 : k = 0
      ·have h0i : ((k : Int) == 0) = true := by rw [beq_iff_eq]; omega
       have H0 := Lib.hid h0
       clear h0
       go_wp2_with (at_builtin; (refine wpList_append_S rfl (.tmp 85) (.tmp 88) 55 55 rfl wL.heap.size 91 i0 _ 2 32 Tryz.underlying55 hi ci0 ci1 ci2 rfl (by decide) (.slice aA (n + 1) ac) ((n + 1)) (chCells (l ++ [(⟨Film.kfcTL.toArray⟩, tc)])) rfl (ho9.alloc _) (chCells_one _) 1 (chCs (⟨#[73, 68, 65, 84]⟩, zz)) (Src.made Tryz.underlying55 (by first | rfl | simp) rfl (by intro u hu; exact chCells_one [(⟨#[73, 68, 65, 84]⟩, zz)] u (by unfold chCells; rw [List.flatMap_singleton]; exact hu))) (n + 2) (by omega) (chCells ((l ++ [(⟨Film.kfcTL.toArray⟩, tc)]) ++ [(⟨#[73, 68, 65, 84]⟩, zz)])) (chCells_snoc _ _) (by unfold maxLen; omega) (by omega) (by simp; omega) ?_); intro xA xc xw xo xg xa)
       have kbx := (kb9.alloc hz9 (.cells #[.string ⟨#[73, 68, 65, 84]⟩, .string zz] 91)).grown xg (by simp; omega) (fun g hg => (HO1.out.lt g hg).1)
       have HXO := Lib.hid xo
       have HKX := Lib.hid kbx
       clear xg xa xo kbx
       go_roundw
       case rel =>
        refine ⟨k + 1, l ++ [(⟨Film.kfcTL.toArray⟩, tc)] ++ [(⟨#[73, 68, 65, 84]⟩, zz)], hlt, by go_num, ?_, ?_, ?_, ?_, HKX.out⟩
        ·rw [show n1 = 2 * (k + 1) - 1 by have := HN0.out; have := HN1.out; have := H0.out; omega]
        ·rw [show ∀ x y : CB, (l ++ [x] ++ [y]).length = n + 2 from fun x y => by rw [List.length_append, List.length_append, ← HNL.out]; rfl]
         exact HXO.out
        ·rw [List.length_append, List.length_append, ← HNL.out, HN2.out]
         show 2 + 2 * k + 1 + 1 = _
         omega
        ·have h := HEQ.out
         unfold Film.part Film.datC at h
         rw [if_pos H0.out] at h
         rw [chL_append, chL_append, List.append_assoc, List.append_assoc]
         show chL l ++ ([(Film.kfcTL, lst tc)] ++ ([(Film.kIDAT, lst zz)] ++ (_ ++ _))) = F0
         rw [HTC.out, HZZ.out, HN0.out, HD.out]
         simpa using h
       case measure => simp [intOf]; omega
      ·have h0i : ((k : Int) == 0) = false := by rw [beq_eq_false_iff_ne]; omega
       have H0 := Lib.hid h0
       clear h0
       go_wp2_with fail
       refine (fnumber_any n1 w9 (by omega)).mono ?_
       rintro e w11 ⟨tn, rfl, htn, hb11⟩
       have ho11 := ho9.below hb11 (Nat.le_refl _)
       have kb11 := kb9.trans (hb11.mono kb9.size)
       have hzn : tn.size = 4 := by rw [← lst_length, htn]; rfl
       have HTN := Lib.hid htn
       have hz11 := kb11.size
       obtain ⟨n2, hn2⟩ : ∃ n2, n2 = n1 + 1 := ⟨_, rfl⟩
       have hnw2 : IntKind.i64.wrap ((n1 : Int) + 1) = n2 := by rw [hn2]; exact IntWalk.i64_in _ (by omega)
       have HN3 := Lib.hid hn2
       clear htn hb11 kb9 hz9 ho9 hn2
       go_wp2_with (at_builtin; (refine wpList_append_S rfl (.tmp 90) (.tmp 96) 55 55 rfl wL.heap.size 91 i0 _ 2 32 Tryz.underlying55 hi ci0 ci1 ci2 rfl (by decide) (.slice aA (n + 1) ac) ((n + 1)) (chCells (l ++ [(⟨Film.kfcTL.toArray⟩, tc)])) rfl (ho11.alloc _) (chCells_one _) 1 (chCs (⟨#[102, 100, 65, 84]⟩, tn ++ zz)) (Src.made Tryz.underlying55 (by first | rfl | simp) rfl (by intro u hu; exact chCells_one [(⟨#[102, 100, 65, 84]⟩, tn ++ zz)] u (by unfold chCells; rw [List.flatMap_singleton]; exact hu))) (n + 2) (by omega) (chCells ((l ++ [(⟨Film.kfcTL.toArray⟩, tc)]) ++ [(⟨#[102, 100, 65, 84]⟩, tn ++ zz)])) (chCells_snoc _ _) (by unfold maxLen; omega) (by omega) (by simp; omega) ?_); intro xA xc xw xo xg xa)
       have kbx := (kb11.alloc hz11 (.cells #[.string ⟨#[102, 100, 65, 84]⟩, .string (tn ++ zz)] 91)).grown xg (by simp; omega) (fun g hg => (HO1.out.lt g hg).1)
       have HXO := Lib.hid xo
       have HKX := Lib.hid kbx
       clear xg xa xo kbx
       go_roundw
       case rel =>
        refine ⟨k + 1, l ++ [(⟨Film.kfcTL.toArray⟩, tc)] ++ [(⟨#[102, 100, 65, 84]⟩, tn ++ zz)], hlt, by go_num, ?_, ?_, ?_, ?_, HKX.out⟩
        ·rw [show n2 = 2 * (k + 1) - 1 by have := HN0.out; have := HN1.out; have := H0.out; have := HN3.out; omega]
        ·rw [show ∀ x y : CB, (l ++ [x] ++ [y]).length = n + 2 from fun x y => by rw [List.length_append, List.length_append, ← HNL.out]; rfl]
         exact HXO.out
        ·rw [List.length_append, List.length_append, ← HNL.out, HN2.out]
         show 2 + 2 * k + 1 + 1 = _
         omega
        ·have h := HEQ.out
         unfold Film.part Film.datC at h
         rw [if_neg H0.out] at h
         rw [chL_append, chL_append, List.append_assoc, List.append_assoc]
         show chL l ++ ([(Film.kfcTL, lst tc)] ++ ([(Film.kfdAT, lst (tn ++ zz))] ++ (_ ++ _))) = F0
         rw [lst_append, HTN.out, HTC.out, HZZ.out, show n1 = 2 * k by have := HN0.out; have := HN1.out; have := H0.out; omega, HN0.out, HD.out]
         simpa using h
       case measure => simp [intOf]; omega
     ·have hkN2 : k = N := by omega
      have hEQ := HWL.out
      rw [hkN2, ← hlen, List.drop_length] at hEQ
      have HEQ := Lib.hid hEQ
      clear hEQ hlt
      have hzk := hbk.size
      go_wp2_with (at_builtin; (refine wpList_append_S rfl (.tmp 101) (.tmp 103) 55 55 rfl wL.heap.size 91 i0 _ 2 32 Tryz.underlying55 hi ci0 ci1 ci2 rfl (by decide) (.slice Al n cl) (n) (chCells l) rfl (hown.alloc _) (chCells_one _) 1 (chCs (⟨#[73, 69, 78, 68]⟩, ⟨#[]⟩)) (Src.made Tryz.underlying55 (by first | rfl | simp) rfl (by intro u hu; exact chCells_one [(⟨#[73, 69, 78, 68]⟩, ⟨#[]⟩)] u (by unfold chCells; rw [List.flatMap_singleton]; exact hu))) (n + 1) (by omega) (chCells (l ++ [(⟨#[73, 69, 78, 68]⟩, ⟨#[]⟩)])) (chCells_snoc _ _) (by unfold maxLen; omega) (by omega) (by simp; omega) ?_); intro xA xc xw xo xg xa)
      have kbx := (hbk.alloc hzk (.cells #[.string ⟨#[73, 69, 78, 68]⟩, .string ⟨#[]⟩] 91)).grown xg (by simp; omega) (fun g hg => (hown.lt g hg).1)
      obtain ⟨L, hL⟩ : ∃ L : List CB, L = l ++ [(⟨#[73, 69, 78, 68]⟩, ⟨#[]⟩)] := ⟨_, rfl⟩
      have hLl : L.length = n + 1 := by rw [hL, List.length_append, ← HNL.out]; rfl
      have hLF : chL L = Film.filmC W H lp' qs := by
       rw [hL, chL_append, ← HF0.out, ← HEQ.out]
       rfl
      rw [← hL] at xo
      have hfl : (Chk.file (chL L)) = Z := by rw [hLF, HZF.out]; rfl
      have hcw := chWrite_any xA xc L xw (by rw [hLl]; exact xo.reads.2) (by rw [hLF]; exact Film.filmC_kind W H lp' qs) (by rw [hfl]; have := HL20.out; omega) (by omega)
      rw [hLl, hfl] at hcw
      refine hcw.mono ?_
      rintro e w12 ⟨rfl, hb12⟩
      have hbz := hb1.trans (((HBL.out.trans (kbx.mono HBL.out.size)).trans (hb12.mono (HBL.out.trans (kbx.mono HBL.out.size)).size)).mono hz1)
      have HBZ := Lib.hid hbz
      clear hcw hfl hLF hL hLl xo xg xa kbx hb12 hbz
      go_wp2_with fail
      go_ret2
      refine ⟨HBZ.out, ?_⟩
      rw [HRZ.out]
      exact ⟨_, rfl, rfl⟩
end Go.Proofs.YtkegkelaffohjaaGreatDoor
