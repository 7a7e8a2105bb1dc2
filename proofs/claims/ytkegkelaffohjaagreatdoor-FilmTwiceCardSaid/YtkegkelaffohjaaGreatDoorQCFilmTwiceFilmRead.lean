/- film.Read: the walk. Printed by mk.py. -/
import Derived.Test.YtkegkelaffohjaaGreatDoorQCFilmTwiceFilmRd
import Derived.Test.YtkegkelaffohjaaGreatDoorQCFilmTwicePngPix
import Derived.Test.YtkegkelaffohjaaGreatDoorKCFilmTwice12
import Derived.Test.YtkegkelaffohjaaGreatDoorQCFilmTwiceGifArgs
namespace Go.Proofs.YtkegkelaffohjaaGreatDoor
open Go Go.RowKit
theorem errIs_iface2 {E : Nat → Addr} {w : World} {v : Value} {c : Nat} {z : Int} (h : ErrIs E w v (c + 1, z)) : ∃ t u, v = .iface t u := by
 unfold ErrIs at h
 split at h
 ·rename_i h0
  simp at h0
 ·split at h
  ·exact ⟨_, _, h⟩
  ·obtain ⟨b, h, _⟩ := h
   exact ⟨_, _, h⟩
theorem strInfo2 : (Tryz.prog.info? 9).map (fun i => (i.zero, i.size, i.bytes)) = some (some (.string ⟨#[]⟩), 1, 16) := by kernel_rfl
def FmR (w : World) (E : Nat → Addr) (R : Except (Nat × Int) (Nat × Nat × Nat × List Film.F)) (e : Ending) (w' : World) : Prop :=
 Below w.heap.size w w' ∧ match R with
 | .error f => ∃ v, e = .returned (.tuple #[.slice none 0 0, .int .i64 0, v]) ∧ ErrIs E w' v (f.1 + 1, f.2)
 | .ok (W, H, lp, fs) => ∃ A c ms, e = .returned (.tuple #[.slice A ms.length c, .int .i64 lp, .nilIface]) ∧ ms.map (·.f) = fs.map (Film.toFr W H) ∧ FrsO w' w.heap.size (.slice A ms.length c) ms
def dFM (q : Nat × ByteArray) : FM := ⟨⟨0, 0, [], q.1⟩, none, 0, 0⟩
def dStr (ds : List (Nat × ByteArray)) : List Value := ds.map fun q => .string q.2
theorem dStr_one (ds : List (Nat × ByteArray)) : ∀ u ∈ dStr ds, u.oneCell' = true := by
 intro u hu
 obtain ⟨q, _, rfl⟩ := List.mem_map.1 hu
 rfl
structure FrdA (w : World) (gr W H N : Nat) (R1 : Option (List (Nat × ByteArray) × List CB)) (k : Nat) (ds : List (Nat × ByteArray)) (l : List CB) (v u : Value) (wr : World) : Prop where
 eq : aheadD ds (framesB W H (N - k) k l) = R1
 len : ds.length = k
 rd : ∃ A c, FRd wr gr W H (2 * k - 1) l A c
 own : Own wr (gr + 1) 4 v k (frCells (ds.map dFM))
 str : Own wr (gr + 1) 1 u k (dStr ds)
 ne : ∀ g, v.ownBlock = some g → u.ownBlock ≠ some g
 short : Short 300000 l ∧ ∀ q ∈ ds, q.2.size ≤ 300000
 bel : Below w.heap.size w wr
theorem FrdA.none_ {w wr : World} {gr W H N k : Nat} {ds : List (Nat × ByteArray)} {l : List CB} {v u : Value} {R1 : Option (List (Nat × ByteArray) × List CB)} (h : FrdA w gr W H N R1 k ds l v u wr) (hk : k < N) (hf : frameB W H (2 * k - 1) k l = none) : R1 = none := by
 have e := h.eq
 obtain ⟨m, hm⟩ : ∃ m, N - k = m + 1 := ⟨N - k - 1, by omega⟩
 rw [hm, aheadD_one, hf] at e
 exact e.symm
namespace Film
theorem unpackU_length {W H : Nat} {z u : List UInt8} (h : unpackU W H z = .ok u) : u.length = H * (4 * W) := by
 unfold unpackU at h
 cases hx : Inf.unzip z (H * (4 * W + 1)) with
 | error k => rw [hx] at h; cases h
 | ok t =>
  rw [hx] at h
  simp only at h
  have h1 := unzip_len hx
  split at h
  ·cases h
  ·cases hf : Fil.fback (4 * W) 4 H t [] with
   | none => rw [hf] at h; cases h
   | some q =>
    rw [hf] at h
    injection h with h
    subst h
    exact Fil.fback_length (4 * W) 4 H t [] _ (by omega) hf
def appU (fs : List F) (r : Except Nat (List F)) : Except Nat (List F) :=
 match r with
 | .error k => .error k
 | .ok l => .ok (fs ++ l)
theorem appU_nil (r : Except Nat (List F)) : appU [] r = r := by cases r <;> rfl
theorem appU_one (W H d : Nat) (fs : List F) (z : List UInt8) (l : List (Nat × List UInt8)) : appU fs (unpackAll W H ((d, z) :: l)) = match unpackU W H z with
  | .error k => .error k
  | .ok u => appU (fs ++ [(d, Pak.pixels u)]) (unpackAll W H l) := by
 rw [unpackAll, unpackF_is]
 cases unpackU W H z with
 | error k => rfl
 | ok u =>
  simp only
  cases unpackAll W H l with
  | error k => rfl
  | ok r => simp [appU]
end Film
theorem Own.setSome {w : World} {base size n c g off : Nat} {xs : List Value} (h : Own w base size (.slice (some ⟨g, off, none⟩) n c) n xs) (k : Nat) (hk : k < n) (ys zs : List Value) (hy : ys.length ≤ size)
  (hz : zs.length = n * size) (hin : ∀ j, j < ys.length → zs[k * size + j]? = ys[j]?) (hout : ∀ j, (j < k * size ∨ k * size + ys.length ≤ j) → zs[j]? = xs[j]?) :
  Own (w.setCells g (off + k * size) ys) base size (.slice (some ⟨g, off, none⟩) n c) n zs := by
 have hth := h.there k hk
 refine ⟨hz, ?_⟩
 rcases h.2 with ⟨e, _⟩ | ⟨g', off', cap, e, hb, hg, hn, hm, hx, hf⟩
 ·cases e
 ·injection e with e1 e2 e3
  injection e1 with e1
  injection e1 with e1 e4
  subst e1; subst e4; subst e3
  refine .inr ⟨g, off, c, rfl, hb, by rw [size_setCells]; exact hg, hn, hm, fun j hj => ?_, fun j hj => ⟨World.isSome_setCells _ _ _ _ _ (hf j hj).1, by rw [World.frozen?_setCells]; exact (hf j hj).2⟩⟩
  by_cases hin' : k * size ≤ j ∧ j < k * size + ys.length
  ·obtain ⟨i, rfl⟩ : ∃ i, j = k * size + i := ⟨j - k * size, by omega⟩
   have hi : i < ys.length := by omega
   rw [← Nat.add_assoc, World.cell?_setCells_in g ys (off + k * size) w (fun t ht => (hth t (by omega)).1) i hi, hin i hi, List.getElem?_eq_getElem]
  ·rw [World.cell?_setCells_out g ys (off + k * size) w _ (fun _ _ => ?_), hx j hj]
   ·exact (hout j (by omega)).symm
   ·show off + j < off + k * size ∨ off + k * size + ys.length ≤ off + j
    omega
theorem FrsO.put {w : World} {base n c g off : Nat} {ms : List FM} (h : FrsO w base (.slice (some ⟨g, off, none⟩) n c) ms) (hn : ms.length = n) (k : Nat) (hk : k < ms.length) (W H : Int) (ps : List Px) (A : Option Addr) (m c' : Nat)
  (hpx : Reads w w.heap.size 4 A m (pxCells ps)) (hoff : OffFr A m (.slice (some ⟨g, off, none⟩) n c)) :
  FrsO (((w.setCell ⟨g, off + k * 4, none⟩ (.int .i64 W)).setCell ⟨g, off + k * 4 + 1, none⟩ (.int .i64 H)).setCell ⟨g, off + k * 4 + 2, none⟩ (.slice A m c')) base (.slice (some ⟨g, off, none⟩) n c) (ms.set k ⟨⟨W, H, ps, ms[k].f.delay⟩, A, m, c'⟩) := by
 have key : ∀ {B : Nat} (x : FM), Reads w B 4 x.A x.n (pxCells x.f.ps) → B ≤ w.heap.size → OffFr x.A x.n (.slice (some ⟨g, off, none⟩) n c) → Reads (((w.setCell ⟨g, off + k * 4, none⟩ (.int .i64 W)).setCell ⟨g, off + k * 4 + 1, none⟩ (.int .i64 H)).setCell ⟨g, off + k * 4 + 2, none⟩ (.slice A m c')) w.heap.size 4 x.A x.n (pxCells x.f.ps) := by
  intro B x hx hB ho
  refine hx.keepAt hB fun b o e _ hp => ?_
  have hb : b ≠ g := fun e2 => ho b o e (by omega) (by rw [e2]; rfl)
  exact ((Below.heap_setCell _ ⟨g, off + k * 4 + 2, none⟩ _ b hb).trans (Below.heap_setCell _ ⟨g, off + k * 4 + 1, none⟩ _ b hb)).trans (Below.heap_setCell _ ⟨g, off + k * 4, none⟩ _ b hb)
 have hsz : (((w.setCell ⟨g, off + k * 4, none⟩ (.int .i64 W)).setCell ⟨g, off + k * 4 + 1, none⟩ (.int .i64 H)).setCell ⟨g, off + k * 4 + 2, none⟩ (.slice A m c')).heap.size = w.heap.size := by simp [World.setCell]
 have hs : ∀ x ∈ ms.set k ⟨⟨W, H, ps, ms[k].f.delay⟩, A, m, c'⟩, x ∈ ms ∨ x = ⟨⟨W, H, ps, ms[k].f.delay⟩, A, m, c'⟩ := fun x hx => List.mem_or_eq_of_mem_set hx
 have hown := h.own
 rw [hn] at hown
 refine ⟨?_, fun x hx => ?_, fun x hx => ?_⟩
 ·rw [List.length_set, hn]
  refine hown.setSome k (by omega) [.int .i64 W, .int .i64 H, .slice A m c'] _ (by simp) (by rw [frCells_length, List.length_set, hn]) (fun j hj => ?_) (fun j hj => ?_)
  ·have hj3 : j < 3 := hj
   rw [frCells_at _ k (by rw [List.length_set]; exact hk) j (by omega), List.getElem_set_self]
   match j, hj3 with
   | 0, _ => rfl
   | 1, _ => rfl
   | 2, _ => rfl
  ·replace hj : j < k * 4 ∨ k * 4 + 3 ≤ j := hj
   by_cases hl : j / 4 < ms.length
   ·have e : j = j / 4 * 4 + j % 4 := by omega
    rw [e, frCells_at _ (j / 4) (by rw [List.length_set]; exact hl) _ (Nat.mod_lt _ (by omega)), frCells_at _ (j / 4) hl _ (Nat.mod_lt _ (by omega))]
    by_cases hjk : j / 4 = k
    ·have h3 : j % 4 = 3 := by omega
     rw [h3]
     subst hjk
     rw [List.getElem_set_self]
     rfl
    ·rw [List.getElem_set_ne (fun e => hjk e.symm)]
   ·rw [List.getElem?_eq_none (by rw [frCells_length, List.length_set]; omega), List.getElem?_eq_none (by rw [frCells_length]; omega)]
 ·rw [hsz]
  rcases hs x hx with h1 | h1
  ·exact key x (h.px x h1) (Nat.le_refl _) (h.off x h1)
  ·rw [h1]; exact key ⟨⟨W, H, ps, ms[k].f.delay⟩, A, m, c'⟩ hpx (Nat.le_refl _) hoff
 ·rcases hs x hx with h1 | h1
  ·exact h.off x h1
  ·rw [h1]; exact hoff
structure FrdB (w : World) (gr W H N : Nat) (U : Except Nat (List Film.F)) (ds : List (Nat × ByteArray)) (k : Nat) (fs : List Film.F) (ms : List FM) (v u : Value) (wr : World) : Prop where
 eq : Film.appU fs (Film.unpackAll W H (lsD (ds.drop k))) = U
 len : ms.length = N
 flen : fs.length = k
 mf : ms.map (·.f) = fs.map (Film.toFr W H) ++ (ds.drop k).map (fun q => (dFM q).f)
 frs : FrsO wr (gr + 1) v ms
 str : Own wr (gr + 1) 1 u N (dStr ds)
 ne : ∀ g, v.ownBlock = some g → u.ownBlock ≠ some g
 r1 : wr.cell? ⟨gr, 1, none⟩ = some (.int .i64 W)
 r2 : wr.cell? ⟨gr, 2, none⟩ = some (.int .i64 H)
 bel : Below w.heap.size w wr
theorem FrdB.step {w wr wx : World} {gr W H N k : Nat} {U : Except Nat (List Film.F)} {ds : List (Nat × ByteArray)} {fs : List Film.F} {ms : List FM} {v u : Value} (h : FrdB w gr W H N U ds k fs ms v u wr) (hb : Below wr.heap.size wr wx) : FrdB w gr W H N U ds k fs ms v u wx :=
 ⟨h.eq, h.len, h.flen, h.mf, h.frs.below hb (Nat.le_refl _), h.str.below hb (Nat.le_refl _), h.ne, bkeep hb h.r1, bkeep hb h.r2, h.bel.trans (hb.mono h.bel.size)⟩
set_option maxHeartbeats 8000000 in
set_option maxRecDepth 100000 in
theorem fread_any (s : ByteArray) (E : Nat → Addr) (w : World) (hE : Er4 w E) (hTb : Tabs w) (hs : s.size ≤ 1099511627776) :
  Calls Tryz.prog 7 #[.string s] w fun e w' => FmR w E (Film.read (lst s)) e w' := by
 obtain ⟨iF0, iF, iF1, iF2, iF3⟩ := info_parts gfrInfo
 obtain ⟨iS0, iS, iS1, iS2, iS3⟩ := info_parts strInfo2
 obtain ⟨R, hR⟩ : ∃ R, R = Film.read (lst s) := ⟨_, rfl⟩
 rw [← hR]
 have HR := Lib.hid hR
 have HE := Lib.hid hE
 have HTB := Lib.hid hTb
 clear hR hE hTb
 go_enter Tryz.func7, Tryz.ntmps7
 go_wp2_with fail
 refine (chRead_any s E w HE.out hs).mono ?_
 rintro e w1 ⟨hb1, h1⟩
 have hR := HR.out
 unfold Film.read at hR
 cases hch : Chk.chunks (lst s) with
 | error f =>
  rw [hch] at h1 hR
  obtain ⟨v, rfl, hv⟩ := h1
  replace hR : R = .error f := hR
  obtain ⟨ty, u, hvu⟩ := errIs_iface2 hv
  subst hvu
  have HV := Lib.hid hv
  have HR2 := Lib.hid hR
  clear hv hR hch
  go_wp2_with fail
  refine bodyPost_ret (v := .tuple #[.slice none 0 0, .int .i64 0, .iface ty u]) (by simp [results, Tryz.results7, go_sem]) rfl ⟨hb1, ?_⟩
  rw [HR2.out]
  exact ⟨_, rfl, HV.out⟩
 | ok cs =>
  rw [hch] at h1 hR
  obtain ⟨A, c, l, rfl, rfl, hrd, hc1, hc2⟩ := h1
  have hsh := short_of hch
  have HR2 := Lib.hid hR
  have HSH := Lib.hid hsh
  have HRD := Lib.hid hrd
  clear hsh hR hrd hch
  obtain ⟨n, hn⟩ : ∃ n, n = l.length := ⟨_, rfl⟩
  rw [← hn]
  obtain ⟨gr, hgr⟩ : ∃ gr, gr = w1.heap.size := ⟨_, rfl⟩
  have hF0 : FRd (w1.alloc (.cells #[.slice A n c, .int .i64 0, .int .i64 0, .int .i64 0] 60)) gr 0 0 0 l A c := ⟨by rw [hgr, hn]; exact Blk.new _ _ _ rfl, by rw [hgr]; exact HRD.out.alloc (Nat.le_refl _) _, hc1, hc2⟩
  have hbA : Below w.heap.size w (w1.alloc (.cells #[.slice A n c, .int .i64 0, .int .i64 0, .int .i64 0] 60)) := hb1.alloc hb1.size _
  have HWG := Lib.hid (show w.heap.size ≤ gr by rw [hgr]; exact hb1.size)
  have HGR := Lib.hid hgr
  have HF0 := Lib.hid hF0
  clear hF0 hgr hn hc1 hc2
  go_upto_region 5 with (fail)
  rw [← HGR.out]
  generalize w1.alloc (.cells #[.slice A n c, .int .i64 0, .int .i64 0, .int .i64 0] 60) = w2 at *
  go_wp2_with fail
  refine (fhead_any gr l A c w2 HF0.out).mono ?_
  rintro e w3 ⟨hb3, h3⟩
  have hb3w := hbA.trans (hb3.mono HWG.out)
  have hRh := headB_is l
  have hR := HR2.out
  unfold Film.readC at hR
  rw [← hRh] at hR
  cases hh : headB l with
  | none =>
   rw [hh] at h3 hR
   obtain ⟨rfl, W, H, l2, A', c', hF3⟩ := h3
   replace hR : R = .error (0, -1) := hR
   have HRE := Lib.hid hR
   have HF3 := Lib.hid hF3
   have HB3 := Lib.hid hb3w
   clear hR hF3 hb3w hh hRh
   go_wp2_with fail
   go_loopw [2, 9, 38] (fun v u i wr => v = .slice none 0 0 ∧ u = .slice none 0 0 ∧ i = .int .i64 0 ∧ w3 = wr) (fun _ _ _ _ => 0)
   case atStart => exact ⟨rfl, rfl, rfl, rfl⟩
   case round =>
    obtain ⟨rfl, rfl, rfl, rfl⟩ := hrel
    go_wp2_with fail
    refine (ftake_any gr W H 0 l2 A' c' ⟨#[73, 69, 78, 68]⟩ 0 w3 HF3.out).mono ?_
    rintro e w4 ⟨hb4, h4⟩
    have hb4w := HB3.out.trans (hb4.mono HWG.out)
    have HB4 := Lib.hid hb4w
    have dT : w4.cell? ⟨0, 0, none⟩ = some (errV (E 0)) := (HE.out.below hb4w).text
    obtain ⟨dx, ox, hex⟩ : ∃ (dx : ByteArray) (ox : Bool), e = .returned (.tuple #[.string dx, .bool ox]) := by
     cases ht : takeB ⟨#[73, 69, 78, 68]⟩ 0 l2 with
     | none => rw [ht] at h4; exact ⟨_, _, h4.1⟩
     | some p => rw [ht] at h4; exact ⟨_, _, h4.1⟩
    subst hex
    clear h4 hb4 hb4w
    go_upto_region 17 with (fail)
    refine wp_region_held_drew (S := (fun w' => w'.cell? ⟨0, 0, none⟩ = some (errV (E 0)))) (by kernel_rfl) ?_ (fun hHeld => ?_)
    ·exact dT
    refine opT 0 rfl ?_; refine opT 1 rfl ?_; refine opT 2 rfl ?_; refine opT 3 rfl ?_
    refine wpAnyH_done (by kernel_rfl) ?_ _
    go_wp2_with fail
    refine bodyPost_ret (v := .tuple #[.slice none 0 0, .int .i64 0, errV (E 0)]) (by simp [results, Tryz.results7, go_sem]) rfl ⟨HB4.out.drew, ?_⟩
    rw [HRE.out]
    exact ⟨_, rfl, rfl⟩
  | some p =>
   obtain ⟨⟨W, H, N, lp⟩, l2⟩ := p
   rw [hh] at h3 hR
   obtain ⟨rfl, A', c', hF3⟩ := h3
   simp only [Option.map_some] at hR
   obtain ⟨hW, hH, hN, hlp⟩ := headB_most hh
   have hsh2 := headB_short hh HSH.out
   rw [← framesB_is] at hR
   obtain ⟨R1, hR1⟩ : ∃ R1, R1 = framesB W H N 0 l2 := ⟨_, rfl⟩
   rw [← hR1] at hR
   have HRR := Lib.hid hR
   have HW0 := Lib.hid (FrdA.mk (w := w) (N := N) (R1 := R1) (k := 0) (ds := []) (v := .slice none 0 0) (u := .slice none 0 0) (by rw [hR1, aheadD_nil]; rfl) rfl ⟨A', c', hF3⟩ (Own.nil _ _ _) (Own.nil _ _ _) (fun g e => by cases e) ⟨hsh2, fun q hq => by cases hq⟩ hb3w)
   clear hR hR1 hsh2 hF3 hh hRh hb3 hb3w
   go_wp2_with fail
   go_loopw [2, 3, 9, 38] (fun v x3 u i wr => ∃ (k : Nat) (ds : List (Nat × ByteArray)) (l : List CB), k ≤ N ∧ i = .int .i64 k ∧ x3 = .int .i64 lp ∧ FrdA w gr W H N R1 k ds l v u wr) (fun _ _ _ i _ => N - (intOf i).toNat)
   case atStart => exact ⟨0, [], l2, Nat.zero_le _, rfl, rfl, HW0.out⟩
   case round =>
    clear HW0
    obtain ⟨k, ds, l, hk, rfl, rfl, F⟩ := hrel
    obtain ⟨wk, hwk⟩ : ∃ wk, wk = wr := ⟨_, rfl⟩
    rw [← hwk] at F ⊢
    clear hwk
    obtain ⟨A3, c3, hF3⟩ := F.rd
    by_cases hlt : k < N
    ·have HFF := Lib.hid F
     have HF3 := Lib.hid hF3
     clear F hF3
     go_wp2_with fail
     refine (fframe_any gr W H (2 * k - 1) k l A3 c3 wk HF3.out hW.2 hH.2 (by omega) (by omega)).mono ?_
     rintro e w5 ⟨hk5, h5⟩
     cases hf : frameB W H (2 * k - 1) k l with
     | none =>
      rw [hf] at h5
      obtain ⟨dx, zx, rfl⟩ := h5
      have hR1 := HFF.out.none_ hlt hf
      have hR := HRR.out
      rw [hR1] at hR
      replace hR : R = .error (0, -1) := hR
      have HRE := Lib.hid hR
      have hb5 := HFF.out.bel.trans (hk5.below (B := w.heap.size) (fun x hx => by rw [hx]; exact HWG.out) HFF.out.bel.size)
      have HB5 := Lib.hid hb5
      have dT : w5.cell? ⟨0, 0, none⟩ = some (errV (E 0)) := (HE.out.below hb5).text
      clear hR hR1 hf hb5 hk5
      go_upto_region 12 with (fail)
      refine wp_region_held_drew (S := (fun w' => w'.cell? ⟨0, 0, none⟩ = some (errV (E 0)))) (by kernel_rfl) ?_ (fun hHeld => ?_)
      ·exact dT
      refine opT 0 rfl ?_; refine opT 1 rfl ?_; refine opT 2 rfl ?_; refine opT 3 rfl ?_
      refine wpAnyH_done (by kernel_rfl) ?_ _
      go_wp2_with fail
      refine bodyPost_ret (v := .tuple #[.slice none 0 0, .int .i64 0, errV (E 0)]) (by simp [results, Tryz.results7, go_sem]) rfl ⟨HB5.out.drew, ?_⟩
      rw [HRE.out]
      exact ⟨_, rfl, rfl⟩
     | some p =>
      obtain ⟨⟨d, z⟩, l3⟩ := p
      rw [hf] at h5
      obtain ⟨rfl, hd, A5, c5, hF5⟩ := h5
      obtain ⟨Av, cv, hv, hcv, _⟩ := HFF.out.own.form
      obtain ⟨Au, cu, hu, hcu, _⟩ := HFF.out.str.form
      subst hv
      subst hu
      have kg : ∀ {size n : Nat} {V : Value} {xs : List Value}, Own wk (gr + 1) size V n xs → Own w5 (gr + 1) size V n xs := fun h => h.keeps hk5 (fun g hg e => by have := (h.lt g hg).1; rw [e] at this; omega)
      have HOF := Lib.hid (kg HFF.out.own)
      have HOS := Lib.hid (kg HFF.out.str)
      have hne := HFF.out.ne
      have HNE := Lib.hid (show (Value.slice Au k cu).ownBlock = none ∨ (Value.slice Au k cu).ownBlock ≠ (Value.slice Av k cv).ownBlock from by
       cases hx : (Value.slice Au k cu).ownBlock with
       | none => exact .inl rfl
       | some g => exact .inr (fun e => hne g e.symm hx))
      have HF5 := Lib.hid hF5
      have hb5 := HFF.out.bel.trans (hk5.below (B := w.heap.size) (fun x hx => by rw [hx]; exact HWG.out) HFF.out.bel.size)
      have HB5 := Lib.hid hb5
      have HFR := Lib.hid hf
      have hg5 : gr < w5.heap.size := hF5.blk.lt
      have hk16 : k ≤ 16 := by omega
      clear hne hF5 hb5 hf kg hk5
      go_wp2_with (first | (at_builtin; (refine wpList_append_S rfl (.tmp 51) (.tmp 54) 23 23 rfl (gr + 1) 54 iF0 _ 4 48 Tryz.underlying23 iF iF1 iF2 iF3 rfl (by decide) (.slice Av k cv) k (frCells (ds.map dFM)) rfl (HOF.out.alloc _) (frCells_one _) 1 [.int .i64 0, .int .i64 0, .slice none 0 0, .int .i64 d] (Src.made Tryz.underlying23 (by first | rfl | simp) rfl (by intro u hu; simp only [List.mem_cons, List.not_mem_nil, or_false] at hu; rcases hu with rfl | rfl | rfl | rfl <;> rfl)) (k + 1) (by omega) (frCells (ds.map dFM) ++ frCs (dFM (d, z))) rfl (by unfold maxLen; omega) (by omega) (by simp; omega) ?_); intro aA ac aw ao ag aa; have agz : gr < aw.heap.size := (by have h9 := ag.size; simp at h9; omega)) | (at_builtin; (refine wpList_append_S rfl (.tmp 56) (.tmp 58) 63 63 rfl (gr + 1) 9 iS0 _ 1 16 Tryz.underlying63 iS iS1 iS2 iS3 rfl (by decide) (.slice Au k cu) k (dStr ds) rfl (((HOS.out.alloc (.cells #[.int .i64 0, .int .i64 0, .slice none 0 0, .int .i64 d] 54)).kept ag HNE.out).alloc _) (dStr_one _) 1 [.string z] (Src.made Tryz.underlying63 (by first | rfl | simp) rfl (by intro u hu; cases List.mem_singleton.1 hu; rfl)) (k + 1) (by omega) (dStr ds ++ [.string z]) rfl (by unfold maxLen; omega) (by omega) (by simp; omega) ?_); intro xA xc xw xo xg xa))
      have hbY : Below (gr + 1) w5 xw := by
       have q1 := ((Below.refl (gr + 1) w5).alloc (by omega) (.cells #[.int .i64 0, .int .i64 0, .slice none 0 0, .int .i64 d] 54)).grown ag (by simp; omega) (fun g hg => (HOF.out.lt g hg).1)
       exact (q1.alloc (by omega) (.cells #[.string z] 9)).grown xg (by simp; omega) (fun g hg => (HOS.out.lt g hg).1)
      have hlv : ∀ g, (Value.slice Av k cv).ownBlock = some g → g < w5.heap.size := fun g hg => (HOF.out.lt g hg).2
      have hlu : ∀ g, (Value.slice Au k cu).ownBlock = some g → g < w5.heap.size := fun g hg => (HOS.out.lt g hg).2
      have z5 : w5.heap.size < aw.heap.size := by have h9 := ag.size; simp at h9; omega
      have hnv : ∀ g, (Value.slice aA (k + 1) ac).ownBlock = some g → (Value.slice Au k cu).ownBlock ≠ some g := by
       intro g hg hu
       rcases aa with h | h
       ·rw [h] at hg
        exact HFF.out.ne g hg hu
       ·rw [h] at hg
        injection hg with hg
        have h1 := hlu g hu
        simp at hg
        omega
      have hAo : Own xw (gr + 1) 4 (.slice aA (k + 1) ac) (k + 1) (frCells ((ds ++ [(d, z)]).map dFM)) := by
       rw [List.map_append, frCells_append]
       refine (ao.alloc (.cells #[.string z] 9)).kept xg ?_
       cases hx : (Value.slice aA (k + 1) ac).ownBlock with
       | none => exact .inl rfl
       | some g => exact .inr (fun e => hnv g hx e.symm)
      have hne2 : ∀ g, (Value.slice aA (k + 1) ac).ownBlock = some g → (Value.slice xA (k + 1) xc).ownBlock ≠ some g := by
       intro g hg hu
       rcases xa with h | h
       ·rw [h] at hu
        exact hnv g hg hu
       ·rw [h] at hu
        injection hu with hu
        have h1 := (ao.lt g hg).2
        simp at hu
        omega
      have hXo : Own xw (gr + 1) 1 (.slice xA (k + 1) xc) (k + 1) (dStr (ds ++ [(d, z)])) := by
       unfold dStr at xo ⊢
       rw [List.map_append]
       exact xo
      have hsh3 := frameB_short HFR.out HFF.out.short.1
      have heq3 : aheadD (ds ++ [(d, z)]) (framesB W H (N - (k + 1)) (k + 1) l3) = R1 := by
       have e := HFF.out.eq
       rw [show N - k = (N - (k + 1)) + 1 by omega, aheadD_one, HFR.out] at e
       exact e
      have hrd3 : FRd xw gr W H (2 * (k + 1) - 1) l3 A5 c5 := by
       have h := HF5.out.below hbY (Nat.lt_succ_self gr)
       have e : (if k = 0 then 2 * k - 1 + 1 else 2 * k - 1 + 2) = 2 * (k + 1) - 1 := by split <;> omega
       rw [e] at h
       exact h
      have HN3 := Lib.hid (FrdA.mk (w := w) (N := N) heq3 (by rw [List.length_append, HFF.out.len]; rfl) ⟨_, _, hrd3⟩ hAo hXo hne2 ⟨hsh3.2, fun q hq => by
       rcases List.mem_append.1 hq with h | h
       ·exact HFF.out.short.2 q h
       ·rw [List.mem_singleton.1 h]; exact hsh3.1⟩ (HB5.out.trans (hbY.mono (by have := HWG.out; have := HB5.out.size; omega))))
      clear ag aa ao agz xg xa xo hbY hlv hlu z5 hnv hAo hne2 hXo hsh3 heq3 hrd3
      go_roundw
      case rel => exact ⟨k + 1, ds ++ [(d, z)], l3, hlt, by go_num, rfl, HN3.out⟩
      case measure => simp [intOf]; omega
    ·have hkN : k = N := by omega
     have hFe := F.eq
     rw [hkN, Nat.sub_self] at hFe
     replace hFe : some (ds ++ [], l) = R1 := hFe
     rw [List.append_nil] at hFe
     have hR := HRR.out
     rw [← hFe] at hR
     replace hR : R = match (if chL l ≠ [(Film.kIEND, [])] then .error 0 else match Film.unpackAll W H (lsD ds) with
      | .error k => .error k
      | .ok fs => .ok (W, H, lp, fs) : Except Nat (Nat × Nat × Nat × List Film.F)) with
      | .error k => .error (k, -1)
      | .ok r => .ok r := hR
     have HRS := Lib.hid hR
     have HFF := Lib.hid F
     have HF3 := Lib.hid hF3
     have HKN := Lib.hid hkN
     have hltN : (N : Int) ≤ k := by omega
     clear hR F hF3 hFe hlt hkN
     go_wp2_with fail
     clear hltN
     refine (ftake_any gr W H (2 * k - 1) l A3 c3 ⟨#[73, 69, 78, 68]⟩ 0 wk HF3.out).mono ?_
     rintro e w6 ⟨-, h6⟩
     cases ht : takeB ⟨#[73, 69, 78, 68]⟩ 0 l with
     | none =>
      rw [ht] at h6
      obtain ⟨rfl, hw6⟩ := h6
      rw [hw6]
      have hR := HRS.out
      rw [if_pos (fun e => by obtain ⟨l', h, _⟩ := (end_is l).2 e; rw [ht] at h; cases h)] at hR
      replace hR : R = .error (0, -1) := hR
      have HRE := Lib.hid hR
      have HB5 := Lib.hid HFF.out.bel
      have dT : wk.cell? ⟨0, 0, none⟩ = some (errV (E 0)) := (HE.out.below HFF.out.bel).text
      clear hR ht hw6
      go_upto_region 17 with (fail)
      refine wp_region_held_drew (S := (fun w' => w'.cell? ⟨0, 0, none⟩ = some (errV (E 0)))) (by kernel_rfl) ?_ (fun hHeld => ?_)
      ·exact dT
      refine opT 0 rfl ?_; refine opT 1 rfl ?_; refine opT 2 rfl ?_; refine opT 3 rfl ?_
      refine wpAnyH_done (by kernel_rfl) ?_ _
      go_wp2_with fail
      refine bodyPost_ret (v := .tuple #[.slice none 0 0, .int .i64 0, errV (E 0)]) (by simp [results, Tryz.results7, go_sem]) rfl ⟨HB5.out.drew, ?_⟩
      rw [HRE.out]
      exact ⟨_, rfl, rfl⟩
     | some p =>
      obtain ⟨dx, l6⟩ := p
      rw [ht] at h6
      obtain ⟨rfl, A6, c6, hF6, hk6⟩ := h6
      have hdz := takeB_size ht (by decide)
      have hdx : dx = ⟨#[]⟩ := lst_inj (show lst dx = [] from List.eq_nil_of_length_eq_zero (by rw [lst_length]; omega))
      subst hdx
      have hb6 := HFF.out.bel.trans (hk6.below (B := w.heap.size) (fun x hx => by rw [hx]; exact HWG.out) HFF.out.bel.size)
      have c0 : w6.cell? ⟨gr, 0, none⟩ = some (.slice A6 l6.length c6) := hF6.blk.cell 0
      have HT := Lib.hid ht
      clear ht hdz
      obtain ⟨n6, hn6⟩ : ∃ n6, n6 = l6.length := ⟨_, rfl⟩
      rw [← hn6] at c0
      have HN6 := Lib.hid hn6
      have HB6 := Lib.hid hb6
      have HK6 := Lib.hid hk6
      have HF6 := Lib.hid hF6
      by_cases h0 : 0 < n6
      ·have hR := HRS.out
       rw [if_pos (fun e => by
        obtain ⟨l', h, h2⟩ := (end_is l).2 e
        rw [HT.out] at h
        injection h with h
        injection h with _ h
        rw [h, h2] at hn6
        rw [hn6] at h0
        exact absurd h0 (by simp))] at hR
       replace hR : R = .error (0, -1) := hR
       have HRE := Lib.hid hR
       have dT : w6.cell? ⟨0, 0, none⟩ = some (errV (E 0)) := (HE.out.below hb6).text
       have h0i : (0 : Int) < n6 := by omega
       clear hR hb6 hk6 hF6 hn6
       go_upto_region 17 with (fail)
       refine wp_region_held_drew (S := (fun w' => w'.cell? ⟨0, 0, none⟩ = some (errV (E 0)))) (by kernel_rfl) ?_ (fun hHeld => ?_)
       ·exact dT
       refine opT 0 rfl ?_; refine opT 1 rfl ?_; refine opT 2 rfl ?_; refine opT 3 rfl ?_
       refine wpAnyH_done (by kernel_rfl) ?_ _
       go_wp2_with fail
       refine bodyPost_ret (v := .tuple #[.slice none 0 0, .int .i64 0, errV (E 0)]) (by simp [results, Tryz.results7, go_sem]) rfl ⟨HB6.out.drew, ?_⟩
       rw [HRE.out]
       exact ⟨_, rfl, rfl⟩
      ·have hn60 : n6 = 0 := by omega
       subst hn60
       have hR := HRS.out
       have hend := (end_is l).1 ⟨l6, HT.out, List.eq_nil_of_length_eq_zero HN6.out.symm⟩
       rw [if_neg (fun e => e hend)] at hR
       obtain ⟨U, hU⟩ : ∃ U, U = Film.unpackAll W H (lsD ds) := ⟨_, rfl⟩
       rw [← hU] at hR
       have HRU := Lib.hid hR
       obtain ⟨Av, cv, hv, hcv, _⟩ := HFF.out.own.form
       obtain ⟨Au, cu, hu, hcu, _⟩ := HFF.out.str.form
       subst hv
       subst hu
       have hkN := HKN.out
       subst hkN
       have kg : ∀ {size n : Nat} {V : Value} {xs : List Value}, Own wk (gr + 1) size V n xs → Own w6 (gr + 1) size V n xs := fun h => h.keeps hk6 (fun g hg e => by have := (h.lt g hg).1; rw [e] at this; omega)
       have hml : (ds.map dFM).length = k := by rw [List.length_map, HFF.out.len]
       have HW0 := Lib.hid (FrdB.mk (w := w) (gr := gr) (W := W) (H := H) (N := k) (U := U) (ds := ds) (k := 0) (fs := []) (ms := ds.map dFM) (v := .slice Av k cv) (u := .slice Au k cu) (wr := w6) (by rw [List.drop_zero, Film.appU_nil]; exact hU.symm) hml rfl (by rw [List.drop_zero, List.map_map]; rfl) ⟨by rw [hml]; exact kg HFF.out.own, fun m hm => by obtain ⟨q, _, rfl⟩ := List.mem_map.1 hm; exact Reads.none_, fun m hm => by obtain ⟨q, _, rfl⟩ := List.mem_map.1 hm; intro b o e h; cases e⟩ (kg HFF.out.str) HFF.out.ne (hF6.blk.cell 1) (hF6.blk.cell 2) hb6)
       obtain ⟨gv, ov, rfl, hgv, _⟩ := HFF.out.own.addr (by omega)
       obtain ⟨gu, ou, rfl, hgu, _⟩ := HFF.out.str.addr (by omega)
       have HDL := Lib.hid HFF.out.len
       have HDS := Lib.hid HFF.out.short.2
       clear hR hend hU kg hml hb6 hk6 hF6 hn6 h0
       go_wp2_with fail
       clear c0
       go_loopw [2, 3, 87] (fun v x3 i wr => ∃ (j : Nat) (fs : List Film.F) (ms : List FM), j ≤ k ∧ i = .int .i64 j ∧ v = .slice (some ⟨gv, ov, none⟩) k cv ∧ x3 = .int .i64 lp ∧ FrdB w gr W H k U ds j fs ms (.slice (some ⟨gv, ov, none⟩) k cv) (.slice (some ⟨gu, ou, none⟩) k cu) wr) (fun _ _ i _ => k - (intOf i).toNat)
       case atStart => exact ⟨0, [], _, Nat.zero_le _, rfl, rfl, rfl, HW0.out⟩
       case round =>
        clear HW0
        obtain ⟨j, fs, ms, hj, rfl, rfl, rfl, F⟩ := hrel
        obtain ⟨wi, hwi⟩ : ∃ wi, wi = wr := ⟨_, rfl⟩
        rw [← hwi] at F ⊢
        clear hwi
        by_cases hlt : j < k
        ·have hjd : j < ds.length := by rw [HDL.out]; exact hlt
         have hjm : j < ms.length := by rw [F.len]; exact hlt
         have hx0 := (F.str.reads.2).cell rfl j (by omega)
         unfold dStr at hx0
         rw [List.getElem?_map, List.getElem?_eq_getElem hjd] at hx0
         obtain ⟨q, hq⟩ : ∃ q, q = ds[j] := ⟨_, rfl⟩
         rw [← hq] at hx0
         replace hx0 : wi.cell? ⟨gu, ou + j, none⟩ = some (.string q.2) := hx0
         have hdrop : ds.drop j = q :: ds.drop (j + 1) := by rw [List.drop_eq_getElem_cons hjd, ← hq]
         have hqs : q.2.size ≤ 300000 := HDS.out q (by rw [hq]; exact List.getElem_mem hjd)
         obtain ⟨dl, hdl⟩ : ∃ dl, dl = q.1 := ⟨_, rfl⟩
         obtain ⟨d, hdd⟩ : ∃ d, d = q.2 := ⟨_, rfl⟩
         rw [← hdd] at hx0 hqs
         have heq := F.eq
         rw [hdrop] at heq
         replace heq : Film.appU fs (Film.unpackAll W H ((q.1, lst q.2) :: lsD (ds.drop (j + 1)))) = U := heq
         rw [Film.appU_one, ← hdl, ← hdd] at heq
         have hmf := F.mf
         rw [hdrop, List.map_cons] at hmf
         have r1 := F.r1
         have r2 := F.r2
         have hgi : gr < wi.heap.size := cell_lt r1
         obtain ⟨V, hV⟩ : ∃ V, V = 4 * W := ⟨_, rfl⟩
         have i4 : 4 * (W : Int) = V := by omega
         have v4 : IntKind.i64.wrap (V : Int) = V := IntWalk.i64_in _ (by omega)
         have hpu := punpack_any W H d E wi.drew (HE.out.below F.bel.drew) (HTB.out.below F.bel.drew HTB.out.size) ((HTB.out.below F.bel.drew HTB.out.size).size) hqs hW hH
         rw [← hV] at hpu
         have HPU := Lib.hid hpu
         have HEQ := Lib.hid heq
         have HMF := Lib.hid hmf
         have HF := Lib.hid F
         have HJM := Lib.hid hjm
         have HDQ := Lib.hid hdl
         have hgvr : gr < gv := hgv
         have HNG := Lib.hid (show ∀ i o, (⟨gv, i, none⟩ : Addr) ≠ ⟨gr, o, none⟩ from fun i o => ne_blk hgvr i o)
         clear hpu heq hmf F hq hdrop hjm hdl hdd hjd hV
         go_upto_region 21 with (fail)
         cases hx : Film.unpackU W H (lst d) with
         | error kk =>
          have heq := HEQ.out
          rw [hx] at heq
          have hR := HRU.out
          rw [← heq] at hR
          replace hR : R = .error (kk, -1) := hR
          have HRE := Lib.hid hR
          clear heq hR
          refine wp_region_held_drew (S := (fun w' => w'.cell? ⟨gr, 1, none⟩ = some (.int .i64 W) ∧ w'.cell? ⟨gr, 2, none⟩ = some (.int .i64 H))) (by kernel_rfl) ?_ (fun hHeld => ?_)
          ·exact ⟨r1, r2⟩
          refine opT 0 rfl ?_; refine opT 1 rfl ?_; refine opT 2 rfl ?_; refine opT 3 rfl ?_; refine opT 4 rfl ?_; refine opT 5 rfl ?_; refine opT 6 rfl ?_; refine opT 7 rfl ?_; refine opT 8 rfl ?_; refine opT 9 rfl ?_
          refine opD 10 rfl (fun K hK => ?_)
          go_simp
          (go_at_call 23; refine HPU.out.mono ?_; rintro e wu ⟨hbu, hu⟩; rw [hx] at hu; subst hu; have HBU := Lib.hid (Below.fromDrew hbu); have hgu := (show gr < wi.drew.heap.size from hgi))
          refine hK.out _ _ ?_ (fun hHeld => ?_)
          ·exact ⟨bcell_ hbu hgu hHeld.1, bcell_ hbu hgu hHeld.2⟩
          clear hK K
          (try simp only [Act.put, nz1, nz2, nz3, nz4, nz5, nz6])
          refine opT 11 rfl ?_; refine opT 12 rfl ?_; refine opT 13 rfl ?_; refine opT 14 rfl ?_; refine opT 15 rfl ?_
          refine wpAnyH_done (by kernel_rfl) ?_ _
          unfold errV
          go_wp2_with fail
          refine bodyPost_ret (v := .tuple #[.slice none 0 0, .int .i64 0, errV (E kk)]) (by simp [results, Tryz.results7, go_sem, errV]) rfl ⟨HF.out.bel.trans (HBU.out.mono HF.out.bel.size), ?_⟩
          rw [HRE.out]
          refine ⟨_, rfl, ?_⟩
          unfold ErrIs
          rw [if_neg (by simp), if_pos (show ((-1 : Int) < 0) by decide)]
          rfl
         | ok u =>
          have heq := HEQ.out
          rw [hx] at heq
          have HEQ2 := Lib.hid heq
          have hul := Film.unpackU_length hx
          clear heq
          refine wp_region_held_drew (S := (fun w' => w'.cell? ⟨gr, 1, none⟩ = some (.int .i64 W) ∧ w'.cell? ⟨gr, 2, none⟩ = some (.int .i64 H))) (by kernel_rfl) ?_ (fun hHeld => ?_)
          ·exact ⟨r1, r2⟩
          refine opT 0 rfl ?_; refine opT 1 rfl ?_; refine opT 2 rfl ?_; refine opT 3 rfl ?_; refine opT 4 rfl ?_; refine opT 5 rfl ?_; refine opT 6 rfl ?_; refine opT 7 rfl ?_; refine opT 8 rfl ?_; refine opT 9 rfl ?_
          refine opD 10 rfl (fun K hK => ?_)
          go_simp
          (go_at_call 23; refine HPU.out.mono ?_; rintro e wu ⟨hbu, hu⟩; rw [hx] at hu; obtain ⟨rows, rfl, hrows⟩ := hu; have HROWS := Lib.hid hrows; clear hrows; have HBU := Lib.hid (Below.fromDrew hbu); have hgu := (show gr < wi.drew.heap.size from hgi))
          refine hK.out _ _ ?_ (fun hHeld => ?_)
          ·exact ⟨bcell_ hbu hgu hHeld.1, bcell_ hbu hgu hHeld.2⟩
          clear hK K
          (try simp only [Act.put, nz1, nz2, nz3, nz4, nz5, nz6])
          refine opT 11 rfl ?_; refine opT 12 rfl ?_; refine opT 13 rfl ?_; refine opT 14 rfl ?_; refine opT 15 rfl ?_
          refine wpAnyH_done (by kernel_rfl) ?_ _
          have HRZ := Lib.hid (show rows.size = H * (4 * W) by rw [← lst_length, HROWS.out]; exact hul)
          have hFU := HF.out.step HBU.out
          have r1u := hFU.r1
          have r2u := hFU.r2
          have hgu2 : gr < wu.heap.size := cell_lt r1u
          have hgvu : gv < wu.heap.size := (hFU.frs.own.lt gv rfl).2
          have HFU := Lib.hid hFU
          clear hFU hx hul r1 r2 hHeld
          go_upto_region 24 with (fail)
          refine wp_region_held_drew (S := (fun w' => w'.cell? ⟨gr, 1, none⟩ = some (.int .i64 W) ∧ w'.cell? ⟨gr, 2, none⟩ = some (.int .i64 H))) (by kernel_rfl) ?_ (fun hHeld => ?_)
          ·exact ⟨r1u, r2u⟩
          refine opT 0 rfl ?_; refine opT 1 rfl ?_; refine opT 2 rfl ?_; refine opT 3 rfl ?_; refine opT 4 rfl ?_; refine opT 5 rfl ?_; refine opT 6 rfl ?_; refine opT 7 rfl ?_; refine opT 8 rfl ?_; refine opT 9 rfl ?_; refine opT 10 rfl ?_
          refine opD 11 rfl (fun K hK => ?_)
          go_simp
          (go_at_call 24; refine (pcolors_any W H rows _ hW.2 hH.2 HRZ.out).mono ?_; rintro e wc ⟨Ac, cc, rfl, hoc, hbc⟩; have HBC := Lib.hid (Below.fromDrew hbc); have HOC := Lib.hid hoc; have hgc := (show gr < wu.drew.heap.size from hgu2))
          refine hK.out _ _ ?_ (fun hHeld => ?_)
          ·exact ⟨bcell_ hbc hgc hHeld.1, bcell_ hbc hgc hHeld.2⟩
          clear hK K
          (try simp only [Act.put, nz1, nz2, nz3, nz4, nz5, nz6])
          refine opT 12 rfl ?_; refine opT 13 rfl ?_
          refine opD 14 rfl (fun K hK => ?_)
          (have B9 := HFU.out.step HBC.out; have hth := (show Own wc (gr + 1) 4 (.slice (some ⟨gv, ov, none⟩) k cv) k (frCells ms) by have h9 := B9.frs.own; rw [B9.len] at h9; exact h9).there j hlt; have y0 := hth 0 (by decide); have y1 := hth 1 (by decide); have y2 := hth 2 (by decide); obtain ⟨x0, hx0⟩ := Option.isSome_iff_exists.1 y0.1; obtain ⟨x1, hx1⟩ := Option.isSome_iff_exists.1 y1.1; obtain ⟨x2, hx2⟩ := Option.isSome_iff_exists.1 y2.1; have fx0 := y0.2; have fx1 := y1.2; have fx2 := y2.2; rw [Nat.add_zero] at hx0 fx0; have HB9 := Lib.hid B9; clear B9 hth y0 y1 y2; go_simp)
          refine hK.out _ _ ?_ (fun hHeld => ?_)
          ·exact ⟨cell_set_other _ (HNG.out _ _) (cell_set_other _ (HNG.out _ _) (cell_set_other _ (HNG.out _ _) hHeld.1)), cell_set_other _ (HNG.out _ _) (cell_set_other _ (HNG.out _ _) (cell_set_other _ (HNG.out _ _) hHeld.2))⟩
          clear hK K
          (try simp only [Act.put, nz1, nz2, nz3, nz4, nz5, nz6])
          refine wpAnyH_done (by kernel_rfl) ?_ _
          have B9 := HB9.out
          have hjm : j < ms.length := HJM.out
          have hz1 : wu.heap.size ≤ wc.heap.size := HBC.out.size
          have hoff : OffFr Ac (Pak.pixels (lst rows)).length (.slice (some ⟨gv, ov, none⟩) k cv) := by
           intro b o e _ e2
           have h1 : wu.heap.size ≤ b := (HOC.out.lt b (by rw [e]; rfl)).1
           have h2 : gv = b := Option.some.inj e2
           omega
          have hput := B9.frs.put B9.len j hjm W H (Pak.pixels (lst rows)) Ac (Pak.pixels (lst rows)).length cc HOC.out.reads.2 hoff
          have hfl := HF.out.flen
          have hmf := HMF.out
          have hdel : ms[j].f.delay = (dl : Int) := by
           have e := congrArg (fun x => x[j]?) hmf
           simp only [List.getElem?_map] at e
           rw [List.getElem?_eq_getElem hjm, List.getElem?_append_right (by rw [List.length_map]; omega), List.length_map, hfl, Nat.sub_self] at e
           injection e with e
           have e2 := congrArg Fr.delay e
           rw [show ms[j].f.delay = ((q.1 : Nat) : Int) from e2, HDQ.out]
          have hmf2 : (ms.set j ⟨⟨W, H, Pak.pixels (lst rows), ms[j].f.delay⟩, Ac, (Pak.pixels (lst rows)).length, cc⟩).map (·.f) = (fs ++ [(dl, Pak.pixels (lst rows))]).map (Film.toFr W H) ++ (ds.drop (j + 1)).map (fun q => (dFM q).f) := by
           rw [List.map_set, hmf, List.set_append_right _ _ (by rw [List.length_map, hfl]; exact Nat.le_refl _), List.length_map, hfl, Nat.sub_self, hdel, List.map_append, List.append_assoc]
           rfl
          have hnu : ∀ i o, (Value.slice (some ⟨gu, ou, none⟩) k cu).ownBlock ≠ some (⟨gv, i, o⟩ : Addr).block := fun _ _ => HF.out.ne gv rfl
          have hwb : ∀ i, w.heap.size ≤ (⟨gv, i, none⟩ : Addr).block := fun i => by show w.heap.size ≤ gv; have := HWG.out; omega
          have HN3 := Lib.hid (FrdB.mk (w := w) (gr := gr) (W := W) (H := H) (N := k) (U := U) (ds := ds) (k := j + 1) (fs := fs ++ [(dl, Pak.pixels (lst rows))]) (by rw [HROWS.out]; exact HEQ2.out) (by rw [List.length_set]; exact B9.len) (by rw [List.length_append, hfl]; rfl) hmf2 hput
           (((B9.str.setCell (hnu _ _) _).setCell (hnu _ _) _).setCell (hnu _ _) _) B9.ne
           (cell_set_other _ (HNG.out _ _) (cell_set_other _ (HNG.out _ _) (cell_set_other _ (HNG.out _ _) B9.r1))) (cell_set_other _ (HNG.out _ _) (cell_set_other _ (HNG.out _ _) (cell_set_other _ (HNG.out _ _) B9.r2)))
           (((B9.bel.setCell (hwb _) _).setCell (hwb _) _).setCell (hwb _) _))
          clear B9 hoff hput hmf hmf2 hdel hnu hwb hfl hx0 hx1 hx2 fx0 fx1 fx2
          go_wp2_with fail
          go_roundw
          case rel => exact ⟨j + 1, _, _, hlt, by go_num, rfl, rfl, HN3.out⟩
          case measure => simp [intOf]; omega
        ·have hjk : j = k := by omega
         subst hjk
         have heq := F.eq
         have hde : ds.drop j = [] := List.drop_eq_nil_of_le (by rw [HDL.out]; exact Nat.le_refl _)
         rw [hde] at heq
         replace heq : (.ok (fs ++ []) : Except Nat (List Film.F)) = U := heq
         rw [List.append_nil] at heq
         have hR := HRU.out
         rw [← heq] at hR
         replace hR : R = .ok (W, H, lp, fs) := hR
         have hmf := F.mf
         rw [hde] at hmf
         replace hmf : ms.map (·.f) = fs.map (Film.toFr W H) ++ [] := hmf
         rw [List.append_nil] at hmf
         have HRE := Lib.hid hR
         have HMF := Lib.hid hmf
         have HF := Lib.hid F
         clear heq hR hmf F hde
         go_wp2_with fail
         refine bodyPost_ret (v := .tuple #[.slice (some ⟨gv, ov, none⟩) j cv, .int .i64 lp, .nilIface]) (by simp [results, Tryz.results7, go_sem]) rfl ⟨HF.out.bel, ?_⟩
         rw [HRE.out]
         refine ⟨some ⟨gv, ov, none⟩, cv, ms, by rw [HF.out.len], HMF.out, ?_⟩
         rw [HF.out.len]
         exact ⟨HF.out.frs.own.mono (by have := HWG.out; omega), HF.out.frs.px, HF.out.frs.off⟩
end Go.Proofs.YtkegkelaffohjaaGreatDoor
