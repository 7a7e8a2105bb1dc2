/- LayerHidden: the law's walk. -/
import Derived.Test.YtfadnkfceggjaaaDoorTame
namespace Go.Proofs.YtfadnkfceggjaaaDoor
open Go Go.RowKit

namespace Lay
theorem set_split (ls : List Layer) (k : Nat) (hk : k < ls.length) (l : Layer) : ls.set k l = ls.take k ++ l :: ls.drop (k + 1) := by
  rw [List.set_eq_take_append_cons_drop, if_pos hk]
theorem flat_set_hidden (ls : List Layer) (k : Nat) (hk : k < ls.length) (l : Layer) (h : l.hidden = true) (W H : Nat) : flat (ls.set k l) W H = flat (ls.eraseIdx k) W H := by
  rw [set_split ls k hk, List.eraseIdx_eq_take_drop_succ, flat_hidden _ _ _ h]
theorem flat_set_zero (ls : List Layer) (k : Nat) (hk : k < ls.length) (l : Layer) (h : l.opacity = 0) (W H : Nat) : flat (ls.set k l) W H = flat (ls.eraseIdx k) W H := by
  rw [set_split ls k hk, List.eraseIdx_eq_take_drop_succ, flat_zero _ _ _ h]
theorem Good.set_ {W H : Int} {ls : List Layer} (h : Good W H ls) (k : Nat) (hk : k < ls.length) (l : Layer) (hn : l.name = ls[k].name)
    (h2 : isName l.name = true ∧ nearP l.x = true ∧ nearP l.y = true ∧ opacP l.opacity = true ∧ modeP l.mode = true ∧ rightL l = true) : Good W H (ls.set k l) := by
  refine h.congr (by simp) fun j hj => ?_
  by_cases e : j = k
  · subst e
    simpa using ⟨hn, h2⟩
  · rw [List.getElem_set_ne (by omega)]
    exact ⟨rfl, h.all _ (List.getElem_mem hj)⟩
end Lay
theorem lsOf_setAt {ns ms : List LM} (h : lsOf ns = lsOf ms) (k : Nat) (m : LM) : lsOf (ns.set k m) = (lsOf ms).set k m.l := by rw [← h]; simp [lsOf, List.map_set]
theorem lsOf_at {ns ms : List LM} (h : lsOf ns = lsOf ms) (k : Nat) (hk : k < ns.length) (hm : k < ms.length) : ns[k].l = ms[k].l := by
  rw [← lsOf_get ns k hk, ← lsOf_get ms k hm]
  simp only [h]
/-- The layer at k as it is in a good document. -/
theorem good_at {W H : Int} {ms : List LM} (h : Lay.Good W H (lsOf ms)) (k : Nat) (hk : k < ms.length) :
    Lay.isName ms[k].l.name = true ∧ Lay.nearP ms[k].l.x = true ∧ Lay.nearP ms[k].l.y = true ∧ Lay.opacP ms[k].l.opacity = true ∧ Lay.modeP ms[k].l.mode = true ∧ Lay.rightL ms[k].l = true :=
  h.all _ (List.mem_map.2 ⟨ms[k], List.getElem_mem hk, rfl⟩)
def hideL (l : Lay.Layer) : Lay.Layer := { l with hidden := true }
def zeroL (l : Lay.Layer) : Lay.Layer := { l with opacity := 0 }
theorem good_hide {W H : Int} {ms : List LM} (h : Lay.Good W H (lsOf ms)) (k : Nat) (hk : k < ms.length) : Lay.Good W H ((lsOf ms).set k (hideL ms[k].l)) :=
  h.set_ k (by rw [lsOf_len]; exact hk) _ (by rw [lsOf_get ms k hk]; rfl) (good_at h k hk)
theorem good_zero {W H : Int} {ms : List LM} (h : Lay.Good W H (lsOf ms)) (k : Nat) (hk : k < ms.length) : Lay.Good W H ((lsOf ms).set k (zeroL ms[k].l)) := by
  obtain ⟨h1, h2, h3, _, h5, h6⟩ := good_at h k hk
  exact h.set_ k (by rw [lsOf_len]; exact hk) _ (by rw [lsOf_get ms k hk]; rfl) ⟨h1, h2, h3, rfl, h5, h6⟩
theorem good_erase {W H : Int} {ms : List LM} (h : Lay.Good W H (lsOf ms)) (k : Nat) : Lay.Good W H ((lsOf ms).eraseIdx k) := h.erase k

/-- A document of one's own that stands. -/
structure DS (B : Nat) (w : World) (g : Nat) (W H : Int) (a off n c : Nat) (ns : List LM) : Prop where
  b : Blk w g 33 #[.int .i64 W, .int .i64 H, .slice (some ⟨a, off, none⟩) n c]
  L : LaysO w B (.slice (some ⟨a, off, none⟩) n c) ns
theorem DS.step {B : Nat} {w w' : World} {g : Nat} {W H : Int} {a off n c : Nat} {ns : List LM} (h : DS B w g W H a off n c ns) (hb : Below w.heap.size w w') : DS B w' g W H a off n c ns := ⟨h.b.below hb h.b.lt, h.L.below hb (Nat.le_refl _)⟩

theorem LaysO.hide {w : World} {base g off n c : Nat} {ns : List LM} (h : LaysO w base (.slice (some ⟨g, off, none⟩) n c) ns) (k : Nat) (hk : k < ns.length) :
    LaysO (w.setCell ⟨g, off + k * 9 + 3, none⟩ (.bool true)) base (.slice (some ⟨g, off, none⟩) n c) (ns.set k ⟨hideL ns[k].l, ns[k].A, ns[k].n, ns[k].c⟩) :=
  h.set_ k hk 3 (by omega) _ _ rfl (h.px ns[k] (List.getElem_mem hk)) (h.off ns[k] (List.getElem_mem hk))
theorem LaysO.zero {w : World} {base g off n c : Nat} {ns : List LM} (h : LaysO w base (.slice (some ⟨g, off, none⟩) n c) ns) (k : Nat) (hk : k < ns.length) :
    LaysO (w.setCell ⟨g, off + k * 9 + 4, none⟩ (.int .i64 0)) base (.slice (some ⟨g, off, none⟩) n c) (ns.set k ⟨zeroL ns[k].l, ns[k].A, ns[k].n, ns[k].c⟩) :=
  h.set_ k hk 4 (by omega) _ _ rfl (h.px ns[k] (List.getElem_mem hk)) (h.off ns[k] (List.getElem_mem hk))
theorem flatten_as (W H : Int) (A : Option Addr) (n c : Nat) (ms : List LM) (w : World) (hL : Lays w w.heap.size A n ms) (hG : Lay.Good W H (lsOf ms)) (L : List Px) (hq : Lay.flat (lsOf ms) W.toNat H.toNat = L) :
    Calls Tryd.prog 13 #[.agg #[.int .i64 W, .int .i64 H, .slice A n c]] w
      fun e w' => ∃ A' c', e = .returned (.tuple #[.agg #[.int .i64 W, .int .i64 H, .slice A' L.length c'], .nilIface]) ∧ Own w' w.heap.size 4 (.slice A' L.length c') L.length (pxCells L) ∧ Below w.heap.size w w' := by
  subst hq
  exact flatten_good W H A n c ms w hL hG
theorem run_fault_code (a b : Int) (w : World) : (Instr.field 28 (.agg #[.int .i64 a, .int .i64 b]) 0).run Tryd.prog w = .ok (.int .i64 a) w := by kernel_rfl

set_option maxRecDepth 100000 in
set_option maxHeartbeats 4000000 in
theorem layerHidden_any (W H : Int) (A : Option Addr) (n c : Nat) (ms : List LM) (s : ByteArray) (w : World) (hL : Lays w w.heap.size A n ms) (hn : n ≤ 9223372036854775807) :
    Calls Tryd.prog 3 #[.agg #[.int .i64 W, .int .i64 H, .slice A n c], .string s] w fun e w' => e = .returned (.bool true) ∧ Below w.heap.size w w' := by
  obtain ⟨ck, hck⟩ : ∃ f, f = Lay.check W H (lsOf ms) := ⟨_, rfl⟩
  have HCK := Lib.hid hck
  clear hck
  have hlen := hL.len
  have HLEN := Lib.hid hlen
  clear hlen
  have hfd := run_fault_code
  go_enter Tryd.func3, Tryd.ntmps3
  go_wp2_with fail
  refine (still_any _).mono ?_
  rintro e w1 ⟨rfl, hb1⟩
  have B := (Blk.new w 24 #[.int .i64 W, .int .i64 H, .slice A n c] rfl).below hb1 (by simp)
  have hb := Below.trans (show Below w.heap.size w (w.alloc (.cells #[.int .i64 W, .int .i64 H, .slice A n c] 24)) by go_grown) (hb1.mono (by simp))
  have cB := B.cell
  clear hb1
  go_wp2_with fail
  refine (tame_some W H A n c ms _ (hL.here hb (Nat.le_refl _) hb.size) hn).mono ?_
  rintro e w2 ⟨⟨tb, rfl⟩, hb2⟩
  have B2 := B.below hb2 B.lt
  have hbw2 := hb.trans (hb2.mono hb.size)
  have cB2 := B2.cell
  clear cB hb2 hb B
  cases tb with
  | false =>
    go_wp2_with fail
    go_ret
    exact ⟨rfl, hbw2⟩
  | true =>
    go_wp2_with fail
    refine (checkOf_any W H A n c ms _ (hL.here hbw2 (Nat.le_refl _) hbw2.size)).mono ?_
    rw [← HCK.out]
    rintro e w3 ⟨rfl, hb3⟩
    have B3 := B2.below hb3 B2.lt
    have hbw3 := hbw2.trans (hb3.mono hbw2.size)
    have cB3 := B3.cell
    unfold faultV
    clear cB2 hb3 hbw2 B2
    by_cases h0 : ck.1 = 0
    · have HG := Lib.hid (show Lay.Good W H (lsOf ms) from Lay.good_of (by rw [← HCK.out]; exact h0))
      obtain ⟨f1, f2⟩ := ck
      simp only at h0
      subst h0
      go_wp2_with fail
      have hn8 : n ≤ 4096 := by have := HG.out.n; rw [lsOf_len, ← HLEN.out] at this; omega
      refine (refFind_any W H A n c ms s _ (hL.here hbw3 (Nat.le_refl _) hbw3.size) (by omega)).mono ?_
      rintro e w4 ⟨rfl, hb4⟩
      have B4 := B3.below hb4 B3.lt
      have hbw4 := hbw3.trans (hb4.mono hbw3.size)
      have cB4 := B4.cell
      clear cB3 hb4 hbw3 B3
      have hfl := Lay.find_lt (lsOf ms) s
      obtain ⟨r, hr⟩ : ∃ r, r = Lay.find (lsOf ms) s := ⟨_, rfl⟩
      rw [← hr] at hfl ⊢
      rw [lsOf_len, ← HLEN.out] at hfl
      obtain ⟨hf1, hf2⟩ := hfl
      have HR := Lib.hid hr
      clear hr
      by_cases hrn : r < 0
      · go_wp2_with fail
        go_ret
        exact ⟨rfl, hbw4⟩
      · obtain ⟨k, rfl⟩ : ∃ k : Nat, r = k := ⟨r.toNat, by omega⟩
        have hkn : k < n := by omega
        have hkm : k < ms.length := by rw [← HLEN.out]; exact hkn
        have hok := layOK_of HG.out hL
        have hpm : ∀ m ∈ ms, m.n ≤ 1048576 := by
          intro m hm
          have h := hok m hm
          obtain ⟨h1, h2⟩ := h.wd
          obtain ⟨h3, h4⟩ := h.hg
          have h5 := h.n
          obtain ⟨z1, z2⟩ := mul_bounds (show 0 ≤ m.l.wide by omega) h2 (show 0 ≤ m.l.high by omega) h4
          omega
        have HPM := Lib.hid hpm
        have HKM := Lib.hid hkm
        clear hok hpm hkm hrn
        have k0 : (0 : Int) ≤ (k : Int) := by omega
        have k1 : (k : Int) < (n : Int) := by omega
        go_wp2_with fail
        refine (docOf_any W H A n c ms _ (hL.here hbw4 (Nat.le_refl _) hbw4.size) hn8 HPM.out).mono ?_
        rintro e w5 ⟨A5, c5, na, rfl, hO5, hs5, hi5, hb5⟩
        have B5 := B4.below hb5 B4.lt
        have hbw5 := hbw4.trans (hb5.mono hbw4.size)
        have cB5 := B5.cell
        have hna : na.length = n := by rw [same_lays hs5, HLEN.out]
        obtain ⟨ga, oa, rfl, hga1, hga2⟩ := hO5.own.addr (by omega)
        rw [hna] at hO5 ⊢
        have HNA := Lib.hid hna
        have HS5 := Lib.hid hs5
        have hka : k < na.length := by omega
        have HKA := Lib.hid hka
        have O5 := Lib.hid hO5
        have hk5 : k < na.length := by omega
        have hOx := hO5.alloc (.cells #[.int .i64 W, .int .i64 H, .slice (some ⟨ga, oa, none⟩) n c5] 33)
        have hf5 := (hOx.cell k hk5 3 (by omega)).2
        have hc5 := (hOx.cell k hk5 3 (by omega)).1
        simp only [layCs, List.getElem?_cons_zero, List.getElem?_cons_succ] at hc5
        have X5 := Lib.hid (hO5.hide k hk5)
        generalize na[k].l.hidden = old5 at hc5
        have HS5' := Lib.hid (show lsOf (na.set k ⟨hideL na[k].l, na[k].A, na[k].n, na[k].c⟩) = (lsOf ms).set k (hideL (ms[k]'HKM.out).l) by
          rw [lsOf_setAt HS5.out, ← lsOf_at HS5.out k hk5 HKM.out])
        generalize na.set k ⟨hideL na[k].l, na[k].A, na[k].n, na[k].c⟩ = na' at X5 HS5'
        have hl4 := B4.lt
        have hna1 : ¬ ga = w.heap.size := by omega
        have hna2 : ¬ w.heap.size = ga := by omega
        have hl5 := B5.lt
        clear cB4 hi5 hOx
        go_wp2_with fail
        obtain ⟨w6, hw6⟩ : ∃ w6, w6 = (w5.setCell ⟨ga, oa + k * 9 + 3, none⟩ (.bool true)).alloc (.cells #[.int .i64 W, .int .i64 H, .slice (some ⟨ga, oa, none⟩) n c5] 33) := ⟨_, rfl⟩
        have B6 : Blk w6 w.heap.size 24 #[.int .i64 W, .int .i64 H, .slice A n c] := by rw [hw6]; exact (B5.far (by simp; omega) _).alloc _
        have D6 : DS w4.heap.size w6 w5.heap.size W H ga oa n c5 na' := by rw [hw6]; exact ⟨Blk.new _ _ _ (by simp [World.setCell]), X5.out.alloc _⟩
        have hbw6 : Below w.heap.size w w6 := by rw [hw6]; exact (hbw5.setCell (by show w.heap.size ≤ ga; omega) _).alloc (by have := hbw5.size; simp [World.setCell]; omega) _
        have cB6 := B6.cell
        rw [← hw6]
        clear hw6 X5 hf5 hc5 cB5 hO5 hb5 B5 hbw5 hs5 hga2
        go_wp2_with fail
        refine (docOf_any W H A n c ms _ (hL.here hbw6 (Nat.le_refl _) hbw6.size) hn8 HPM.out).mono ?_
        rintro e w7 ⟨A7, c7, nb, rfl, hO7, hs7, hi7, hb7⟩
        have B7 := B6.below hb7 B6.lt
        have hbw7 := hbw6.trans (hb7.mono hbw6.size)
        have cB7 := B7.cell
        have hnb : nb.length = n := by rw [same_lays hs7, HLEN.out]
        obtain ⟨gb, ob, rfl, hgb1, hgb2⟩ := hO7.own.addr (by omega)
        rw [hnb] at hO7 ⊢
        have hk7 : k < nb.length := by omega
        have HS7 := Lib.hid hs7
        have hOx := hO7.alloc (.cells #[.int .i64 W, .int .i64 H, .slice (some ⟨gb, ob, none⟩) n c7] 33)
        have hf7 := (hOx.cell k hk7 4 (by omega)).2
        have hc7 := (hOx.cell k hk7 4 (by omega)).1
        simp only [layCs, List.getElem?_cons_zero, List.getElem?_cons_succ] at hc7
        have X7 := Lib.hid (hO7.zero k hk7)
        generalize nb[k].l.opacity = old7 at hc7
        have HS7' := Lib.hid (show lsOf (nb.set k ⟨zeroL nb[k].l, nb[k].A, nb[k].n, nb[k].c⟩) = (lsOf ms).set k (zeroL (ms[k]'HKM.out).l) by
          rw [lsOf_setAt HS7.out, ← lsOf_at HS7.out k hk7 HKM.out])
        generalize nb.set k ⟨zeroL nb[k].l, nb[k].A, nb[k].n, nb[k].c⟩ = nb' at X7 HS7'
        have hl6 := B6.lt
        have hnb1 : ¬ gb = w.heap.size := by omega
        have hnb2 : ¬ w.heap.size = gb := by omega
        have hl7 := B7.lt
        clear cB6 hi7 hOx
        go_wp2_with fail
        obtain ⟨w8, hw8⟩ : ∃ w8, w8 = (w7.setCell ⟨gb, ob + k * 9 + 4, none⟩ (.int .i64 0)).alloc (.cells #[.int .i64 W, .int .i64 H, .slice (some ⟨gb, ob, none⟩) n c7] 33) := ⟨_, rfl⟩
        have hb68 : Below w6.heap.size w6 w8 := by rw [hw8]; exact (hb7.setCell hgb1 _).alloc (by have := hb7.size; simp [World.setCell]; omega) _
        have B8 := B6.below hb68 B6.lt
        have E8 : DS w6.heap.size w8 w7.heap.size W H gb ob n c7 nb' := by rw [hw8]; exact ⟨Blk.new _ _ _ (by simp [World.setCell]), X7.out.alloc _⟩
        have D8 := D6.step hb68
        have hbw8 : Below w.heap.size w w8 := hbw6.trans (hb68.mono hbw6.size)
        have cB8 := B8.cell
        rw [← hw8]
        clear hw8 X7 hf7 hc7 cB7 hO7 hb7 B7 hbw7 hs7 hgb2 D6 B6 hbw6 hb68
        go_wp2_with fail
        refine (docOf_any W H A n c ms _ (hL.here hbw8 (Nat.le_refl _) hbw8.size) hn8 HPM.out).mono ?_
        rintro e w9 ⟨A9, c9, nd, rfl, hO9, hs9, hi9, hb9⟩
        have hnd : nd.length = n := by rw [same_lays hs9, HLEN.out]
        have hL9 := hO9.lays
        have HL9 := Lib.hid hL9
        have HS9 := Lib.hid hs9
        have D9 := D8.step hb9
        have E9 := E8.step hb9
        have hbw9 := hbw8.trans (hb9.mono hbw8.size)
        rw [hnd]
        have HND := Lib.hid hnd
        clear hO9 hs9 hi9 hb9 D8 E8 B8 hbw8 cB8 hL9 hnd
        go_wp2_with fail
        refine (remove_any W H A9 n c9 k s nd _ (by rw [← HND.out]; exact HL9.out) (by rw [HS9.out]; exact HG.out) (by rw [HS9.out]; exact HR.out.symm) hkn).mono ?_
        rintro e w10 ⟨gc, oc, cc, nc, rfl, hO10, hs10, hb10⟩
        rw [HS9.out] at hs10
        have D10 := D9.step hb10
        have E10 := E9.step hb10
        have hbw10 := hbw9.trans (hb10.mono hbw9.size)
        have HS10 := Lib.hid hs10
        have O10 := hO10
        obtain ⟨L, hLq⟩ : ∃ L, L = Lay.flat ((lsOf ms).eraseIdx k) W.toNat H.toNat := ⟨_, rfl⟩
        have hkL : k < (lsOf ms).length := by rw [lsOf_len]; exact HKM.out
        have QA := Lib.hid (show Lay.flat (lsOf na') W.toNat H.toNat = L by rw [HS5'.out, hLq]; exact Lay.flat_set_hidden _ _ hkL _ rfl _ _)
        have QB := Lib.hid (show Lay.flat (lsOf nb') W.toNat H.toNat = L by rw [HS7'.out, hLq]; exact Lay.flat_set_zero _ _ hkL _ rfl _ _)
        have QC := Lib.hid (show Lay.flat (lsOf nc) W.toNat H.toNat = L by rw [HS10.out, hLq])
        have hLn : L.length ≤ 1048576 := by
          rw [hLq, Lay.flat_length]
          obtain ⟨a1, a2⟩ := sideB_true HG.out.wd
          obtain ⟨a3, a4⟩ := sideB_true HG.out.hg
          have := Nat.mul_le_mul (show H.toNat ≤ 256 by omega) (show W.toNat ≤ 256 by omega)
          omega
        have GA := Lib.hid (show Lay.Good W H (lsOf na') by rw [HS5'.out]; exact good_hide HG.out k HKM.out)
        have GB := Lib.hid (show Lay.Good W H (lsOf nb') by rw [HS7'.out]; exact good_zero HG.out k HKM.out)
        have GC := Lib.hid (show Lay.Good W H (lsOf nc) by rw [HS10.out]; exact good_erase HG.out k)
        clear hLq hkL hO10 hs10 hb10 D9 E9 hbw9
        have cD10 := D10.b.cell
        have lD10 := D10.b.lt
        go_wp2_with fail
        obtain ⟨w11, hw11⟩ : ∃ w11, w11 = w10.alloc (.cells #[.int .i64 W, .int .i64 H, .slice (some ⟨gc, oc, none⟩) nc.length cc] 33) := ⟨_, rfl⟩
        have hb1011 : Below w10.heap.size w10 w11 := by rw [hw11]; exact (Below.refl _ _).alloc (Nat.le_refl _) _
        have F11 : DS w9.heap.size w11 w10.heap.size W H gc oc nc.length cc nc := by rw [hw11]; exact ⟨Blk.new _ _ _ rfl, O10.alloc _⟩
        have D11 := D10.step hb1011
        have E11 := E10.step hb1011
        have hbw11 := hbw10.trans (hb1011.mono hbw10.size)
        rw [← hw11]
        clear hw11 hb1011 O10 D10 E10 hbw10 cD10 lD10
        refine (flatten_as W H _ n c5 na' _ D11.L.lays GA.out L QA.out).mono ?_
        rintro e w12 ⟨Ap, cp, rfl, hOp, hb12⟩
        have E12 := E11.step hb12
        have F12 := F11.step hb12
        have hbw12 := hbw11.trans (hb12.mono hbw11.size)
        have cE := E12.b.cell
        have lE := E12.b.lt
        have RP := hOp.reads.2
        clear hOp hb12 D11 E11 F11 hbw11
        go_wp2_with fail
        obtain ⟨w13, hw13⟩ : ∃ w13, w13 = w12.alloc (.cells #[.int .i64 W, .int .i64 H, .slice Ap L.length cp] 37) := ⟨_, rfl⟩
        have hb13 : Below w12.heap.size w12 w13 := by rw [hw13]; exact (Below.refl _ _).alloc (Nat.le_refl _) _
        have P13 : Blk w13 w12.heap.size 37 #[.int .i64 W, .int .i64 H, .slice Ap L.length cp] := by rw [hw13]; exact Blk.new _ _ _ rfl
        have E13 := E12.step hb13
        have F13 := F12.step hb13
        have RP13 := (RP.below hb13 (Nat.le_refl _)).more hb13.size
        have hbw13 := hbw12.trans (hb13.mono hbw12.size)
        rw [← hw13]
        clear hw13 hb13 RP E12 F12 hbw12 cE lE
        refine (flatten_as W H _ n c7 nb' _ E13.L.lays GB.out L QB.out).mono ?_
        rintro e w14 ⟨Aq, cq, rfl, hOq, hb14⟩
        have F14 := F13.step hb14
        have P14 := P13.below hb14 P13.lt
        have RP14 := (RP13.below hb14 (Nat.le_refl _)).more hb14.size
        have hbw14 := hbw13.trans (hb14.mono hbw13.size)
        have cF := F14.b.cell
        have lF := F14.b.lt
        have RQ := hOq.reads.2
        clear hOq hb14 E13 F13 P13 RP13 hbw13
        go_wp2_with fail
        obtain ⟨w15, hw15⟩ : ∃ w15, w15 = w14.alloc (.cells #[.int .i64 W, .int .i64 H, .slice Aq L.length cq] 37) := ⟨_, rfl⟩
        have hb15 : Below w14.heap.size w14 w15 := by rw [hw15]; exact (Below.refl _ _).alloc (Nat.le_refl _) _
        have Q15 : Blk w15 w14.heap.size 37 #[.int .i64 W, .int .i64 H, .slice Aq L.length cq] := by rw [hw15]; exact Blk.new _ _ _ rfl
        have F15 := F14.step hb15
        have P15 := P14.below hb15 P14.lt
        have RP15 := (RP14.below hb15 (Nat.le_refl _)).more hb15.size
        have RQ15 := (RQ.below hb15 (Nat.le_refl _)).more hb15.size
        have hbw15 := hbw14.trans (hb15.mono hbw14.size)
        rw [← hw15]
        clear hw15 hb15 RQ RP14 F14 P14 hbw14 cF lF
        refine (flatten_as W H _ nc.length cc nc _ F15.L.lays GC.out L QC.out).mono ?_
        rintro e w16 ⟨Ar, cr, rfl, hOr, hb16⟩
        have P16 := P15.below hb16 P15.lt
        have Q16 := Q15.below hb16 Q15.lt
        have RP16 := (RP15.below hb16 (Nat.le_refl _)).more hb16.size
        have RQ16 := (RQ15.below hb16 (Nat.le_refl _)).more hb16.size
        have hbw16 := hbw15.trans (hb16.mono hbw15.size)
        have RR := hOr.reads.2
        have cP := P16.cell
        have lP := P16.lt
        have cQ := Q16.cell
        have lQ := Q16.lt
        clear hOr hb16 F15 P15 Q15 RP15 RQ15 hbw15
        go_wp2_with fail
        obtain ⟨w17, hw17⟩ : ∃ w17, w17 = w16.alloc (.cells #[.int .i64 W, .int .i64 H, .slice Ar L.length cr] 37) := ⟨_, rfl⟩
        have hb17 : Below w16.heap.size w16 w17 := by rw [hw17]; exact (Below.refl _ _).alloc (Nat.le_refl _) _
        have R17 : Blk w17 w16.heap.size 37 #[.int .i64 W, .int .i64 H, .slice Ar L.length cr] := by rw [hw17]; exact Blk.new _ _ _ rfl
        have Q17 := Q16.below hb17 Q16.lt
        have RP17 := (RP16.below hb17 (Nat.le_refl _)).more hb17.size
        have RQ17 := (RQ16.below hb17 (Nat.le_refl _)).more hb17.size
        have RR17 := (RR.below hb17 (Nat.le_refl _)).more hb17.size
        have hbw17 := hbw16.trans (hb17.mono hbw16.size)
        rw [← hw17]
        clear hw17 hb17 RP16 RQ16 RR P16 Q16 hbw16 cP lP cQ lQ
        refine (samePicture_same W H Ap L.length cp Ar cr L _ RP17 RR17 hLn).mono ?_
        rintro e w18 ⟨rfl, hb18⟩
        have Q18 := Q17.below hb18 Q17.lt
        have R18 := R17.below hb18 R17.lt
        have RQ18 := (RQ17.below hb18 (Nat.le_refl _)).more hb18.size
        have RR18 := (RR17.below hb18 (Nat.le_refl _)).more hb18.size
        have hbw18 := hbw17.trans (hb18.mono hbw17.size)
        have cQ := Q18.cell
        have cR := R18.cell
        clear hb18 RP17 RQ17 RR17 Q17 R17 hbw17
        go_wp2_with fail
        refine (samePicture_same W H Aq L.length cq Ar cr L _ RQ18 RR18 hLn).mono ?_
        rintro e w19 ⟨rfl, hb19⟩
        have hbw19 := hbw18.trans (hb19.mono hbw18.size)
        go_wp2_with fail
        go_ret
        exact ⟨rfl, hbw19⟩
    · have h1 : 0 < (ck.1 : Int) := by omega
      obtain ⟨f1, f2⟩ := ck
      simp only at h0 h1
      go_wp2_with fail
      go_ret
      exact ⟨rfl, hbw3⟩
end Go.Proofs.YtfadnkfceggjaaaDoor
