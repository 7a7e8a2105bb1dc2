/- huff.Tree.Next: the walk. -/
import Derived.Test.YtkegkelaffohjaaGreatDoorQCFilmTwiceHufCodes
namespace Go.Proofs.YtkegkelaffohjaaGreatDoor
open Go Go.RowKit
structure RdB (w : World) (g : Nat) (s : ByteArray) (bs : List Bool) : Prop where
 ex : ∃ p : Nat, Blk w g 237 #[.string s, .int .i64 p] ∧ p ≤ 8 * s.size ∧ bs = (Bit.bits (lst s)).drop p
theorem RdB.len {w : World} {g : Nat} {s : ByteArray} {bs : List Bool} (h : RdB w g s bs) : bs.length ≤ 8 * s.size := by
 obtain ⟨p, _, h2, rfl⟩ := h.ex
 rw [List.length_drop, Bit.bits_length, lst_length]
 omega
theorem RdB.keeps {w w' : World} {g : Nat} {s : ByteArray} {bs : List Bool} {T : Nat → Prop} (h : RdB w g s bs) (k : Keeps T w w') (hn : ¬ T g) : RdB w' g s bs := by
 obtain ⟨p, h1, h2, h3⟩ := h.ex
 exact ⟨p, h1.keeps k hn, h2, h3⟩
theorem rget_yes (g k : Nat) (s : ByteArray) (bs : List Bool) (w : World) (h : RdB w g s bs) (hs : s.size ≤ 1099511627776) (hk : k ≤ 32) (hl : k ≤ bs.length) :
  Calls Tryz.prog 174 #[.pointer (some ⟨g, 0, none⟩), .int .i64 k] w fun e w' => e = .returned (.tuple #[.int .u32 (Bit.val (bs.take k)), .nilIface]) ∧ RdB w' g s (bs.drop k) ∧ Keeps (fun x => x = g) w w' := by
 obtain ⟨p, h1, h2, rfl⟩ := h.ex
 rw [List.length_drop, Bit.bits_length, lst_length] at hl
 refine (get_any g s p k w h1 hs (by omega) hk).mono ?_
 rintro e w' ⟨rfl, hG⟩
 exact ⟨rfl, ⟨p + k, hG.blk, by omega, by rw [List.drop_drop]⟩, hG.keeps⟩
theorem rget_no (g k : Nat) (s : ByteArray) (bs : List Bool) (E : Nat → Addr) (w : World) (hE : Er4 w E) (h : RdB w g s bs) (hs : s.size ≤ 1099511627776) (hk : k ≤ 32) (hl : bs.length < k) :
  Calls Tryz.prog 174 #[.pointer (some ⟨g, 0, none⟩), .int .i64 k] w fun e w' => e = .returned (.tuple #[.int .u32 0, errV (E 0)]) ∧ ∃ q, w' = w.drewN q := by
 obtain ⟨p, h1, h2, rfl⟩ := h.ex
 rw [List.length_drop, Bit.bits_length, lst_length] at hl
 exact get_none g s p k E w hE h1 hs h2 (by omega) hk
def NextR (w : World) (g : Nat) (s : ByteArray) (E : Nat → Addr) (R : Option (Nat × List Bool)) (e : Ending) (w' : World) : Prop :=
 Keeps (fun x => x = g) w w' ∧ match R with
 | none => e = .returned (.tuple #[.int .i64 0, errV (E 0)])
 | some q => e = .returned (.tuple #[.int .i64 q.1, .nilIface]) ∧ RdB w' g s q.2
theorem Er4.keeps {w w' : World} {E : Nat → Addr} {g : Nat} (h : Er4 w E) (k : Keeps (fun x => x = g) w w') (hG : 15 ≤ g) (hl : g < w.heap.size) : Er4 w' E := by
 have hb : Below 15 w w' := k.below (fun x hx => by rw [hx]; exact hG) (by omega)
 exact ⟨bcell_ hb (by decide) h.text, bcell_ hb (by decide) h.bound, bcell_ hb (by decide) h.shape, bcell_ hb (by decide) h.sum⟩
theorem u32_bit (b : Bool) : Bit.val [b] = b.toNat := by cases b <;> rfl
theorem i64_or_bit (c : Nat) (b : Bool) (hc : c < 1073741824) : bits .or .i64 ((2 * c : Nat) : Int) ((b.toNat : Nat) : Int) = ((2 * c + b.toNat : Nat) : Int) := by
 have hb : b.toNat < 2 := by cases b <;> decide
 have hj : (2 * c) ||| b.toNat = 2 * c + b.toNat := nat_join 1 (2 * c) b.toNat (by omega) (by omega)
 have e : ∀ a : Nat, a < 9223372036854775808 → (BitVec.ofInt 64 (a : Int)).toNat = a := fun a ha => by
  rw [BitVec.ofInt_natCast, BitVec.toNat_ofNat]
  exact Nat.mod_eq_of_lt (by omega)
 show IntKind.i64.wrap ((BitVec.ofInt 64 ((2 * c : Nat) : Int) ||| BitVec.ofInt 64 ((b.toNat : Nat) : Int)).toNat : Int) = _
 rw [BitVec.toNat_or, e _ (by omega), e _ (by omega), hj, IntWalk.i64_in _ (by omega)]
theorem TreeAt.keeps {w w' : World} {B g gt : Nat} {cs sy : List Nat} {v : Value} (h : TreeAt w B gt cs sy v) (k : Keeps (fun x => x = g) w w') (h1 : g ≠ gt) (h2 : v.ownBlock ≠ some g) : TreeAt w' B gt cs sy v :=
 ⟨h.blk.keeps k (fun e => h1 e.symm), h.own.keep k.size (fun y hy => k.block y (h.own.lt y hy).2 (fun e => h2 (by rw [hy, e]))), h.ne, h.bg⟩
set_option maxRecDepth 100000 in
set_option maxHeartbeats 4000000 in
theorem next_any (B g gt : Nat) (l : List Nat) (v : Value) (s : ByteArray) (bs : List Bool) (E : Nat → Addr) (w : World) (hE : Er4 w E) (hT : TreeAt w B gt l (Huf.syms l) v) (hR : RdB w g s bs) (hG : 15 ≤ g) (hgt : g ≠ gt) (hvg : v.ownBlock ≠ some g) (hs : s.size ≤ 1099511627776) (hg : Huf.K l 15 ≤ 2 ^ 15) (hm : l.length ≤ 300) :
  Calls Tryz.prog 178 #[.pointer (some ⟨gt, 0, none⟩), .pointer (some ⟨g, 0, none⟩)] w fun e w' => NextR w g s E (Huf.next l 15 0 0 bs) e w' := by
 obtain ⟨A1, c1, rfl, hc1, hrr⟩ := hT.own.form
 obtain ⟨R, hRe⟩ : ∃ R, R = Huf.next l 15 0 0 bs := ⟨_, rfl⟩
 rw [← hRe]
 have HR0 := Lib.hid hRe
 clear hRe
 go_enter Tryz.func178, Tryz.ntmps178
 go_wp2_with fail
 go_loopw [6, 7, 8, 9] (fun cv fv av nv wr => ∃ (m c : Nat) (b2 : List Bool), m ≤ 15 ∧ nv = .int .i64 (m + 1 : Nat) ∧ cv = .int .i64 (2 * c : Nat) ∧ fv = .int .i64 (2 * Huf.K l m : Nat) ∧ av = .int .i64 (Huf.at_ l m) ∧ Huf.K l m ≤ c ∧ c < 2 ^ m ∧ RdB wr g s b2 ∧ Huf.next l (15 - m) m c b2 = R ∧ Keeps (fun x => x = g) w wr) (fun _ _ _ nv _ => 17 - (intOf nv).toNat)
 case atStart => exact ⟨0, 0, bs, by omega, rfl, rfl, rfl, rfl, Nat.le_refl _, by decide, hR, HR0.out.symm, Keeps.refl _ _⟩
 case round =>
  obtain ⟨m, c, b2, hm15, rfl, rfl, rfl, rfl, hKc, hc2, hRd, hnx, hk⟩ := hrel
  have hTk := hT.keeps hk hgt hvg
  have d16 := hTk.sy
  have hsl : (Huf.syms l).length ≤ 4500 := by
   have := symN_len l 15
   have h2 : 15 * l.length ≤ 15 * 300 := Nat.mul_le_mul_left _ hm
   show (Huf.symN l 15).length ≤ 4500
   omega
  obtain ⟨SL, hSL⟩ : ∃ SL, SL = (Huf.syms l).length := ⟨_, rfl⟩
  obtain ⟨a, ha⟩ : ∃ a, a = Huf.at_ l m := ⟨_, rfl⟩
  have hal : a ≤ SL := by rw [ha, hSL, Huf.syms_length]; exact Huf.at_mono l hm15
  rw [← hSL] at d16 hsl
  rw [← ha]
  have hEr := hE.keeps hk hG (by obtain ⟨p, h1, _⟩ := hR.ex; exact h1.lt)
  have hEk := hEr.text
  have HNX := Lib.hid hnx
  have HSL := Lib.hid hSL
  have HA := Lib.hid ha
  clear hnx hSL ha
  by_cases hm14 : m < 15
  ·by_cases has : a < SL
   ·have hasi : (a : Int) < SL := by omega
    obtain ⟨N, hN⟩ : ∃ N, N = m + 1 := ⟨_, rfl⟩
    have hNm := Lib.hid hN
    have hN15 : N ≤ 15 := by omega
    have hN15i : (N : Int) ≤ 15 := by omega
    rw [← hN]
    have hve : errV (E 0) = .iface 290 (.pointer (some (E 0))) := rfl
    have hat : Huf.at_ l m < (Huf.syms l).length := by rw [← HA.out, ← HSL.out]; exact has
    have HAT := Lib.hid hat
    clear hN hat has
    cases b2 with
    | nil =>
     have hR0 : R = none := by rw [← HNX.out, Huf.next_nil]
     have HRN := Lib.hid hR0
     clear hR0
     go_wp2_with fail
     refine (rget_no g 1 s [] E _ hEr hRd hs (by omega) (by simp)).mono ?_
     rw [hve]
     rintro e w2 ⟨rfl, q, rfl⟩
     go_wp2_with fail
     go_ret2
     refine ⟨hk.drewN q, ?_⟩
     rw [HRN.out]
     rfl
    | cons b r =>
     have hval : Bit.val ((b :: r).take 1) = b.toNat := by cases b <;> rfl
     obtain ⟨qa, oa, rfl, _⟩ := hT.own.reads.2.addr (by rw [← HSL.out]; omega)
     have hnx := HNX.out
     rw [show 15 - m = (15 - (m + 1)) + 1 by omega, Huf.next_some _ _ _ _ _ _ HAT.out] at hnx
     have HN2 := Lib.hid hnx
     clear hnx
     have h2m : (2 : Nat) ^ m ≤ 2 ^ 14 := Nat.pow_le_pow_right (by omega) (by omega)
     have hor := i64_or_bit c b (by omega)
     have hcnt := hTk.cnt N (by omega)
     obtain ⟨y, hy⟩ : ∃ y, y = l.count N := ⟨_, rfl⟩
     have hyl : y ≤ 300 := by
      have := List.count_le_length (a := N) (l := l)
      omega
     have hKm : Huf.K l m ≤ 16384 := by
      have := Huf.K_le hg (n := m) (by omega)
      omega
     have hb2' : b.toNat ≤ 1 := by cases b <;> decide
     obtain ⟨C3, hC3⟩ : ∃ C3, C3 = 2 * c + b.toNat := ⟨_, rfl⟩
     obtain ⟨F, hF⟩ : ∃ F, F = 2 * Huf.K l m := ⟨_, rfl⟩
     obtain ⟨C2, hC2⟩ : ∃ C2, C2 = 2 * c := ⟨_, rfl⟩
     have hFC : F ≤ C3 := by omega
     have hC3b : C3 ≤ 65536 := by omega
     have hFb : F ≤ 65536 := by omega
     rw [← hC3, ← hC2] at hor
     rw [← hy] at hcnt
     rw [← hC3, ← hF] at HN2
     rw [← hC2, ← hF]
     have HC3 := Lib.hid hC3
     have HF := Lib.hid hF
     have HY := Lib.hid hy
     have HC2 := Lib.hid hC2
     clear hy hC3 hF hC2 HNX
     go_wp2_with fail
     refine (rget_yes g 1 s (b :: r) _ hRd hs (by omega) (by simp)).mono ?_
     rw [hval]
     rintro e w2 ⟨rfl, hRd2, hk2⟩
     have hk3 := hk.trans hk2 (fun x _ h => h)
     have hT2 := hTk.keeps hk2 hgt hvg
     have d16 := hT2.sy
     rw [← HSL.out] at d16
     have hcnt := hT2.cnt N (by omega)
     rw [← HY.out] at hcnt
     have hbw : IntKind.i64.wrap (b.toNat : Int) = b.toNat := IntWalk.i64_in _ (by omega)
     have hcount : l.count (m + 1) = y := by rw [HY.out, hNm.out]
     have hHN2 := HN2.out
     rw [hcount] at hHN2
     by_cases hlt : C3 - F < y
     ·rw [if_pos hlt] at hHN2
      obtain ⟨I, hI⟩ : ∃ I, I = a + (C3 - F) := ⟨_, rfl⟩
      have hIs := Huf.syms_lt l m (C3 - F) (by omega) (by rw [hcount]; exact hlt)
      rw [← HA.out, ← hI] at hIs hHN2
      have hIi : (a : Int) + C3 - F = I := by omega
      have hIl : I < SL := by rw [HSL.out]; exact hIs.2
      have hcell := hT2.own.reads.2.cell rfl I (by rw [Nat.mul_one]; exact hIs.2)
      rw [nats_at _ _ hIs.2] at hcell
      obtain ⟨x, hx⟩ : ∃ x, x = (Huf.syms l)[I]'hIs.2 := ⟨_, rfl⟩
      rw [← hx] at hcell
      rw [List.getElem?_eq_getElem hIs.2, ← hx] at hHN2
      have hRx : R = some (x, r) := hHN2.symm
      have HRX := Lib.hid hRx
      have hlti : (C3 : Int) - F < y := by omega
      have HK3 := Lib.hid hk3
      have HRD2 := Lib.hid hRd2
      clear hRx hHN2 hx hI hIs hlt hT2 hTk hEk hEr hRd hcount hk3 hRd2
      go_wp2_with fail
      go_ret2
      refine ⟨HK3.out, ?_⟩
      rw [HRX.out]
      exact ⟨rfl, HRD2.out⟩
     ·rw [if_neg hlt] at hHN2
      have hge : (y : Int) ≤ (C3 : Int) - F := by omega
      have hKN : 2 * Huf.K l N = (F + y) * 2 := by rw [hNm.out, Huf.K, hcount, HF.out]; omega
      have hAN : Huf.at_ l N = a + y := by rw [hNm.out, Huf.at_, hcount, HA.out]
      have hKC : Huf.K l N ≤ C3 := by omega
      have hCN : C3 < 2 ^ N := by
       rw [hNm.out, Nat.pow_succ]
       have := HC3.out
       omega
      have hnn : Huf.next l (15 - N) N C3 r = R := by rw [hNm.out] at *; exact hHN2
      have HALL := Lib.hid (And.intro hKN (And.intro hAN (And.intro hKC (And.intro hCN hnn))))
      have HK3 := Lib.hid hk3
      have HRD2 := Lib.hid hRd2
      clear hKN hAN hKC hCN hnn hHN2 hlt hT2 hTk hEk hEr hRd hcount hk3 hRd2
      go_wp2_with fail
      go_roundw
      case rel =>
       obtain ⟨q1, q2, q3, q4, q5⟩ := HALL.out
       exact ⟨N, C3, r, hN15, by go_num, by first | rfl | go_num, by rw [q1]; first | rfl | go_num, by rw [q2]; first | rfl | go_num, q3, q4, HRD2.out, q5, HK3.out⟩
      case measure => simp [intOf]; omega
   ·have hR0 : R = none := by
     rw [← HNX.out, Huf.next_end _ _ _ _ _ (by rw [← HA.out, ← HSL.out]; exact has)]
    have HRN := Lib.hid hR0
    have hasi : (SL : Int) ≤ a := by omega
    clear hR0 has
    go_wp2_with fail
    go_region
    go_wp2_with fail
    go_ret2
    refine ⟨hk.drew, ?_⟩
    rw [HRN.out]
    rfl
  ·have hm2 : m = 15 := by omega
   subst hm2
   have hR0 : R = none := by rw [← HNX.out]; rfl
   have HRN := Lib.hid hR0
   clear hR0 hm14
   go_wp2_with fail
   go_region
   go_wp2_with fail
   go_ret2
   refine ⟨hk.drew, ?_⟩
   rw [HRN.out]
   rfl
end Go.Proofs.YtkegkelaffohjaaGreatDoor
