/- chunk.Read: the walk. Printed by mk.py. -/
import Derived.Test.YtkegkelaffohjaaGreatDoorQCFilmTwiceChWalk
import Derived.Test.YtkegkelaffohjaaGreatDoorKCFilmTwice4
namespace Go.Proofs.YtkegkelaffohjaaGreatDoor
open Go Go.RowKit
theorem prefixC_any (s p : ByteArray) (b : Bool) (hb : b = decide ((lst s).take p.size = lst p)) (w : World) (_hs : s.size ≤ 1099511627776) (_hp : p.size ≤ 100) :
  Calls Tryz.prog 52 #[.string s, .string p] w fun e w' => e = .returned (.bool b) ∧ w = w' := by
 have HB := Lib.hid hb
 clear hb
 by_cases h1 : s.size < p.size
 ·have e : b = false := by
   rw [HB.out]
   refine decide_eq_false fun h => ?_
   have := congrArg List.length h
   rw [List.length_take, lst_length, lst_length] at this
   omega
  subst e
  have h1i : (s.size : Int) < p.size := by omega
  clear h1
  go_enter Tryz.func52, Tryz.ntmps52
  go_wp2
  go_ret
  exact ⟨rfl, rfl⟩
 ·have h1i : (p.size : Int) ≤ s.size := by omega
  have hps : p.size ≤ s.size := by omega
  have he : ((s.extract 0 p.size).toList == p.toList) = b := by
   have e1 := lst_extract s 0 p.size
   rw [List.drop_zero, Nat.sub_zero] at e1
   rw [HB.out, Lib.toList_data, Lib.toList_data, ← e1, Bool.eq_iff_iff, beq_iff_eq, decide_eq_true_eq]
  clear h1
  go_enter Tryz.func52, Tryz.ntmps52
  go_wp2
  go_ret
  exact ⟨rfl, rfl⟩
theorem chFail_any (n k : Nat) (E : Nat → Addr) (w : World) :
  Calls Tryz.prog 51 #[.int .i64 n, errV (E k)] w fun e w' => ∃ v, e = .returned (.tuple #[.slice none 0 0, v]) ∧ ErrIs E w' v (k + 1, (n : Int)) ∧ Below w.heap.size w w' := by
 unfold errV
 go_enter Tryz.func51, Tryz.ntmps51
 go_wp2_with fail
 go_ret2
 exact ⟨_, rfl, errIs_at E _ k n _ (Blk.new w _ _ rfl), (Below.refl _ _).alloc (Nat.le_refl _) _⟩
def ChRd (w : World) (E : Nat → Addr) (R : Except (Nat × Int) (List Chk.C)) (e : Ending) (w' : World) : Prop :=
 Below w.heap.size w w' ∧ match R with
 | .error f => ∃ v, e = .returned (.tuple #[.slice none 0 0, v]) ∧ ErrIs E w' v (f.1 + 1, f.2)
 | .ok cs => ∃ A c l, chL l = cs ∧ e = .returned (.tuple #[.slice A l.length c, .nilIface]) ∧ Reads w' w'.heap.size 2 A l.length (chCells l) ∧ l.length ≤ c ∧ c ≤ maxLen
theorem own_cap {w : World} {base size n c : Nat} {A : Option Addr} {xs : List Value} (h : Own w base size (.slice A n c) n xs) : n ≤ c ∧ c ≤ maxLen := by
 rcases h.2 with ⟨e, h0⟩ | ⟨g, off, cap, e, _, _, h1, h2, _⟩
 ·injection e with _ _ e3
  subst e3
  exact ⟨by omega, by unfold maxLen; omega⟩
 ·injection e with _ _ e3
  subst e3
  exact ⟨h1, h2⟩
namespace Chk
def app (cs : List C) (r : Except (Nat × Int) (List C)) : Except (Nat × Int) (List C) :=
 match r with
 | .error e => .error e
 | .ok l => .ok (cs ++ l)
theorem app_nil (r : Except (Nat × Int) (List C)) : app [] r = r := by cases r <;> rfl
theorem app_cons (cs : List C) (c : C) (r : Except (Nat × Int) (List C)) : app cs (cons c r) = app (cs ++ [c]) r := by
 cases r with
 | error e => rfl
 | ok l => show Except.ok _ = Except.ok _; rw [List.append_assoc]; rfl
end Chk
theorem Crc.val_lt4 (l : List UInt8) (h : l.length ≤ 4) : Crc.val l < 4294967296 :=
 Nat.lt_of_lt_of_le (val_lt l) (Nat.le_trans (Nat.pow_le_pow_right (by decide) h) (by decide))
theorem chInfo3 : (Tryz.prog.info? 91).map (fun i => (i.zero, i.size, i.bytes)) = some (some (.agg #[.string ⟨#[]⟩, .string ⟨#[]⟩]), 2, 32) := by kernel_rfl
theorem chCells_one (l : List CB) : ∀ u ∈ chCells l, u.oneCell' = true := by
 intro u hu
 obtain ⟨x, _, hx⟩ := List.mem_flatMap.1 hu
 simp only [chCs, List.mem_cons, List.not_mem_nil, or_false] at hx
 rcases hx with rfl | rfl <;> rfl
set_option maxHeartbeats 4000000 in
set_option maxRecDepth 100000 in
theorem chRead_any (s : ByteArray) (E : Nat → Addr) (w : World) (hE : Er4 w E) (hs : s.size ≤ 1099511627776) :
  Calls Tryz.prog 19 #[.string s] w fun e w' => ChRd w E (Chk.chunks (lst s)) e w' := by
 obtain ⟨R, hR⟩ : ∃ R, R = Chk.chunks (lst s) := ⟨_, rfl⟩
 rw [← hR]
 obtain ⟨i0, hi, hz0, hz1, hz2⟩ := info_parts chInfo3
 have dB := hE.bound
 have dT := hE.text
 have HE := Lib.hid hE
 unfold Chk.chunks at hR
 rw [lst_length] at hR
 by_cases h1 : 300000 < s.size
 ·rw [if_pos h1] at hR
  subst hR
  have h1i : (300000 : Int) < s.size := by omega
  clear h1
  go_enter Tryz.func19, Tryz.ntmps19
  go_wp2_with fail
  go_quiet (fail)
  go_wp2_with fail
  go_ret2
  exact ⟨below_drewN (Below.refl _ _) _, _, rfl, errIs_bare E _ 1⟩
 rw [if_neg h1] at hR
 have h1i : (s.size : Int) ≤ 300000 := by omega
 clear h1
 obtain ⟨b, hb⟩ : ∃ b, b = decide ((lst s).take 8 = Chk.sig) := ⟨_, rfl⟩
 cases b with
 | false =>
  rw [if_pos (of_decide_eq_false hb.symm)] at hR
  subst hR
  have HB := Lib.hid hb
  clear hb
  go_enter Tryz.func19, Tryz.ntmps19
  go_wp2_with fail
  refine (prefixC_any s ⟨#[137, 80, 78, 71, 13, 10, 26, 10]⟩ false HB.out w hs (by decide)).mono ?_
  rintro e w ⟨rfl, rfl⟩
  go_wp2_with fail
  refine (chFail_any 0 0 E w).mono ?_
  rintro e w1 ⟨v, rfl, hv, hb1⟩
  go_wp2_with fail
  go_ret2
  exact ⟨hb1, _, rfl, hv⟩
 | true =>
  rw [if_neg (not_not_intro (of_decide_eq_true hb.symm))] at hR
  have hs8 : 8 ≤ s.size := by
   have := congrArg List.length (of_decide_eq_true hb.symm)
   rw [List.length_take, lst_length] at this
   have e : Chk.sig.length = 8 := rfl
   omega
  have HB := Lib.hid hb
  have HR := Lib.hid hR
  clear hb hR
  go_enter Tryz.func19, Tryz.ntmps19
  go_wp2_with fail
  refine (prefixC_any s ⟨#[137, 80, 78, 71, 13, 10, 26, 10]⟩ true HB.out w hs (by decide)).mono ?_
  rintro e w ⟨rfl, rfl⟩
  go_wp2_with fail
  go_loopw [5, 6] (fun out at_ wr => ∃ (k f : Nat) (l : List CB) (A : Option Addr) (c : Nat), at_ = .int .i64 k ∧ k ≤ s.size ∧ out = .slice A l.length c ∧ Own wr w.heap.size 2 (.slice A l.length c) l.length (chCells l) ∧ Below w.heap.size w wr ∧ s.size ≤ f + k ∧ Chk.app (chL l) (Chk.rch f k ((lst s).drop k)) = R ∧ l.length ≤ k) (fun _ at_ _ => s.size - (intOf at_).toNat)
  case atStart =>
   exact ⟨8, s.size, [], none, 0, rfl, hs8, rfl, Own.nil _ _ _, Below.refl _ _, by omega, by rw [HR.out, show chL [] = [] from rfl, Chk.app_nil], by simp⟩
  case round =>
   obtain ⟨k, f, l, A, c, rfl, hk, rfl, ho, hbw, hf, hap, hlk⟩ := hrel
   have HO := Lib.hid ho
   have HBW := Lib.hid hbw
   have dT2 := (HE.out.below hbw).text
   have dS2 := (HE.out.below hbw).sum
   by_cases hlt : k < s.size
   ·obtain ⟨f, rfl⟩ : ∃ f', f = f' + 1 := ⟨f - 1, by omega⟩
    obtain ⟨r, hr⟩ : ∃ r, r = s.extract k s.size := ⟨_, rfl⟩
    have hrl : lst r = (lst s).drop k := by rw [hr, lst_extract, List.take_of_length_le (by rw [List.length_drop, lst_length]; exact Nat.le_refl _)]
    have hrz : r.size = s.size - k := by rw [← lst_length, hrl, List.length_drop, lst_length]
    rw [← hrl, Chk.rch, if_neg (fun e => by have h0 : r.size = 0 := (by rw [← lst_length, e]; rfl); omega), lst_length] at hap
    have HRR := Lib.hid hr
    have HRL := Lib.hid hrl
    have hrzi : (r.size : Int) + k = s.size := by omega
    have HRZ := Lib.hid hrz
    by_cases h12 : r.size < 12
    ·rw [if_pos h12] at hap
     have HAP := Lib.hid hap
     have h12i : (r.size : Int) < 12 := by omega
     clear h12 hap hrl hrz ho
     go_wp2_with fail
     rw [← HRR.out]
     go_wp2_with fail
     refine (chFail_any k 0 E wr).mono ?_
     rintro e w1 ⟨v, rfl, hv, hb1⟩
     have hbx := HBW.out.trans (hb1.mono HBW.out.size)
     go_wp2_with fail
     go_ret2
     refine ⟨hbx, ?_⟩
     rw [← HAP.out]
     exact ⟨_, rfl, hv⟩
    ·rw [if_neg h12] at hap
     have h12i : (12 : Int) ≤ r.size := by omega
     have HAP := Lib.hid hap
     clear h12 hap hrl hrz ho
     go_wp2_with fail
     rw [← HRR.out]
     clear hr
     go_wp2_with fail
     have e04 := lst_extract r 0 4
     rw [List.drop_zero] at e04
     replace e04 : lst (r.extract 0 4) = (lst r).take 4 := e04
     have hv4 := Crc.val_lt4 ((lst r).take 4) (by rw [List.length_take]; omega)
     refine (value_any (r.extract 0 4) wr (by rw [← lst_length, e04, List.length_take]; omega)).mono ?_
     rintro e wr ⟨rfl, rfl⟩
     rw [e04]
     have hap := HAP.out
     obtain ⟨n, hn⟩ : ∃ n, n = Crc.val ((lst r).take 4) := ⟨_, rfl⟩
     rw [← hn] at hap hv4
     rw [← hn]
     have HN := Lib.hid hn
     clear hn e04 HAP
     have e48 : lst (r.extract 4 8) = ((lst r).drop 4).take 4 := lst_extract r 4 8
     rw [← e48] at hap
     have hq8 : (r.extract 4 8).size ≤ 300000 := by rw [← lst_length, e48, List.length_take]; omega
     by_cases hA : r.size - 12 < n
     ·rw [if_pos (.inl hA)] at hap
      have HAP := Lib.hid hap
      have hAi : (r.size : Int) - 12 < n := by omega
      clear hA hap e48 hq8
      go_wp2_with fail
      refine (chFail_any k 0 E wr).mono ?_
      rintro e w1 ⟨v, rfl, hv, hb1⟩
      have hbx := HBW.out.trans (hb1.mono HBW.out.size)
      go_wp2_with fail
      go_ret2
      refine ⟨hbx, ?_⟩
      rw [← HAP.out]
      exact ⟨_, rfl, hv⟩
     have hAi : (n : Int) ≤ (r.size : Int) - 12 := by omega
     obtain ⟨kd, hkd⟩ : ∃ kd, kd = r.extract 4 8 := ⟨_, rfl⟩
     rw [← hkd] at hap hq8 e48
     have HKD := Lib.hid hkd
     have HE48 := Lib.hid e48
     have HAP := Lib.hid hap
     clear hap hkd e48
     cases hki : Chk.isKind (lst kd) with
     | false =>
      have hap := HAP.out
      rw [if_pos (.inr hki)] at hap
      have HAP2 := Lib.hid hap
      have HKI := Lib.hid hki
      clear hap hki hA
      go_wp2_with fail
      rw [← HKD.out]
      refine (isKind_any kd wr hq8).mono ?_
      rintro e wr ⟨rfl, rfl⟩
      rw [HKI.out]
      go_wp2_with fail
      refine (chFail_any k 0 E wr).mono ?_
      rintro e w1 ⟨v, rfl, hv, hb1⟩
      have hbx := HBW.out.trans (hb1.mono HBW.out.size)
      go_wp2_with fail
      go_ret2
      refine ⟨hbx, ?_⟩
      rw [← HAP2.out]
      exact ⟨_, rfl, hv⟩
     | true =>
      have hap := HAP.out
      rw [if_neg (fun h => h.elim hA (fun h2 => by rw [hki] at h2; cases h2))] at hap
      have HAP2 := Lib.hid hap
      have HKI := Lib.hid hki
      clear hap hki hA HAP
      go_wp2_with fail
      rw [← HKD.out]
      refine (isKind_any kd wr hq8).mono ?_
      rintro e wr ⟨rfl, rfl⟩
      rw [HKI.out]
      go_upto_region 15 with (fail)
      obtain ⟨n8, hn8⟩ : ∃ n8, n8 = 8 + n := ⟨_, rfl⟩
      obtain ⟨n12, hn12⟩ : ∃ n12, n12 = 12 + n := ⟨_, rfl⟩
      have a8 : (8 : Int) + n = (n8 : Nat) := by omega
      have a12 : (12 : Int) + n = (n12 : Nat) := by omega
      have b8 : IntKind.i64.wrap (n8 : Int) = n8 := IntWalk.i64_in _ (by omega)
      have b12 : IntKind.i64.wrap (n12 : Int) = n12 := IntWalk.i64_in _ (by omega)
      have c8 : (n8 : Int) ≤ n12 := by omega
      have c4 : (4 : Int) ≤ n8 := by omega
      have c12 : (n12 : Int) ≤ r.size := by omega
      have c88 : (8 : Int) ≤ n8 := by omega
      have c8r : (n8 : Int) ≤ r.size := by omega
      have l1 := lst_extract r n8 n12
      have l2 := lst_extract r 4 n8
      have l3 := lst_extract r 8 n8
      have hap := HAP2.out
      rw [show (4 : Nat) + n = n8 - 4 by omega, ← hn8, ← hn12, show List.take 4 (List.drop n8 (lst r)) = List.take (n12 - n8) (List.drop n8 (lst r)) by rw [show n12 - n8 = 4 by omega], ← l1, ← l2, show n = n8 - 8 by omega, ← l3] at hap
      have z1 : (r.extract n8 n12).size ≤ 4 := by rw [← lst_length, l1, List.length_take]; omega
      have z2 : (r.extract 4 n8).size ≤ 300000 := by rw [← lst_length, l2, List.length_take, List.length_drop, lst_length]; omega
      have hnk : k + 12 + (n8 - 8) = k + n12 := by omega
      have hdk : (lst r).drop n12 = (lst s).drop (k + n12) := by rw [HRL.out, List.drop_drop]
      rw [hnk, hdk] at hap
      obtain ⟨V, hV⟩ : ∃ V, V = Crc.val (lst (r.extract n8 n12)) := ⟨_, rfl⟩
      obtain ⟨C, hC⟩ : ∃ C, C = Crc.crc (lst (r.extract 4 n8)) := ⟨_, rfl⟩
      rw [← hV, ← hC] at hap
      have HV := Lib.hid hV
      have HC := Lib.hid hC
      have H12 := Lib.hid hn12
      clear l1 l2 hV hC hnk hdk HAP2 hn8 hn12
      by_cases hVC : V = C
      ·rw [if_neg (not_not_intro hVC), Chk.app_cons] at hap
       have HAP3 := Lib.hid hap
       have hVf : ((V : Int) != (C : Int)) = false := by rw [hVC]; simp
       clear hap hVC
       refine wp_region_held_drew (S := (fun _ => True)) (by kernel_rfl) ?_ (fun hHeld => ?_)
       ·trivial
       refine opT 0 rfl ?_; refine opT 1 rfl ?_; refine opT 2 rfl ?_; refine opT 3 rfl ?_; refine opT 4 rfl ?_; refine opT 5 rfl ?_; refine opT 7 rfl ?_; refine opT 8 rfl ?_; refine opT 9 rfl ?_; refine opT 10 rfl ?_
       refine opD 6 rfl (fun K hK => ?_)
       go_simp
       (go_at_call 53; refine (value_any (r.extract n8 n12) _ z1).mono ?_; rintro e wA ⟨rfl, hwA⟩; subst hwA; rw [← HV.out])
       refine hK.out _ _ ?_ (fun hHeld => ?_)
       ·trivial
       clear hK K
       (try simp only [Act.put, nz1, nz2, nz3, nz4, nz5, nz6])
       refine opD 11 rfl (fun K hK => ?_)
       go_simp
       (go_at_call 55; refine (crc_any (r.extract 4 n8) _ (by omega)).mono ?_; rintro e wB ⟨rfl, hbB⟩; rw [← HC.out])
       refine hK.out _ _ ?_ (fun hHeld => ?_)
       ·trivial
       clear hK K
       (try simp only [Act.put, nz1, nz2, nz3, nz4, nz5, nz6])
       refine opT 12 rfl ?_
       refine wpAnyH_done (by kernel_rfl) ?_ _
       have hOB := Own.below HO.out.drew hbB (Nat.le_refl _)
       have HBB := Lib.hid (HBW.out.trans ((Below.fromDrew hbB).mono HBW.out.size))
       have hzB := HBB.out.size
       have hkk : k + n12 ≤ s.size := by omega
       have H12' : 12 ≤ n12 := by have := H12.out; omega
       have hff : s.size ≤ f + (k + n12) := by omega
       clear dT2 dS2 dT dB hbB hbw
       go_upto_region 17 with (fail)
       obtain ⟨dd, hdd⟩ : ∃ dd, dd = r.extract 8 n8 := ⟨_, rfl⟩
       rw [← hdd] at HAP3
       have HDD := Lib.hid hdd
       have hap4 : Chk.app (chL (l ++ [(kd, dd)])) (Chk.rch f (k + n12) ((lst s).drop (k + n12))) = R := by
        rw [← HAP3.out]
        unfold chL
        rw [List.map_append]
        rfl
       have HAP4 := Lib.hid hap4
       have hcs : chCells l ++ chCs (kd, dd) = chCells (l ++ [(kd, dd)]) := by
        unfold chCells
        rw [List.flatMap_append, List.flatMap_singleton]
       have HCS := Lib.hid hcs
       clear hdd hap4 hcs HAP3
       have hBS := Blk.new wB.drew 91 #[.string kd, .string dd] rfl
       have hkdx := HKD.out.symm
       have hddx := HDD.out.symm
       go_region_law
        ((refine step_append_Own _ rfl (.tmp 77) (.tmp 85) 55 55 rfl w.heap.size 91 i0 _ 2 32 Tryz.underlying55 hi hz0 hz1 hz2 rfl (by decide) (.slice A l.length c) l.length (chCells l) rfl (hOB.drew.alloc _) (chCells_one _) 1 (chCs (kd, dd)) (Src.blk Tryz.underlying55 hBS rfl (by intro u hu; exact chCells_one [(kd, dd)] u (by unfold chCells; rw [List.flatMap_singleton]; exact hu))) (by unfold maxLen; omega) (by omega) (by simp; omega) ?_; intro vT wT hownT hgT hatT; obtain ⟨AT, cT, rfl, hcT, _⟩ := hownT.form))
       all_goals
        have hb9 := ((HBB.out.drew).alloc (by show w.heap.size ≤ wB.heap.size; omega) (.cells #[.string kd, .string dd] 91)).grown hgT (by show w.heap.size ≤ (wB.drew.alloc _).heap.size; have e : wB.drew.heap.size = wB.heap.size := rfl; simp; omega) fun x hx => (hOB.lt x hx).1
        have HB9 := Lib.hid hb9
        have HO9 := Lib.hid hownT
        clear hgT hatT hownT hBS hb9
        go_wp2_with fail
        go_roundw
        case rel =>
         refine ⟨k + n12, f, l ++ [(kd, dd)], AT, cT, by go_num, hkk, by rw [List.length_append]; rfl, ?_, HB9.out, hff, HAP4.out, by rw [List.length_append]; show l.length + 1 ≤ _; omega⟩
         rw [← HCS.out, List.length_append]
         exact HO9.out
        case measure => simp [intOf]; omega
      ·rw [if_pos hVC] at hap
       have HAP3 := Lib.hid hap
       have hVf : ((V : Int) != (C : Int)) = true := by rw [bne_iff_ne]; omega
       clear hap hVC
       refine wp_region_held_drew (S := (fun _ => True)) (by kernel_rfl) ?_ (fun hHeld => ?_)
       ·trivial
       refine opT 0 rfl ?_; refine opT 1 rfl ?_; refine opT 2 rfl ?_; refine opT 3 rfl ?_; refine opT 4 rfl ?_; refine opT 5 rfl ?_; refine opT 7 rfl ?_; refine opT 8 rfl ?_; refine opT 9 rfl ?_; refine opT 10 rfl ?_
       refine opD 6 rfl (fun K hK => ?_)
       go_simp
       (go_at_call 53; refine (value_any (r.extract n8 n12) _ z1).mono ?_; rintro e wA ⟨rfl, hwA⟩; subst hwA; rw [← HV.out])
       refine hK.out _ _ ?_ (fun hHeld => ?_)
       ·trivial
       clear hK K
       (try simp only [Act.put, nz1, nz2, nz3, nz4, nz5, nz6])
       refine opD 11 rfl (fun K hK => ?_)
       go_simp
       (go_at_call 55; refine (crc_any (r.extract 4 n8) _ (by omega)).mono ?_; rintro e wB ⟨rfl, hbB⟩; rw [← HC.out])
       refine hK.out _ _ ?_ (fun hHeld => ?_)
       ·trivial
       clear hK K
       (try simp only [Act.put, nz1, nz2, nz3, nz4, nz5, nz6])
       refine opT 12 rfl ?_
       refine wpAnyH_done (by kernel_rfl) ?_ _
       have dS3 := bcell_ hbB (cell_lt dS2) dS2
       go_wp2_with fail
       refine (chFail_any k 3 E _).mono ?_
       rintro e w1 ⟨v, rfl, hv, hb1⟩
       have hbx := (HBW.out.trans ((Below.fromDrew hbB).mono HBW.out.size)).trans (hb1.mono (by have := hbB.size; have := HBW.out.size; have e : wr.drew.heap.size = wr.heap.size := rfl; omega))
       go_wp2_with fail
       go_ret2
       refine ⟨hbx, ?_⟩
       rw [← HAP3.out]
       exact ⟨_, rfl, hv⟩
   ·have hke : k = s.size := by omega
    have hR : R = .ok (chL l) := by
     rw [← hap, List.drop_of_length_le (by rw [lst_length]; omega)]
     cases f with
     | zero => show Except.ok _ = _; rw [List.append_nil]
     | succ f => rw [Chk.rch, if_pos rfl]; show Except.ok _ = _; rw [List.append_nil]
    have HR2 := Lib.hid hR
    have hki : (s.size : Int) ≤ k := by omega
    clear hke hap hR ho
    go_wp2_with fail
    go_ret2
    refine ⟨HBW.out, ?_⟩
    rw [HR2.out]
    exact ⟨A, c, l, rfl, rfl, HO.out.reads.2, own_cap HO.out⟩
end Go.Proofs.YtkegkelaffohjaaGreatDoor
