/- gif.Write: the walk. -/
import Derived.Test.YtncedhhgclofbaaDoorGifWr0
namespace Go.Proofs.YtncedhhgclofbaaDoor
open Go Go.RowKit

set_option maxHeartbeats 4000000 in
set_option maxRecDepth 100000 in
theorem write_any (A : Option Addr) (n c : Nat) (ms : List FM) (loops : Int) (E : Nat → Addr) (w : World) (hE : Er4 w E) (hF : Frs w w.heap.size A n ms) :
    Calls Tryd.prog 8 #[.slice A n c, .int .i64 loops] w fun e w' => WroteG E w (Gif.gif (ms.map (·.f)) loops) e w' := by
  obtain ⟨R, hR⟩ : ∃ R, R = Gif.gif (ms.map (·.f)) loops := ⟨_, rfl⟩
  rw [← hR]
  have HR := Lib.hid hR
  clear hR
  obtain rfl := hF.len
  go_enter Tryd.func8, Tryd.ntmps8
  go_wp2_with fail
  refine (bounds_any A ms.length c ms loops E _ hE hF).mono ?_
  rintro e w1 ⟨rfl, hb1⟩
  cases hbad : Gif.bad (ms.map (·.f)) loops with
  | true =>
    rw [if_pos rfl]
    have hRb : R = .inr (1, -1) := by rw [HR.out]; exact gif_bad _ _ hbad
    clear hbad
    unfold errV
    go_wp2_with fail
    go_ret2
    rw [hRb]
    exact ⟨hb1, _, rfl, rfl⟩
  | false =>
    rw [if_neg (by decide)]
    obtain ⟨m0, r, rfl⟩ : ∃ m0 r, ms = m0 :: r := by
      cases ms with
      | nil => cases hbad
      | cons x r => exact ⟨x, r, rfl⟩
    replace hbad : Gif.bad (m0.f :: r.map (·.f)) loops = false := hbad
    have hb2 := bad_no2 hbad
    rw [List.length_map] at hb2
    obtain ⟨hn16, hlp0, hlp1⟩ := hb2
    have hRg : R = Gif.body m0.f ((m0 :: r).map (·.f)) 0 (Gif.head m0.f (r.length + 1) loops) := by
      rw [HR.out, List.map_cons, gif_ok _ _ _ hbad, List.length_map]
    have HRG := Lib.hid hRg
    obtain ⟨lp, hlp⟩ := Int.eq_ofNat_of_zero_le hlp0
    subst hlp
    have hlpn : lp ≤ 65535 := by omega
    clear hbad hRg hlp0 hlp1
    have hF1 := hF.below hb1 (Nat.le_refl _)
    have hE1 := hE.below hb1
    obtain ⟨b, off, rfl, hbl⟩ := hF.1.addr (by simp)
    obtain ⟨N, hN⟩ : ∃ N, N = (m0 :: r).length := ⟨_, rfl⟩
    have hN1 : 1 ≤ N := by rw [hN]; simp
    have hN16 : N ≤ 16 := by rw [hN]; simpa using hn16
    obtain ⟨ms, hms⟩ : ∃ ms, ms = m0 :: r := ⟨_, rfl⟩
    have hm0 : ∀ h : 0 < ms.length, ms[0] = m0 := by rw [hms]; intro _; rfl
    rw [← hms] at hF hF1 hN HRG ⊢
    have HM0 := Lib.hid hm0
    have HN := Lib.hid hN
    have HMS := Lib.hid hms
    have HF := Lib.hid hF
    have c0 : w1.cell? ⟨b, off, none⟩ = some (.int .i64 m0.f.wide) := by have := hF1.at 0 (by omega) 0 (by omega); rw [hm0] at this; simpa [frCs] using this
    have c1 : w1.cell? ⟨b, off + 1, none⟩ = some (.int .i64 m0.f.high) := by have := hF1.at 0 (by omega) 1 (by omega); rw [hm0] at this; simpa [frCs] using this
    have c2 : w1.cell? ⟨b, off + 2, none⟩ = some (.slice m0.A m0.n m0.c) := by have := hF1.at 0 (by omega) 2 (by omega); rw [hm0] at this; simpa [frCs] using this
    rw [← hN]
    have hz1 := hb1.size
    clear hms hm0 hN hF
    have hbl1 : b < w1.heap.size := by omega
    obtain ⟨gB, hgB⟩ : ∃ gB, gB = w1.heap.size := ⟨_, rfl⟩
    have hI0 : IsB w1.heap.size gB [] (w1.alloc (.cells #[.pointer none, .slice none 0 0] 58)) := by
      rw [hgB]
      exact Lib.fresh_isBuilder _ _ w1
    have hI1 := isB_below hI0 ((Below.refl _ _).alloc (Nat.le_refl _) (.cells #[.int .i64 m0.f.wide, .int .i64 m0.f.high, .slice m0.A m0.n m0.c] 35))
    have hP1 := Blk.new (w1.alloc (.cells #[.pointer none, .slice none 0 0] 58)) 35 #[.int .i64 m0.f.wide, .int .i64 m0.f.high, .slice m0.A m0.n m0.c] (g := w1.heap.size + 1) (by simp)
    have hW1 : Below w1.heap.size w1 ((w1.alloc (.cells #[.pointer none, .slice none 0 0] 58)).alloc (.cells #[.int .i64 m0.f.wide, .int .i64 m0.f.high, .slice m0.A m0.n m0.c] 35)) := by go_grown
    go_wp2_with fail
    rw [← hgB] at hP1 ⊢
    generalize (w1.alloc (.cells #[.pointer none, .slice none 0 0] 58)).alloc (.cells #[.int .i64 m0.f.wide, .int .i64 m0.f.high, .slice m0.A m0.n m0.c] 35) = w2 at *
    have q0 : w2.cell? ⟨gB + 1, 0, none⟩ = some (.int .i64 m0.f.wide) := by rw [hP1.cell]; rfl
    have q1 : w2.cell? ⟨gB + 1, 1, none⟩ = some (.int .i64 m0.f.high) := by rw [hP1.cell]; rfl
    have hz2 := hW1.size
    have HGB := Lib.hid hgB
    clear hI0 hgB
    have HI1 := Lib.hid hI1
    go_cut [] (fun wx => ∃ t : ByteArray, t.size = 13 ∧ IsB w1.heap.size gB (lst t) wx ∧ (Gif.right m0.f = true → lst t = [71, 73, 70, 56, 57, 97] ++ pair m0.f.wide.toNat ++ pair m0.f.high.toNat ++ [112, 0, 0]) ∧ Below w1.heap.size w1 wx)
    case first =>
      clear hI1
      go_region_law
        (first
          | (go_simp; go_at_call 21; with_reducible refine (two_gen m0.f.wide _).mono ?_; rintro e wA ⟨tA, rfl, htA, hpA, hbA⟩; have hbI := Below.fromDrew hbA; have r1 := bkeep hbI q1; have hIA := isB_below HI1.out hbI; have hzA : w2.heap.size ≤ wA.heap.size := hbI.size; have HPA := Lib.hid hpA; clear hpA)
          | (go_simp; go_at_call 21; with_reducible refine (two_gen m0.f.high _).mono ?_; rintro e wB ⟨tB, rfl, htB, hpB, hbB⟩; have hIB := isB_below hIA hbB; have hzB : wA.heap.size ≤ wB.heap.size := hbB.size; have HPB := Lib.hid hpB; clear hpB)
          | (go_simp; go_at_call 20; refine (writeString_any w1.heap.size gB [] _ _ hIB (by show 0 + ByteArray.size _ ≤ _; rw [← lst_length, lst_append, lst_append, lst_append, List.length_append, List.length_append, List.length_append, lst_length, lst_length, lst_length, lst_length, htA, htB]; decide) (by omega)).mono ?_; rintro e wC ⟨rfl, hIC, hbC⟩))
      all_goals
        go_wp2_with fail
        go_meet
        case rel =>
          refine ⟨_, ?_, hIC, fun hrt => ?_, ((hW1.trans (hbI.mono hz2)).trans (hbB.mono (by omega))).trans hbC⟩
          · rw [← lst_length, lst_append, lst_append, lst_append, List.length_append, List.length_append, List.length_append, lst_length, lst_length, lst_length, lst_length, htA, htB]
            rfl
          · have hrt2 := rightB_true hrt
            rw [lst_append, lst_append, lst_append, HPA.out (by omega), HPB.out (by omega)]
    case rest =>
      obtain ⟨t0, ht0, hI3, hhd, hW3⟩ := hcut
      have HHD := Lib.hid hhd
      have hz3 := hW3.size
      have HI3 := Lib.hid hI3
      clear hhd hI1 q0 q1 hP1 hI3 hz2 hW1
      go_upto_if 36 with (fail)
      go_cut [] (fun wx => ∃ acc : List UInt8, acc.length ≤ 1000 ∧ acc ≠ [] ∧ IsB w1.heap.size gB acc wx ∧ (Gif.right m0.f = true → acc = Gif.head m0.f N lp) ∧ Below w1.heap.size w1 wx)
      case first =>
        by_cases h1 : 1 < N
        · go_wp2_with fail
          refine (two_gen lp _).mono ?_
          rintro e wD ⟨tD, rfl, htD, hpD, hbD⟩
          have hID := isB_below HI3.out hbD
          have hzD := hbD.size
          have HPD := Lib.hid hpD
          clear hpD
          go_wp2_with fail
          refine (writeString_any w1.heap.size gB (lst t0) _ _ hID (by rw [lst_length, ht0, ← lst_length, lst_append, lst_append, List.length_append, List.length_append, lst_length, lst_length, lst_length, htD]; decide) (by omega)).mono ?_
          rintro e wF ⟨rfl, hIF, hbF⟩
          go_wp2_with fail
          go_meet
          case rel =>
            refine ⟨_, ?_, ?_, hIF, fun hrt => ?_, (hW3.trans (hbD.mono hz3)).trans hbF⟩
            · rw [List.length_append, lst_length, ht0, lst_append, lst_append, List.length_append, List.length_append, lst_length, lst_length, lst_length, htD]
              decide
            · intro e
              have e2 := congrArg List.length e
              rw [List.length_append, lst_length, ht0] at e2
              simp at e2
            · rw [HHD.out hrt, lst_append, lst_append, HPD.out (by omega)]
              unfold Gif.head
              rw [if_pos h1]
        · go_wp2_with fail
          go_meet
          case rel =>
            refine ⟨lst t0, by rw [lst_length, ht0]; decide, ?_, HI3.out, fun hrt => ?_, hW3⟩
            · intro e
              have e2 := congrArg List.length e
              rw [lst_length, ht0] at e2
              simp at e2
            · rw [HHD.out hrt]
              unfold Gif.head
              rw [if_neg h1]
              simp
      case rest =>
        obtain ⟨acc0, hac1, hac2, hI4, hhd, hW4⟩ := hcut
        have hfs : (ms.map (·.f)).length = N := by rw [List.length_map, HN.out]
        have hfs0 : ms.map (·.f) = m0.f :: (r.map (·.f)) := by rw [HMS.out]; rfl
        have hR0 : Gif.body m0.f ((ms.map (·.f)).drop 0) 0 acc0 = R := by
          rw [List.drop_zero, HRG.out]
          cases hrt : Gif.right m0.f with
          | true =>
            rw [hhd hrt, HN.out, HMS.out]
            rfl
          | false =>
            have he : Gif.err m0.f m0.f = some 2 := by
              unfold Gif.err
              rw [if_pos (.inl hrt)]
            rw [hfs0]
            unfold Gif.body
            rw [he]
        have HW0 := Lib.hid (WlR.mk (w := w1) hI4 hR0 hac2 (Nat.le_trans hac1 (by omega)) hW4)
        clear hhd hR0 hI4 hac1 hac2 hW4 hfs0 hW3 hz3
        go_wp2_with fail
        go_loopw [44] (fun i wr => ∃ (k : Nat) (acc : List UInt8), i = .int .i64 k ∧ k ≤ N ∧ WlR w1 R m0.f (ms.map (·.f)) gB k acc wr) (fun i _ => N - (intOf i).toNat)
        case atStart => exact ⟨0, acc0, rfl, Nat.zero_le _, HW0.out⟩
        case round =>
          clear HW0
          obtain ⟨k, acc, rfl, hk, hW⟩ := hrel
          have hIs := hW.b
          have hbel := hW.bel
          have hzr := hbel.size
          have hne := hW.ne
          have hmo := hW.most
          have HEQ := Lib.hid hW.eq
          clear hW
          have hFr := (hF1.below hbel hz1).more (Nat.le_trans hz1 hzr)
          have hEr := hE1.below hbel
          by_cases hlt : k < N
          · have hkm : k < ms.length := by rw [← HN.out]; exact hlt
            obtain ⟨m, hm⟩ : ∃ m, m = ms[k] := ⟨_, rfl⟩
            have hpm := (hFr.px k hkm)
            rw [← hm] at hpm
            have hmn : m.n = m.f.ps.length := hpm.pxLen
            have k0 : wr.cell? ⟨b, off + k * 4, none⟩ = some (.int .i64 m.f.wide) := by have := hFr.at k hkm 0 (by omega); rw [← hm] at this; simpa [frCs] using this
            have k1 : wr.cell? ⟨b, off + k * 4 + 1, none⟩ = some (.int .i64 m.f.high) := by have := hFr.at k hkm 1 (by omega); rw [← hm] at this; simpa [frCs] using this
            have k2 : wr.cell? ⟨b, off + k * 4 + 2, none⟩ = some (.slice m.A m.n m.c) := by have := hFr.at k hkm 2 (by omega); rw [← hm] at this; simpa [frCs] using this
            have k3 : wr.cell? ⟨b, off + k * 4 + 3, none⟩ = some (.int .i64 m.f.delay) := by have := hFr.at k hkm 3 (by omega); rw [← hm] at this; simpa [frCs] using this
            have z0 : wr.cell? ⟨b, off, none⟩ = some (.int .i64 m0.f.wide) := by have := hFr.at 0 (by omega) 0 (by omega); rw [HM0.out (by omega)] at this; simpa [frCs] using this
            have z1 : wr.cell? ⟨b, off + 1, none⟩ = some (.int .i64 m0.f.high) := by have := hFr.at 0 (by omega) 1 (by omega); rw [HM0.out (by omega)] at this; simpa [frCs] using this
            have z2 : wr.cell? ⟨b, off + 2, none⟩ = some (.slice m0.A m0.n m0.c) := by have := hFr.at 0 (by omega) 2 (by omega); rw [HM0.out (by omega)] at this; simpa [frCs] using this
            have z3 : wr.cell? ⟨b, off + 3, none⟩ = some (.int .i64 m0.f.delay) := by have := hFr.at 0 (by omega) 3 (by omega); rw [HM0.out (by omega)] at this; simpa [frCs] using this
            have hbr : b < wr.heap.size := by omega
            have hdrop : (ms.map (·.f)).drop k = m.f :: (ms.map (·.f)).drop (k + 1) := by
              rw [List.drop_eq_getElem_cons (by rw [List.length_map]; exact hkm), List.getElem_map, ← hm]
            have heq := HEQ.out
            rw [hdrop] at heq
            unfold Gif.body at heq
            rw [err_of] at heq
            have HQ := Lib.hid heq
            have HMN := Lib.hid hmn
            clear hdrop heq hm hmn hkm
            have hBF := Blk.new wr 37 #[.int .i64 m.f.wide, .int .i64 m.f.high, .slice m.A m.n m.c, .int .i64 m.f.delay] rfl
            have hwF : Below wr.heap.size wr (wr.alloc (.cells #[.int .i64 m.f.wide, .int .i64 m.f.high, .slice m.A m.n m.c, .int .i64 m.f.delay] 37)) := by go_grown
            have hEF := hEr.below hwF
            go_wp2_with fail
            generalize wr.alloc (.cells #[.int .i64 m.f.wide, .int .i64 m.f.high, .slice m.A m.n m.c, .int .i64 m.f.delay] 37) = wF at *
            have f0 : wF.cell? ⟨wr.heap.size, 0, none⟩ = some (.int .i64 m.f.wide) := by rw [hBF.cell]; rfl
            have f1 : wF.cell? ⟨wr.heap.size, 1, none⟩ = some (.int .i64 m.f.high) := by rw [hBF.cell]; rfl
            have f2 : wF.cell? ⟨wr.heap.size, 2, none⟩ = some (.slice m.A m.n m.c) := by rw [hBF.cell]; rfl
            have f3 : wF.cell? ⟨wr.heap.size, 3, none⟩ = some (.int .i64 m.f.delay) := by rw [hBF.cell]; rfl
            have y0 := bkeep hwF z0
            have y1 := bkeep hwF z1
            have y2 := bkeep hwF z2
            have y3 := bkeep hwF z3
            go_cut [11] (fun v wx => v = errO E (Gif.err0 m0.f m.f) ∧ Below wF.heap.size wF wx)
            case first =>
              go_region_with ((go_at_call 22; refine (frCheck_any m m0 E _ (hEF.below (Below.refl _ _).drew) HMN.out).mono ?_; rintro e wA ⟨rfl, hbA⟩; have hbI := Below.fromDrew hbA))
              all_goals
                go_wp2_with fail
                go_meet
                case rel => exact ⟨rfl, hbI⟩
            case rest =>
            obtain ⟨rfl, hbI⟩ := hcut
            obtain ⟨wA, hwAe⟩ : ∃ wA, wA = wc := ⟨_, rfl⟩
            rw [← hwAe] at hbI ⊢
            clear hwAe f0 f1 f2 f3 y0 y1 y2 y3
            have hwA := hwF.trans (hbI.mono hwF.size)
            have hBA := hBF.below hbI hBF.lt
            have hIA := isB_below hIs hwA
            have hA := hbel.trans (hwA.mono hzr)
            have hzA := hA.size
            have hEA := hEr.below hwA
            have hpA := (hpm.below hwA (Nat.le_refl _)).more hwA.size
            have a0 : wA.cell? ⟨wr.heap.size, 0, none⟩ = some (.int .i64 m.f.wide) := by rw [hBA.cell]; rfl
            have a1 : wA.cell? ⟨wr.heap.size, 1, none⟩ = some (.int .i64 m.f.high) := by rw [hBA.cell]; rfl
            have a2 : wA.cell? ⟨wr.heap.size, 2, none⟩ = some (.slice m.A m.n m.c) := by rw [hBA.cell]; rfl
            have a3 : wA.cell? ⟨wr.heap.size, 3, none⟩ = some (.int .i64 m.f.delay) := by rw [hBA.cell]; rfl
            have HIA := Lib.hid hIA
            clear hIA hBF hEF hBA hbI hwA hwF k0 k1 k2 k3 z0 z1 z2 z3 hFr hpm hIs
            cases he0 : Gif.err0 m0.f m.f with
            | some c0 =>
              have hRf := HQ.out
              rw [he0] at hRf
              have HRF := Lib.hid hRf.symm
              clear hRf he0
              unfold errO errV
              go_wp2_with fail
              have hRf : R = .inr (c0, (k : Int)) := HRF.out
              refine bodyPost_ret (v := .tuple #[.string ⟨#[]⟩, .iface 65 (.pointer (some ⟨wA.heap.size, 0, none⟩))]) (by simp [results, Tryd.results8, go_sem]) rfl ⟨?_, ?_⟩
              · exact hb1.trans ((hA.alloc (by omega) _).mono hz1)
              · rw [hRf]
                refine ⟨_, rfl, ?_⟩
                unfold ErrIs
                rw [if_neg (by simp), if_neg (by simp)]
                exact ⟨_, rfl, Blk.new _ _ _ rfl⟩
            | none =>
              obtain ⟨hok1, hok2, hok3⟩ := err0_none he0
              have hrt := rightB_true hok1
              have hRf := HQ.out
              rw [he0] at hRf
              have hmn := HMN.out
              have hmn2 : m.n ≤ 65536 := by omega
              have hok : FrOK m.f m.n := ⟨by omega, by omega, by omega, by omega, hok2, hok3, hmn2⟩
              clear he0 hmn hok1 hok2 hok3
              unfold errO
              cases hc : Gif.colOK m.f.ps with
              | false =>
                rw [hc] at hRf
                have hRf2 : R = .inr (6, (k : Int)) := hRf.symm
                have HRF := Lib.hid hRf2
                clear hRf hRf2 hok hrt
                go_wp2_with fail
                refine (frBytes_no m wA hpA hmn2 hc).mono ?_
                rintro e wG ⟨rfl, hbG⟩
                have hEG := (hEA.below hbG).colors
                have hzG := hbG.size
                have hAG := hA.trans (hbG.mono hzA)
                unfold errV at *
                go_wp2_with fail
                have hRf : R = .inr (6, (k : Int)) := HRF.out
                refine bodyPost_ret (v := .tuple #[.string ⟨#[]⟩, .iface 65 (.pointer (some ⟨wG.heap.size, 0, none⟩))]) (by simp [results, Tryd.results8, go_sem]) rfl ⟨?_, ?_⟩
                · exact hb1.trans ((hAG.alloc (by omega) _).mono hz1)
                · rw [hRf]
                  refine ⟨_, rfl, ?_⟩
                  unfold ErrIs
                  rw [if_neg (by simp), if_neg (by simp)]
                  exact ⟨_, rfl, Blk.new _ _ _ rfl⟩
              | true =>
                rw [hc] at hRf
                have hRf2 : Gif.body m0.f ((ms.map (·.f)).drop (k + 1)) (k + 1) (acc ++ Gif.frame m.f) = R := hRf
                have HRF := Lib.hid hRf2
                have hfl := frame_length m.f (by have := HMN.out; omega) hc
                have HNE := Lib.hid hne
                clear hRf hRf2 hrt hne
                go_wp2_with fail
                refine (frBytes_yes m wA hpA hok hc).mono ?_
                rintro e wG ⟨tG, rfl, htG, hbG⟩
                have hIG := isB_below HIA.out hbG
                have hzG := hbG.size
                have hAG := hA.trans (hbG.mono hzA)
                have htz : tG.size = (Gif.frame m.f).length := by rw [← lst_length, htG]
                have HTG := Lib.hid htG
                clear htG
                go_wp2_with fail
                refine (writeString_any w1.heap.size gB acc _ _ hIG (by rw [htz]; omega) (by omega)).mono ?_
                rintro e wK ⟨rfl, hIK, hbK⟩
                have hAK := hAG.trans hbK
                go_wp2_with fail
                go_roundw
                case rel =>
                  refine ⟨k + 1, acc ++ Gif.frame m.f, by push_cast; rfl, hlt, ⟨?_, HRF.out, ?_, ?_, hAK⟩⟩
                  · rw [← HTG.out]
                    exact hIK
                  · exact fun e => HNE.out (List.append_eq_nil_iff.1 e).1
                  · rw [List.length_append]
                    omega
                case measure => simp [intOf]; omega
          · have hkN : k = N := by omega
            have heq := HEQ.out
            rw [hkN, List.drop_eq_nil_of_le (by rw [hfs]; exact Nat.le_refl _)] at heq
            have hRf : R = .inl (acc ++ [59]) := heq.symm
            have HRF := Lib.hid hRf
            clear heq hRf
            go_wp2_with fail
            refine (bstring_any w1.heap.size gB acc wr hIs hne).mono ?_
            rintro e wS ⟨rfl, hbS⟩
            go_wp2_with fail
            go_ret2
            have hRf : R = .inl (acc ++ [59]) := HRF.out
            refine ⟨hb1.trans ((hbel.trans hbS).mono hz1), ?_⟩
            rw [hRf]
            refine ⟨_, rfl, ?_⟩
            rw [lst_append]
end Go.Proofs.YtncedhhgclofbaaDoor
