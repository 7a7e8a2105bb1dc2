/- match.longest: the walk. -/
import Derived.Test.YtkegkelaffohjaaGreatDoorQCFilmTwiceMatPut
import Derived.BigQuiet
import Derived.Deep.QuietTactic
import Derived.Deep.Cut
import Derived.Deep.DeepCutAuto
import Derived.Deep.CutBlock
namespace Go.Proofs.YtkegkelaffohjaaGreatDoor
open Go Go.RowKit
theorem lcp_more (s : List UInt8) (k a i : Nat) (hi : i < 258) (ha : a + i < s.length) (hk : k < a) (he : s[k + i]? = s[a + i]?) : Mat.lcp (258 - i) (s.drop (k + i)) (s.drop (a + i)) = Mat.lcp (258 - (i + 1)) (s.drop (k + (i + 1))) (s.drop (a + (i + 1))) + 1 := by
 rw [List.getElem?_eq_getElem (by omega), List.getElem?_eq_getElem ha] at he
 have he2 := Option.some.inj he
 rw [List.drop_eq_getElem_cons (by omega : k + i < s.length), List.drop_eq_getElem_cons ha, show 258 - i = (258 - (i + 1)) + 1 by omega, Mat.lcp, if_pos he2]
 rfl
theorem lcp_end (s : List UInt8) (k a i : Nat) (hk : k < a) (h : 258 ≤ i ∨ s.length ≤ a + i ∨ s[k + i]? ≠ s[a + i]?) : Mat.lcp (258 - i) (s.drop (k + i)) (s.drop (a + i)) = 0 := by
 by_cases h1 : 258 ≤ i
 ·rw [show 258 - i = 0 by omega, Mat.lcp]
 ·by_cases h2 : s.length ≤ a + i
  ·rw [List.drop_of_length_le h2, show 258 - i = (257 - i) + 1 by omega]
   cases s.drop (k + i) <;> rfl
  ·have h3 := (h.resolve_left h1).resolve_left h2
   rw [List.drop_eq_getElem_cons (by omega : k + i < s.length), List.drop_eq_getElem_cons (by omega : a + i < s.length), show 258 - i = (257 - i) + 1 by omega, Mat.lcp, if_neg]
   intro e
   apply h3
   rw [List.getElem?_eq_getElem (by omega), List.getElem?_eq_getElem (by omega), e]
structure LongR (s : List UInt8) (a tr : Nat) (R : Nat × Nat) (k : Int) (ok : Bool) (c : Nat) (b : Nat × Nat) : Prop where
 ex : ∃ o : Option Nat, Mat.long s a (tr - c) o b = R ∧ ((o = none ∧ (ok = false ∨ k = -1)) ∨ ∃ j : Nat, o = some j ∧ ok = true ∧ k = j ∧ j < a ∧ j + 3 ≤ s.length)
 le : c ≤ tr
 b1 : b.1 ≤ 258
 b2 : b.2 ≤ a
set_option maxHeartbeats 4000000 in
set_option maxRecDepth 100000 in
theorem longest_any (B fb mb : Nat) (v : Value) (s : ByteArray) (tr a : Nat) (w : World) (h : Fnd w B fb mb v s tr a) (ha : a < s.size) (hs : s.size ≤ 300000) (htr : tr ≤ 300000) :
  Calls Tryz.prog 136 #[.pointer (some ⟨fb, 0, none⟩), .int .i64 a] w fun e w' => e = .returned (.tuple #[.int .i64 (Mat.longest (lst s) tr a).1, .int .i64 (Mat.longest (lst s) tr a).2]) ∧ ∃ q, w' = w.drewN q := by
 obtain ⟨hb, hm, ho, hfm, hvf, hvm, hbf, hbm⟩ := h
 obtain ⟨A, c, rfl, hc, hr⟩ := ho.form
 have d0 : w.cell? ⟨fb, 0, none⟩ = some (.string s) := by rw [hb.cell]; rfl
 obtain ⟨R, hR⟩ : ∃ R, R = Mat.longest (lst s) tr a := ⟨_, rfl⟩
 rw [← hR]
 by_cases h3 : s.size < a + 3
 ·have h3i : (s.size : Int) < a + 3 := by omega
  have e1 : R = (0, 0) := by rw [hR]; unfold Mat.longest; rw [if_pos (by rw [lst_length]; exact h3)]
  rw [e1]
  go_enter Tryz.func136, Tryz.ntmps136
  go_wp2
  go_ret2
  exact ⟨rfl, 0, rfl⟩
 ·obtain ⟨q, off, rfl, hBq, hqs⟩ := ho.addr (by omega)
  have hRl : Mat.long (lst s) a tr (Mat.prev (lst s) a (Mat.key (lst s) a)) (0, 0) = R := by rw [hR]; unfold Mat.longest; rw [if_neg (by rw [lst_length]; exact h3)]
  have d1 : w.cell? ⟨fb, 1, none⟩ = some (.int .i64 32768) := by rw [hb.cell]; rfl
  have d2 : w.cell? ⟨fb, 2, none⟩ = some (.map (some mb)) := by rw [hb.cell]; rfl
  have d3 : w.cell? ⟨fb, 3, none⟩ = some (.slice (some ⟨q, off, none⟩) s.size c) := by rw [hb.cell]; rfl
  have d4 : w.cell? ⟨fb, 4, none⟩ = some (.int .i64 tr) := by rw [hb.cell]; rfl
  obtain ⟨a1, ha1⟩ : ∃ a1, a1 = a + 1 := ⟨_, rfl⟩
  obtain ⟨a2, ha2⟩ : ∃ a2, a2 = a + 2 := ⟨_, rfl⟩
  have hb1 : a1 < s.size := by omega
  have hb2 : a2 < s.size := by omega
  have h1i : (a : Int) + 1 = (a1 : Nat) := by omega
  have h2i : (a : Int) + 2 = (a2 : Nat) := by omega
  have h3i : (a : Int) + 3 ≤ s.size := by omega
  obtain ⟨x, hx⟩ : ∃ x : UInt8, s[a] = x := ⟨_, rfl⟩
  obtain ⟨y, hy⟩ : ∃ y : UInt8, s[a1] = y := ⟨_, rfl⟩
  obtain ⟨z, hz⟩ : ∃ z : UInt8, s[a2] = z := ⟨_, rfl⟩
  have htri : tri (lst s) a = (x, y, z) := by
   have g0 : (lst s).getD a 0 = x := by rw [List.getD_eq_getElem?_getD, List.getElem?_eq_getElem (by rw [lst_length]; exact ha), ← hx]; rfl
   have g1 : (lst s).getD (a + 1) 0 = y := by rw [← ha1, List.getD_eq_getElem?_getD, List.getElem?_eq_getElem (by rw [lst_length]; exact hb1), ← hy]; rfl
   have g2 : (lst s).getD (a + 2) 0 = z := by rw [← ha2, List.getD_eq_getElem?_getD, List.getElem?_eq_getElem (by rw [lst_length]; exact hb2), ← hz]; rfl
   unfold tri
   rw [g0, g1, g2]
  have hkey := key_tri (lst s) a (by rw [lst_length]; omega)
  rw [htri] at hkey
  rw [hkey] at hRl
  have hlk := tri_lookup w.drew mb (lst s) a (x, y, z) hm.drew
  unfold triV at hlk
  simp only at hlk
  obtain ⟨o, hpo⟩ : ∃ o, o = Mat.prev (lst s) a (triL (x, y, z)) := ⟨_, rfl⟩
  rw [← hpo] at hRl hlk
  have hlt : ∀ j, o = some j → j < a := fun j hj => (Mat.prev_lt _ _ _ _ (hpo ▸ hj)).1
  obtain ⟨kv, okv, hlk2, hst⟩ : ∃ (kv : Int) (okv : Bool), (Instr.lookup 245 (.map (some mb)) (.agg #[.int .u8 x.toNat, .int .u8 y.toNat, .int .u8 z.toNat]) true).run Tryz.prog w.drew = .ok (.tuple #[.int .i64 kv, .bool okv]) w.drew ∧ LongR (lst s) a tr R kv okv 0 (0, 0) := by
   cases o with
   | none => exact ⟨0, false, hlk, ⟨none, by simpa using hRl, .inl ⟨rfl, .inl rfl⟩⟩, Nat.zero_le _, by simp, by simp⟩
   | some j => exact ⟨j, true, hlk, ⟨some j, by simpa using hRl, .inr ⟨j, rfl, rfl, rfl, hlt j rfl, by have := hlt j rfl; rw [lst_length]; omega⟩⟩, Nat.zero_le _, by simp, by simp⟩
  have HST := Lib.hid hst
  clear hlk hR hRl hpo hlt hkey htri ha1 ha2 hst hm hb hvf hvm hbf hbm hBq
  have hreads : ∀ j, j < a → j + 3 ≤ s.size → w.cell? ⟨q, off + j, none⟩ = some (.int .i64 (ahOne (lst s) j)) := fun j h1 h2 => by
   have := (ho.cellAt j (by omega)).1
   rw [this]
   unfold ints
   rw [List.getElem?_map, ahead_at (lst s) a j h1 (by rw [lst_length]; exact h2)]
   rfl
  have HRD := Lib.hid hreads
  clear hreads ho hr
  go_enter Tryz.func136, Tryz.ntmps136
  go_wp2_with fail
  go_region
  go_wp2_with fail
  clear hlk2
  go_loopw [4, 5, 6, 8] (fun n d k cv wr => ∃ (kz : Int) (cz : Nat) (b : Nat × Nat), n = .int .i64 b.1 ∧ d = .int .i64 b.2 ∧ k = .int .i64 kz ∧ cv = .int .i64 cz ∧ LongR (lst s) a tr R kz okv cz b ∧ ∃ q, wr = w.drewN q) (fun _ _ _ cv _ => tr - (intOf cv).toNat)
  case atStart => exact ⟨kv, 0, (0, 0), rfl, rfl, rfl, rfl, HST.out, 1, rfl⟩
  case round =>
   clear HST
   obtain ⟨kz, cz, b, rfl, rfl, rfl, rfl, hL, qq, rfl⟩ := hrel
   obtain ⟨⟨o, hlong, hor⟩, hcz, hb1, hb2'⟩ := hL
   have HL := Lib.hid hlong
   have d0 : (w.drewN qq).cell? ⟨fb, 0, none⟩ = some (.string s) := d0
   have d1 : (w.drewN qq).cell? ⟨fb, 1, none⟩ = some (.int .i64 32768) := d1
   have d3 : (w.drewN qq).cell? ⟨fb, 3, none⟩ = some (.slice (some ⟨q, off, none⟩) s.size c) := d3
   have d4 : (w.drewN qq).cell? ⟨fb, 4, none⟩ = some (.int .i64 tr) := d4
   clear hlong
   rcases hor with ⟨rfl, hno⟩ | ⟨j, rfl, rfl, rfl, hja, hj3⟩
   ·as_aux_lemma =>
    have hRb : R = b := by
     have := HL.out
     rw [← this]
     cases tr - cz <;> rfl
    have HRB := Lib.hid hRb
    clear hRb
    rcases hno with rfl | rfl
    ·as_aux_lemma =>
     go_wp2_with fail
     go_ret2
     exact ⟨by rw [HRB.out]; rfl, qq, rfl⟩
    ·cases okv with
     | false => as_aux_lemma =>
      go_wp2_with fail
      go_ret2
      exact ⟨by rw [HRB.out]; rfl, qq, rfl⟩
     | true => as_aux_lemma =>
      go_wp2_with fail
      go_ret2
      exact ⟨by rw [HRB.out]; rfl, qq, rfl⟩
   ·rw [lst_length] at hj3
    by_cases hw : a - j ≤ 32768
    ·by_cases hc2 : cz < tr
     ·as_aux_lemma =>
      have hwi : (a : Int) - j ≤ 32768 := by omega
      have hci : (cz : Int) < tr := by omega
      have hstep : Mat.long (lst s) a (tr - (cz + 1)) (Mat.prev (lst s) j (Mat.key (lst s) j)) (if b.1 < Mat.size (lst s) j a then (Mat.size (lst s) j a, a - j) else b) = R := by
       have := HL.out
       rw [show tr - cz = (tr - (cz + 1)) + 1 by omega, Mat.long, if_pos hw] at this
       exact this
      obtain ⟨Z, hZ⟩ : ∃ Z, Z = Mat.size (lst s) j a := ⟨_, rfl⟩
      rw [← hZ] at hstep
      have hZ0 : Z = 0 + Mat.lcp (258 - 0) ((lst s).drop (j + 0)) ((lst s).drop (a + 0)) := by rw [hZ, Nat.zero_add]; rfl
      have hZ258 : Z ≤ 258 := by rw [hZ]; exact (Mat.lcp_le _ _ _).1
      have hold := HRD.out j hja hj3
      have HSTEP := Lib.hid hstep
      have HZ0 := Lib.hid hZ0
      have HOLD := Lib.hid (show (w.drewN qq).cell? ⟨q, off + j, none⟩ = some (.int .i64 (ahOne (lst s) j)) from hold)
      clear hstep hZ hZ0 hw hc2 hold HL HRD
      go_upto_block 2 with (fail)
      go_cut [9] (fun sv wx => sv = .int .i64 (Z : Nat) ∧ ∃ q, wx = w.drewN q)
      case first => as_aux_lemma =>
       go_wp2_with fail
       go_loopw [9] (fun sv wr => ∃ i : Nat, sv = .int .i64 i ∧ i ≤ 258 ∧ a + i ≤ s.size ∧ Z = i + Mat.lcp (258 - i) ((lst s).drop (j + i)) ((lst s).drop (a + i)) ∧ ∃ q, wr = w.drewN q) (fun sv _ => 258 - (intOf sv).toNat)
       case atStart => exact ⟨0, rfl, by omega, by omega, HZ0.out, qq, rfl⟩
       case round =>
        obtain ⟨i, rfl, hi, hai, hZi, q3, rfl⟩ := hrel
        clear HZ0
        have HZI := Lib.hid hZi
        have e0 : (w.drewN q3).drew.cell? ⟨fb, 0, none⟩ = some (.string s) := d0
        clear hZi d0 d1 d3 d4 HOLD HSTEP
        by_cases h258 : i < 258
        ·have hi8 : (i : Int) < 258 := by omega
         have hdA : decide ((i : Int) < 258) = true := by simpa using hi8
         by_cases hend : a + i < s.size
         ·obtain ⟨u, hu⟩ : ∃ u, u = j + i := ⟨_, rfl⟩
          obtain ⟨v, hv⟩ : ∃ v, v = a + i := ⟨_, rfl⟩
          have hui : (j : Int) + i = (u : Nat) := by omega
          have hvi : (a : Int) + i = (v : Nat) := by omega
          have hul : u < s.size := by omega
          have hvl : v < s.size := by omega
          have hvli : (v : Int) < s.size := by omega
          have hwu : IntKind.i64.wrap (u : Int) = u := IntWalk.i64_in _ (by omega)
          have hwv : IntKind.i64.wrap (v : Int) = v := IntWalk.i64_in _ (by omega)
          have hdN : decide (v < s.size) = true := by simpa using hvl
          have hdI : decide ((v : Int) < (s.size : Int)) = true := by simpa using hvl
          obtain ⟨x, hx⟩ : ∃ x : UInt8, s[u] = x := ⟨_, rfl⟩
          obtain ⟨y, hy⟩ : ∃ y : UInt8, s[v] = y := ⟨_, rfl⟩
          have hus : (lst s)[u]? = some x := by rw [List.getElem?_eq_getElem (by rw [lst_length]; exact hul), ← hx]; rfl
          have hvs : (lst s)[v]? = some y := by rw [List.getElem?_eq_getElem (by rw [lst_length]; exact hvl), ← hy]; rfl
          have HUS := Lib.hid hus
          have HVS := Lib.hid hvs
          have HU := Lib.hid hu
          have HV := Lib.hid hv
          clear hus hvs hu hv hend h258
          by_cases hxy : x = y
          ·as_aux_lemma =>
           have hq : ((x.toNat : Int) == y.toNat) = true := by rw [hxy]; simp
           have HXY := Lib.hid hxy
           clear hxy
           go_wp2_with fail
           refine wp_region_held_drew (S := (fun w' => w'.cell? ⟨fb, 0, none⟩ = some (.string s))) (by kernel_rfl) ?_ (fun hHeld => ?_)
           ·exact e0
           refine opT 0 rfl ?_
           refine opV 1 (.bool true) rfl ?_ ?_
           ·intro w hSw; (try dsimp only at hSw); go_simp <;> (first | with_reducible rfl | (simp [hdA]; done) | (simp [hdA]; done) | (simp [hdN]; done) | assumption | (with_reducible exact hdA) | omega | (simp; omega))
           (try simp only [Act.put, nz1, nz2, nz3, nz4, nz5, nz6])
           refine opT 2 rfl ?_; refine opT 3 rfl ?_; refine opT 4 rfl ?_; refine opT 5 rfl ?_; refine opT 6 rfl ?_; refine opT 7 rfl ?_; refine opT 8 rfl ?_; refine opT 9 rfl ?_; refine opT 10 rfl ?_
           refine opV 11 (.bool true) rfl ?_ ?_
           ·intro w hSw; (try dsimp only at hSw); go_simp <;> (first | with_reducible rfl | (simp [hdA]; done) | (simp [hdI]; done) | (simp [hdN]; done) | assumption | (with_reducible exact hdI) | omega | (simp; omega))
           (try simp only [Act.put, nz1, nz2, nz3, nz4, nz5, nz6])
           refine opT 12 rfl ?_; refine opT 13 rfl ?_; refine opT 14 rfl ?_; refine opT 15 rfl ?_; refine opT 16 rfl ?_; refine opT 17 rfl ?_; refine opT 18 rfl ?_; refine opT 19 rfl ?_; refine opT 20 rfl ?_; refine opT 21 rfl ?_; refine opT 22 rfl ?_; refine opT 23 rfl ?_; refine opT 24 rfl ?_; refine opT 25 rfl ?_; refine opT 26 rfl ?_; refine opT 27 rfl ?_; refine opT 28 rfl ?_; refine opT 29 rfl ?_
           refine opT 30 rfl ?_; refine opT 31 rfl ?_
           refine wpAnyH_done (by kernel_rfl) ?_ _
           go_wp2_with fail
           go_roundw
           case rel =>
            refine ⟨i + 1, by go_num, by omega, by have := HV.out; omega, ?_, q3 + 1, rfl⟩
            have hm := lcp_more (lst s) j a i (by omega) (by have := HV.out; rw [lst_length]; omega) hja (by rw [← HU.out, ← HV.out, HUS.out, HVS.out, HXY.out])
            have := HZI.out
            omega
           case measure => simp [intOf]; omega
          ·as_aux_lemma =>
           have hq : ((x.toNat : Int) == y.toNat) = false := by
            rw [beq_eq_false_iff_ne]
            intro e
            exact hxy (UInt8.toNat_inj.1 (by omega))
           have hZe : i = Z := by
            have := HZI.out
            rw [lcp_end (lst s) j a i hja (.inr (.inr (by rw [← HU.out, ← HV.out, HUS.out, HVS.out]; intro e; exact hxy (Option.some.inj e))))] at this
            omega
           have HZE := Lib.hid hZe
           clear hZe hxy
           go_wp2_with fail
           refine wp_region_held_drew (S := (fun w' => w'.cell? ⟨fb, 0, none⟩ = some (.string s))) (by kernel_rfl) ?_ (fun hHeld => ?_)
           ·exact e0
           refine opT 0 rfl ?_
           refine opV 1 (.bool true) rfl ?_ ?_
           ·intro w hSw; (try dsimp only at hSw); go_simp <;> (first | with_reducible rfl | (simp [hdA]; done) | (simp [hdA]; done) | (simp [hdN]; done) | assumption | (with_reducible exact hdA) | omega | (simp; omega))
           (try simp only [Act.put, nz1, nz2, nz3, nz4, nz5, nz6])
           refine opT 2 rfl ?_; refine opT 3 rfl ?_; refine opT 4 rfl ?_; refine opT 5 rfl ?_; refine opT 6 rfl ?_; refine opT 7 rfl ?_; refine opT 8 rfl ?_; refine opT 9 rfl ?_; refine opT 10 rfl ?_
           refine opV 11 (.bool true) rfl ?_ ?_
           ·intro w hSw; (try dsimp only at hSw); go_simp <;> (first | with_reducible rfl | (simp [hdA]; done) | (simp [hdI]; done) | (simp [hdN]; done) | assumption | (with_reducible exact hdI) | omega | (simp; omega))
           (try simp only [Act.put, nz1, nz2, nz3, nz4, nz5, nz6])
           refine opT 12 rfl ?_; refine opT 13 rfl ?_; refine opT 14 rfl ?_; refine opT 15 rfl ?_; refine opT 16 rfl ?_; refine opT 17 rfl ?_; refine opT 18 rfl ?_; refine opT 19 rfl ?_; refine opT 20 rfl ?_; refine opT 21 rfl ?_; refine opT 22 rfl ?_; refine opT 23 rfl ?_; refine opT 24 rfl ?_; refine opT 25 rfl ?_; refine opT 26 rfl ?_; refine opT 27 rfl ?_; refine opT 28 rfl ?_; refine opT 29 rfl ?_
           refine opT 30 rfl ?_; refine opT 31 rfl ?_
           refine wpAnyH_done (by kernel_rfl) ?_ _
           go_wp2_with fail
           go_meet
           case rel => exact ⟨by rw [HZE.out], q3 + 1, rfl⟩
         ·as_aux_lemma =>
          have hZe : i = Z := by
           have := HZI.out
           rw [lcp_end (lst s) j a i hja (.inr (.inl (by rw [lst_length]; omega)))] at this
           omega
          obtain ⟨v, hv⟩ : ∃ v, v = a + i := ⟨_, rfl⟩
          have hvi : (a : Int) + i = (v : Nat) := by omega
          have hvli : (s.size : Int) ≤ v := by omega
          have hwv : IntKind.i64.wrap (v : Int) = v := IntWalk.i64_in _ (by omega)
          have hdN : decide (v < s.size) = false := by rw [decide_eq_false_iff_not]; omega
          have hdI : decide ((v : Int) < (s.size : Int)) = false := by rw [decide_eq_false_iff_not]; omega
          have HZE := Lib.hid hZe
          clear hZe hend hv
          go_wp2_with fail
          refine wp_region_held_drew (S := (fun w' => w'.cell? ⟨fb, 0, none⟩ = some (.string s))) (by kernel_rfl) ?_ (fun hHeld => ?_)
          ·exact e0
          refine opT 0 rfl ?_
          refine opV 1 (.bool true) rfl ?_ ?_
          ·intro w hSw; (try dsimp only at hSw); go_simp <;> (first | with_reducible rfl | (simp [hdA]; done) | (simp [hdA]; done) | (simp [hdN]; done) | assumption | (with_reducible exact hdA) | omega | (simp; omega))
          (try simp only [Act.put, nz1, nz2, nz3, nz4, nz5, nz6])
          refine opT 2 rfl ?_; refine opT 3 rfl ?_; refine opT 4 rfl ?_; refine opT 5 rfl ?_; refine opT 6 rfl ?_; refine opT 7 rfl ?_; refine opT 8 rfl ?_; refine opT 9 rfl ?_; refine opT 10 rfl ?_
          refine opV 11 (.bool false) rfl ?_ ?_
          ·intro w hSw; (try dsimp only at hSw); go_simp <;> (first | with_reducible rfl | (simp [hdA]; done) | (simp [hdI]; done) | (simp [hdN]; done) | assumption | (with_reducible exact hdI) | omega | (simp; omega))
          (try simp only [Act.put, nz1, nz2, nz3, nz4, nz5, nz6])
          refine opT 12 rfl ?_; refine opT 13 rfl ?_
          refine opU 14 rfl ?_; refine opU 15 rfl ?_; refine opU 16 rfl ?_; refine opU 17 rfl ?_; refine opU 18 rfl ?_; refine opU 19 rfl ?_; refine opU 20 rfl ?_; refine opU 21 rfl ?_; refine opU 22 rfl ?_; refine opU 23 rfl ?_; refine opU 24 rfl ?_; refine opU 25 rfl ?_; refine opU 26 rfl ?_; refine opU 27 rfl ?_; refine opU 28 rfl ?_; refine opU 29 rfl ?_; refine opU 30 rfl ?_
          refine opT 31 rfl ?_
          refine wpAnyH_done (by kernel_rfl) ?_ _
          go_wp2_with fail
          go_meet
          case rel => exact ⟨by rw [HZE.out], q3 + 1, rfl⟩
        ·as_aux_lemma =>
         have hZe : i = Z := by
          have := HZI.out
          rw [lcp_end (lst s) j a i hja (.inl (by omega))] at this
          omega
         have hi8 : (258 : Int) ≤ i := by omega
         have hdA : decide ((i : Int) < 258) = false := by rw [decide_eq_false_iff_not]; omega
         have HZE := Lib.hid hZe
         clear hZe h258
         go_wp2_with fail
         refine wp_region_held_drew (S := (fun w' => w'.cell? ⟨fb, 0, none⟩ = some (.string s))) (by kernel_rfl) ?_ (fun hHeld => ?_)
         ·exact e0
         refine opT 0 rfl ?_
         refine opV 1 (.bool false) rfl ?_ ?_
         ·intro w hSw; (try dsimp only at hSw); go_simp <;> (first | with_reducible rfl | (simp [hdA]; done) | (simp [hdA]; done) | (simp [hdN]; done) | assumption | (with_reducible exact hdA) | omega | (simp; omega))
         (try simp only [Act.put, nz1, nz2, nz3, nz4, nz5, nz6])
         refine opT 2 rfl ?_
         refine opU 3 rfl ?_; refine opU 4 rfl ?_; refine opU 5 rfl ?_; refine opU 6 rfl ?_; refine opU 7 rfl ?_; refine opU 8 rfl ?_; refine opU 9 rfl ?_; refine opU 10 rfl ?_; refine opU 11 rfl ?_
         refine opT 12 rfl ?_; refine opT 13 rfl ?_
         refine opU 14 rfl ?_; refine opU 15 rfl ?_; refine opU 16 rfl ?_; refine opU 17 rfl ?_; refine opU 18 rfl ?_; refine opU 19 rfl ?_; refine opU 20 rfl ?_; refine opU 21 rfl ?_; refine opU 22 rfl ?_; refine opU 23 rfl ?_; refine opU 24 rfl ?_; refine opU 25 rfl ?_; refine opU 26 rfl ?_; refine opU 27 rfl ?_; refine opU 28 rfl ?_; refine opU 29 rfl ?_; refine opU 30 rfl ?_
         refine opT 31 rfl ?_
         refine wpAnyH_done (by kernel_rfl) ?_ _
         go_wp2_with fail
         go_meet
         case rel => exact ⟨by rw [HZE.out], q3 + 1, rfl⟩
      case rest => as_aux_lemma =>
       obtain ⟨rfl, q3, rfl⟩ := hcut
       have e3 : (w.drewN q3).cell? ⟨fb, 3, none⟩ = some (.slice (some ⟨q, off, none⟩) s.size c) := d3
       have e5 : (w.drewN q3).cell? ⟨q, off + j, none⟩ = some (.int .i64 (ahOne (lst s) j)) := HOLD.out
       have hjl : j < s.size := by omega
       have haj : (a : Int) - j = ((a - j : Nat) : Int) := by omega
       have hnext : ∀ b2 : Nat × Nat, Mat.long (lst s) a (tr - (cz + 1)) (Mat.prev (lst s) j (Mat.key (lst s) j)) b2 = R → b2.1 ≤ 258 → b2.2 ≤ a → LongR (lst s) a tr R (ahOne (lst s) j) true (cz + 1) b2 := by
        intro b2 h1 h2 h3
        refine ⟨⟨_, h1, ?_⟩, by omega, h2, h3⟩
        unfold ahOne
        cases hp : Mat.prev (lst s) j (Mat.key (lst s) j) with
        | none => exact .inl ⟨rfl, .inr rfl⟩
        | some j2 =>
         have := (Mat.prev_lt _ _ _ _ hp).1
         exact .inr ⟨j2, rfl, rfl, rfl, by omega, by rw [lst_length]; omega⟩
       have HNX := Lib.hid hnext
       clear hnext d0 d1 d3 d4 HOLD HZ0
       by_cases hbz : b.1 < Z
       ·have hbi : (b.1 : Int) < Z := by omega
        have hst := HSTEP.out
        rw [if_pos hbz] at hst
        have HN := Lib.hid (HNX.out (Z, a - j) hst hZ258 (by show a - j ≤ a; omega))
        clear hst hbz
        go_wp2_with fail
        go_roundw
        case rel => exact ⟨_, cz + 1, (Z, a - j), rfl, rfl, rfl, by go_num, HN.out, q3, rfl⟩
        case measure => simp [intOf]; omega
       ·have hbi : (Z : Int) ≤ b.1 := by omega
        have hst := HSTEP.out
        rw [if_neg hbz] at hst
        have HN := Lib.hid (HNX.out b hst hb1 hb2')
        clear hst hbz
        go_wp2_with fail
        go_roundw
        case rel => exact ⟨_, cz + 1, b, rfl, rfl, rfl, by go_num, HN.out, q3, rfl⟩
        case measure => simp [intOf]; omega
     ·as_aux_lemma =>
      have hRb : R = b := by
       have := HL.out
       rw [← this, show tr - cz = 0 by omega]
       rfl
      have HRB := Lib.hid hRb
      have hcz2 : (tr : Int) ≤ cz := by omega
      have hwi : (a : Int) - j ≤ 32768 := by omega
      clear hRb hc2 hw
      go_wp2_with fail
      go_ret2
      exact ⟨by rw [HRB.out]; rfl, qq, rfl⟩
    ·as_aux_lemma =>
     have hRb : R = b := by
      have := HL.out
      rw [← this]
      cases h : tr - cz with
      | zero => rfl
      | succ t => rw [Mat.long, if_neg hw]
     have HRB := Lib.hid hRb
     have hwi : (32768 : Int) < (a : Int) - j := by omega
     clear hRb hw
     go_wp2_with fail
     go_ret2
     exact ⟨by rw [HRB.out]; rfl, qq, rfl⟩
end Go.Proofs.YtkegkelaffohjaaGreatDoor
