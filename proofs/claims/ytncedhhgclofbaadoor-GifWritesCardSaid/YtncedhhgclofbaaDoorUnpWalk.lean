/- lzw.Unpack: the walk. -/
import Derived.Test.YtncedhhgclofbaaDoorUnpk
import Derived.Test.YtncedhhgclofbaaDoorBitR
import Derived.Test.YtncedhhgclofbaaDoorReadLaw
import Derived.Deep.LoopGhost
import Derived.Deep.RegionWith
namespace Go.Proofs.YtncedhhgclofbaaDoor
open Go Go.RowKit

theorem bad_w (W : Nat) (b : Bool) (h : b = decide (W < 2 ∨ 8 < W)) (w : World) :
    Calls Tryd.prog 55 #[.int .i64 W] w fun e w' => e = .returned (.bool b) ∧ w = w' := by
  go_enter Tryd.func55, Tryd.ntmps55
  by_cases h1 : W < 2
  · have e : b = true := by rw [h, decide_eq_true (.inl h1)]
    subst e
    clear h
    have h1i : (W : Int) < 2 := by omega
    go_wp2_with fail
    go_ret
    exact ⟨rfl, rfl⟩
  · have h1i : (2 : Int) ≤ W := by omega
    by_cases h2 : 8 < W
    · have e : b = true := by rw [h, decide_eq_true (.inr h2)]
      subst e
      clear h h1
      have h2i : (8 : Int) < W := by omega
      go_wp2_with fail
      go_ret
      exact ⟨rfl, rfl⟩
    · have e : b = false := by rw [h, decide_eq_false (by omega)]
      subst e
      have h2i : (W : Int) ≤ 8 := by omega
      clear h h1 h2
      go_wp2_with fail
      go_ret
      refine ⟨?_, rfl⟩
      show Ending.returned (.bool (decide ((W : Int) < 2) || decide ((8 : Int) < W))) = _
      rw [decide_eq_false (by omega), decide_eq_false (by omega)]
      rfl
/-- What Unpack gives. -/
def Unpd (E : Nat → Addr) (w : World) (R : Option (List UInt8)) (e : Ending) (w' : World) : Prop :=
  Below w.heap.size w w' ∧ match R with
  | some l => ∃ z : Int, e = .returned (.tuple #[.string ⟨l.toArray⟩, .int .i64 z, .nilIface])
  | none => ∃ k, e = .returned (.tuple #[.string ⟨#[]⟩, .int .i64 0, errV (E k)])
/-- What the loop of Unpack keeps. -/
structure UpR (w : World) (s : ByteArray) (W most : Nat) (R : Option (List UInt8)) (gk : Nat) (ov : Value) (wr : World) : Prop where
  a : ∃ (p : Nat) (u : Lz.U) (v : Value) (o : List UInt8), Own wr (w.heap.size + 2) 1 ov o.length (bytes o) ∧ Blk wr w.heap.size 165 #[.string s, .int .i64 p] ∧ UnK wr (w.heap.size + 2) (w.heap.size + 1) u v ∧ Lz.U.Ok W u ∧
    (∀ g, ov.ownBlock = some g → v.ownBlock ≠ some g) ∧ Lz.dec W most gk ((Bit.bits (lst s)).drop p) u o = R ∧ p ≤ 8 * s.size ∧ 8 * s.size < gk + p ∧ o.length ≤ most
  bel : Below w.heap.size w wr
set_option maxHeartbeats 4000000 in
set_option maxRecDepth 100000 in
theorem unpack_any (s : ByteArray) (W most : Nat) (E : Nat → Addr) (w : World) (hE : Er4 w E) (hs : s.size ≤ 300000) (hm : most ≤ 300000) :
    Calls Tryd.prog 63 #[.string s, .int .i64 W, .int .i64 most] w fun e w' => Unpd E w (Gif.unpack (lst s) W most) e w' := by
  obtain ⟨R, hR⟩ : ∃ R, R = Gif.unpack (lst s) W most := ⟨_, rfl⟩
  rw [← hR]
  unfold Gif.unpack at hR
  obtain ⟨b, hb⟩ : ∃ b : Bool, b = decide (W < 2 ∨ 8 < W) := ⟨_, rfl⟩
  have HB := Lib.hid hb
  have hms : (most : Int) ≤ 300000 := by omega
  have hm0 : (0 : Int) ≤ most := by omega
  have hss : (s.size : Int) ≤ 300000 := by omega
  have hx1 := hE.bound
  go_enter Tryd.func63, Tryd.ntmps63
  cases hbb : b with
  | true =>
    have h1 : W < 2 ∨ 8 < W := by rw [hbb] at hb; exact of_decide_eq_true hb.symm
    rw [if_pos (by rcases h1 with h | h; exact .inl h; exact .inr (.inl h))] at hR
    have HR := Lib.hid hR
    clear hR h1 hb
    go_wp2_with fail
    refine (bad_w W b HB.out _).mono ?_
    rintro e w1 ⟨rfl, rfl⟩
    subst hbb
    go_wp2_with fail
    go_quiet (fail)
    go_wp2
    exact bodyPost_ret (v := .tuple #[.string ⟨#[]⟩, .int .i64 0, errV (E 1)]) (by simp [results, Tryd.results63, go_sem, errV]) rfl ⟨below_drewN (Below.refl _ _) _, by rw [HR.out]; exact ⟨1, rfl⟩⟩
  | false =>
    have h1 : ¬ (W < 2 ∨ 8 < W) := by rw [hbb] at hb; exact of_decide_eq_false hb.symm
    have h2 : 2 ≤ W := by omega
    have h8 : W ≤ 8 := by omega
    rw [if_neg (by rw [lst_length]; omega)] at hR
    have HR := Lib.hid hR
    clear hR h1 hb
    go_wp2_with fail
    refine (bad_w W b HB.out _).mono ?_
    rintro e w1 ⟨rfl, rfl⟩
    subst hbb
    go_wp2_with fail
    refine (newReader_any s _).mono ?_
    rintro e w1 ⟨rfl, rfl⟩
    have hBr := (Blk.new w 165 #[.string s, .int .i64 0] rfl).alloc (.cells #[.slice none 0 0, .int .i64 0, .string ⟨#[]⟩] 143)
    have hBu := Blk.new (w.alloc (.cells #[.string s, .int .i64 0] 165)) 143 #[.slice none 0 0, .int .i64 0, .string ⟨#[]⟩] (g := w.heap.size + 1) (by simp)
    have hW2 : Below w.heap.size w ((w.alloc (.cells #[.string s, .int .i64 0] 165)).alloc (.cells #[.slice none 0 0, .int .i64 0, .string ⟨#[]⟩] 143)) := by go_grown
    have hz2 : ((w.alloc (.cells #[.string s, .int .i64 0] 165)).alloc (.cells #[.slice none 0 0, .int .i64 0, .string ⟨#[]⟩] 143)).heap.size = w.heap.size + 2 := by simp
    have HZ2 := Lib.hid hz2
    clear hz2
    go_wp2_with fail
    generalize (w.alloc (.cells #[.string s, .int .i64 0] 165)).alloc (.cells #[.slice none 0 0, .int .i64 0, .string ⟨#[]⟩] 143) = w2 at *
    refine (uclear_any (w.heap.size + 1) W _ _ _ w2 hBu h2 h8).mono ?_
    rintro e w3 ⟨rfl, v3, hU3, K3⟩
    have hbr3 := hBr.keeps K3 (by omega)
    have hw3 : Below w.heap.size w w3 := hW2.trans (K3.below (B := w.heap.size) (fun g hg => by omega) hW2.size)
    have hL0 : UpR w s W most R (8 * s.size + 1) (.slice none 0 0) w3 := by
      refine ⟨⟨0, Lz.U.new W, v3, [], Own.nil _ _ _, hbr3, ⟨hU3.blk, by rw [← HZ2.out]; exact hU3.own, hU3.ne⟩, Lz.U.Ok.new h2 h8, fun g hg => (by simp [Value.ownBlock] at hg), ?_, Nat.zero_le _, by omega, Nat.zero_le _⟩, hw3⟩
      rw [List.drop_zero, HR.out, lst_length]
    have HL0 := Lib.hid hL0
    obtain ⟨X, hX⟩ : ∃ X : Nat, X = 2 ^ W := ⟨_, rfl⟩
    have hX2 : (2 : Int) ^ W = X := by rw [hX]; exact (Int.natCast_pow 2 W).symm
    have hXl : X ≤ 256 := by rw [hX]; exact Nat.le_trans (Nat.pow_le_pow_right (show 0 < 2 by omega) h8) (by decide)
    have HX := Lib.hid hX
    clear hX hL0 hU3 K3 hbr3 hw3 hBr hBu hW2 HZ2 hx1
    obtain ⟨i0, hi, hz0, hz1, hz2⟩ := info_parts byteInfo
    go_wp2_with fail
    go_loopg [11] (8 * s.size + 1) (fun gk ov wr => UpR w s W most R gk ov wr)
    case atStart => exact HL0.out
    case round =>
      clear HL0
      obtain ⟨⟨p, u, v, o, hown, hbr, hu, hok, hap, heq, hp, hgk, hom⟩, hbel⟩ := hrel
      have HOK := Lib.hid hok
      have hzr := hbel.size
      have hs12 := hok.s12
      have c1 : wr.cell? ⟨w.heap.size + 1, 1, none⟩ = some (.int .i64 u.size) := by rw [hu.blk.cell]; rfl
      obtain ⟨A, c, rfl, hc, _⟩ := hown.form
      obtain ⟨k, rfl⟩ : ∃ k, gk = k + 1 := ⟨gk - 1, by omega⟩
      rw [Lz.dec] at heq
      have hbl : ((Bit.bits (lst s)).drop p).length = 8 * s.size - p := by rw [List.length_drop, Bit.bits_length, lst_length]
      rw [hbl, List.drop_drop] at heq
      obtain ⟨Z, hZ⟩ : ∃ Z, Z = u.size := ⟨_, rfl⟩
      rw [← hZ] at heq hs12 c1
      have HZ := Lib.hid hZ
      have hEr := hE.below hbel
      clear hok hbl hZ
      by_cases hfew : 8 * s.size - p < Z
      · rw [if_pos hfew] at heq
        have HEQ := Lib.hid heq
        have hf2 : 8 * s.size < p + Z := by omega
        clear heq hfew
        go_wp2_with fail
        refine (get_none w.heap.size s p Z E _ hEr hbr (by omega) hp hf2 (by omega)).mono ?_
        rintro e w4 ⟨rfl, q, rfl⟩
        unfold errV
        go_wp2_with fail
        exact bodyPost_ret (v := .tuple #[.string ⟨#[]⟩, .int .i64 0, errV (E 0)]) (by simp [results, Tryd.results63, go_sem, errV]) rfl ⟨below_drewN hbel _, by rw [← HEQ.out]; exact ⟨0, rfl⟩⟩
      · rw [if_neg hfew] at heq
        obtain ⟨n, hn⟩ : ∃ n, n = Bit.val (((Bit.bits (lst s)).drop p).take Z) := ⟨_, rfl⟩
        rw [← hn] at heq
        have hn12 : n < 4096 := by
          have h1 := Bit.val_lt (((Bit.bits (lst s)).drop p).take Z)
          rw [← hn, List.length_take, List.length_drop, Bit.bits_length, lst_length, Nat.min_eq_left (by omega)] at h1
          have h3 : (2 : Nat) ^ Z ≤ 2 ^ 12 := Nat.pow_le_pow_right (by omega) hs12
          omega
        have hpz : p + Z ≤ 8 * s.size := by omega
        have hZ1 : 1 ≤ Z := by rw [HZ.out]; have := HOK.out.sW; omega
        have HEQ := Lib.hid heq
        have HNV := Lib.hid hn
        clear heq hfew hn
        go_wp2_with fail
        refine (get_any w.heap.size s p Z _ hbr (by omega) hpz (by omega)).mono ?_
        rintro e w4 ⟨rfl, hbr4, K4⟩
        rw [← HNV.out]
        have hown4 := hown.keeps K4 (fun g hg e => by have := (hown.lt g hg).1; omega)
        have hu4 : UnK w4 (w.heap.size + 2) (w.heap.size + 1) u v := ⟨hu.blk.keeps K4 (by omega), hu.own.keeps K4 (fun g hg e => by have := (hu.own.lt g hg).1; omega), hu.ne⟩
        have hbel4 : Below w.heap.size w w4 := hbel.trans (K4.below (B := w.heap.size) (fun g hg => by omega) hzr)
        have hE4 := hE.below hbel4
        have hz4 := hbel4.size
        clear hown hu hbr K4 hbel hEr hzr c1
        have hnw : IntKind.i64.wrap (n : Int) = n := IntWalk.i64_in _ (by omega)
        have heq := HEQ.out
        rw [← HX.out] at heq
        by_cases hn1 : n = X
        · rw [if_pos hn1] at heq
          have HQ := Lib.hid heq
          subst hn1
          clear heq HEQ
          go_wp2_with fail
          refine (uclear_any (w.heap.size + 1) W _ _ _ w4 hu4.blk h2 h8).mono ?_
          rintro e w5 ⟨rfl, v5, hU5, K5⟩
          go_wp2_with fail
          go_roundg k
          case measure => exact Nat.lt_succ_self k
          case rel =>
            have hz5 := K5.size
            refine ⟨⟨p + Z, Lz.U.new W, v5, o, hown4.keeps K5 (fun g hg e => by have := (hown4.lt g hg).1; omega), hbr4.keeps K5 (by omega), ⟨hU5.blk, hU5.own.mono (by have := hu4.blk.lt; omega), hU5.ne⟩, Lz.U.Ok.new h2 h8, fun g hg e => ?_, HQ.out, hpz, by omega, hom⟩, hbel4.trans (K5.below (B := w.heap.size) (fun g hg => by omega) hz4)⟩
            have h6 := (hown4.lt g hg).2
            have h7 := (hU5.own.lt g e).1
            omega
        · rw [if_neg hn1] at heq
          have hn1b : ((n : Int) == X) = false := by rw [beq_eq_false_iff_ne]; omega
          by_cases hn2 : n = X + 1
          · rw [if_pos hn2] at heq
            have HQ := Lib.hid heq
            have hn2b : ((n : Int) == X + 1) = true := by rw [beq_iff_eq]; omega
            have hcv1 := conv_reads w4.drew A o.length c _ o hown4.drew.reads.2
            have d1 : w4.cell? ⟨w.heap.size, 1, none⟩ = some (.int .i64 (p + Z : Nat)) := by rw [hbr4.cell]; rfl
            clear heq HEQ hn1 hn2
            go_wp2_with fail
            go_region_with ((go_at_call 75; refine (at_any w.heap.size s (p + Z) w4.drew hbr4.drew).mono ?_; rintro e wA ⟨rfl, rfl⟩))
            all_goals
              go_wp2_with fail
              exact bodyPost_ret (v := .tuple #[.string ⟨o.toArray⟩, .int .i64 _, .nilIface]) (by simp [results, Tryd.results63, go_sem]; rfl) rfl ⟨hbel4.drew, by rw [← HQ.out]; exact ⟨_, rfl⟩⟩
          · rw [if_neg hn2] at heq
            have hn2b : ((n : Int) == X + 1) = false := by rw [beq_eq_false_iff_ne]; omega
            have hnX : n ≠ 2 ^ W := by rw [← HX.out]; exact hn1
            have hnX1 : n ≠ 2 ^ W + 1 := by rw [← HX.out]; exact hn2
            have HNX := Lib.hid hnX
            have HNX1 := Lib.hid hnX1
            cases ht : u.text n with
            | none =>
              rw [ht] at heq
              have HQ := Lib.hid heq
              have htx := hE4.text
              clear heq HEQ hn1 hn2 hnX hnX1
              go_wp2_with fail
              refine (word_no (w.heap.size + 1) _ n u v w4 hu4 ht).mono ?_
              rintro e w5 ⟨rfl, rfl⟩
              clear ht
              go_wp2_with fail
              go_quiet (fail)
              go_wp2
              exact bodyPost_ret (v := .tuple #[.string ⟨#[]⟩, .int .i64 0, errV (E 0)]) (by simp [results, Tryd.results63, go_sem, errV]) rfl ⟨below_drewN hbel4 _, by rw [← HQ.out]; exact ⟨0, rfl⟩⟩
            | some wd =>
              rw [ht] at heq
              replace heq : (if most < o.length + wd.length then none else Lz.dec W most k ((Bit.bits (lst s)).drop (p + Z)) (u.next wd) (o ++ wd)) = R := heq
              have hwne := HOK.out.textNe ht hnX hnX1
              have hwm := HOK.out.textMost ht
              have hl1 := HOK.out.len1
              have hnext := HOK.out.next ht hn12
              have HNEXT := Lib.hid hnext
              have HT := Lib.hid ht
              have HWNE := Lib.hid hwne
              clear HEQ hn1 hn2 hnX hnX1 ht hnext hwne
              go_wp2_with fail
              refine (word_yes (w.heap.size + 1) (w.heap.size + 2) n W u v wd w4 hu4 HOK.out HT.out HWNE.out (by have := hu4.blk.lt; omega)).mono ?_
              rintro e w5 ⟨rfl, v5, hU5, hf5, K5⟩
              have hz5 := K5.size
              have hown5 := hown4.keeps K5 (fun g hg e => by
                rcases e with e | e
                · have := (hown4.lt g hg).1; omega
                · exact hap g hg e)
              have hbr5 := hbr4.keeps K5 (fun e => by
                rcases e with e | e
                · omega
                · have := (hu4.own.lt _ e).1; omega)
              have hbel5 := hbel4.trans (K5.below (B := w.heap.size) (fun g hg => by
                rcases hg with e | e
                · omega
                · have := (hu4.own.lt _ e).1; omega) hz4)
              have hap5 : ∀ g, (Value.slice A o.length c).ownBlock = some g → v5.ownBlock ≠ some g := fun g hg e => by
                rcases hf5 g e with e2 | e2
                · exact hap g hg e2
                · have := (hown4.lt g hg).2; omega
              obtain ⟨sw, hsw⟩ : ∃ sw : ByteArray, sw = ⟨wd.toArray⟩ := ⟨_, rfl⟩
              have hswz : sw.size = wd.length := by rw [hsw]; rfl
              rw [← hsw]
              rw [← hswz] at heq hwm
              have HSW := Lib.hid hsw
              have HSWZ := Lib.hid hswz
              clear hown4 hbr4 hu4 K5 hbel4 hap hf5 hsw hswz
              by_cases hgt : most < o.length + sw.size
              · rw [if_pos hgt] at heq
                have HQ := Lib.hid heq
                have hgti : (most : Int) < (o.length : Int) + sw.size := by omega
                have hbx := (hE.below hbel5).bound
                clear heq hgt
                go_wp2_with fail
                go_quiet (fail)
                go_wp2
                exact bodyPost_ret (v := .tuple #[.string ⟨#[]⟩, .int .i64 0, errV (E 1)]) (by simp [results, Tryd.results63, go_sem, errV]) rfl ⟨below_drewN hbel5 _, by rw [← HQ.out]; exact ⟨1, rfl⟩⟩
              · rw [if_neg hgt] at heq
                have HQ := Lib.hid heq
                have hgti : (o.length : Int) + sw.size ≤ most := by omega
                have hgtn : o.length + sw.size ≤ most := by omega
                obtain ⟨t2, ht2⟩ : ∃ t2, t2 = o ++ wd := ⟨_, rfl⟩
                have HT2 : bytes o ++ byteCells sw = bytes t2 := by rw [ht2, bytes_append, HSW.out]; rfl
                have hl2 : t2.length = o.length + sw.size := by rw [ht2, List.length_append, HSWZ.out]
                rw [← ht2] at heq
                have HQ2 := Lib.hid heq
                have H7 := Lib.hid hl2
                have hz2w : w.heap.size + 2 ≤ w5.heap.size := by have := hU5.blk.lt; omega
                clear heq hgt ht2 HQ hl2
                go_wp2_with (at_builtin; refine wpList_append_S rfl (.tmp 89) (.tmp 90) 56 9 rfl (w.heap.size + 2) 5 i0 (.int .u8 0) 1 1 Tryd.underlying56 hi hz0 hz1 hz2 rfl (by decide) (.slice A o.length c) o.length (bytes o) rfl hown5 (bytes_one _) sw.size (byteCells sw) (Src.ofString _ Tryd.underlying9 _) (o.length + sw.size) rfl (bytes t2) HT2 (by unfold maxLen; omega) (by omega) hz2w ?_; intro A6 c6 w6 hown6 hg6 hat6)
                go_roundg k
                case measure => exact Nat.lt_succ_self k
                case rel =>
                  have hneb : ∀ b, b ≤ w.heap.size + 1 → some b ≠ (Value.slice A o.length c).ownBlock := fun b hb e => by have := (hown5.lt b e.symm).1; omega
                  refine ⟨⟨p + Z, u.next wd, v5, t2, by rw [H7.out]; exact hown6, hbr5.grown hg6 (hneb _ (by omega)), ⟨hU5.blk.grown hg6 (hneb _ (by omega)), Own.kept2 hU5.own hg6 (fun g hg => hap5 g hg), hU5.ne⟩, HNEXT.out, fun g hg e => ?_, HQ2.out, hpz, by omega, by rw [H7.out]; exact hgtn⟩, hbel5.grown hg6 (by omega) (fun g hg => by have := (hown5.lt g hg).1; omega)⟩
                  rcases hat6 with e2 | e2
                  · exact hap5 g (e2 ▸ hg) e
                  · rw [e2] at hg
                    injection hg with hg
                    have := (hU5.own.lt g e).2
                    omega
end Go.Proofs.YtncedhhgclofbaaDoor
