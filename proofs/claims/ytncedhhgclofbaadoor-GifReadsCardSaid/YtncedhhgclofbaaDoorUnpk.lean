/- lzw.unpacker: clear, word: the walks. -/
import Derived.Test.YtncedhhgclofbaaDoorLzwLaw
import Derived.Test.YtncedhhgclofbaaDoorPacker
import Derived.Test.YtncedhhgclofbaaDoorText
import Derived.Lib.Strings
import Derived.Deep.Cut
import Derived.Deep.DeepCutAuto
import Derived.Deep.CutBlock
import Derived.BigQuiet
import Derived.Deep.QuietTactic
namespace Go.Proofs.YtncedhhgclofbaaDoor
open Go Go.RowKit

def strs (l : List (List UInt8)) : List Value := l.map fun s => .string ⟨s.toArray⟩
theorem strs_length (l : List (List UInt8)) : (strs l).length = l.length := by simp [strs]
theorem strs_one (l : List (List UInt8)) : ∀ u ∈ strs l, u.oneCell' = true := by
  intro u hu
  obtain ⟨s, _, rfl⟩ := List.mem_map.1 hu
  rfl
theorem strs_append (l m : List (List UInt8)) : strs (l ++ m) = strs l ++ strs m := by simp [strs]
theorem strs_at (l : List (List UInt8)) (i : Nat) (h : i < l.length) : (strs l)[i]? = some (.string ⟨l[i].toArray⟩) := by simp [strs, h]
theorem strInfo : (Tryd.prog.info? 9).map (fun i => (i.zero, i.size, i.bytes)) = some (some (.string ⟨#[]⟩), 1, 16) := by kernel_rfl
/-- What an unpacker is. -/
structure UnK (w : World) (B g : Nat) (u : Lz.U) (v : Value) : Prop where
  blk : Blk w g 143 #[v, .int .i64 u.size, .string ⟨u.last.toArray⟩]
  own : Own w B 1 v u.words.length (strs u.words)
  ne : v.ownBlock ≠ some g
/-- The first words. -/
def firsts (i : Nat) : List (List UInt8) := (List.range i).map fun i => [UInt8.ofNat i]
theorem firsts_length (i : Nat) : (firsts i).length = i := by simp [firsts]
theorem firsts_succ (i : Nat) : firsts (i + 1) = firsts i ++ [[UInt8.ofNat i]] := by simp [firsts, List.range_succ]
/-- What the loop of clear keeps. -/
structure UcR (w : World) (g : Nat) (z l : Value) (i : Nat) (wr : World) : Prop where
  a : ∃ v, Blk wr g 143 #[v, z, l] ∧ Own wr w.heap.size 1 v i (strs (firsts i))
  keeps : Keeps (fun x => x = g) w wr
set_option maxHeartbeats 2000000 in
set_option maxRecDepth 100000 in
theorem uclear_any (g W : Nat) (v z l : Value) (w : World) (hb : Blk w g 143 #[v, z, l]) (h2 : 2 ≤ W) (h8 : W ≤ 8) :
    Calls Tryd.prog 73 #[.pointer (some ⟨g, 0, none⟩), .int .i64 W] w fun e w' => e = .returned (.tuple #[]) ∧ ∃ v', UnK w' w.heap.size g (Lz.U.new W) v' ∧ Keeps (fun x => x = g) w w' := by
  obtain ⟨i0, hi, hz0, hz1, hz2⟩ := info_parts strInfo
  have hgl := hb.lt
  have d0 := hb.free 0
  have c0 : w.cell? ⟨g, 0, none⟩ = some v := by rw [hb.cell]; rfl
  obtain ⟨Y, hY⟩ : ∃ Y : Nat, Y = 2 ^ W := ⟨_, rfl⟩
  have hY2 : (2 : Int) ^ W = Y := by rw [hY]; push_cast; rfl
  have hYl : Y ≤ 256 := by rw [hY]; exact Nat.le_trans (Nat.pow_le_pow_right (show 0 < 2 by omega) (show W ≤ 8 by omega)) (Nat.le_refl _)
  have HY := Lib.hid hY
  clear hY
  have hb0 := hb.set_ 0 (.slice none 0 0)
  have K0 : Keeps (fun x => x = g) w (w.setCell ⟨g, 0, none⟩ (.slice none 0 0)) := (Keeps.refl (fun x => x = g) w).setCell (p := ⟨g, 0, none⟩) (fun _ => rfl) _
  go_enter Tryd.func73, Tryd.ntmps73
  go_wp2_with fail
  go_loopw [10] (fun i wr => ∃ k : Nat, k ≤ Y ∧ i = .int .i64 k ∧ UcR w g z l k wr) (fun i _ => Y - (intOf i).toNat)
  case atStart => exact ⟨0, Nat.zero_le _, rfl, ⟨.slice none 0 0, hb0, Own.nil _ _ _⟩, K0⟩
  case round =>
    obtain ⟨k, hk, rfl, ⟨vk, hbr, hor⟩, hkr⟩ := hrel
    have hzr := hkr.size
    obtain ⟨A, c, rfl, hc, _⟩ := hor.form
    have e0 : wr.cell? ⟨g, 0, none⟩ = some (.slice A k c) := by rw [hbr.cell]; rfl
    have f0 := hbr.free 0
    have hgr := hbr.lt
    have hne : (Value.slice A k c).ownBlock ≠ some g := fun e => by have := (hor.lt g e).1; omega
    have nT : some g ≠ (Value.slice A k c).ownBlock := fun e => hne e.symm
    by_cases hlt : k < Y
    · have hkm : (k : Int) % 256 = k := by omega
      have hcv1 := conv_made wr [UInt8.ofNat k] 1 #[.int .u8 k] rfl (by simp [bytes]; omega)
      have hcv2 := conv_made wr.drew [UInt8.ofNat k] 1 #[.int .u8 k] rfl (by simp [bytes]; omega)
      have hcv3 : (convert 56 9 (.slice (some ⟨wr.heap.size, 0, none⟩) 1 1)).run Tryd.prog (wr.alloc (.cells #[.int .u8 k] 5)).drew = .ok (.string ⟨[UInt8.ofNat k].toArray⟩) (wr.alloc (.cells #[.int .u8 k] 5)).drew :=
        conv_reads _ _ 1 1 (wr.heap.size + 1) [UInt8.ofNat k] ⟨rfl, fun _ => ⟨wr.heap.size, 0, rfl, Nat.lt_succ_self _, fun j u hu => by
          have hB := (Blk.new wr 5 #[.int .u8 k] rfl).drew
          have hkn : (k : Int) = ((UInt8.ofNat k).toNat : Nat) := by rw [UInt8.toNat_ofNat_of_lt' (by show _ < 256; omega)]
          rw [Nat.zero_add, hB.cell, hkn]
          simpa [bytes] using hu⟩⟩
      have hwk : IntKind.u8.wrap (k : Int) = k := IntWalk.u8_in _ (by omega)
      have hBS := (Blk.new (wr.alloc (.cells #[.int .u8 k] 5)) 9 #[.string ⟨[UInt8.ofNat k].toArray⟩] (g := wr.heap.size + 1) (by simp)).drew
      go_wp2_with fail
      go_region_law
        ((refine step_append_Own _ rfl (.tmp 17) (.tmp 22) 141 141 rfl w.heap.size 9 i0 (.string ⟨#[]⟩) 1 16 Tryd.underlying141 hi hz0 hz1 hz2 rfl (by decide) (.slice A k c) k (strs (firsts k)) rfl (((hor.alloc _).alloc _).drew) (strs_one _) 1 [.string ⟨[UInt8.ofNat k].toArray⟩] (Src.blk Tryd.underlying141 hBS rfl (by intro u hu; cases List.mem_singleton.1 hu; rfl)) (by unfold maxLen; omega) (by omega) (by simp; omega) ?_; intro vT' wT hownT hgT hatT; obtain ⟨Ap, cp, rfl, hcp, _⟩ := hownT.form; have B5 := Blk.grown (Blk.drew (Blk.alloc (Blk.alloc hbr _) _)) hgT nT; have d5 : wT.cell? ⟨g, 0, none⟩ = some (.slice A k c) := (by rw [B5.cell]; rfl); have f5 := B5.free 0))
      all_goals
        go_wp2_with fail
        go_roundw
        case rel =>
          have hneT : (Value.slice Ap (k + 1) cp).ownBlock ≠ some g := by
            intro e
            rcases hatT with e2 | e2 <;> rw [e2] at e
            · exact hne e
            · injection e with e
              simp at e
              omega
          refine ⟨k + 1, hlt, by go_num, ⟨_, B5.set_ 0 _, ?_⟩, ?_⟩
          · rw [firsts_succ, strs_append]
            exact hownT.setCell (p := ⟨g, 0, none⟩) hneT _
          · exact (((hkr.alloc _).alloc _).drew.grown hgT (fun x hx hl => absurd (hor.lt x hx).1 (by omega))).setCell (p := ⟨g, 0, none⟩) (fun _ => rfl) _
        case measure => simp [intOf]; omega
    · have hkY : k = Y := by omega
      subst hkY
      have c1 : wr.cell? ⟨g, 1, none⟩ = some z := by rw [hbr.cell]; rfl
      have c2 : wr.cell? ⟨g, 2, none⟩ = some l := by rw [hbr.cell]; rfl
      go_wp2_with ((at_builtin; refine wpList_append_S rfl (.tmp 31) (.tmp 32) 141 141 rfl w.heap.size 9 i0 (.string ⟨#[]⟩) 1 16 Tryd.underlying141 hi hz0 hz1 hz2 rfl (by decide) (.slice A k c) k (strs (firsts k)) rfl (hor.alloc _) (strs_one _) 2 [.string ⟨#[]⟩, .string ⟨#[]⟩] (Src.made Tryd.underlying141 (by first | rfl | simp) rfl (by intro v hv; simp only [List.mem_cons, List.not_mem_nil, or_false] at hv; rcases hv with rfl | rfl <;> rfl)) (k + 2) rfl (strs (firsts k ++ [[], []])) (by rw [strs_append]; rfl) (by unfold maxLen; omega) (by omega) (by first | omega | (simp; done) | (simp; omega)) ?_; intro A5 c5 wT hownT hgT hatT; have B5 := Blk.grown (Blk.alloc hbr _) hgT nT; have t0 : wT.cell? ⟨g, 0, none⟩ = some (.slice A k c) := (by rw [B5.cell]; rfl); have t1 : wT.cell? ⟨g, 1, none⟩ = some z := (by rw [B5.cell]; rfl); have t2 : wT.cell? ⟨g, 2, none⟩ = some l := (by rw [B5.cell]; rfl); have g0 := B5.free 0; have g1 := B5.free 1; have g2 := B5.free 2))
      go_end0
      have hneT : (Value.slice A5 (k + 2) c5).ownBlock ≠ some g := by
        intro e
        rcases hatT with e2 | e2 <;> rw [e2] at e
        · exact hne e
        · injection e with e
          simp at e
          omega
      refine ⟨rfl, _, ⟨?_, ?_, hneT⟩, ?_⟩
      · have := ((B5.set_ 0 (.slice A5 (k + 2) c5)).set_ 1 (.int .i64 (W + 1))).set_ 2 (.string ⟨#[]⟩)
        exact this
      · have e : (Lz.U.new W).words = firsts k ++ [[], []] := by rw [HY.out]; rfl
        have e2 : (Lz.U.new W).words.length = k + 2 := by rw [e, List.length_append, firsts_length]; rfl
        rw [e2, e]
        exact ((hownT.setCell (p := ⟨g, 0, none⟩) hneT _).setCell (p := ⟨g, 1, none⟩) hneT _).setCell (p := ⟨g, 2, none⟩) hneT _
      · exact ((((hkr.alloc _).grown hgT (fun x hx hl => absurd (hor.lt x hx).1 (by omega))).setCell (p := ⟨g, 0, none⟩) (fun _ => rfl) _).setCell (p := ⟨g, 1, none⟩) (fun _ => rfl) _).setCell (p := ⟨g, 2, none⟩) (fun _ => rfl) _
theorem Keeps.ofDrew {S : Nat → Prop} (w : World) (q : Nat) : Keeps S w (w.drewN q) := (Keeps.refl S w).drewN q
theorem emptyB (l : List UInt8) (b : Bool) (h : decide (l ≠ []) = b) : (!(⟨l.toArray⟩ : ByteArray).toList.isEmpty) = b := by
  rw [Lib.toList_data]
  cases l <;> simpa using h
theorem word_no (g B n : Nat) (u : Lz.U) (v : Value) (w : World) (hk : UnK w B g u v) (ht : u.text n = none) :
    Calls Tryd.prog 76 #[.pointer (some ⟨g, 0, none⟩), .int .i64 n] w fun e w' => e = .returned (.tuple #[.string ⟨#[]⟩, .bool false]) ∧ w' = w := by
  obtain ⟨A, c, rfl, hc, _⟩ := hk.own.form
  have d0 : w.cell? ⟨g, 0, none⟩ = some (.slice A u.words.length c) := by rw [hk.blk.cell]; rfl
  have d2 : w.cell? ⟨g, 2, none⟩ = some (.string ⟨u.last.toArray⟩) := by rw [hk.blk.cell]; rfl
  have hle := emptyB u.last _ rfl
  unfold Lz.U.text at ht
  by_cases h1 : n < u.words.length
  · rw [if_pos h1, List.getElem?_eq_getElem h1] at ht
    cases ht
  · rw [if_neg h1] at ht
    obtain ⟨N, hN⟩ : ∃ N, N = u.words.length := ⟨_, rfl⟩
    obtain ⟨sl, hsl⟩ : ∃ sl : ByteArray, sl = ⟨u.last.toArray⟩ := ⟨_, rfl⟩
    rw [← hN] at d0 h1 ht
    rw [← hsl] at d2 hle
    by_cases h2 : n = N
    · have h3 : u.last = [] := Decidable.byContradiction fun e => by rw [if_pos ⟨h2, e⟩] at ht; cases ht
      rw [decide_eq_false (by rw [h3]; decide)] at hle
      subst h2
      clear ht hN hsl h3 hk hc
      go_enter Tryd.func76, Tryd.ntmps76
      go_wp2_with fail
      go_ret2
      exact ⟨rfl, rfl⟩
    · have h4 : ((n : Int) == N) = false := by rw [beq_eq_false_iff_ne]; omega
      clear ht hN hsl hk hc hle
      go_enter Tryd.func76, Tryd.ntmps76
      go_wp2_with fail
      go_ret2
      exact ⟨rfl, rfl⟩
set_option maxHeartbeats 4000000 in
set_option maxRecDepth 100000 in
theorem word_yes (g B n W : Nat) (u : Lz.U) (v : Value) (wd : List UInt8) (w : World) (hk : UnK w B g u v) (ok : Lz.U.Ok W u) (ht : u.text n = some wd) (hne : wd ≠ []) (hB : B ≤ w.heap.size) :
    Calls Tryd.prog 76 #[.pointer (some ⟨g, 0, none⟩), .int .i64 n] w fun e w' => e = .returned (.tuple #[.string ⟨wd.toArray⟩, .bool true]) ∧ ∃ v', UnK w' B g (u.next wd) v' ∧ Fresh w v v' ∧ Keeps (fun x => x = g ∨ v.ownBlock = some x) w w' := by
  obtain ⟨i0, hi, hz0, hz1, hz2⟩ := info_parts strInfo
  obtain ⟨A, c, rfl, hc, hrd⟩ := hk.own.form
  have hle := emptyB u.last _ rfl
  have hwm := ok.textMost ht
  have hN1 := ok.len1
  have hlm := ok.last
  have h12 := ok.s12
  obtain ⟨N, hN⟩ : ∃ N, N = u.words.length := ⟨_, rfl⟩
  obtain ⟨sl, hsl⟩ : ∃ sl : ByteArray, sl = ⟨u.last.toArray⟩ := ⟨_, rfl⟩
  obtain ⟨sw, hsw⟩ : ∃ sw : ByteArray, sw = ⟨wd.toArray⟩ := ⟨_, rfl⟩
  obtain ⟨Z, hZ⟩ : ∃ Z, Z = u.size := ⟨_, rfl⟩
  have hslz : sl.size = u.last.length := by rw [hsl]; rfl
  have hswz : sw.size = wd.length := by rw [hsw]; rfl
  have hsw1 : 1 ≤ sw.size := by rw [hswz]; exact List.length_pos_iff.2 hne
  have hbk := hk.blk
  have hown := hk.own
  have hneg := hk.ne
  rw [← hN, ← hslz] at hlm
  rw [← hN, ← hswz] at hwm
  rw [← hN] at hN1
  rw [← hsl] at hle
  rw [← hsl, ← hZ, ← hN] at hbk
  rw [← hN] at hown hneg hrd
  rw [← hZ] at h12
  rw [← hsw]
  have hsl5 : sl.size ≤ 5000 := by omega
  have hsw5 : sw.size ≤ 5000 := by omega
  have HN := Lib.hid hN
  have HSL := Lib.hid hsl
  have HSW := Lib.hid hsw
  have HZ := Lib.hid hZ
  have HSLZ := Lib.hid hslz
  have HSWZ := Lib.hid hswz
  have HT := Lib.hid ht
  have d0 : w.cell? ⟨g, 0, none⟩ = some (.slice A N c) := by rw [hbk.cell]; rfl
  have d2 : w.cell? ⟨g, 2, none⟩ = some (.string sl) := by rw [hbk.cell]; rfl
  clear hN hsl hsw hZ hslz hswz ht hk ok hlm hwm hne
  obtain ⟨b7, hb7⟩ : ∃ b7 : Bool, b7 = decide (u.last ≠ []) := ⟨_, rfl⟩
  rw [← hb7] at hle
  have HB7 := Lib.hid hb7
  clear hb7
  go_enter Tryd.func76, Tryd.ntmps76
  go_upto_block 0 with (fail)
  go_cut [6] (fun s6 wx => s6 = .string sw ∧ ∃ q, wx = w.drewN q)
  case first =>
    by_cases h1 : n < N
    · obtain ⟨ga, oa, rfl, hgal⟩ := hrd.addr (by omega)
      have hcell := hrd.cell rfl n (by omega)
      have hNn : n < u.words.length := by rw [← HN.out]; exact h1
      rw [strs_at _ _ hNn] at hcell
      have hwd : u.words[n] = wd := by
        have := HT.out
        unfold Lz.U.text at this
        rw [if_pos hNn, List.getElem?_eq_getElem hNn] at this
        exact Option.some.inj this
      rw [hwd, ← HSW.out] at hcell
      clear hwd
      go_wp2_with fail
      go_meet
      case rel => exact ⟨rfl, 0, rfl⟩
    · have h2 : n = N ∧ u.last ≠ [] ∧ wd = u.last ++ u.last.take 1 := by
        have := HT.out
        unfold Lz.U.text at this
        rw [← HN.out, if_neg h1] at this
        split at this
        · rename_i h3
          exact ⟨h3.1, h3.2, (Option.some.inj this).symm⟩
        · cases this
      obtain ⟨h2, h3, h4⟩ := h2
      have hb : b7 = true := by rw [HB7.out, decide_eq_true h3]
      subst hb
      have hsl1 : 1 ≤ sl.size := by rw [HSLZ.out]; exact List.length_pos_iff.2 h3
      have hsl1i : (1 : Int) ≤ sl.size := by omega
      have hcat : sl ++ sl.extract 0 1 = sw := by
        apply lst_inj
        rw [lst_append, lst_extract, HSL.out, HSW.out, List.drop_zero, h4]
      have hxz : (sl.extract 0 1).size ≤ 1 := by rw [← lst_length, lst_extract, List.length_take]; omega
      have HCAT := Lib.hid hcat
      clear h3 h4 hcat
      subst h2
      go_wp2_with fail
      go_region
      go_wp2_with fail
      go_meet
      case rel => exact ⟨by rw [HCAT.out], 1, rfl⟩
  case rest =>
    obtain ⟨rfl, q, hq⟩ := hcut
    obtain ⟨w1, hw1⟩ : ∃ w1, w1 = wc := ⟨_, rfl⟩
    have hb1 : Blk w1 g 143 #[.slice A N c, .int .i64 Z, .string sl] := by rw [hw1, hq]; exact hbk.drewN q
    have ho1 : Own w1 B 1 (.slice A N c) N (strs u.words) := by rw [hw1, hq]; exact hown.drewN q
    have K1 : Keeps (fun x => x = g ∨ (Value.slice A N c).ownBlock = some x) w w1 := by rw [hw1, hq]; exact Keeps.ofDrew w q
    have hB1 : B ≤ w1.heap.size := by rw [hw1, hq]; exact hB
    have hzw1 : w.heap.size ≤ w1.heap.size := K1.size
    have hgl := hb1.lt
    rw [← hw1]
    have c0 : w1.cell? ⟨g, 0, none⟩ = some (.slice A N c) := by rw [hb1.cell]; rfl
    have c1 : w1.cell? ⟨g, 1, none⟩ = some (.int .i64 Z) := by rw [hb1.cell]; rfl
    have c2 : w1.cell? ⟨g, 2, none⟩ = some (.string sl) := by rw [hb1.cell]; rfl
    have f0 := hb1.free 0
    clear hw1 hq hbk hown d0 d2 hrd hB
    obtain ⟨M, hM⟩ : ∃ M, M = (u.more wd).length := ⟨_, rfl⟩
    obtain ⟨b9, hb9⟩ : ∃ b9 : Bool, b9 = decide (u.last ≠ [] ∧ u.words.length < 4096) := ⟨_, rfl⟩
    have HM := Lib.hid hM
    have HB9 := Lib.hid hb9
    clear hM hb9
    go_upto_region 7 with (fail)
    go_cut [59] (fun s wx => s = .bool b9 ∧ w1 = wx)
    case first =>
      have hb9 := HB9.out
      rw [← HN.out] at hb9
      cases b7 with
      | false =>
        have h3 : ¬ u.last ≠ [] := of_decide_eq_false HB7.out.symm
        rw [decide_eq_false (fun h => h3 h.1)] at hb9
        subst hb9
        clear h3
        go_wp2_with fail
        go_meet
        case rel => exact ⟨rfl, rfl⟩
      | true =>
        have h3 : u.last ≠ [] := of_decide_eq_true HB7.out.symm
        by_cases h4 : N < 4096
        · rw [decide_eq_true ⟨h3, h4⟩] at hb9
          subst hb9
          clear h3
          have h4i : (N : Int) < 4096 := by omega
          go_wp2_with fail
          go_meet
          case rel => exact ⟨rfl, rfl⟩
        · rw [decide_eq_false (fun h => h4 h.2)] at hb9
          subst hb9
          clear h3
          have h4i : ¬ (N : Int) < 4096 := by omega
          go_wp2_with fail
          go_meet
          case rel => exact ⟨rfl, rfl⟩
    case rest =>
      obtain ⟨rfl, rfl⟩ := hcut
      clear hle
      go_upto_if 59 with (fail)
      go_cut [] (fun wx => ∃ v', Blk wx g 143 #[v', .int .i64 Z, .string sl] ∧ Own wx B 1 v' M (strs (u.more wd)) ∧ v'.ownBlock ≠ some g ∧ Fresh w (.slice A N c) v' ∧ Keeps (fun x => x = g ∨ (Value.slice A N c).ownBlock = some x) w wx)
      case first =>
        cases b9 with
        | true =>
          have h5 : u.last ≠ [] ∧ u.words.length < 4096 := of_decide_eq_true HB9.out.symm
          have hmo : u.more wd = u.words ++ [u.last ++ wd.take 1] := by unfold Lz.U.more; rw [if_pos h5]
          have hMN : M = N + 1 := by rw [HM.out, hmo, HN.out]; simp
          have hwx : lst (sl ++ sw.extract 0 1) = u.last ++ wd.take 1 := by rw [lst_append, lst_extract, HSL.out, HSW.out, List.drop_zero]
          obtain ⟨sx, hsx⟩ : ∃ sx : ByteArray, sx = sl ++ sw.extract 0 1 := ⟨_, rfl⟩
          rw [← hsx] at hwx
          have hxz : (sw.extract 0 1).size ≤ 1 := by rw [← lst_length, lst_extract, List.length_take]; omega
          have hsx2 : sl ++ sw.extract 0 1 = sx := hsx.symm
          have hxe : strs (u.more wd) = strs u.words ++ [.string sx] := by
            rw [hmo, strs_append]
            congr 1
            simp only [strs, List.map_cons, List.map_nil, ← hwx]
          have HXE := Lib.hid hxe
          have hsw1i : (1 : Int) ≤ sw.size := by omega
          have hlim : ¬ 9223372036854775807 < sl.size + 1 := by omega
          have nT : some g ≠ (Value.slice A N c).ownBlock := fun e => hneg e.symm
          have hBS := (Blk.new w1 9 #[.string sx] rfl).drew
          clear h5 hmo hwx hsx hxe
          subst hMN
          go_wp2_with fail
          go_region_law
            ((refine step_append_Own _ rfl (.tmp 64) (.tmp 72) 141 141 rfl B 9 i0 (.string ⟨#[]⟩) 1 16 Tryd.underlying141 hi hz0 hz1 hz2 rfl (by decide) (.slice A N c) N (strs u.words) rfl ((ho1.alloc _).drew) (strs_one _) 1 [.string sx] (Src.blk Tryd.underlying141 hBS rfl (by intro u hu; cases List.mem_singleton.1 hu; rfl)) (by unfold maxLen; omega) (by omega) (by simp; omega) ?_; intro vT' wT hownT hgT hatT; obtain ⟨Ap, cp, rfl, hcp, _⟩ := hownT.form; have B5 := Blk.grown (Blk.drew (Blk.alloc hb1 _)) hgT nT; have d5 : wT.cell? ⟨g, 0, none⟩ = some (.slice A N c) := (by rw [B5.cell]; rfl); have f5 := B5.free 0))
          all_goals
            go_wp2_with fail
            go_meet
            case rel =>
              have hneT : (Value.slice Ap (N + 1) cp).ownBlock ≠ some g := by
                intro e
                rcases hatT with e2 | e2 <;> rw [e2] at e
                · exact hneg e
                · injection e with e
                  have := hb1.lt
                  simp at e
                  omega
              refine ⟨_, B5.set_ 0 _, ?_, hneT, fun x hx => ?_, ?_⟩
              · rw [HXE.out]
                exact hownT.setCell (p := ⟨g, 0, none⟩) hneT _
              · rcases hatT with e2 | e2
                · exact .inl (e2 ▸ hx)
                · rw [e2] at hx
                  injection hx with hx
                  simp at hx
                  exact .inr (by omega)
              · exact (((K1.alloc _).drew).grown hgT (fun x hx _ => .inr hx)).setCell (p := ⟨g, 0, none⟩) (fun _ => .inl rfl) _
        | false =>
          have h5 : ¬ (u.last ≠ [] ∧ u.words.length < 4096) := of_decide_eq_false HB9.out.symm
          have hmo : u.more wd = u.words := by unfold Lz.U.more; rw [if_neg h5]
          have hMN : M = N := by rw [HM.out, hmo, HN.out]
          have HMO := Lib.hid hmo
          clear h5 hmo
          subst hMN
          go_wp2_with fail
          go_meet
          case rel => exact ⟨_, hb1, by rw [HMO.out]; exact ho1, hneg, Fresh.refl _ _, K1⟩
      case rest =>
        obtain ⟨v2, hb2, ho2, hne2, hf2, K2⟩ := hcut
        obtain ⟨w2, hw2⟩ : ∃ w2, w2 = wc := ⟨_, rfl⟩
        rw [← hw2] at hb2 ho2 K2 ⊢
        obtain ⟨A2, cM, rfl, hcM, _⟩ := ho2.form
        have c0 : w2.cell? ⟨g, 0, none⟩ = some (.slice A2 M cM) := by rw [hb2.cell]; rfl
        have c1 : w2.cell? ⟨g, 1, none⟩ = some (.int .i64 Z) := by rw [hb2.cell]; rfl
        clear hw2 hb1 ho1 K1 hB1 hzw1 f0 hneg hgl
        obtain ⟨X, hX⟩ : ∃ X : Nat, X = 2 ^ Z := ⟨_, rfl⟩
        have hX2 : (2 : Int) ^ Z = X := by rw [hX]; exact (Int.natCast_pow 2 Z).symm
        have hXl : X ≤ 4096 := by rw [hX]; exact Nat.le_trans (Nat.pow_le_pow_right (show 0 < 2 by omega) h12) (by decide)
        have HX := Lib.hid hX
        clear hX
        obtain ⟨b93, hb93⟩ : ∃ b93 : Bool, b93 = decide ((u.more wd).length = 2 ^ u.size ∧ u.size < 12) := ⟨_, rfl⟩
        have HB93 := Lib.hid hb93
        clear hb93
        go_wp2_with fail
        go_cut [93] (fun s wx => s = .bool b93 ∧ ∃ q, wx = w2.drewN q)
        case first =>
          have hb93 := HB93.out
          rw [← HM.out, ← HZ.out, ← HX.out] at hb93
          by_cases h1 : M = X
          · by_cases h2 : Z < 12
            · rw [decide_eq_true ⟨h1, h2⟩] at hb93
              subst hb93
              have h2i : (Z : Int) < 12 := by omega
              subst h1
              go_quiet (fail)
              go_wp2_with fail
              go_meet
              case rel => exact ⟨rfl, _, rfl⟩
            · rw [decide_eq_false (fun h => h2 h.2)] at hb93
              subst hb93
              have h2i : ¬ (Z : Int) < 12 := by omega
              subst h1
              go_quiet (fail)
              go_wp2_with fail
              go_meet
              case rel => exact ⟨rfl, _, rfl⟩
          · rw [decide_eq_false (fun h => h1 h.1)] at hb93
            subst hb93
            have h1b : ((M : Int) == X) = false := by rw [beq_eq_false_iff_ne]; omega
            go_quiet (fail)
            go_wp2_with fail
            go_meet
            case rel => exact ⟨rfl, _, rfl⟩
        case rest =>
          obtain ⟨rfl, q3, hq3⟩ := hcut
          obtain ⟨w3, hw3⟩ : ∃ w3, w3 = wc := ⟨_, rfl⟩
          have hb3 : Blk w3 g 143 #[.slice A2 M cM, .int .i64 Z, .string sl] := by rw [hw3, hq3]; exact hb2.drewN q3
          have ho3 : Own w3 B 1 (.slice A2 M cM) M (strs (u.more wd)) := by rw [hw3, hq3]; exact ho2.drewN q3
          have K3 : Keeps (fun x => x = g ∨ (Value.slice A N c).ownBlock = some x) w w3 := by rw [hw3, hq3]; exact K2.drewN q3
          have hf3 : Fresh w (Value.slice A N c) (Value.slice A2 M cM) := hf2
          rw [← hw3]
          have c1 : w3.cell? ⟨g, 1, none⟩ = some (.int .i64 Z) := by rw [hb3.cell]; rfl
          have f1 := hb3.free 1
          clear hw3 hq3 hb2 ho2 K2 hf2 c0 hX2 hXl
          obtain ⟨Z2, hZ2⟩ : ∃ Z2, Z2 = u.wide wd := ⟨_, rfl⟩
          have HZ2 := Lib.hid hZ2
          clear hZ2
          go_upto_if 93 with (fail)
          go_cut [] (fun wx => Blk wx g 143 #[.slice A2 M cM, .int .i64 Z2, .string sl] ∧ Own wx B 1 (.slice A2 M cM) M (strs (u.more wd)) ∧ Keeps (fun x => x = g ∨ (Value.slice A N c).ownBlock = some x) w wx)
          case first =>
            cases b93 with
            | true =>
              have h5 := of_decide_eq_true HB93.out.symm
              have hz : Z2 = Z + 1 := by rw [HZ2.out, HZ.out]; unfold Lz.U.wide; rw [if_pos h5]
              have HZZ := Lib.hid hz
              clear h5 hz
              go_wp2_with fail
              go_meet
              case rel =>
                refine ⟨?_, ho3.setCell (p := ⟨g, 1, none⟩) hne2 _, K3.setCell (p := ⟨g, 1, none⟩) (fun _ => .inl rfl) _⟩
                have := hb3.set_ 1 (.int .i64 (Z + 1))
                rw [HZZ.out]
                exact this
            | false =>
              have h5 := of_decide_eq_false HB93.out.symm
              have hz : Z2 = Z := by rw [HZ2.out, HZ.out]; unfold Lz.U.wide; rw [if_neg h5]
              have HZZ := Lib.hid hz
              clear h5 hz
              go_wp2_with fail
              go_meet
              case rel => exact ⟨by rw [HZZ.out]; exact hb3, ho3, K3⟩
          case rest =>
            clear hb3 ho3 K3 c1 f1
            obtain ⟨hb4, ho4, K4⟩ := hcut
            obtain ⟨w4, hw4⟩ : ∃ w4, w4 = wc := ⟨_, rfl⟩
            rw [← hw4] at hb4 ho4 K4 ⊢
            have c2 : w4.cell? ⟨g, 2, none⟩ = some (.string sl) := by rw [hb4.cell]; rfl
            have f2 := hb4.free 2
            clear hw4
            go_wp2_with fail
            go_ret2
            refine ⟨rfl, .slice A2 M cM, ⟨?_, ?_, hne2⟩, ?_, ?_⟩
            · have := hb4.set_ 2 (.string sw)
              rw [HSW.out] at this ⊢
              rw [HZ2.out] at this
              exact this
            · show Own _ B 1 _ (u.more wd).length (strs (u.more wd))
              rw [← HM.out]
              exact ho4.setCell (p := ⟨g, 2, none⟩) hne2 _
            · rw [← HN.out]
              exact hf3
            · rw [← HN.out]
              exact K4.setCell (p := ⟨g, 2, none⟩) (fun _ => .inl rfl) _
end Go.Proofs.YtncedhhgclofbaaDoor
