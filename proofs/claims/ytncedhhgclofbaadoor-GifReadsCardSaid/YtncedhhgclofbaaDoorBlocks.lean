/- layercakeref1.BlocksOf, lzw.Blocks: the walks. -/
import Derived.Test.YtncedhhgclofbaaDoorRefBits
import Derived.Test.YtncedhhgclofbaaDoorLzwLaw
import Derived.RegionCalls
import Derived.Lib.Strings
import Derived.Deep.RegionLaw
namespace Go.Proofs.YtncedhhgclofbaaDoor
open Go Go.RowKit

def strSize : Value → Nat
  | .string s => s.size
  | _ => 0
/-- What the loop of BlocksOf keeps. -/
structure BlR0 (w : World) (l : List UInt8) (s o : Value) (wr : World) : Prop where
  a : ∃ (u t : ByteArray) (f : Nat), s = .string u ∧ o = .string t ∧ u.size ≤ f ∧ t.size + 2 * u.size ≤ 4398046511104 ∧ u.size ≤ 1099511627776 ∧ lst t ++ Blo.blocksF f (lst u) = Blo.blocks l
  bel : Below w.heap.size w wr
set_option maxHeartbeats 1000000 in
theorem blocksOf_any (s : ByteArray) (hl : s.size ≤ 1099511627776) (w : World) :
    Calls Tryd.prog 34 #[.string s] w fun e w' => ∃ t, e = .returned (.string t) ∧ lst t = Blo.blocks (lst s) ∧ Below w.heap.size w w' := by
  go_enter Tryd.func34, Tryd.ntmps34
  go_wp2_with fail
  go_loopw [0, 3] (fun u o wr => BlR0 w (lst s) u o wr) (fun u _ _ => strSize u)
  case atStart => exact ⟨⟨s, ⟨#[]⟩, s.size, rfl, rfl, Nat.le_refl _, by show 0 + 2 * s.size ≤ _; omega, hl, rfl⟩, Below.refl _ _⟩
  case round =>
    obtain ⟨⟨u, t, f, rfl, rfl, hf, hsum, hu, heq⟩, hb⟩ := hrel
    have HE := Lib.hid heq
    clear heq
    by_cases hgt : 255 < u.size
    · go_wp2_with fail
      go_region_with ((go_at_call 30; refine (byte_any _ (by omega) (by omega) _).mono ?_; rintro e w1 ⟨rfl, hb1⟩))
      all_goals
        go_wp2
        go_roundw
        case rel =>
          obtain ⟨f', rfl⟩ : ∃ f', f = f' + 1 := ⟨f - 1, by omega⟩
          have hne : lst u ≠ [] := by
            intro e
            have : u.size = 0 := by rw [← lst_length, e]; rfl
            omega
          have hm : min 255 (lst u).length = 255 := by rw [lst_length]; omega
          have e1 : lst (u.extract 0 255) = (lst u).take 255 := by rw [lst_extract, List.drop_zero]
          have e2 : lst (u.extract 255 u.size) = (lst u).drop 255 := by rw [lst_extract, List.take_of_length_le (by rw [List.length_drop, lst_length]; omega)]
          have hx : (u.extract 255 u.size).size = u.size - 255 := by rw [← lst_length, e2, List.length_drop, lst_length]
          have hy : (u.extract 0 255).size = 255 := by rw [← lst_length, e1, List.length_take, lst_length]; omega
          refine ⟨⟨_, _, f', rfl, rfl, by rw [hx]; omega, ?_, by rw [hx]; omega, ?_⟩, hb.trans (Below.mono ⟨hb1.os, hb1.tape, hb1.output, hb1.size, hb1.block⟩ hb.size)⟩
          · rw [hx, ← lst_length, lst_append, lst_append, List.length_append, List.length_append, lst_length, lst_length, lst_length, hy]
            have : (⟨#[255]⟩ : ByteArray).size = 1 := rfl
            omega
          · rw [← HE.out, Blo.blocksF_cons _ _ hne, hm, lst_append, lst_append, e1, e2]
            simp
            rfl
        case measure =>
          show (u.extract 255 u.size).size < u.size
          rw [← lst_length, lst_extract, List.length_take, List.length_drop, lst_length]
          omega
    · by_cases h0 : u.size = 0
      · have hn : lst u = [] := List.eq_nil_of_length_eq_zero (by rw [lst_length]; exact h0)
        have hn2 : u.toList = [] := by rw [Lib.toList_data]; exact hn
        have hn3 : (!u.toList.isEmpty) = false := by rw [hn2]; rfl
        have HN := Lib.hid hn
        clear hn h0
        go_wp2_with fail
        refine (byte_any _ (by omega) (by omega) _).mono ?_
        rintro e w1 ⟨rfl, hb1⟩
        go_wp2
        go_ret
        refine ⟨_, rfl, ?_, hb.trans (hb1.mono hb.size)⟩
        rw [lst_append, ← HE.out, HN.out, Blo.blocksF_nil]
      · have hn2 : u.toList ≠ [] := by
          rw [Lib.toList_data]
          intro e
          have : u.size = 0 := by rw [← lst_length]; unfold lst; rw [e]; rfl
          omega
        have hn3 : (!u.toList.isEmpty) = true := by cases h : u.toList with
          | nil => exact absurd h hn2
          | cons => rfl
        go_wp2_with fail
        refine (byte_any _ (by omega) (by omega) _).mono ?_
        rintro e w1 ⟨rfl, hb1⟩
        go_wp2_with fail
        refine (byte_any _ (by omega) (by omega) _).mono ?_
        rintro e w2 ⟨rfl, hb2⟩
        go_wp2
        go_ret
        refine ⟨_, rfl, ?_, (hb.trans (hb1.mono hb.size)).trans (hb2.mono (Nat.le_trans hb.size hb1.size))⟩
        obtain ⟨f', rfl⟩ : ∃ f', f = f' + 1 := ⟨f - 1, by omega⟩
        have hm : min 255 (lst u).length = u.size := by rw [lst_length]; omega
        have hne : lst u ≠ [] := by
          show u.data.toList ≠ []
          rw [← Lib.toList_data]
          exact hn2
        rw [← HE.out, Blo.blocksF_cons _ _ hne, hm, List.drop_of_length_le (by rw [lst_length]; exact Nat.le_refl _), List.take_of_length_le (by rw [lst_length]; exact Nat.le_refl _), Blo.blocksF_nil, lst_append, lst_append, lst_append]
        simp
        rfl
/-- What the loop of Blocks keeps. -/
structure BlR1 (w : World) (l : List UInt8) (s o : Value) (wr : World) : Prop where
  a : ∃ (u : ByteArray) (t : List UInt8) (f : Nat), s = .string u ∧ u.size ≤ f ∧ t.length + 2 * u.size ≤ 4398046511104 ∧ u.size ≤ 1099511627776 ∧ t ++ Blo.blocksF f (lst u) = Blo.blocks l ∧ Own wr w.heap.size 1 o t.length (bytes t)
  bel : Below w.heap.size w wr
set_option maxHeartbeats 1000000 in
set_option maxRecDepth 100000 in
theorem blocks_any (s : ByteArray) (hl : s.size ≤ 1099511627776) (w : World) :
    Calls Tryd.prog 42 #[.string s] w fun e w' => ∃ t, e = .returned (.string t) ∧ lst t = Blo.blocks (lst s) ∧ Below w.heap.size w w' := by
  obtain ⟨i0, hi, hz0, hz1, hz2⟩ := info_parts byteInfo
  go_enter Tryd.func42, Tryd.ntmps42
  go_wp2_with fail
  go_loopw [0, 3] (fun u o wr => BlR1 w (lst s) u o wr) (fun u _ _ => strSize u)
  case atStart => exact ⟨⟨s, [], s.size, rfl, Nat.le_refl _, by show 0 + 2 * s.size ≤ _; omega, hl, rfl, Own.nil _ _ _⟩, Below.refl _ _⟩
  case round =>
    obtain ⟨⟨u, t, f, rfl, hf, hsum, hu, heq, hown⟩, hb⟩ := hrel
    have HE := Lib.hid heq
    clear heq
    have hsz := hb.size
    obtain ⟨A, c, rfl, hc, _⟩ := hown.form
    by_cases h0 : u.size = 0
    · have hn : lst u = [] := List.eq_nil_of_length_eq_zero (by rw [lst_length]; exact h0)
      have hn2 : u.toList = [] := by rw [Lib.toList_data]; exact hn
      have hn3 : (!u.toList.isEmpty) = false := by rw [hn2]; rfl
      have HN := Lib.hid hn
      clear hn h0
      obtain ⟨tl, htl⟩ : ∃ tl, tl = t ++ [0] := ⟨_, rfl⟩
      have HT := Lib.hid htl
      have HTe : bytes t ++ [.int .u8 0] = bytes tl := by rw [htl, bytes_append]; rfl
      clear htl
      go_wp2_with (at_builtin; refine wpList_append_S rfl (.tmp 22) (.tmp 23) 56 56 rfl w.heap.size 5 i0 (.int .u8 0) 1 1 Tryd.underlying56 hi hz0 hz1 hz2 rfl (by decide) (.slice A t.length c) t.length (bytes t) rfl (hown.alloc _) (bytes_one _) 1 [.int .u8 0] (Src.made Tryd.underlying56 (by first | rfl | simp) rfl (by intro u hu; cases List.mem_singleton.1 hu; rfl)) (t.length + 1) rfl (bytes tl) HTe (by unfold maxLen; omega) (by omega) (by first | omega | (simp; done) | (simp; omega)) ?_; intro A' c' w4 hown4 hg4 hat4; have hcv := conv_reads w4 _ (t.length + 1) c' _ _ hown4.reads.2)
      go_ret
      refine ⟨_, rfl, ?_, (hb.alloc (by omega) _).grown hg4 (by simp; omega) (fun g hg => (hown.lt g hg).1)⟩
      rw [← HE.out, HN.out, Blo.blocksF_nil, ← HT.out]
    · have hn2 : u.toList ≠ [] := by
        rw [Lib.toList_data]
        intro e
        have : u.size = 0 := by rw [← lst_length]; unfold lst; rw [e]; rfl
        omega
      have hn3 : (!u.toList.isEmpty) = true := by cases h : u.toList with
        | nil => exact absurd h hn2
        | cons => rfl
      rcases Nat.lt_or_ge u.size 255 with hcs | hcs
      · obtain ⟨n, hn⟩ : ∃ n, n = min 255 u.size := ⟨_, rfl⟩
        have hnv : u.size = n := by omega
        have e1 : lst (u.extract 0 n) = (lst u).take n := by rw [lst_extract, List.drop_zero, Nat.sub_zero]
        have hy : (u.extract 0 n).size = n := by rw [← lst_length, e1, List.length_take, lst_length]; omega
        have e2 : lst (u.extract n u.size) = (lst u).drop n := by rw [lst_extract, List.take_of_length_le (by rw [List.length_drop, lst_length]; exact Nat.le_refl _)]
        have hx : (u.extract n u.size).size = u.size - n := by rw [← lst_length, e2, List.length_drop, lst_length]
        have hy2 : (u.extract 0 n).size ≤ 255 := by omega
        obtain ⟨t1, ht1⟩ : ∃ t1, t1 = t ++ [UInt8.ofNat n] := ⟨_, rfl⟩
        have HTe : bytes t ++ [.int .u8 (IntKind.u8.wrap n)] = bytes t1 := by rw [ht1, bytes_append]; rw [IntKind.wrap_u8]; congr 1
        obtain ⟨t2, ht2⟩ : ∃ t2, t2 = t1 ++ lst (u.extract 0 n) := ⟨_, rfl⟩
        have HT2 : bytes t1 ++ byteCells (u.extract 0 n) = bytes t2 := by rw [ht2, bytes_append]; rfl
        have hl2 : t2.length = t.length + 1 + n := by rw [ht2, ht1, List.length_append, List.length_append, lst_length, hy]; rfl
        have hb1 : n ≤ u.size := by omega
        have hb2 : (n : Int) ≤ u.size := by omega
        have hcs2 : n ≤ 255 := by omega
        have H1 := Lib.hid ht1
        have H2 := Lib.hid ht2
        have H3 := Lib.hid e1
        have H4 := Lib.hid e2
        have H5 := Lib.hid hx
        have H6 := Lib.hid hy
        have H7 := Lib.hid hl2
        have H8 := Lib.hid hnv
        have H9 := Lib.hid hn
        clear ht1 ht2 e1 e2 hx hy hl2 hnv hn
        go_wp2_with fail
        rw [H8.out]
        go_region_law
          (first
            | (refine step_append_Own _ rfl (.tmp 10) (.tmp 13) 56 56 rfl w.heap.size 5 i0 (.int .u8 0) 1 1 Tryd.underlying56 hi hz0 hz1 hz2 rfl (by decide) (.slice A t.length c) t.length (bytes t) rfl ((hown.alloc _).drew) (bytes_one _) 1 [.int .u8 (IntKind.u8.wrap n)] (Src.blk Tryd.underlying56 ((Blk.new _ _ _ rfl).drew) rfl (by intro u hu; cases List.mem_singleton.1 hu; rfl)) (by unfold maxLen; omega) (by omega) (by simp; omega) ?_; intro v1 w1 hown1 hg1 hat1; obtain ⟨A1, c1, rfl, hc1, _⟩ := hown1.form)
            | (refine step_append_Own _ rfl (.tmp 14) (.tmp 17) 56 9 rfl w.heap.size 5 i0 (.int .u8 0) 1 1 Tryd.underlying56 hi hz0 hz1 hz2 rfl (by decide) (.slice A1 (t.length + 1) c1) (t.length + 1) (bytes t ++ [.int .u8 (IntKind.u8.wrap n)]) rfl hown1 (by rw [HTe]; exact bytes_one _) (u.extract 0 n).size (byteCells (u.extract 0 n)) (Src.ofString _ Tryd.underlying9 _) (by unfold maxLen; omega) (by omega) (by have := hg1.size; simp at this; omega) ?_; intro v2 w2 hown2 hg2 hat2; obtain ⟨A2, c2, rfl, hc2, _⟩ := hown2.form))
        all_goals
          go_wp2
          go_roundw
          case rel =>
            obtain ⟨f', rfl⟩ : ∃ f', f = f' + 1 := ⟨f - 1, by omega⟩
            have hne : lst u ≠ [] := by
              intro e
              have : u.size = 0 := by rw [← lst_length, e]; rfl
              omega
            have hn := H9.out
            have hnv := H8.out
            have hl2 := H7.out
            have hm : min 255 (lst u).length = n := by rw [lst_length]; exact hn.symm
            refine ⟨⟨_, t2, f', rfl, by rw [H5.out]; omega, by rw [H5.out]; omega, by rw [H5.out]; omega, ?_, ?_⟩, ?_⟩
            · rw [← HE.out, Blo.blocksF_cons _ _ hne, hm, H4.out, H2.out, H1.out, H3.out]
              simp
            · have e : t2.length = t.length + 1 + n := by omega
              have := hown2
              rw [H6.out] at this
              rw [e, ← HT2, ← HTe]
              exact this
            · refine (((hb.alloc (by omega) _).drew).grown hg1 (by simp; omega) (fun g hg => (hown.lt g hg).1)).grown hg2 (by have := hg1.size; simp at this; omega) (fun g hg => (hown1.lt g hg).1)
          case measure =>
            show (u.extract n u.size).size < u.size
            rw [H5.out]
            have := H9.out
            omega
      · obtain ⟨n, hn⟩ : ∃ n, n = min 255 u.size := ⟨_, rfl⟩
        have hnv : 255 = n := by omega
        have e1 : lst (u.extract 0 255) = (lst u).take n := by rw [lst_extract, List.drop_zero, hnv]; rfl
        have hy : (u.extract 0 255).size = n := by rw [← lst_length, e1, List.length_take, lst_length]; omega
        have e2 : lst (u.extract 255 u.size) = (lst u).drop n := by rw [lst_extract, List.take_of_length_le (by rw [List.length_drop, lst_length]; omega), hnv]
        have hx : (u.extract 255 u.size).size = u.size - n := by rw [← lst_length, e2, List.length_drop, lst_length]
        have hy2 : (u.extract 0 255).size ≤ 255 := by omega
        obtain ⟨t1, ht1⟩ : ∃ t1, t1 = t ++ [UInt8.ofNat n] := ⟨_, rfl⟩
        have HTe : bytes t ++ [.int .u8 (IntKind.u8.wrap 255)] = bytes t1 := by rw [ht1, bytes_append]; rw [IntKind.wrap_u8]; congr 1; simp [bytes]; omega
        obtain ⟨t2, ht2⟩ : ∃ t2, t2 = t1 ++ lst (u.extract 0 255) := ⟨_, rfl⟩
        have HT2 : bytes t1 ++ byteCells (u.extract 0 255) = bytes t2 := by rw [ht2, bytes_append]; rfl
        have hl2 : t2.length = t.length + 1 + n := by rw [ht2, ht1, List.length_append, List.length_append, lst_length, hy]; rfl
        have H1 := Lib.hid ht1
        have H2 := Lib.hid ht2
        have H3 := Lib.hid e1
        have H4 := Lib.hid e2
        have H5 := Lib.hid hx
        have H6 := Lib.hid hy
        have H7 := Lib.hid hl2
        have H8 := Lib.hid hnv
        have H9 := Lib.hid hn
        clear ht1 ht2 e1 e2 hx hy hl2 hnv hn
        have hb1 : (255 : Nat) ≤ u.size := by omega
        have hb2 : (255 : Int) ≤ u.size := by omega
        go_wp2_with fail
        go_region_law
          (first
            | (refine step_append_Own _ rfl (.tmp 10) (.tmp 13) 56 56 rfl w.heap.size 5 i0 (.int .u8 0) 1 1 Tryd.underlying56 hi hz0 hz1 hz2 rfl (by decide) (.slice A t.length c) t.length (bytes t) rfl ((hown.alloc _).drew) (bytes_one _) 1 [.int .u8 (IntKind.u8.wrap 255)] (Src.blk Tryd.underlying56 ((Blk.new _ _ _ rfl).drew) rfl (by intro u hu; cases List.mem_singleton.1 hu; rfl)) (by unfold maxLen; omega) (by omega) (by simp; omega) ?_; intro v1 w1 hown1 hg1 hat1; obtain ⟨A1, c1, rfl, hc1, _⟩ := hown1.form)
            | (refine step_append_Own _ rfl (.tmp 14) (.tmp 17) 56 9 rfl w.heap.size 5 i0 (.int .u8 0) 1 1 Tryd.underlying56 hi hz0 hz1 hz2 rfl (by decide) (.slice A1 (t.length + 1) c1) (t.length + 1) (bytes t ++ [.int .u8 (IntKind.u8.wrap 255)]) rfl hown1 (by rw [HTe]; exact bytes_one _) (u.extract 0 255).size (byteCells (u.extract 0 255)) (Src.ofString _ Tryd.underlying9 _) (by unfold maxLen; omega) (by omega) (by have := hg1.size; simp at this; omega) ?_; intro v2 w2 hown2 hg2 hat2; obtain ⟨A2, c2, rfl, hc2, _⟩ := hown2.form))
        all_goals
          go_wp2
          go_roundw
          case rel =>
            obtain ⟨f', rfl⟩ : ∃ f', f = f' + 1 := ⟨f - 1, by omega⟩
            have hne : lst u ≠ [] := by
              intro e
              have : u.size = 0 := by rw [← lst_length, e]; rfl
              omega
            have hn := H9.out
            have hnv := H8.out
            have hl2 := H7.out
            have hm : min 255 (lst u).length = n := by rw [lst_length]; exact hn.symm
            refine ⟨⟨_, t2, f', rfl, by rw [H5.out]; omega, by rw [H5.out]; omega, by rw [H5.out]; omega, ?_, ?_⟩, ?_⟩
            · rw [← HE.out, Blo.blocksF_cons _ _ hne, hm, H4.out, H2.out, H1.out, H3.out]
              simp
            · have e : t2.length = t.length + 1 + 255 := by omega
              have := hown2
              rw [H6.out, ← H8.out] at this
              rw [e, ← HT2, ← HTe]
              exact this
            · refine (((hb.alloc (by omega) _).drew).grown hg1 (by simp; omega) (fun g hg => (hown.lt g hg).1)).grown hg2 (by have := hg1.size; simp at this; omega) (fun g hg => (hown1.lt g hg).1)
          case measure =>
            show (u.extract 255 u.size).size < u.size
            rw [H5.out]
            have := H9.out
            omega
end Go.Proofs.YtncedhhgclofbaaDoor
