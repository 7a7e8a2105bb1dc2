/- GifRead, Blink, Coded, LReads: put together. -/
import Derived.Test.YtncedhhgclofbaaDoorRdAll
import Derived.Test.YtncedhhgclofbaaDoorGifWrite
import Derived.Test.YtncedhhgclofbaaDoorGifArgs
import Derived.Test.YtncedhhgclofbaaDoorCode
import Derived.Test.YtncedhhgclofbaaDoorClean
import Derived.Test.YtncedhhgclofbaaDoorRefGif
/- gif.Read: the walk. -/
namespace Go.Proofs.YtncedhhgclofbaaDoor
open Go Go.RowKit

/-- What Read gives of a text that is not too long. -/
def ReadG (E : Nat → Addr) (w : World) (R : Option (List Fr × Nat)) (e : Ending) (w' : World) : Prop :=
  Below w.heap.size w w' ∧ match R with
  | none => e = .returned (.tuple #[.slice none 0 0, .int .i64 0, errV (E 0)])
  | some r => ∃ A c ms, e = .returned (.tuple #[.slice A ms.length c, .int .i64 r.2, .nilIface]) ∧ ms.map (·.f) = r.1 ∧ Frs w' w'.heap.size A ms.length ms
theorem errIs_iface {E : Nat → Addr} {w : World} {v : Value} {c : Nat} {z : Int} (h : ErrIs E w v (c + 1, z)) : ∃ t u, v = .iface t u := by
  unfold ErrIs at h
  split at h
  · rename_i h0
    simp at h0
  · split at h
    · exact ⟨_, _, h⟩
    · obtain ⟨g, rfl, _⟩ := h
      exact ⟨_, _, rfl⟩
set_option maxHeartbeats 4000000 in
set_option maxRecDepth 100000 in
theorem gread_any (s : ByteArray) (E : Nat → Addr) (w : World) (hE : Er4 w E) (hs0 : s.size ≤ 300000) :
    Calls Tryd.prog 10 #[.string s] w fun e w' => ReadG E w (Gif.read (lst s)) e w' := by
  have hbi : (s.size : Int) ≤ 300000 := by omega
  have hs : (lst s).length ≤ 300000 := hs0
  obtain ⟨R, hR⟩ : ∃ R, R = Gif.read (lst s) := ⟨_, rfl⟩
  rw [← hR]
  have HR := Lib.hid hR
  clear hR
  have hB1 := Blk.new w 72 #[.string s] rfl
  have hb1 : Below w.heap.size w (w.alloc (.cells #[.string s] 72)) := (Below.refl _ _).alloc (Nat.le_refl _) _
  have hE1 := hE.below hb1
  have hN := hE.erN (Nat.le_refl w.heap.size)
  have hgl : w.heap.size < (w.alloc (.cells #[.string s] 72)).heap.size := by simp
  go_enter Tryd.func10, Tryd.ntmps10
  go_wp2_with fail
  refine (all_any w.heap.size (lst s) E _ hE1 hN ⟨s, hB1, rfl⟩ hs hgl).mono ?_
  rintro e w2 ⟨K2, he2⟩
  have hw2 : Below w.heap.size w w2 := hb1.trans (K2.below (B := w.heap.size) (fun g hg => by omega) hb1.size)
  have hE2 := hE.below hw2
  cases hra : Gif.rall (lst s) with
  | none =>
    rw [hra] at he2
    replace he2 : e = .returned (.tuple #[.slice none 0 0, .int .i64 0, .bool false]) := he2
    subst he2
    have hRn : R = none := by rw [HR.out]; unfold Gif.read; rw [hra]
    have HRN := Lib.hid hRn
    have htx := hE2.text
    clear hra hRn
    go_wp2_with fail
    go_quiet (fail)
    go_wp2
    exact bodyPost_ret (v := .tuple #[.slice none 0 0, .int .i64 0, errV (E 0)]) (by simp [results, Tryd.results10, go_sem, errV]) rfl ⟨below_drewN hw2 _, by rw [HRN.out]⟩
  | some r =>
    obtain ⟨fs, n⟩ := r
    rw [hra] at he2
    obtain ⟨A, c, ms, he, hms, hfr⟩ := he2
    replace he : e = .returned (.tuple #[.slice A ms.length c, .int .i64 n, .bool true]) := he
    subst he
    replace hms : ms.map (·.f) = fs := hms
    have hR2 : R = if Gif.gif fs n = .inl (lst s) then some (fs, n) else none := by rw [HR.out]; unfold Gif.read; rw [hra]
    rw [← hms] at hR2
    have HR2 := Lib.hid hR2
    have HMS := Lib.hid hms
    clear hra hR2 hms HR
    have hfrs := hfr.frs
    go_wp2_with fail
    refine (write_any A ms.length c ms n E w2 hE2 hfrs).mono ?_
    rintro e w3 ⟨hb3, he3⟩
    have hw3 := hw2.trans (hb3.mono hw2.size)
    have hE3 := hE.below hw3
    have htx := hE3.text
    cases hg : Gif.gif (ms.map (·.f)) n with
    | inr f =>
      rw [hg] at he3
      obtain ⟨v, rfl, hv⟩ := he3
      obtain ⟨ty, u, rfl⟩ := errIs_iface hv
      have hRn : R = none := by rw [HR2.out, hg, if_neg (by simp)]
      have HRN := Lib.hid hRn
      clear hg hRn hv
      go_wp2_with fail
      go_quiet (fail)
      go_wp2
      exact bodyPost_ret (v := .tuple #[.slice none 0 0, .int .i64 0, errV (E 0)]) (by simp [results, Tryd.results10, go_sem, errV]) rfl ⟨below_drewN hw3 _, by rw [HRN.out]⟩
    | inl s2 =>
      rw [hg] at he3
      obtain ⟨t, rfl, ht⟩ := he3
      by_cases hts : s2 = lst s
      · have hRn : R = some (ms.map (·.f), n) := by rw [HR2.out, hg, if_pos (by rw [hts])]
        have HRN := Lib.hid hRn
        have hq : (t.toList == s.toList) = true := by rw [Lib.toList_data, Lib.toList_data, beq_iff_eq]; exact ht.trans hts
        clear hg hRn ht hts
        go_wp2_with fail
        exact bodyPost_ret (v := .tuple #[.slice A ms.length c, .int .i64 n, .nilIface]) (by simp [results, Tryd.results10, go_sem]) rfl ⟨hw3, by rw [HRN.out]; exact ⟨A, c, ms, rfl, rfl, hfrs.step hb3⟩⟩
      · have hRn : R = none := by rw [HR2.out, hg, if_neg (fun e => hts (by injection e))]
        have HRN := Lib.hid hRn
        have hq : (t.toList == s.toList) = false := by
          rw [Lib.toList_data, Lib.toList_data, beq_eq_false_iff_ne]
          intro e
          exact hts (ht.symm.trans e)
        clear hg hRn ht hts
        go_wp2_with fail
        go_quiet (fail)
        go_wp2
        exact bodyPost_ret (v := .tuple #[.slice none 0 0, .int .i64 0, errV (E 0)]) (by simp [results, Tryd.results10, go_sem, errV]) rfl ⟨below_drewN hw3 _, by rw [HRN.out]⟩
end Go.Proofs.YtncedhhgclofbaaDoor
/- layercakelaw3.blink: a moving picture of one pixel, written and read. How long a moving picture is at most. -/
namespace Go.Proofs.YtncedhhgclofbaaDoor
open Go Go.RowKit

namespace Gif
theorem frame_len (f : Fr) (hc : colOK f.ps = true) : 19 ≤ (frame f).length ∧ (frame f).length ≤ 800 + 6 * f.ps.length := by
  have hul : (Col.unl (clean f.ps)).1.length ≤ 256 := by
    unfold colOK at hc
    rw [Bool.and_eq_true, decide_eq_true_eq] at hc
    exact hc.2
  have hs := size_le _ hul
  have hnn := nums_length (clean f.ps)
  have hcll : (clean f.ps).length = f.ps.length := clean_length _
  have h2 : 2 ^ (size (Col.unl (clean f.ps)).1.length + 1) ≤ 256 := Nat.le_trans (Nat.pow_le_pow_right (show 0 < 2 by omega) (show _ ≤ 8 by omega)) (Nat.le_refl _)
  have hw : width (size (Col.unl (clean f.ps)).1.length) ≤ 8 := by unfold width; omega
  have hlz : (Lz.lzw (width (size (Col.unl (clean f.ps)).1.length)) (nums (Col.unl (clean f.ps)).2)).length ≤ 24 * f.ps.length + 21 := by
    unfold Lz.lzw
    rw [List.length_append, Bit.low_length]
    have h1 := Lz.enc_most (width (size (Col.unl (clean f.ps)).1.length)) (nums (Col.unl (clean f.ps)).2).length (nums (Col.unl (clean f.ps)).2) [] (width (size (Col.unl (clean f.ps)).1.length) + 1) (Nat.le_refl _) (by omega) (by omega)
    rw [hnn, hcll] at h1 ⊢
    omega
  have hbl := Blo.blocksF_length _ (Bit.pack (Lz.lzw (width (size (Col.unl (clean f.ps)).1.length)) (nums (Col.unl (clean f.ps)).2))) (Nat.le_refl _)
  have hpl := Bit.pack_length (Lz.lzw (width (size (Col.unl (clean f.ps)).1.length)) (nums (Col.unl (clean f.ps)).2))
  unfold frame front Blo.blocks
  simp only [List.length_append, List.length_cons, List.length_nil, pair, table_length]
  omega
theorem frames_len : ∀ fs : List Fr, (∀ f ∈ fs, colOK f.ps = true) → (fs.flatMap frame).length ≤ 800 * fs.length + 6 * (fs.map (·.ps.length)).sum
  | [], _ => by simp
  | f :: r, h => by
    have h1 := (frame_len f (h f (by simp))).2
    have h2 := frames_len r fun x hx => h x (by simp [hx])
    rw [List.flatMap_cons, List.length_append, List.length_cons, List.map_cons, List.sum_cons]
    omega
theorem gif_len (fs : List Fr) (n : Int) (s : List UInt8) (h : gif fs n = .inl s) : s.length ≤ 40 + 800 * 16 + 6 * (fs.map (·.ps.length)).sum ∧ 32 ≤ s.length ∧ (0 ≤ n ∧ n ≤ 65535) ∧ 1 ≤ fs.length := by
  cases hb : bad fs n with
  | true => rw [gif_bad fs n hb] at h; cases h
  | false =>
    cases fs with
    | nil => cases hb
    | cons f r =>
      obtain ⟨h16, h0, hl⟩ := bad_no2 hb
      rw [gif_ok f r n hb] at h
      obtain ⟨hs, he⟩ := body_ok f (f :: r) 0 _ s h
      have h1 := frames_len (f :: r) fun x hx => (err_no (he x hx)).2.2.2.2
      have h2 := (frame_len f (err_no (he f (by simp))).2.2.2.2).1
      have hh : 13 ≤ (head f (r.length + 1) n).length ∧ (head f (r.length + 1) n).length ≤ 32 := by
        unfold head pair
        split <;> simp
      have h3 : (frame f).length ≤ ((f :: r).flatMap frame).length := by rw [List.flatMap_cons, List.length_append]; omega
      rw [hs]
      rw [List.length_cons] at h1
      simp only [List.length_append, List.length_cons, List.length_nil]
      refine ⟨?_, by omega, ⟨h0, hl⟩, by omega⟩
      omega
end Gif
/-- The frame of blink. -/
def bf : Fr := ⟨1, 1, [⟨255, 0, 0, 255⟩], 3⟩
theorem bf_gif : ∃ s, Gif.gif [bf] (0 : Nat) = .inl s := by
  have h1 : Gif.bad [bf] (0 : Nat) = false := by decide
  have h2 : Gif.err bf bf = none := by decide
  have h3 := Gif.body_yes bf [bf] 0 (Gif.head bf 1 (0 : Nat)) (fun f hf => by rw [List.mem_singleton.1 hf]; exact h2)
  exact ⟨_, (gif_ok bf [] _ h1).trans h3⟩
theorem bf_clean : Gif.cleanFr bf = bf := rfl
set_option maxRecDepth 100000 in
set_option maxHeartbeats 2000000 in
theorem blink_any (E : Nat → Addr) (w : World) (hE : Er4 w E) :
    Calls Tryd.prog 6 #[] w fun e w' => e = .returned (.bool true) ∧ Below w.heap.size w w' := by
  obtain ⟨s0, hg0⟩ := bf_gif
  obtain ⟨l1, l2, -, -⟩ := Gif.gif_len [bf] _ s0 hg0
  have hsum : ([bf].map (·.ps.length)).sum = 1 := rfl
  rw [hsum] at l1
  have hrb := Gif.read_back [bf] 0 s0 hg0
  rw [if_neg (by decide), List.map_cons, List.map_nil, bf_clean] at hrb
  have HG0 := Lib.hid hg0
  have HRB := Lib.hid hrb
  clear hg0 hrb hsum
  go_enter Tryd.func6, Tryd.ntmps6
  go_wp2_with fail
  refine (blank_any 1 1 1 ⟨255, 0, 0, 255⟩ w (by omega) (by omega) rfl (by omega)).mono ?_
  rintro e w1 ⟨A1, c1, rfl, ho1, hb1⟩
  obtain ⟨m, hm⟩ : ∃ m : FM, m = ⟨bf, A1, 1, c1⟩ := ⟨_, rfl⟩
  have hB2 := Blk.new w1 37 #[.int .i64 1, .int .i64 1, .slice A1 1 c1, .int .i64 3] rfl
  have hb2 : Below w.heap.size w (w1.alloc (.cells #[.int .i64 1, .int .i64 1, .slice A1 1 c1, .int .i64 3] 37)) := hb1.alloc hb1.size _
  have hF2 : Frs (w1.alloc (.cells #[.int .i64 1, .int .i64 1, .slice A1 1 c1, .int .i64 3] 37)) (w1.alloc (.cells #[.int .i64 1, .int .i64 1, .slice A1 1 c1, .int .i64 3] 37)).heap.size (some ⟨w1.heap.size, 0, none⟩) 1 [m] := by
    refine ⟨⟨rfl, fun _ => ⟨w1.heap.size, 0, rfl, by simp, fun j u hu => ?_⟩⟩, fun x hx => ?_⟩
    · rw [Nat.zero_add, hB2.cell]
      rw [frCells_single, hm] at hu
      simpa [frCs, bf] using hu
    · rw [List.mem_singleton.1 hx, hm]
      exact (ho1.alloc _).reads.2
  go_wp2_with fail
  generalize w1.alloc (.cells #[.int .i64 1, .int .i64 1, .slice A1 1 c1, .int .i64 3] 37) = w2 at *
  clear hB2 ho1
  have hE2 := hE.below hb2
  have hmf : ([m] : List FM).map (·.f) = [bf] := by rw [hm]; rfl
  have HMF := Lib.hid hmf
  clear hmf hm
  refine (write_any (some ⟨w1.heap.size, 0, none⟩) 1 1 [m] (0 : Nat) E w2 hE2 hF2).mono ?_
  rintro e w3 ⟨hb3, he3⟩
  rw [HMF.out, HG0.out] at he3
  obtain ⟨t, rfl, ht⟩ := he3
  have htz : t.size = s0.length := by rw [← ht, lst_length]
  have ht1 : (30 : Int) ≤ t.size := by omega
  have ht2 : t.size ≤ 300000 := by omega
  have hw3 := hb2.trans (hb3.mono hb2.size)
  have hF3 := hF2.step hb3
  have HT := Lib.hid ht
  clear ht htz hF2
  go_wp2_with fail
  refine (gread_any t E w3 (hE.below hw3) ht2).mono ?_
  rintro e w4 ⟨hb4, he4⟩
  rw [HT.out, HRB.out] at he4
  obtain ⟨A4, c4, ms4, he, hms4, hF4⟩ := he4
  replace he : e = .returned (.tuple #[.slice A4 ms4.length c4, .int .i64 0, .nilIface]) := he
  subst he
  have hw4 := hw3.trans (hb4.mono hw3.size)
  have hF34 := hF3.step hb4
  have hl4 : ms4.length = 1 := by have := congrArg List.length hms4; simpa using this
  have HMS := Lib.hid hms4
  have HL4 := Lib.hid hl4
  clear hms4 hl4 hF3
  go_wp2_with fail
  refine (backFrames_any A4 ms4.length c4 ms4 w4 hF4 (by rw [HL4.out]; decide)).mono ?_
  rintro e w5 ⟨A5, c5, ms5, rfl, hms5, hfr5, hb5⟩
  have hF35 := hF34.step hb5
  have HMS5 := Lib.hid hms5
  clear hms5
  go_wp2_with fail
  refine (backFrames_any (some ⟨w1.heap.size, 0, none⟩) 1 1 [m] w5 hF35 (by decide)).mono ?_
  rintro e w6 ⟨A6, c6, ms6, rfl, hms6, hfr6, hb6⟩
  have hF56 := hfr5.frs.step hb6
  have HMS6 := Lib.hid hms6
  clear hms6
  have hw6 := (hw4.trans (hb5.mono hw4.size)).trans (hb6.mono (hw4.trans (hb5.mono hw4.size)).size)
  go_wp2_with fail
  have hl5 : ms5.length = 1 := by have := congrArg List.length (HMS5.out.trans HMS.out); simpa using this
  have hone : ∀ x ∈ ms5, x.n ≤ 1048576 := by
    intro x hx
    obtain ⟨y, rfl⟩ : ∃ y, ms5 = [y] := by
      match ms5, hl5 with
      | [y], _ => exact ⟨y, rfl⟩
    obtain rfl := List.mem_singleton.1 hx
    have h1 := (hF56.2 x (by simp)).pxLen
    have h2 : x.f = bf := by have := HMS5.out.trans HMS.out; simpa using this
    rw [h1, h2]
    decide
  have he56 : ms5.map (·.f) = ms6.map (·.f) := by rw [HMS5.out, HMS.out, HMS6.out, HMF.out]
  refine (sameFrames_any A5 A6 c5 c6 ms5 ms6 w6 hF56 hfr6.frs he56 hone (by rw [hl5]; decide)).mono ?_
  rintro e w7 ⟨rfl, hb7⟩
  clear hl5 hone he56
  go_wp2_with fail
  go_ret
  exact ⟨rfl, hw6.trans (hb7.mono hw6.size)⟩
end Go.Proofs.YtncedhhgclofbaaDoor
/- coded, at nil and at a sentinel: the walk. -/
namespace Go.Proofs.YtncedhhgclofbaaDoor
open Go Go.RowKit

theorem coded_nil (c : Int) (w : World) : Calls Tryd.prog 15 #[.nilIface, .int .i64 c] w fun e w' => e = .returned (.bool (decide ((0 : Int) = c))) ∧ w' = w := by
  go_enter Tryd.func15, Tryd.ntmps15
  go_wp2_with fail
  refine (code_nil w).mono ?_
  rintro e w1 ⟨rfl, rfl⟩
  go_wp2
  all_goals go_ret
  all_goals exact ⟨by first | rfl | (simp; done) | (simp; omega), rfl⟩

theorem coded_sent (E : Nat → Addr) (i : Nat) (hi9 : i < 9) (c : Int) (w : World) (hE : ErrsAt w E) :
    Calls Tryd.prog 15 #[.iface 167 (.pointer (some (E i))), .int .i64 c] w fun e w' => e = .returned (.bool (decide ((i : Int) + 1 = c))) ∧ Below w.heap.size w w' := by
  go_enter Tryd.func15, Tryd.ntmps15
  go_wp2_with fail
  refine (code_sent E i hi9 w hE).mono ?_
  rintro e w1 ⟨rfl, hb⟩
  by_cases hc : (i : Int) + 1 = c
  · subst hc
    go_wp2
    all_goals go_ret
    all_goals exact ⟨by first | rfl | (simp; done) | (simp; omega), hb⟩
  · go_wp2
    all_goals go_ret
    all_goals exact ⟨by first | rfl | (simp; done) | (simp; omega), hb⟩
end Go.Proofs.YtncedhhgclofbaaDoor
/- layercakelaw3.GifReads: the walk. -/
namespace Go.Proofs.YtncedhhgclofbaaDoor
open Go Go.RowKit

theorem clean_reads {w : World} {B n : Nat} {A : Option Addr} {f : Fr} (h : Reads w B 4 A n (pxCells f.ps)) (hc : Gif.clean f.ps = f.ps) : Reads w B 4 A n (pxCells (Gif.clean f.ps)) := by rw [hc]; exact h
set_option maxRecDepth 100000 in
set_option maxHeartbeats 8000000 in
theorem gifReads_any (s : ByteArray) (E : Nat → Addr) (w : World) (hE : ErrsAt w E) :
    Calls Tryd.prog 5 #[.string s] w fun e w' => e = .returned (.bool true) ∧ Below w.heap.size w w' := by
  go_enter Tryd.func5, Tryd.ntmps5
  go_wp2_with fail
  refine (blink_any E w hE.er4).mono ?_
  rintro e w1 ⟨rfl, hw1⟩
  by_cases hbig : 4000 < s.size
  · have hbi : (4000 : Int) < s.size := by omega
    clear hbig
    go_wp2_with fail
    go_ret
    exact ⟨rfl, hw1⟩
  · have hbi : (s.size : Int) ≤ 4000 := by omega
    have hsz : s.size ≤ 300000 := by omega
    clear hbig
    have hE1 := hE.below hw1
    go_wp2_with fail
    refine (gread_any s E w1 hE1.er4 hsz).mono ?_
    rintro e w2 ⟨hb2, he2⟩
    have hw2 := hw1.trans (hb2.mono hw1.size)
    have hE2 := hE.below hw2
    cases hr : Gif.read (lst s) with
    | none =>
      rw [hr] at he2
      replace he2 : e = .returned (.tuple #[.slice none 0 0, .int .i64 0, errV (E 0)]) := he2
      subst he2
      clear hr
      unfold errV
      go_wp2_with fail
      refine (coded_sent E 0 (by decide) 1 w2 hE2).mono ?_
      rintro e w3 ⟨rfl, hb3⟩
      go_wp2_with fail
      go_ret
      exact ⟨rfl, hw2.trans (hb3.mono hw2.size)⟩
    | some r =>
      obtain ⟨fs, n⟩ := r
      rw [hr] at he2
      obtain ⟨A2, c2, ms2, he, hm2, hF2⟩ := he2
      replace he : e = .returned (.tuple #[.slice A2 ms2.length c2, .int .i64 n, .nilIface]) := he
      replace hm2 : ms2.map (·.f) = fs := hm2
      subst he
      obtain ⟨hg, hcl, h1n⟩ := Gif.read_clean hr
      obtain ⟨-, -, -, hl1⟩ := Gif.gif_len _ _ _ hg
      have hno : Gif.bad fs n = false := by
        cases hb : Gif.bad fs n with
        | true => rw [gif_bad fs n hb] at hg; cases hg
        | false => rfl
      have h16 : fs.length ≤ 16 ∧ (n : Int) ≤ 65535 ∧ ∀ f ∈ fs, f.ps.length ≤ 65536 := by
        cases fs with
        | nil => cases hno
        | cons f r =>
          obtain ⟨q1, _, q3⟩ := bad_no2 hno
          rw [gif_ok f r n hno] at hg
          obtain ⟨_, he⟩ := Gif.body_ok f (f :: r) 0 _ _ hg
          exact ⟨q1, q3, fun x hx => (rightB_true (Gif.err_no (he x hx)).1).2.2.2⟩
      obtain ⟨h16, _, hps⟩ := h16
      have hl2 : ms2.length = fs.length := by rw [← hm2, List.length_map]
      have HG := Lib.hid hg
      have HCL := Lib.hid hcl
      have HPS := Lib.hid hps
      have HM2 := Lib.hid hm2
      have HL2 := Lib.hid hl2
      have H1N := Lib.hid h1n
      clear hr hg hcl hno hps hm2 h1n hl1
      obtain ⟨N, hN⟩ : ∃ N, N = ms2.length := ⟨_, rfl⟩
      have hN20 : N ≤ 20 := by omega
      have HNN := Lib.hid hN
      rw [← hN] at hF2 ⊢
      clear hN hl2 h16
      go_wp2_with fail
      refine (backFrames_any A2 N c2 ms2 w2 hF2 hN20).mono ?_
      rintro e w3 ⟨A3, c3, ms3, rfl, hm3, hfr3, hb3⟩
      have hw3 := hw2.trans (hb3.mono hw2.size)
      have hF3 := hfr3.frs
      have hl3 : ms3.length = N := by have := congrArg List.length hm3; rw [List.length_map, List.length_map] at this; rw [this, HNN.out]
      rw [hl3] at hF3 ⊢
      have hfs3 : ms3.map (·.f) = fs := hm3.trans HM2.out
      have hmn : ∀ m ∈ ms3, m.n ≤ 65536 := fun m hm => by
        rw [(hF3.2 m hm).pxLen]
        exact HPS.out _ (by rw [← hfs3]; exact List.mem_map_of_mem hm)
      have HMN := Lib.hid hmn
      have HL3 := Lib.hid hl3
      have HFS3 := Lib.hid hfs3
      clear hm3 hl3 hfs3 hmn hfr3 hF2
      go_wp2_with fail
      refine (short_any A3 N c3 ms3 w3 hF3 (fun m hm => Nat.le_trans (HMN.out m hm) (by decide)) (by omega)).mono ?_
      rintro e w4 ⟨rfl, rfl⟩
      cases shortB ms3 with
      | false =>
        go_wp2_with fail
        go_ret
        exact ⟨rfl, hw3⟩
      | true =>
        go_wp2_with fail
        refine (gifOf_any A3 N c3 ms3 n w3 hF3).mono ?_
        rintro e w5 ⟨hb5, he5⟩
        rw [HFS3.out, HG.out] at he5
        obtain ⟨t, rfl, ht⟩ := he5
        have hw5 := hw3.trans (hb5.mono hw3.size)
        have hF5 := hF3.step hb5
        have hq : (t.toList == s.toList) = true := by rw [Lib.toList_data, Lib.toList_data, beq_iff_eq]; exact ht
        have hB6 := Blk.new w5 43 #[.int .i64 0, .int .i64 (-1)] rfl
        have hw6 := hw5.alloc hw5.size (.cells #[.int .i64 0, .int .i64 (-1)] 43)
        have hF6 := (hF5.below ((Below.refl w5.heap.size w5).alloc (Nat.le_refl _) (.cells #[.int .i64 0, .int .i64 (-1)] 43)) (Nat.le_refl _)).more (show w5.heap.size ≤ (w5.alloc (.cells #[.int .i64 0, .int .i64 (-1)] 43)).heap.size by simp)
        have HQ := Lib.hid hq
        clear ht hF5 hq
        go_wp2_with fail
        obtain ⟨gf, hgf⟩ : ∃ gf, gf = w5.heap.size := ⟨_, rfl⟩
        rw [← hgf] at hB6 ⊢
        have HGF := Lib.hid hgf
        clear hgf
        generalize w5.alloc (.cells #[.int .i64 0, .int .i64 (-1)] 43) = w6 at *
        go_loopw [10] (fun i wr => ∃ k : Nat, k ≤ N ∧ i = .int .i64 k ∧ Below w6.heap.size w6 wr) (fun i _ => N - (intOf i).toNat)
        case atStart => exact ⟨0, Nat.zero_le _, rfl, Below.refl _ _⟩
        case round =>
          obtain ⟨k, hk, rfl, hb⟩ := hrel
          obtain ⟨wk, hwk⟩ : ∃ wk, wk = wr := ⟨_, rfl⟩
          rw [← hwk] at hb ⊢
          clear hwk
          have hzk := hb.size
          by_cases hlt : k < N
          · have hx : k < ms3.length := by rw [HL3.out]; exact hlt
            have hFa := hF6.step hb
            obtain ⟨b0, off, rfl, hbl⟩ := hF6.1.addr (by omega)
            have hcl : Gif.clean ms3[k].f.ps = ms3[k].f.ps := HCL.out _ (by rw [← HFS3.out]; exact List.mem_map_of_mem (List.getElem_mem hx))
            have hmn := HMN.out _ (List.getElem_mem hx)
            have k0 : wk.cell? ⟨b0, off + k * 4, none⟩ = some (.int .i64 ms3[k].f.wide) := by have := hFa.at k hx 0 (by omega); simpa [frCs] using this
            have k1 : wk.cell? ⟨b0, off + k * 4 + 1, none⟩ = some (.int .i64 ms3[k].f.high) := by have := hFa.at k hx 1 (by omega); simpa [frCs] using this
            have k2 : wk.cell? ⟨b0, off + k * 4 + 2, none⟩ = some (.slice ms3[k].A ms3[k].n ms3[k].c) := by have := hFa.at k hx 2 (by omega); simpa [frCs] using this
            have px := hFa.px k hx
            generalize ms3[k] = m at *
            have HCLM := Lib.hid hcl
            have hmn2 : m.n ≤ 1048576 := by omega
            clear hcl
            go_wp2_with fail
            go_region_law
              (first
                | (go_simp; go_at_call 12; refine (clean_any m.f.wide m.f.high m.A m.n m.c m.f.ps wk.drew px hmn2).mono ?_; rintro e wA ⟨A7, c7, rfl, ho7, hbA0⟩; have hbA := Below.fromDrew hbA0; have r0 := bkeep hbA k0; have r1 := bkeep hbA k1; have r2 := bkeep hbA k2; have pxA := Reads.more (Reads.below px hbA (Nat.le_refl _)) (Below.size hbA); have hzA := Below.size hbA)
                | (go_simp; go_at_call 11; refine (samePicture_same m.f.wide m.f.high m.A m.n m.c A7 c7 (Gif.clean m.f.ps) wA (clean_reads pxA HCLM.out) ho7.reads.2 hmn2).mono ?_; rintro e wB ⟨rfl, hbB⟩))
            all_goals
              go_wp2_with fail
              go_roundw
              case rel => exact ⟨k + 1, hlt, by go_num, (hb.trans (hbA.mono hzk)).trans (hbB.mono (hb.trans (hbA.mono hzk)).size)⟩
              case measure => simp [intOf]; omega
          · have hlt2 : (N : Int) ≤ k := by omega
            have hB7 := hB6.below hb hB6.lt
            have d0 : wk.cell? ⟨gf, 0, none⟩ = some (.int .i64 0) := by rw [hB7.cell]; rfl
            have hq := HQ.out
            clear hlt
            rcases H1N.out with h1 | h1
            · have h1i : (1 : Int) < N := by rw [HNN.out, HL2.out]; omega
              go_wp2_with fail
              go_ret
              exact ⟨rfl, hw6.trans (hb.mono hw6.size)⟩
            · subst h1
              by_cases h2 : 1 < N
              · have h2i : (1 : Int) < N := by omega
                clear h2
                go_wp2_with fail
                go_ret
                exact ⟨rfl, hw6.trans (hb.mono hw6.size)⟩
              · have h2i : (N : Int) ≤ 1 := by omega
                clear h2
                go_wp2_with fail
                go_ret
                exact ⟨rfl, hw6.trans (hb.mono hw6.size)⟩
end Go.Proofs.YtncedhhgclofbaaDoor
