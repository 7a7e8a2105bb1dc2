/- layercakelaw3.blink: a moving picture of one pixel, written and read. How long a moving picture is at most. -/
import Derived.Test.YtncedhhgclofbaaDoorGifRead
import Derived.Test.YtncedhhgclofbaaDoorGifArgs
namespace Go.Proofs.YtncedhhgclofbaaDoor
open Go Go.RowKit

namespace Gif
theorem frame_len (f : Fr) (hc : colOK f.ps = true) : 19 ≤ (frame f).length ∧ (frame f).length ≤ 800 + 6 * f.ps.length := by
  have hul : (Col.unl (clean f.ps)).1.length ≤ 256 := by
    unfold colOK at hc
    rw [Bool.and_eq_true, decide_eq_true_eq] at hc
    exact hc.2
  have hs := size_le _ hul
  have hnn := nums_length (clean f.ps)
  have hcll : (clean f.ps).length = f.ps.length := clean_length _
  have h2 : 2 ^ (size (Col.unl (clean f.ps)).1.length + 1) ≤ 256 := Nat.le_trans (Nat.pow_le_pow_right (show 0 < 2 by omega) (show _ ≤ 8 by omega)) (Nat.le_refl _)
  have hw : width (size (Col.unl (clean f.ps)).1.length) ≤ 8 := by unfold width; omega
  have hlz : (Lz.lzw (width (size (Col.unl (clean f.ps)).1.length)) (nums (Col.unl (clean f.ps)).2)).length ≤ 24 * f.ps.length + 21 := by
    unfold Lz.lzw
    rw [List.length_append, Bit.low_length]
    have h1 := Lz.enc_most (width (size (Col.unl (clean f.ps)).1.length)) (nums (Col.unl (clean f.ps)).2).length (nums (Col.unl (clean f.ps)).2) [] (width (size (Col.unl (clean f.ps)).1.length) + 1) (Nat.le_refl _) (by omega) (by omega)
    rw [hnn, hcll] at h1 ⊢
    omega
  have hbl := Blo.blocksF_length _ (Bit.pack (Lz.lzw (width (size (Col.unl (clean f.ps)).1.length)) (nums (Col.unl (clean f.ps)).2))) (Nat.le_refl _)
  have hpl := Bit.pack_length (Lz.lzw (width (size (Col.unl (clean f.ps)).1.length)) (nums (Col.unl (clean f.ps)).2))
  unfold frame front Blo.blocks
  simp only [List.length_append, List.length_cons, List.length_nil, pair, table_length]
  omega
theorem frames_len : ∀ fs : List Fr, (∀ f ∈ fs, colOK f.ps = true) → (fs.flatMap frame).length ≤ 800 * fs.length + 6 * (fs.map (·.ps.length)).sum
  | [], _ => by simp
  | f :: r, h => by
    have h1 := (frame_len f (h f (by simp))).2
    have h2 := frames_len r fun x hx => h x (by simp [hx])
    rw [List.flatMap_cons, List.length_append, List.length_cons, List.map_cons, List.sum_cons]
    omega
theorem gif_len (fs : List Fr) (n : Int) (s : List UInt8) (h : gif fs n = .inl s) : s.length ≤ 40 + 800 * 16 + 6 * (fs.map (·.ps.length)).sum ∧ 32 ≤ s.length ∧ (0 ≤ n ∧ n ≤ 65535) ∧ 1 ≤ fs.length := by
  cases hb : bad fs n with
  | true => rw [gif_bad fs n hb] at h; cases h
  | false =>
    cases fs with
    | nil => cases hb
    | cons f r =>
      obtain ⟨h16, h0, hl⟩ := bad_no2 hb
      rw [gif_ok f r n hb] at h
      obtain ⟨hs, he⟩ := body_ok f (f :: r) 0 _ s h
      have h1 := frames_len (f :: r) fun x hx => (err_no (he x hx)).2.2.2.2
      have h2 := (frame_len f (err_no (he f (by simp))).2.2.2.2).1
      have hh : 13 ≤ (head f (r.length + 1) n).length ∧ (head f (r.length + 1) n).length ≤ 32 := by
        unfold head pair
        split <;> simp
      have h3 : (frame f).length ≤ ((f :: r).flatMap frame).length := by rw [List.flatMap_cons, List.length_append]; omega
      rw [hs]
      rw [List.length_cons] at h1
      simp only [List.length_append, List.length_cons, List.length_nil]
      refine ⟨?_, by omega, ⟨h0, hl⟩, by omega⟩
      omega
end Gif
/-- The frame of blink. -/
def bf : Fr := ⟨1, 1, [⟨255, 0, 0, 255⟩], 3⟩
theorem bf_gif : ∃ s, Gif.gif [bf] (0 : Nat) = .inl s := by
  have h1 : Gif.bad [bf] (0 : Nat) = false := by decide
  have h2 : Gif.err bf bf = none := by decide
  have h3 := Gif.body_yes bf [bf] 0 (Gif.head bf 1 (0 : Nat)) (fun f hf => by rw [List.mem_singleton.1 hf]; exact h2)
  exact ⟨_, (gif_ok bf [] _ h1).trans h3⟩
theorem bf_clean : Gif.cleanFr bf = bf := rfl
set_option maxRecDepth 100000 in
set_option maxHeartbeats 2000000 in
theorem blink_any (E : Nat → Addr) (w : World) (hE : Er4 w E) :
    Calls Tryd.prog 6 #[] w fun e w' => e = .returned (.bool true) ∧ Below w.heap.size w w' := by
  obtain ⟨s0, hg0⟩ := bf_gif
  obtain ⟨l1, l2, -, -⟩ := Gif.gif_len [bf] _ s0 hg0
  have hsum : ([bf].map (·.ps.length)).sum = 1 := rfl
  rw [hsum] at l1
  have hrb := Gif.read_back [bf] 0 s0 hg0
  rw [if_neg (by decide), List.map_cons, List.map_nil, bf_clean] at hrb
  have HG0 := Lib.hid hg0
  have HRB := Lib.hid hrb
  clear hg0 hrb hsum
  go_enter Tryd.func6, Tryd.ntmps6
  go_wp2_with fail
  refine (blank_any 1 1 1 ⟨255, 0, 0, 255⟩ w (by omega) (by omega) rfl (by omega)).mono ?_
  rintro e w1 ⟨A1, c1, rfl, ho1, hb1⟩
  obtain ⟨m, hm⟩ : ∃ m : FM, m = ⟨bf, A1, 1, c1⟩ := ⟨_, rfl⟩
  have hB2 := Blk.new w1 37 #[.int .i64 1, .int .i64 1, .slice A1 1 c1, .int .i64 3] rfl
  have hb2 : Below w.heap.size w (w1.alloc (.cells #[.int .i64 1, .int .i64 1, .slice A1 1 c1, .int .i64 3] 37)) := hb1.alloc hb1.size _
  have hF2 : Frs (w1.alloc (.cells #[.int .i64 1, .int .i64 1, .slice A1 1 c1, .int .i64 3] 37)) (w1.alloc (.cells #[.int .i64 1, .int .i64 1, .slice A1 1 c1, .int .i64 3] 37)).heap.size (some ⟨w1.heap.size, 0, none⟩) 1 [m] := by
    refine ⟨⟨rfl, fun _ => ⟨w1.heap.size, 0, rfl, by simp, fun j u hu => ?_⟩⟩, fun x hx => ?_⟩
    · rw [Nat.zero_add, hB2.cell]
      rw [frCells_single, hm] at hu
      simpa [frCs, bf] using hu
    · rw [List.mem_singleton.1 hx, hm]
      exact (ho1.alloc _).reads.2
  go_wp2_with fail
  generalize w1.alloc (.cells #[.int .i64 1, .int .i64 1, .slice A1 1 c1, .int .i64 3] 37) = w2 at *
  clear hB2 ho1
  have hE2 := hE.below hb2
  have hmf : ([m] : List FM).map (·.f) = [bf] := by rw [hm]; rfl
  have HMF := Lib.hid hmf
  clear hmf hm
  refine (write_any (some ⟨w1.heap.size, 0, none⟩) 1 1 [m] (0 : Nat) E w2 hE2 hF2).mono ?_
  rintro e w3 ⟨hb3, he3⟩
  rw [HMF.out, HG0.out] at he3
  obtain ⟨t, rfl, ht⟩ := he3
  have htz : t.size = s0.length := by rw [← ht, lst_length]
  have ht1 : (30 : Int) ≤ t.size := by omega
  have ht2 : t.size ≤ 300000 := by omega
  have hw3 := hb2.trans (hb3.mono hb2.size)
  have hF3 := hF2.step hb3
  have HT := Lib.hid ht
  clear ht htz hF2
  go_wp2_with fail
  refine (gread_any t E w3 (hE.below hw3) ht2).mono ?_
  rintro e w4 ⟨hb4, he4⟩
  rw [HT.out, HRB.out] at he4
  obtain ⟨A4, c4, ms4, he, hms4, hF4⟩ := he4
  replace he : e = .returned (.tuple #[.slice A4 ms4.length c4, .int .i64 0, .nilIface]) := he
  subst he
  have hw4 := hw3.trans (hb4.mono hw3.size)
  have hF34 := hF3.step hb4
  have hl4 : ms4.length = 1 := by have := congrArg List.length hms4; simpa using this
  have HMS := Lib.hid hms4
  have HL4 := Lib.hid hl4
  clear hms4 hl4 hF3
  go_wp2_with fail
  refine (backFrames_any A4 ms4.length c4 ms4 w4 hF4 (by rw [HL4.out]; decide)).mono ?_
  rintro e w5 ⟨A5, c5, ms5, rfl, hms5, hfr5, hb5⟩
  have hF35 := hF34.step hb5
  have HMS5 := Lib.hid hms5
  clear hms5
  go_wp2_with fail
  refine (backFrames_any (some ⟨w1.heap.size, 0, none⟩) 1 1 [m] w5 hF35 (by decide)).mono ?_
  rintro e w6 ⟨A6, c6, ms6, rfl, hms6, hfr6, hb6⟩
  have hF56 := hfr5.frs.step hb6
  have HMS6 := Lib.hid hms6
  clear hms6
  have hw6 := (hw4.trans (hb5.mono hw4.size)).trans (hb6.mono (hw4.trans (hb5.mono hw4.size)).size)
  go_wp2_with fail
  have hl5 : ms5.length = 1 := by have := congrArg List.length (HMS5.out.trans HMS.out); simpa using this
  have hone : ∀ x ∈ ms5, x.n ≤ 1048576 := by
    intro x hx
    obtain ⟨y, rfl⟩ : ∃ y, ms5 = [y] := by
      match ms5, hl5 with
      | [y], _ => exact ⟨y, rfl⟩
    obtain rfl := List.mem_singleton.1 hx
    have h1 := (hF56.2 x (by simp)).pxLen
    have h2 : x.f = bf := by have := HMS5.out.trans HMS.out; simpa using this
    rw [h1, h2]
    decide
  have he56 : ms5.map (·.f) = ms6.map (·.f) := by rw [HMS5.out, HMS.out, HMS6.out, HMF.out]
  refine (sameFrames_any A5 A6 c5 c6 ms5 ms6 w6 hF56 hfr6.frs he56 hone (by rw [hl5]; decide)).mono ?_
  rintro e w7 ⟨rfl, hb7⟩
  clear hl5 hone he56
  go_wp2_with fail
  go_ret
  exact ⟨rfl, hw6.trans (hb7.mono hw6.size)⟩
end Go.Proofs.YtncedhhgclofbaaDoor
