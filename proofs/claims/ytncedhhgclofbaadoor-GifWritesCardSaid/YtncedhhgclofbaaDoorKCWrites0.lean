/- GifRead, Blink, LWrites: put together. -/
import Derived.Test.YtncedhhgclofbaaDoorRdAll
import Derived.Test.YtncedhhgclofbaaDoorGifWrite
import Derived.Test.YtncedhhgclofbaaDoorGifArgs
import Derived.Test.YtncedhhgclofbaaDoorRefGif
import Derived.Test.YtncedhhgclofbaaDoorKCWrites3
/- gif.Read: the walk. -/
namespace Go.Proofs.YtncedhhgclofbaaDoor
open Go Go.RowKit

/-- What Read gives of a text that is not too long. -/
def ReadG (E : Nat → Addr) (w : World) (R : Option (List Fr × Nat)) (e : Ending) (w' : World) : Prop :=
  Below w.heap.size w w' ∧ match R with
  | none => e = .returned (.tuple #[.slice none 0 0, .int .i64 0, errV (E 0)])
  | some r => ∃ A c ms, e = .returned (.tuple #[.slice A ms.length c, .int .i64 r.2, .nilIface]) ∧ ms.map (·.f) = r.1 ∧ Frs w' w'.heap.size A ms.length ms
theorem errIs_iface {E : Nat → Addr} {w : World} {v : Value} {c : Nat} {z : Int} (h : ErrIs E w v (c + 1, z)) : ∃ t u, v = .iface t u := by
  unfold ErrIs at h
  split at h
  · rename_i h0
    simp at h0
  · split at h
    · exact ⟨_, _, h⟩
    · obtain ⟨g, rfl, _⟩ := h
      exact ⟨_, _, rfl⟩
set_option maxHeartbeats 4000000 in
set_option maxRecDepth 100000 in
theorem gread_any (s : ByteArray) (E : Nat → Addr) (w : World) (hE : Er4 w E) (hs0 : s.size ≤ 300000) :
    Calls Tryd.prog 10 #[.string s] w fun e w' => ReadG E w (Gif.read (lst s)) e w' := by
  have hbi : (s.size : Int) ≤ 300000 := by omega
  have hs : (lst s).length ≤ 300000 := hs0
  obtain ⟨R, hR⟩ : ∃ R, R = Gif.read (lst s) := ⟨_, rfl⟩
  rw [← hR]
  have HR := Lib.hid hR
  clear hR
  have hB1 := Blk.new w 72 #[.string s] rfl
  have hb1 : Below w.heap.size w (w.alloc (.cells #[.string s] 72)) := (Below.refl _ _).alloc (Nat.le_refl _) _
  have hE1 := hE.below hb1
  have hN := hE.erN (Nat.le_refl w.heap.size)
  have hgl : w.heap.size < (w.alloc (.cells #[.string s] 72)).heap.size := by simp
  go_enter Tryd.func10, Tryd.ntmps10
  go_wp2_with fail
  refine (all_any w.heap.size (lst s) E _ hE1 hN ⟨s, hB1, rfl⟩ hs hgl).mono ?_
  rintro e w2 ⟨K2, he2⟩
  have hw2 : Below w.heap.size w w2 := hb1.trans (K2.below (B := w.heap.size) (fun g hg => by omega) hb1.size)
  have hE2 := hE.below hw2
  cases hra : Gif.rall (lst s) with
  | none =>
    rw [hra] at he2
    replace he2 : e = .returned (.tuple #[.slice none 0 0, .int .i64 0, .bool false]) := he2
    subst he2
    have hRn : R = none := by rw [HR.out]; unfold Gif.read; rw [hra]
    have HRN := Lib.hid hRn
    have htx := hE2.text
    clear hra hRn
    go_wp2_with fail
    go_quiet (fail)
    go_wp2
    exact bodyPost_ret (v := .tuple #[.slice none 0 0, .int .i64 0, errV (E 0)]) (by simp [results, Tryd.results10, go_sem, errV]) rfl ⟨below_drewN hw2 _, by rw [HRN.out]⟩
  | some r =>
    obtain ⟨fs, n⟩ := r
    rw [hra] at he2
    obtain ⟨A, c, ms, he, hms, hfr⟩ := he2
    replace he : e = .returned (.tuple #[.slice A ms.length c, .int .i64 n, .bool true]) := he
    subst he
    replace hms : ms.map (·.f) = fs := hms
    have hR2 : R = if Gif.gif fs n = .inl (lst s) then some (fs, n) else none := by rw [HR.out]; unfold Gif.read; rw [hra]
    rw [← hms] at hR2
    have HR2 := Lib.hid hR2
    have HMS := Lib.hid hms
    clear hra hR2 hms HR
    have hfrs := hfr.frs
    go_wp2_with fail
    refine (write_any A ms.length c ms n E w2 hE2 hfrs).mono ?_
    rintro e w3 ⟨hb3, he3⟩
    have hw3 := hw2.trans (hb3.mono hw2.size)
    have hE3 := hE.below hw3
    have htx := hE3.text
    cases hg : Gif.gif (ms.map (·.f)) n with
    | inr f =>
      rw [hg] at he3
      obtain ⟨v, rfl, hv⟩ := he3
      obtain ⟨ty, u, rfl⟩ := errIs_iface hv
      have hRn : R = none := by rw [HR2.out, hg, if_neg (by simp)]
      have HRN := Lib.hid hRn
      clear hg hRn hv
      go_wp2_with fail
      go_quiet (fail)
      go_wp2
      exact bodyPost_ret (v := .tuple #[.slice none 0 0, .int .i64 0, errV (E 0)]) (by simp [results, Tryd.results10, go_sem, errV]) rfl ⟨below_drewN hw3 _, by rw [HRN.out]⟩
    | inl s2 =>
      rw [hg] at he3
      obtain ⟨t, rfl, ht⟩ := he3
      by_cases hts : s2 = lst s
      · have hRn : R = some (ms.map (·.f), n) := by rw [HR2.out, hg, if_pos (by rw [hts])]
        have HRN := Lib.hid hRn
        have hq : (t.toList == s.toList) = true := by rw [Lib.toList_data, Lib.toList_data, beq_iff_eq]; exact ht.trans hts
        clear hg hRn ht hts
        go_wp2_with fail
        exact bodyPost_ret (v := .tuple #[.slice A ms.length c, .int .i64 n, .nilIface]) (by simp [results, Tryd.results10, go_sem]) rfl ⟨hw3, by rw [HRN.out]; exact ⟨A, c, ms, rfl, rfl, hfrs.step hb3⟩⟩
      · have hRn : R = none := by rw [HR2.out, hg, if_neg (fun e => hts (by injection e))]
        have HRN := Lib.hid hRn
        have hq : (t.toList == s.toList) = false := by
          rw [Lib.toList_data, Lib.toList_data, beq_eq_false_iff_ne]
          intro e
          exact hts (ht.symm.trans e)
        clear hg hRn ht hts
        go_wp2_with fail
        go_quiet (fail)
        go_wp2
        exact bodyPost_ret (v := .tuple #[.slice none 0 0, .int .i64 0, errV (E 0)]) (by simp [results, Tryd.results10, go_sem, errV]) rfl ⟨below_drewN hw3 _, by rw [HRN.out]⟩
end Go.Proofs.YtncedhhgclofbaaDoor
/- layercakelaw3.blink: a moving picture of one pixel, written and read. How long a moving picture is at most. -/
namespace Go.Proofs.YtncedhhgclofbaaDoor
open Go Go.RowKit

namespace Gif
theorem frame_len (f : Fr) (hc : colOK f.ps = true) : 19 ≤ (frame f).length ∧ (frame f).length ≤ 800 + 6 * f.ps.length := by
  have hul : (Col.unl (clean f.ps)).1.length ≤ 256 := by
    unfold colOK at hc
    rw [Bool.and_eq_true, decide_eq_true_eq] at hc
    exact hc.2
  have hs := size_le _ hul
  have hnn := nums_length (clean f.ps)
  have hcll : (clean f.ps).length = f.ps.length := clean_length _
  have h2 : 2 ^ (size (Col.unl (clean f.ps)).1.length + 1) ≤ 256 := Nat.le_trans (Nat.pow_le_pow_right (show 0 < 2 by omega) (show _ ≤ 8 by omega)) (Nat.le_refl _)
  have hw : width (size (Col.unl (clean f.ps)).1.length) ≤ 8 := by unfold width; omega
  have hlz : (Lz.lzw (width (size (Col.unl (clean f.ps)).1.length)) (nums (Col.unl (clean f.ps)).2)).length ≤ 24 * f.ps.length + 21 := by
    unfold Lz.lzw
    rw [List.length_append, Bit.low_length]
    have h1 := Lz.enc_most (width (size (Col.unl (clean f.ps)).1.length)) (nums (Col.unl (clean f.ps)).2).length (nums (Col.unl (clean f.ps)).2) [] (width (size (Col.unl (clean f.ps)).1.length) + 1) (Nat.le_refl _) (by omega) (by omega)
    rw [hnn, hcll] at h1 ⊢
    omega
  have hbl := Blo.blocksF_length _ (Bit.pack (Lz.lzw (width (size (Col.unl (clean f.ps)).1.length)) (nums (Col.unl (clean f.ps)).2))) (Nat.le_refl _)
  have hpl := Bit.pack_length (Lz.lzw (width (size (Col.unl (clean f.ps)).1.length)) (nums (Col.unl (clean f.ps)).2))
  unfold frame front Blo.blocks
  simp only [List.length_append, List.length_cons, List.length_nil, pair, table_length]
  omega
theorem frames_len : ∀ fs : List Fr, (∀ f ∈ fs, colOK f.ps = true) → (fs.flatMap frame).length ≤ 800 * fs.length + 6 * (fs.map (·.ps.length)).sum
  | [], _ => by simp
  | f :: r, h => by
    have h1 := (frame_len f (h f (by simp))).2
    have h2 := frames_len r fun x hx => h x (by simp [hx])
    rw [List.flatMap_cons, List.length_append, List.length_cons, List.map_cons, List.sum_cons]
    omega
theorem gif_len (fs : List Fr) (n : Int) (s : List UInt8) (h : gif fs n = .inl s) : s.length ≤ 40 + 800 * 16 + 6 * (fs.map (·.ps.length)).sum ∧ 32 ≤ s.length ∧ (0 ≤ n ∧ n ≤ 65535) ∧ 1 ≤ fs.length := by
  cases hb : bad fs n with
  | true => rw [gif_bad fs n hb] at h; cases h
  | false =>
    cases fs with
    | nil => cases hb
    | cons f r =>
      obtain ⟨h16, h0, hl⟩ := bad_no2 hb
      rw [gif_ok f r n hb] at h
      obtain ⟨hs, he⟩ := body_ok f (f :: r) 0 _ s h
      have h1 := frames_len (f :: r) fun x hx => (err_no (he x hx)).2.2.2.2
      have h2 := (frame_len f (err_no (he f (by simp))).2.2.2.2).1
      have hh : 13 ≤ (head f (r.length + 1) n).length ∧ (head f (r.length + 1) n).length ≤ 32 := by
        unfold head pair
        split <;> simp
      have h3 : (frame f).length ≤ ((f :: r).flatMap frame).length := by rw [List.flatMap_cons, List.length_append]; omega
      rw [hs]
      rw [List.length_cons] at h1
      simp only [List.length_append, List.length_cons, List.length_nil]
      refine ⟨?_, by omega, ⟨h0, hl⟩, by omega⟩
      omega
end Gif
/-- The frame of blink. -/
def bf : Fr := ⟨1, 1, [⟨255, 0, 0, 255⟩], 3⟩
theorem bf_gif : ∃ s, Gif.gif [bf] (0 : Nat) = .inl s := by
  have h1 : Gif.bad [bf] (0 : Nat) = false := by decide
  have h2 : Gif.err bf bf = none := by decide
  have h3 := Gif.body_yes bf [bf] 0 (Gif.head bf 1 (0 : Nat)) (fun f hf => by rw [List.mem_singleton.1 hf]; exact h2)
  exact ⟨_, (gif_ok bf [] _ h1).trans h3⟩
theorem bf_clean : Gif.cleanFr bf = bf := rfl
set_option maxRecDepth 100000 in
set_option maxHeartbeats 2000000 in
theorem blink_any (E : Nat → Addr) (w : World) (hE : Er4 w E) :
    Calls Tryd.prog 6 #[] w fun e w' => e = .returned (.bool true) ∧ Below w.heap.size w w' := by
  obtain ⟨s0, hg0⟩ := bf_gif
  obtain ⟨l1, l2, -, -⟩ := Gif.gif_len [bf] _ s0 hg0
  have hsum : ([bf].map (·.ps.length)).sum = 1 := rfl
  rw [hsum] at l1
  have hrb := Gif.read_back [bf] 0 s0 hg0
  rw [if_neg (by decide), List.map_cons, List.map_nil, bf_clean] at hrb
  have HG0 := Lib.hid hg0
  have HRB := Lib.hid hrb
  clear hg0 hrb hsum
  go_enter Tryd.func6, Tryd.ntmps6
  go_wp2_with fail
  refine (blank_any 1 1 1 ⟨255, 0, 0, 255⟩ w (by omega) (by omega) rfl (by omega)).mono ?_
  rintro e w1 ⟨A1, c1, rfl, ho1, hb1⟩
  obtain ⟨m, hm⟩ : ∃ m : FM, m = ⟨bf, A1, 1, c1⟩ := ⟨_, rfl⟩
  have hB2 := Blk.new w1 37 #[.int .i64 1, .int .i64 1, .slice A1 1 c1, .int .i64 3] rfl
  have hb2 : Below w.heap.size w (w1.alloc (.cells #[.int .i64 1, .int .i64 1, .slice A1 1 c1, .int .i64 3] 37)) := hb1.alloc hb1.size _
  have hF2 : Frs (w1.alloc (.cells #[.int .i64 1, .int .i64 1, .slice A1 1 c1, .int .i64 3] 37)) (w1.alloc (.cells #[.int .i64 1, .int .i64 1, .slice A1 1 c1, .int .i64 3] 37)).heap.size (some ⟨w1.heap.size, 0, none⟩) 1 [m] := by
    refine ⟨⟨rfl, fun _ => ⟨w1.heap.size, 0, rfl, by simp, fun j u hu => ?_⟩⟩, fun x hx => ?_⟩
    · rw [Nat.zero_add, hB2.cell]
      rw [frCells_single, hm] at hu
      simpa [frCs, bf] using hu
    · rw [List.mem_singleton.1 hx, hm]
      exact (ho1.alloc _).reads.2
  go_wp2_with fail
  generalize w1.alloc (.cells #[.int .i64 1, .int .i64 1, .slice A1 1 c1, .int .i64 3] 37) = w2 at *
  clear hB2 ho1
  have hE2 := hE.below hb2
  have hmf : ([m] : List FM).map (·.f) = [bf] := by rw [hm]; rfl
  have HMF := Lib.hid hmf
  clear hmf hm
  refine (write_any (some ⟨w1.heap.size, 0, none⟩) 1 1 [m] (0 : Nat) E w2 hE2 hF2).mono ?_
  rintro e w3 ⟨hb3, he3⟩
  rw [HMF.out, HG0.out] at he3
  obtain ⟨t, rfl, ht⟩ := he3
  have htz : t.size = s0.length := by rw [← ht, lst_length]
  have ht1 : (30 : Int) ≤ t.size := by omega
  have ht2 : t.size ≤ 300000 := by omega
  have hw3 := hb2.trans (hb3.mono hb2.size)
  have hF3 := hF2.step hb3
  have HT := Lib.hid ht
  clear ht htz hF2
  go_wp2_with fail
  refine (gread_any t E w3 (hE.below hw3) ht2).mono ?_
  rintro e w4 ⟨hb4, he4⟩
  rw [HT.out, HRB.out] at he4
  obtain ⟨A4, c4, ms4, he, hms4, hF4⟩ := he4
  replace he : e = .returned (.tuple #[.slice A4 ms4.length c4, .int .i64 0, .nilIface]) := he
  subst he
  have hw4 := hw3.trans (hb4.mono hw3.size)
  have hF34 := hF3.step hb4
  have hl4 : ms4.length = 1 := by have := congrArg List.length hms4; simpa using this
  have HMS := Lib.hid hms4
  have HL4 := Lib.hid hl4
  clear hms4 hl4 hF3
  go_wp2_with fail
  refine (backFrames_any A4 ms4.length c4 ms4 w4 hF4 (by rw [HL4.out]; decide)).mono ?_
  rintro e w5 ⟨A5, c5, ms5, rfl, hms5, hfr5, hb5⟩
  have hF35 := hF34.step hb5
  have HMS5 := Lib.hid hms5
  clear hms5
  go_wp2_with fail
  refine (backFrames_any (some ⟨w1.heap.size, 0, none⟩) 1 1 [m] w5 hF35 (by decide)).mono ?_
  rintro e w6 ⟨A6, c6, ms6, rfl, hms6, hfr6, hb6⟩
  have hF56 := hfr5.frs.step hb6
  have HMS6 := Lib.hid hms6
  clear hms6
  have hw6 := (hw4.trans (hb5.mono hw4.size)).trans (hb6.mono (hw4.trans (hb5.mono hw4.size)).size)
  go_wp2_with fail
  have hl5 : ms5.length = 1 := by have := congrArg List.length (HMS5.out.trans HMS.out); simpa using this
  have hone : ∀ x ∈ ms5, x.n ≤ 1048576 := by
    intro x hx
    obtain ⟨y, rfl⟩ : ∃ y, ms5 = [y] := by
      match ms5, hl5 with
      | [y], _ => exact ⟨y, rfl⟩
    obtain rfl := List.mem_singleton.1 hx
    have h1 := (hF56.2 x (by simp)).pxLen
    have h2 : x.f = bf := by have := HMS5.out.trans HMS.out; simpa using this
    rw [h1, h2]
    decide
  have he56 : ms5.map (·.f) = ms6.map (·.f) := by rw [HMS5.out, HMS.out, HMS6.out, HMF.out]
  refine (sameFrames_any A5 A6 c5 c6 ms5 ms6 w6 hF56 hfr6.frs he56 hone (by rw [hl5]; decide)).mono ?_
  rintro e w7 ⟨rfl, hb7⟩
  clear hl5 hone he56
  go_wp2_with fail
  go_ret
  exact ⟨rfl, hw6.trans (hb7.mono hw6.size)⟩
end Go.Proofs.YtncedhhgclofbaaDoor
/- layercakelaw3.GifWrites: the walk. -/
namespace Go.Proofs.YtncedhhgclofbaaDoor
open Go Go.RowKit

theorem gif_inr (fs : List Fr) (n : Int) (f : Nat × Int) (h : Gif.gif fs n = .inr f) : f.1 + 1 ≤ 9 ∧ -1 ≤ f.2 := by
  have key : ∀ (a : Fr) (fs : List Fr) (i : Nat) (acc : List UInt8) (f : Nat × Int), Gif.body a fs i acc = .inr f → f.1 + 1 ≤ 9 ∧ -1 ≤ f.2 := by
    intro a fs
    induction fs with
    | nil => intro i acc f h; cases h
    | cons x r ih =>
      intro i acc f h
      rw [Gif.body] at h
      split at h
      · rename_i c hc
        cases h
        refine ⟨?_, by show (-1 : Int) ≤ (i : Int); omega⟩
        show c + 1 ≤ 9
        unfold Gif.err at hc
        split at hc
        · cases hc; decide
        · split at hc
          · cases hc; decide
          · split at hc
            · cases hc; decide
            · cases hc
      · exact ih _ _ _ h
  cases fs with
  | nil => cases h; decide
  | cons a r =>
    unfold Gif.gif at h
    simp only at h
    split at h
    · cases h; decide
    · exact key _ _ _ _ _ h
set_option maxRecDepth 100000 in
set_option maxHeartbeats 8000000 in
theorem gifWrites_any (A : Option Addr) (n c : Nat) (ms : List FM) (loops : Int) (E : Nat → Addr) (w : World) (hF : Frs w w.heap.size A n ms) (hB : ∀ m ∈ ms, m.n ≤ reachBytes) (hn : n ≤ 9223372036854775807) (hE : ErrsAt w E) :
    Calls Tryd.prog 4 #[.slice A n c, .int .i64 loops] w fun e w' => e = .returned (.bool true) ∧ Below w.heap.size w w' := by
  have hnl := hF.len
  have HNL := Lib.hid hnl
  clear hnl
  go_enter Tryd.func4, Tryd.ntmps4
  go_wp2_with fail
  refine (blink_any E w hE.er4).mono ?_
  rintro e w1 ⟨rfl, hw1⟩
  have hF1 := hF.step hw1
  have hE1 := hE.below hw1
  go_wp2_with fail
  refine (short_any A n c ms w1 hF1 hB hn).mono ?_
  rintro e w2 ⟨rfl, rfl⟩
  cases hsh : shortB ms with
  | false =>
    clear hsh
    go_wp2_with fail
    go_ret
    exact ⟨rfl, hw1⟩
  | true =>
    have hsb := of_decide_eq_true hsh
    obtain ⟨h20, h3000⟩ := hsb
    have hn20 : n ≤ 20 := by rw [HNL.out]; exact h20
    have hmn : ∀ m ∈ ms, m.n ≤ 1048576 := fun m hm => Nat.le_trans (sumN_mem hm) (Nat.le_trans h3000 (by decide))
    have HMN := Lib.hid hmn
    clear hsh h20 h3000 hmn
    go_wp2_with fail
    refine (framesOf_any A n c ms w1 hF1 hn20 HMN.out).mono ?_
    rintro e w3 ⟨A3, c3, ms3, rfl, hm3, hfr3, hb3⟩
    have hw3 := hw1.trans (hb3.mono hw1.size)
    have hF3 := hF1.step hb3
    have HM3 := Lib.hid hm3
    have hfs3 := hfr3.frs
    clear hm3
    go_wp2_with fail
    refine (write_any A3 ms3.length c3 ms3 loops E w3 (hE.below hw3).er4 hfs3).mono ?_
    rintro e w4 ⟨hb4, he4⟩
    have hw4 := hw3.trans (hb4.mono hw3.size)
    have hF4 := hF3.step hb4
    have hE4 := hE.below hw4
    rw [HM3.out] at he4
    cases hg : Gif.gif (ms.map (·.f)) loops with
    | inr f =>
      obtain ⟨fc, fa⟩ := f
      rw [hg] at he4
      obtain ⟨v, he, hv⟩ := he4
      have hfi := gif_inr _ _ _ hg
      have HFI := Lib.hid hfi
      have HG := Lib.hid hg
      obtain ⟨ty, u, rfl⟩ := errIs_iface hv
      subst he
      clear hfi hg
      go_wp2_with fail
      refine (gifOf_any A n c ms loops w4 hF4).mono ?_
      rintro e w5 ⟨hb5, he5⟩
      rw [HG.out] at he5
      replace he5 : e = .returned (.tuple #[.string ⟨#[]⟩, .agg #[.int .i64 (fc + 1 : Nat), .int .i64 fa]]) := he5
      subst he5
      have hv5 := hv.below hb5
      have hw5 := hw4.trans (hb5.mono hw4.size)
      have hB6 := Blk.new w5 43 #[.int .i64 (fc + 1 : Nat), .int .i64 fa] rfl
      have hbn : Below w5.heap.size w5 (w5.alloc (.cells #[.int .i64 (fc + 1 : Nat), .int .i64 fa] 43)) := (Below.refl _ _).alloc (Nat.le_refl _) _
      have hv6 := hv5.below hbn
      have hw6 := hw5.trans (hbn.mono hw5.size)
      obtain ⟨f1, hf1⟩ : ∃ f1 : Nat, f1 = fc + 1 := ⟨_, rfl⟩
      have hf1p : (0 : Int) < f1 := by omega
      have hf19 : f1 ≤ 9 := by have := HFI.out.1; rw [hf1]; exact this
      rw [← hf1] at hB6 hv6 hw6 ⊢
      have d0 : (w5.alloc (.cells #[.int .i64 f1, .int .i64 fa] 43)).cell? ⟨w5.heap.size, 0, none⟩ = some (.int .i64 f1) := by rw [hB6.cell]; rfl
      have d1 : (w5.alloc (.cells #[.int .i64 f1, .int .i64 fa] 43)).cell? ⟨w5.heap.size, 1, none⟩ = some (.int .i64 fa) := by rw [hB6.cell]; rfl
      have hE6 := hE.below hw6
      clear hf1 hbn hv5 hv
      go_wp2_with fail
      refine (faulted_any E _ f1 fa _ hE6 hv6 hf19 (.inr HFI.out.2)).mono ?_
      rintro e w7 ⟨rfl, hb7⟩
      go_wp2_with fail
      go_ret
      exact ⟨rfl, hw6.trans (hb7.mono hw6.size)⟩
    | inl s =>
      rw [hg] at he4
      obtain ⟨t, rfl, ht⟩ := he4
      have HG := Lib.hid hg
      have HT := Lib.hid ht
      clear hg ht
      go_wp2_with fail
      refine (gifOf_any A n c ms loops w4 hF4).mono ?_
      rintro e w5 ⟨hb5, he5⟩
      rw [HG.out] at he5
      obtain ⟨t2, rfl, ht2⟩ := he5
      have hw5 := hw4.trans (hb5.mono hw4.size)
      have hB6 := Blk.new w5 43 #[.int .i64 0, .int .i64 (-1)] rfl
      have hw6 := hw5.alloc hw5.size (.cells #[.int .i64 0, .int .i64 (-1)] 43)
      have d0 : (w5.alloc (.cells #[.int .i64 0, .int .i64 (-1)] 43)).cell? ⟨w5.heap.size, 0, none⟩ = some (.int .i64 0) := by rw [hB6.cell]; rfl
      have hq : (t.toList == t2.toList) = true := by rw [Lib.toList_data, Lib.toList_data, beq_iff_eq]; exact HT.out.trans ht2.symm
      clear ht2 hB6
      go_wp2_with fail
      go_ret
      exact ⟨rfl, hw6⟩
end Go.Proofs.YtncedhhgclofbaaDoor
