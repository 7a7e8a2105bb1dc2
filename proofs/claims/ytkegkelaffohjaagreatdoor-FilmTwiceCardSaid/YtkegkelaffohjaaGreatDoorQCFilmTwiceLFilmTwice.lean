/- layercakelaw3.reel, FilmTwice: the walks: what is written is read. Printed by mk.py. -/
import Derived.Test.YtkegkelaffohjaaGreatDoorQCFilmTwiceFilmRead
import Derived.Test.YtkegkelaffohjaaGreatDoorQCFilmTwiceFilmWrite
namespace Go.Proofs.YtkegkelaffohjaaGreatDoor
open Go Go.RowKit
theorem Film.film_long (W H lp : Nat) (fs : List Film.F) : 60 ≤ (Film.film W H lp fs).length := by
 have c1 : (Chk.chunkB (Film.kIHDR, Crc.num W ++ (Crc.num H ++ [8, 6, 0, 0, 0]))).length = 25 := by rw [Chk.chunkB_length _ (by decide : Chk.isKind Film.kIHDR = true)]; rfl
 have c2 : (Chk.chunkB (Film.kacTL, Crc.num fs.length ++ Crc.num lp)).length = 20 := by rw [Chk.chunkB_length _ (by decide : Chk.isKind Film.kacTL = true)]; rfl
 have c3 : (Chk.chunkB (Film.kIEND, [])).length = 12 := by rw [Chk.chunkB_length _ (by decide : Chk.isKind Film.kIEND = true)]; rfl
 unfold Film.film Chk.file Film.filmC Film.headC
 rw [List.length_append, List.flatMap_append, List.length_append, List.flatMap_append, List.length_append]
 have e1 : (List.flatMap Chk.chunkB [(Film.kIHDR, Crc.num W ++ (Crc.num H ++ [8, 6, 0, 0, 0])), (Film.kacTL, Crc.num fs.length ++ Crc.num lp)]).length = 45 := by
  rw [List.flatMap_cons, List.flatMap_singleton, List.length_append, c1, c2]
 have e2 : (List.flatMap Chk.chunkB [(Film.kIEND, [])]).length = 12 := by rw [List.flatMap_singleton, c3]
 rw [e1, e2]
 have e3 : Chk.sig.length = 8 := rfl
 omega
def rf : Fr := ⟨1, 1, [⟨255, 0, 0, 7⟩], 3⟩
theorem rf_film : ∃ s W H lp, Film.write [rf] (5 : Nat) = .inl s ∧ Film.Wrote [rf] (5 : Nat) s W H lp ∧ 60 ≤ s.length := by
 have h1 : Gif.bad [rf] (5 : Nat) = false := by decide
 have h2 : Gif.err0 rf rf = none := by decide
 have h3 : ∃ s, Film.write [rf] (5 : Nat) = .inl s := by
  unfold Film.write
  simp only
  rw [if_neg (by rw [h1]; simp)]
  unfold Film.faultAt
  rw [h2]
  exact ⟨_, rfl⟩
 obtain ⟨s, h3⟩ := h3
 obtain ⟨W, H, lp, h4⟩ := Film.write_ok h3
 exact ⟨s, W, H, lp, h3, h4, by rw [h4.s]; exact Film.film_long _ _ _ _⟩
set_option maxRecDepth 100000 in
set_option maxHeartbeats 4000000 in
theorem reel_any (E : Nat → Addr) (w : World) (hE : Er4 w E) (hTb : Tabs w) :
  Calls Tryz.prog 6 #[] w fun e w' => e = .returned (.bool true) ∧ Below w.heap.size w w' := by
 obtain ⟨s0, W0, H0, lp0, hg0, hwr, l2⟩ := rf_film
 have hlp : lp0 = 5 := by have := hwr.loops; omega
 subst hlp
 obtain ⟨l1, hrb⟩ := hwr.read (by decide)
 have hback := hwr.back
 have HG0 := Lib.hid hg0
 have HRB := Lib.hid hrb
 have HBK := Lib.hid hback
 clear hg0 hrb hback hwr
 go_enter Tryz.func6, Tryz.ntmps6
 go_wp2_with fail
 refine (blank_any 1 1 1 ⟨255, 0, 0, 7⟩ w (by omega) (by omega) rfl (by omega)).mono ?_
 rintro e w1 ⟨A1, c1, rfl, ho1, hb1⟩
 obtain ⟨m, hm⟩ : ∃ m : FM, m = ⟨rf, A1, 1, c1⟩ := ⟨_, rfl⟩
 have hB2 := Blk.new w1 54 #[.int .i64 1, .int .i64 1, .slice A1 1 c1, .int .i64 3] rfl
 have hb2 : Below w.heap.size w (w1.alloc (.cells #[.int .i64 1, .int .i64 1, .slice A1 1 c1, .int .i64 3] 54)) := hb1.alloc hb1.size _
 have hF2 : Frs (w1.alloc (.cells #[.int .i64 1, .int .i64 1, .slice A1 1 c1, .int .i64 3] 54)) (w1.alloc (.cells #[.int .i64 1, .int .i64 1, .slice A1 1 c1, .int .i64 3] 54)).heap.size (some ⟨w1.heap.size, 0, none⟩) 1 [m] := by
  refine ⟨⟨rfl, fun _ => ⟨w1.heap.size, 0, rfl, by simp, fun j u hu => ?_⟩⟩, fun x hx => ?_⟩
  ·rw [Nat.zero_add, hB2.cell]
   rw [frCells_single, hm] at hu
   simpa [frCs, rf] using hu
  ·rw [List.mem_singleton.1 hx, hm]
   exact (ho1.alloc _).reads.2
 go_wp2_with fail
 generalize w1.alloc (.cells #[.int .i64 1, .int .i64 1, .slice A1 1 c1, .int .i64 3] 54) = w2 at *
 clear hB2 ho1
 have hmf : ([m] : List FM).map (·.f) = [rf] := by rw [hm]; rfl
 have hmn : sumN [m] ≤ 3000 := by rw [hm]; show ([1] : List Nat).sum ≤ 3000; decide
 have HMF := Lib.hid hmf
 clear hmf hm
 refine (fwrite_any (some ⟨w1.heap.size, 0, none⟩) 1 1 [m] (5 : Nat) E w2 (hE.below hb2) (hTb.below hb2 hTb.size) hF2 hmn).mono ?_
 rintro e w3 ⟨hb3, he3⟩
 rw [HMF.out, HG0.out] at he3
 obtain ⟨t, rfl, ht⟩ := he3
 have htz : t.size = s0.length := by rw [← ht, lst_length]
 have ht1 : (60 : Int) ≤ t.size := by omega
 have ht2 : t.size ≤ 1099511627776 := by omega
 have hw3 := hb2.trans (hb3.mono hb2.size)
 have hF3 := hF2.step hb3
 have HT := Lib.hid ht
 clear ht htz hF2 hmn
 go_wp2_with fail
 refine (fread_any t E w3 (hE.below hw3) (hTb.below hw3 hTb.size) ht2).mono ?_
 rintro e w4 ⟨hb4, he4⟩
 rw [HT.out, HRB.out] at he4
 obtain ⟨A4, c4, ms4, he, hms4, hfr4⟩ := he4
 replace he : e = .returned (.tuple #[.slice A4 ms4.length c4, .int .i64 5, .nilIface]) := he
 subst he
 rw [HBK.out] at hms4
 have hF4 := hfr4.frs
 have hw4 := hw3.trans (hb4.mono hw3.size)
 have hF34 := hF3.step hb4
 have hl4 : ms4.length = 1 := by have := congrArg List.length hms4; simpa using this
 have HMS := Lib.hid hms4
 have HL4 := Lib.hid hl4
 clear hms4 hl4 hF3 hfr4
 go_wp2_with fail
 refine (backFrames_any A4 ms4.length c4 ms4 w4 hF4 (by rw [HL4.out]; decide)).mono ?_
 rintro e w5 ⟨A5, c5, ms5, rfl, hms5, hfr5, hb5⟩
 have hF35 := hF34.step hb5
 have HMS5 := Lib.hid hms5
 clear hms5
 go_wp2_with fail
 refine (backFrames_any (some ⟨w1.heap.size, 0, none⟩) 1 1 [m] w5 hF35 (by decide)).mono ?_
 rintro e w6 ⟨A6, c6, ms6, rfl, hms6, hfr6, hb6⟩
 have hF56 := hfr5.frs.step hb6
 have HMS6 := Lib.hid hms6
 clear hms6
 have hw6 := (hw4.trans (hb5.mono hw4.size)).trans (hb6.mono (hw4.trans (hb5.mono hw4.size)).size)
 go_wp2_with fail
 have hl5 : ms5.length = 1 := by have := congrArg List.length (HMS5.out.trans HMS.out); simpa using this
 have hone : ∀ x ∈ ms5, x.n ≤ 1048576 := by
  intro x hx
  obtain ⟨y, rfl⟩ : ∃ y, ms5 = [y] := by
   match ms5, hl5 with
   | [y], _ => exact ⟨y, rfl⟩
  obtain rfl := List.mem_singleton.1 hx
  have h1 := (hF56.2 x (by simp)).pxLen
  have h2 : x.f = rf := by have := HMS5.out.trans HMS.out; simpa using this
  rw [h1, h2]
  decide
 have he56 : ms5.map (·.f) = ms6.map (·.f) := by rw [HMS5.out, HMS.out, HMS6.out, HMF.out]
 refine (sameFrames_any A5 A6 c5 c6 ms5 ms6 w6 hF56 hfr6.frs he56 hone (by rw [hl5]; decide)).mono ?_
 rintro e w7 ⟨rfl, hb7⟩
 clear hl5 hone he56
 go_wp2_with fail
 go_ret
 exact ⟨rfl, hw6.trans (hb7.mono hw6.size)⟩
set_option maxRecDepth 100000 in
set_option maxHeartbeats 8000000 in
theorem filmTwice_any (A : Option Addr) (n c : Nat) (ms : List FM) (loops : Int) (E : Nat → Addr) (w : World) (hF : Frs w w.heap.size A n ms) (hB : ∀ m ∈ ms, m.n ≤ reachBytes) (hn : n ≤ 9223372036854775807) (hE : Er4 w E) (hTb : Tabs w) :
  Calls Tryz.prog 5 #[.slice A n c, .int .i64 loops] w fun e w' => e = .returned (.bool true) ∧ Below w.heap.size w w' := by
 have hnl := hF.len
 have HNL := Lib.hid hnl
 clear hnl
 go_enter Tryz.func5, Tryz.ntmps5
 go_wp2_with fail
 refine (reel_any E w hE hTb).mono ?_
 rintro e w1 ⟨rfl, hw1⟩
 have hF1 := hF.step hw1
 go_wp2_with fail
 refine (short_any A n c ms w1 hF1 hB hn).mono ?_
 rintro e w2 ⟨rfl, rfl⟩
 cases hsh : shortB ms with
 | false =>
  clear hsh
  go_wp2_with fail
  go_ret
  exact ⟨rfl, hw1⟩
 | true =>
  have hsb := of_decide_eq_true hsh
  obtain ⟨h20, h3000⟩ := hsb
  have hn20 : n ≤ 20 := by rw [HNL.out]; exact h20
  have hmn : ∀ m ∈ ms, m.n ≤ 3000 := fun m hm => Nat.le_trans (sumN_mem hm) h3000
  have HMN := Lib.hid hmn
  have H3 := Lib.hid h3000
  clear hsh h20 h3000 hmn
  go_wp2_with fail
  refine (framesOf_any A n c ms w1 hF1 hn20 (fun m hm => Nat.le_trans (HMN.out m hm) (by decide))).mono ?_
  rintro e w3 ⟨A3, c3, ms3, rfl, hm3, hfr3, hb3⟩
  have hw3 := hw1.trans (hb3.mono hw1.size)
  have hF3 := hF1.step hb3
  have HM3 := Lib.hid hm3
  have hfs3 := hfr3.frs
  have hsum3 : sumN ms3 ≤ 3000 := by
   have e1 : ms3.map (·.n) = (ms3.map (·.f)).map (·.ps.length) := by
    rw [List.map_map]
    exact List.map_congr_left fun m hm => (hfs3.2 m hm).pxLen
   have e2 : ms.map (·.n) = (ms.map (·.f)).map (·.ps.length) := by
    rw [List.map_map]
    exact List.map_congr_left fun m hm => (hF.2 m hm).pxLen
   have e3 := H3.out
   unfold sumN at e3 ⊢
   rw [e1, hm3, ← e2]
   exact e3
  clear hm3
  go_wp2_with fail
  refine (fwrite_any A3 ms3.length c3 ms3 loops E w3 (hE.below hw3) (hTb.below hw3 hTb.size) hfs3 hsum3).mono ?_
  rintro e w4 ⟨hb4, he4⟩
  have hw4 := hw3.trans (hb4.mono hw3.size)
  have hF4 := hF3.step hb4
  rw [HM3.out] at he4
  cases hg : Film.write (ms.map (·.f)) loops with
  | inr f =>
   rw [hg] at he4
   obtain ⟨v, rfl, hv⟩ := he4
   obtain ⟨ty, u, rfl⟩ := errIs_iface2 hv
   clear hg hv
   go_wp2_with fail
   go_ret
   exact ⟨rfl, hw4⟩
  | inl s =>
   rw [hg] at he4
   obtain ⟨t, rfl, ht⟩ := he4
   obtain ⟨W, H, lp, hwr⟩ := Film.write_ok hg
   have hlp := hwr.loops
   subst hlp
   have hsum : ((ms.map (·.f)).map (·.ps.length)).sum ≤ 3000 := by
    have e : (ms.map (·.f)).map (·.ps.length) = ms.map (·.n) := by
     rw [List.map_map]
     exact List.map_congr_left fun m hm => (hF.2 m hm).pxLen.symm
    rw [e]
    exact H3.out
   obtain ⟨l1, hrb⟩ := hwr.read hsum
   have htz : t.size ≤ 1099511627776 := by rw [← lst_length, ht]; omega
   rw [← ht] at hrb
   have HRB := Lib.hid hrb
   have HBK := Lib.hid hwr.back
   clear hrb ht hsum l1 hg hwr hsum3
   go_wp2_with fail
   refine (fread_any t E w4 (hE.below hw4) (hTb.below hw4 hTb.size) htz).mono ?_
   rintro e w5 ⟨hb5, he5⟩
   rw [HRB.out] at he5
   obtain ⟨A5, c5, ms5, he, hm5, hfr5⟩ := he5
   rw [HBK.out] at hm5
   have hw5 := hw4.trans (hb5.mono hw4.size)
   have hFx := hF4.step hb5
   replace he : e = .returned (.tuple #[.slice A5 ms5.length c5, .int .i64 lp, .nilIface]) := he
   subst he
   have hl5 : ms5.length = ms.length := by have := congrArg List.length hm5; rw [List.length_map, List.length_map] at this; exact this
   have HL5 := Lib.hid hl5
   have HM5 := Lib.hid hm5
   have hF5 := hfr5.frs
   have h205 : ms5.length ≤ 20 := by rw [hl5, ← HNL.out]; exact hn20
   clear hl5 hm5 hfr5 hF1 hF3 hF4 hfr3 hfs3 hb3 hb4 hb5 hw3 hw4 hw1 hB
   have hll : ((lp : Int) == (lp : Int)) = true := by simp
   go_wp2_with fail
   refine (backFrames_any A5 ms5.length c5 ms5 w5 hF5 h205).mono ?_
   rintro e w6 ⟨A6, c6, ms6, rfl, hms6, hfr6, hb6⟩
   have hF6 := hFx.step hb6
   have HMS6 := Lib.hid hms6
   have hw6 := hw5.trans (hb6.mono hw5.size)
   have he6 : ms6.map (·.f) = ms.map (·.f) := by rw [hms6, HM5.out]
   have hl6 : ms6.length = ms.length := by have := congrArg List.length he6; rw [List.length_map, List.length_map] at this; exact this
   have hone : ∀ x ∈ ms6, x.n ≤ 1048576 := by
    intro x hx
    have h1 := (hfr6.frs.2 x hx).pxLen
    have h2 : x.f ∈ ms.map (·.f) := by rw [← he6]; exact List.mem_map_of_mem hx
    obtain ⟨y, hy, hyx⟩ := List.mem_map.1 h2
    have h3 := (hFx.2 y hy).pxLen
    have h4 := HMN.out y hy
    rw [h1, ← hyx, ← h3]
    omega
   have hsf := sameFrames_any A6 A c6 c ms6 ms w6 hfr6.frs (by rw [← HNL.out]; exact hF6) he6 hone (by rw [hl6, ← HNL.out]; exact hn20)
   rw [← HNL.out] at hsf
   have HSF := Lib.hid hsf
   clear hms6 he6 hl6 hone hsf hF5 h205 hFx hF6
   go_wp2_with fail
   refine HSF.out.mono ?_
   rintro e w7 ⟨rfl, hb7⟩
   go_wp2_with fail
   go_ret
   exact ⟨rfl, hw6.trans (hb7.mono hw6.size)⟩
end Go.Proofs.YtkegkelaffohjaaGreatDoor
