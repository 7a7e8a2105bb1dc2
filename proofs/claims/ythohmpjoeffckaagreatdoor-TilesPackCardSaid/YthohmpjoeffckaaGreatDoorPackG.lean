/- (tiles.Grid).Pack: the walk; a builder whose text is taken twice. Printed by mk.py. -/
import Derived.Test.YthohmpjoeffckaaGreatDoorBld
import Derived.Test.YthohmpjoeffckaaGreatDoorDeflate
import Derived.Test.YthohmpjoeffckaaGreatDoorTileMem
namespace Go.Proofs.YthohmpjoeffckaaGreatDoor
open Go Go.RowKit

/-- A builder whose text may be taken: its bytes may be frozen. -/
structure BdStr (B b : Nat) (l : List UInt8) (w : World) : Prop where
  ex : ∃ p g cap cur fr, w.heap[b]? = some (.cells #[p, .slice (some ⟨g, 0, none⟩) l.length cap] 57 (0, 0)) ∧ B ≤ g ∧ g ≠ b ∧ w.heap[g]? = some (.cells cur 5 fr) ∧ l.length ≤ cap ∧ cap ≤ maxLen ∧ cur.size = cap ∧ cur.toList.take l.length = bytes l
theorem IsBd.str {B b : Nat} {l : List UInt8} {w : World} (h : IsBd B b l w) (h0 : l ≠ []) : BdStr B b l w := by
  obtain ⟨p, hB, v, hbk, hown, hne⟩ : ∃ p, Lib.BuilderAt 57 5 B b p (bytes l) w := by
    rcases h with h | h
    · exact ⟨_, h⟩
    · exact ⟨_, h⟩
  have hl0 : l.length ≠ 0 := by simpa using h0
  rw [bytes_length] at hown
  rcases hown.2 with ⟨_, hz⟩ | ⟨g, cap, cur, rfl, hbg, hg, hnc, hcm, hcs, htake⟩
  · exact absurd hz hl0
  · refine ⟨p, g, cap, cur, (0, 0), hbk, hbg, ?_, hg, hnc, hcm, by omega, by simpa using htake⟩
    rintro rfl
    rw [hbk] at hg
    injection hg with hg
    injection hg with e1 e2 e3
    exact absurd e2 (by decide)
set_option maxHeartbeats 1000000 in
set_option maxRecDepth 100000 in
theorem bstr2_any (B b : Nat) (l : List UInt8) (w : World) (h : BdStr B b l w) (h0 : l ≠ []) :
    Calls Tryz.prog 24 #[.pointer (some ⟨b, 0, none⟩)] w fun e w' => e = .returned (.string ⟨l.toArray⟩) ∧ BdStr B b l w' ∧ Below B w w' := by
  obtain ⟨p, g, cap, cur, fr, hbk, hbg, hgb, hg, hnc, hcm, hcs, htake⟩ := h.ex
  have hl0 : l.length ≠ 0 := by simpa using h0
  have c1 : w.drew.cell? ⟨b, 1, none⟩ = some (.slice (some ⟨g, 0, none⟩) l.length cap) := by
    have : w.drew.heap[b]? = some (.cells #[p, .slice (some ⟨g, 0, none⟩) l.length cap] 57 (0, 0)) := hbk
    rw [Lib.cell_of_heap this]; rfl
  have hSD : (Builtin.unsafeSliceData_ #[40] 84 #[.slice (some ⟨g, 0, none⟩) l.length cap]).run Tryz.prog w.drew = .ok (.pointer (some ⟨g, 0, none⟩)) w.drew :=
    Lib.run_unsafeSliceData_row _ _ _ _ _ _ (by omega)
  have hUS : (Builtin.unsafeString_ #[84, 3] 9 #[.pointer (some ⟨g, 0, none⟩), .int .i64 l.length]).run Tryz.prog w.drew = .ok (.string ⟨l.toArray⟩) (w.drew.freeze ⟨g, 0, none⟩ l.length) := by
    refine Lib.run_unsafeString_row w.drew 84 3 9 5 Tryz.underlying84 byteCellsN g cur.size (by have hg' : w.drew.heap[g]? = some (.cells cur 5 fr) := hg; simp [World.shape?, hg']) l h0 (by omega) (by unfold maxLen at hcm; omega) ?_
    intro j x hx
    have hj : j < l.length := (List.getElem?_eq_some_iff.1 hx).1
    rw [add_lit, Nat.zero_add]
    have hg' : w.drew.heap[g]? = some (.cells cur 5 fr) := hg
    rw [Lib.cell_of_heap hg']
    have h1 : (cur.toList.take l.length)[j]? = some (.int .u8 x.toNat) := by rw [htake]; simp [bytes, hx]
    rw [List.getElem?_take_of_lt hj] at h1
    simpa using h1
  go_enter Tryz.func24, Tryz.ntmps24
  go_wp2
  go_region
  all_goals
    go_wp2
    go_ret
    refine ⟨rfl, ⟨p, g, cap, cur, if fr.1 == fr.2 then (0, l.length) else (min fr.1 0, max fr.2 l.length), ?_, hbg, hgb, ?_, hnc, hcm, hcs, htake⟩, Lib.below_freeze (Below.drew (Below.refl B w)) (p := ⟨g, 0, none⟩) hbg _⟩
    · unfold World.freeze
      rw [if_neg hl0]
      simp only [Array.getElem?_modify]
      rw [if_neg hgb]
      exact hbk
    · unfold World.freeze
      rw [if_neg hl0]
      simp only [Array.getElem?_modify]
      rw [if_pos trivial]
      have hg' : w.drew.heap[g]? = some (.cells cur 5 fr) := hg
      rw [hg']
      simp
theorem eq_false_iff_ (p : Prop) : (p = False) = ¬ p := by simp
theorem lst_of (l : List UInt8) : lst ⟨l.toArray⟩ = l := rfl
theorem packTile_length (l : List Px) (h : l.length ≤ 256) : (Pak.packTile l).length ≤ 1034 := by
  unfold Pak.packTile
  split
  · rename_i e
    rw [List.length_cons, Pak.pxBytes_length]
    omega
  · have h1 := Pak.pxBytes_length l
    have h2 := Pak.deflate_short (Pak.pxBytes l) (by omega)
    rw [List.length_cons, List.length_append, Pak.num_length]
    omega
/-- What is written before a tile. -/
def bodyTo (W H : Nat) (ls : List (List Px)) (k : Nat) : List UInt8 := Crc.num W ++ Crc.num H ++ (ls.take k).flatMap Pak.packTile
theorem bodyTo_succ (W H : Nat) (ls : List (List Px)) (k : Nat) (h : k < ls.length) : bodyTo W H ls (k + 1) = bodyTo W H ls k ++ Pak.packTile ls[k] := by
  unfold bodyTo
  rw [List.take_succ_eq_append_getElem h, List.flatMap_append, List.flatMap_cons, List.flatMap_nil, List.append_nil, ← List.append_assoc]
theorem bodyTo_all (W H : Nat) (ls : List (List Px)) : bodyTo W H ls ls.length = Pak.body W H ls := by unfold bodyTo Pak.body; rw [List.take_length]
theorem bodyTo_length (W H : Nat) (ls : List (List Px)) (hl : ∀ l ∈ ls, l.length ≤ 256) : ∀ k, (bodyTo W H ls k).length ≤ 8 + 1034 * k
  | 0 => by unfold bodyTo; simp [Pak.num_length]
  | k + 1 => by
    have ih := bodyTo_length W H ls hl k
    by_cases h : k < ls.length
    · rw [bodyTo_succ W H ls k h, List.length_append]
      have := packTile_length _ (hl _ (List.getElem_mem h))
      omega
    · have : bodyTo W H ls (k + 1) = bodyTo W H ls k := by unfold bodyTo; rw [List.take_of_length_le (by omega), List.take_of_length_le (by omega)]
      rw [this]
      omega
/-- What Pack's loop keeps. -/
structure PkR (w : World) (g : Nat) (l : List UInt8) (wr : World) : Prop where
  b : IsBd w.heap.size g l wr
  bel : Below w.heap.size w wr
set_option maxHeartbeats 4000000 in
set_option maxRecDepth 100000 in
theorem pack_any (gb W H : Nat) (ts : List TM) (E : Nat → Addr) (w : World) (hg : Gd w gb W H ts) (hE : ErS w E) (hT : Tabs w) (hW : W ≤ 256) (hH : H ≤ 256) (hn : ts.length ≤ 256) (hl : ∀ t ∈ ts, t.l.length ≤ 256) (hG : 15 ≤ w.heap.size) :
    Calls Tryz.prog 9 #[.pointer (some ⟨gb, 0, none⟩)] w fun e w' => e = .returned (.string ⟨(Pak.pack W H (ts.map (·.l))).toArray⟩) ∧ Below w.heap.size w w' := by
  obtain ⟨A, c, hbG, hrd⟩ := hg.ex
  obtain ⟨ls, hls⟩ : ∃ ls, ls = ts.map (·.l) := ⟨_, rfl⟩
  have hlb := bodyTo_length W H ls (fun l h => by rw [hls] at h; obtain ⟨t, ht, rfl⟩ := List.mem_map.1 h; exact hl t ht)
  have hlen : ls.length = ts.length := by rw [hls, List.length_map]
  obtain ⟨Z, hZ⟩ : ∃ Z, Z = Pak.pack W H ls := ⟨_, rfl⟩
  rw [← hls, ← hZ]
  have HLS := Lib.hid hls
  have HZ := Lib.hid hZ
  have HLB := Lib.hid hlb
  have HLEN := Lib.hid hlen
  have HGD := Lib.hid hg
  have HE := Lib.hid hE
  have HT := Lib.hid hT
  have HL := Lib.hid hl
  have HRD := Lib.hid hrd
  have hbg := hbG.lt
  have c0 : w.cell? ⟨gb, 0, none⟩ = some (.int .i64 W) := (hbG.cell 0).trans rfl
  have c1 : w.cell? ⟨gb, 1, none⟩ = some (.int .i64 H) := (hbG.cell 1).trans rfl
  have c2 : w.cell? ⟨gb, 2, none⟩ = some (.slice A ts.length c) := (hbG.cell 2).trans rfl
  have wW : IntKind.u32.wrap (W : Int) = (W : Nat) := IntWalk.u32_in _ (by omega)
  have wH : IntKind.u32.wrap (H : Int) = (H : Nat) := IntWalk.u32_in _ (by omega)
  obtain ⟨g, hgd⟩ : ∃ g, g = w.heap.size := ⟨_, rfl⟩
  have hI0 : IsBd w.heap.size g [] (w.alloc (.cells #[.pointer none, .slice none 0 0] 57)) := by
    rw [hgd]
    exact Lib.fresh_isBuilder _ _ w
  have hw2 : Below w.heap.size w (w.alloc (.cells #[.pointer none, .slice none 0 0] 57)) := (Below.refl _ _).alloc (Nat.le_refl _) _
  clear hls hZ hlb hlen hg hE hT hl hrd hbG
  go_enter Tryz.func9, Tryz.ntmps9
  go_upto_region 4 with (fail)
  rw [← hgd]
  replace c0 := bcell_ hw2 hbg c0
  replace c1 := bcell_ hw2 hbg c1
  replace c2 := bcell_ hw2 hbg c2
  have hz2 := hw2.size
  generalize w.alloc (.cells #[.pointer none, .slice none 0 0] 57) = w2 at *
  have HIB := Lib.hid (show ∀ wB, Below w2.heap.size w2 wB → IsBd w.heap.size g [] wB from fun wB hb => isBd_below hI0 hb)
  have HGD2 := Lib.hid hgd
  clear hgd hI0
  refine wp_region_held_drew (S := (fun w' => w'.cell? ⟨gb, 0, none⟩ = some (.int .i64 W) ∧ w'.cell? ⟨gb, 1, none⟩ = some (.int .i64 H))) (by kernel_rfl) ?_ (fun hHeld => ?_)
  · exact ⟨c0, c1⟩
  refine opT 0 rfl ?_; refine opT 1 rfl ?_; refine opT 2 rfl ?_; refine opT 3 rfl ?_; refine opT 4 rfl ?_; refine opT 6 rfl ?_; refine opT 7 rfl ?_; refine opT 8 rfl ?_; refine opT 9 rfl ?_; refine opT 10 rfl ?_
  refine opD 5 rfl (fun K hK => ?_)
  go_simp
  (go_at_call 21; refine (number_any W _ (by omega)).mono ?_; rintro e wA ⟨tA, rfl, htA, hbA⟩)
  refine hK.out _ _ ?_ (fun hHeld => ?_)
  · exact ⟨bcell_ hbA (by show gb < w2.heap.size; omega) c0, bcell_ hbA (by show gb < w2.heap.size; omega) c1⟩
  clear hK K
  (try simp only [Act.put, nz1, nz2, nz3, nz4, nz5, nz6])
  refine opD 11 rfl (fun K hK => ?_)
  go_simp
  (go_at_call 21; refine (number_any H _ (by omega)).mono ?_; rintro e wB ⟨tB, rfl, htB, hbB⟩; have hzA : w2.heap.size ≤ wA.heap.size := hbA.size; have hbAB := Below.trans (Below.fromDrew hbA) (hbB.mono (by omega)); have hIB := HIB.out wB hbAB; have szA : tA.size = 4 := (by rw [← lst_length, htA]; rfl); have szB : tB.size = 4 := (by rw [← lst_length, htB]; rfl); have hcc : (9223372036854775807 < tA.size + tB.size) = False := (by rw [szA, szB]; decide))
  refine hK.out _ _ ?_ (fun hHeld => ?_)
  · exact ⟨bcell_ hbB (by have := hbA.size; have : w2.drew.heap.size = w2.heap.size := rfl; show gb < wA.heap.size; omega) hHeld.1, bcell_ hbB (by have := hbA.size; have : w2.drew.heap.size = w2.heap.size := rfl; show gb < wA.heap.size; omega) hHeld.2⟩
  clear hK K
  (try simp only [Act.put, nz1, nz2, nz3, nz4, nz5, nz6])
  refine opT 12 rfl ?_
  refine opD 13 rfl (fun K hK => ?_)
  go_simp
  (go_at_call 20; refine (writeString_any w.heap.size g [] _ _ hIB (by rw [List.length_nil, ← lst_length, lst_append, htA, htB, List.length_append, Pak.num_length, Pak.num_length]; decide) (by have := hbAB.size; omega)).mono ?_; obtain ⟨zz, hzz⟩ : ∃ zz : Nat, zz = (tA ++ tB).size := ⟨_, rfl⟩; rw [← hzz]; clear hzz; rintro e w3 ⟨rfl, hI3, hb3⟩)
  refine hK.out _ _ ?_ (fun hHeld => ?_)
  · exact ⟨bcell_ hb3 hbg hHeld.1, bcell_ hb3 hbg hHeld.2⟩
  clear hK K
  (try simp only [Act.put, nz1, nz2, nz3, nz4, nz5, nz6])
  refine wpAnyH_done (by kernel_rfl) ?_ _
  have hl0 : [] ++ lst (tA ++ tB) = bodyTo W H ls 0 := by
    rw [List.nil_append, lst_append, htA, htB]
    unfold bodyTo
    simp
  rw [hl0] at hI3
  have P3 : PkR w g (bodyTo W H ls 0) w3 := ⟨hI3, (hw2.trans (hbAB.mono hz2)).trans hb3⟩
  have HP3 := Lib.hid P3
  replace c2 : w3.cell? ⟨gb, 2, none⟩ = some (.slice A ts.length c) := bcell_ hb3 hbg (bcell_ hbAB (by show gb < w2.heap.size; omega) c2)
  clear hl0 hI3 hb3 P3 hHeld c0 c1 hbAB hbA hbB hIB szA szB hcc htA htB hw2 hzA
  go_wp2_with fail
  go_loopw [29] (fun i wr => ∃ k : Nat, k ≤ ts.length ∧ i = .int .i64 k ∧ PkR w g (bodyTo W H ls k) wr) (fun i _ => ts.length - (intOf i).toNat)
  case atStart => exact ⟨0, Nat.zero_le _, rfl, HP3.out⟩
  case round =>
    clear HP3 c2
    obtain ⟨k, hk, rfl, hP⟩ := hrel
    have hB := hP.bel
    have HP := Lib.hid hP
    by_cases hlt : k < ts.length
    · obtain ⟨gA, oA, rfl, _⟩ := HRD.out.addr (by omega)
      have ht0 := ((HRD.out.below hB (Nat.le_refl _)).cell rfl k (by omega))
      have htm : (tmCells ts)[k]? = some (tmPtr ts[k]) := by simp [tmCells, hlt]
      rw [htm] at ht0
      obtain ⟨m, hm⟩ : ∃ m, m = ts[k] := ⟨_, rfl⟩
      rw [← hm] at ht0
      have hmm : m ∈ ts := by rw [hm]; exact List.getElem_mem hlt
      have HTI := Lib.hid ((HGD.out.ti m hmm).step hB)
      have hm3 : w3.cell? ⟨m.b, 0, none⟩ = none ∨ True := .inr trivial
      have s2 : wr.cell? ⟨m.b, 2, none⟩ = some (.slice m.A m.n m.c) := (HTI.out.blk.cell 2).trans rfl
      have hml := HL.out m hmm
      have hpl := HTI.out.px.pxLen
      have hlk : k < ls.length := by rw [HLEN.out]; exact hlt
      have hsucc := bodyTo_succ W H ls k hlk
      have hlk2 : ls[k] = m.l := by simp only [HLS.out, List.getElem_map, hm]
      rw [hlk2] at hsucc
      have HS := Lib.hid hsucc
      have HPL := Lib.hid hpl
      have HML := Lib.hid hml
      unfold tmPtr at ht0
      clear hm htm hmm hB hsucc hlk2 hlk hm3 hpl hml
      have HBL := Lib.hid (HLB.out k)
      have hz := HP.out.bel.size
      by_cases h1 : m.n = 1
      · have hl1 : m.l.length = 1 := by have := HPL.out; omega
        have hpx : Reads wr wr.heap.size 4 m.A 1 (pxCells m.l) := by rw [← h1]; exact HTI.out.px
        rw [h1] at s2
        have HH1 := Lib.hid hl1
        clear h1 hl1
        go_wp2_with fail
        refine (bytesOf_any m.A 1 m.c m.l wr hpx (by omega)).mono ?_
        rintro e w4 ⟨rfl, hb4⟩
        have HI4 := Lib.hid (isBd_below HP.out.b hb4)
        have HW4 := Lib.hid (HP.out.bel.trans (hb4.mono hz))
        have hz4 := HW4.out.size
        obtain ⟨sb, hsb⟩ : ∃ sb : ByteArray, sb = ⟨(Pak.pxBytes m.l).toArray⟩ := ⟨_, rfl⟩
        have hsz : sb.size = 4 := by rw [hsb, ← lst_length, lst_of, Pak.pxBytes_length, HH1.out]
        have hsl : lst sb = Pak.pxBytes m.l := by rw [hsb]
        have hpt : lst ((⟨#[0]⟩ : ByteArray) ++ sb) = Pak.packTile m.l := by
          rw [lst_append, hsl]
          unfold Pak.packTile
          rw [if_pos HH1.out]
          rfl
        rw [← hsb]
        have hcc : (9223372036854775807 < 1 + sb.size) = False := by rw [hsz]; decide
        have hc2 : (9223372036854775807 < (⟨#[0]⟩ : ByteArray).size + sb.size) = False := hcc
        have HPT := Lib.hid hpt
        clear hsb hsl hpt hb4 hpx
        go_wp2_with fail
        refine (writeString_any w.heap.size g (bodyTo W H ls k) _ _ HI4.out (by have := HBL.out; rw [← lst_length, HPT.out]; have := packTile_length m.l (by rw [HH1.out]; decide); omega) hz4).mono ?_
        rintro e w5 ⟨rfl, hI5, hb5⟩
        rw [HPT.out, ← HS.out] at hI5
        have HP5 := Lib.hid (show PkR w g (bodyTo W H ls (k + 1)) w5 from ⟨hI5, HW4.out.trans hb5⟩)
        clear hI5 hb5 hcc hc2
        go_wp2_with fail
        go_roundw
        case rel => exact ⟨k + 1, hlt, by go_num, HP5.out⟩
        case measure => simp [intOf]; omega
      · have h1i : ((m.n : Int) == 1) = false := by rw [beq_eq_false_iff_ne]; omega
        have hmn : m.n ≤ 256 := by have := HPL.out; have := HML.out; omega
        have HN1 := Lib.hid h1
        clear h1
        go_wp2_with fail
        refine (bytesOf_any m.A m.n m.c m.l wr HTI.out.px (by omega)).mono ?_
        rintro e w4 ⟨rfl, hb4⟩
        have HI4 := Lib.hid (isBd_below HP.out.b hb4)
        have HW4 := Lib.hid (HP.out.bel.trans (hb4.mono hz))
        have hz4 := HW4.out.size
        obtain ⟨sb, hsb⟩ : ∃ sb : ByteArray, sb = ⟨(Pak.pxBytes m.l).toArray⟩ := ⟨_, rfl⟩
        have hsz : sb.size ≤ 1024 := by rw [hsb, ← lst_length, lst_of, Pak.pxBytes_length]; have := HML.out; omega
        have hsl : lst sb = Pak.pxBytes m.l := by rw [hsb]
        rw [← hsb]
        have HSL := Lib.hid hsl
        clear hsb hb4 hsl
        go_wp2_with fail
        refine (deflate_any sb E w4 (HE.out.below HW4.out) (HT.out.below HW4.out hG) (by omega)).mono ?_
        rintro e w5 ⟨rfl, hb5⟩
        have HI5 := Lib.hid (isBd_below HI4.out hb5)
        have HW5 := Lib.hid (HW4.out.trans (hb5.mono hz4))
        have hz5 := HW5.out.size
        obtain ⟨sd, hsd⟩ : ∃ sd : ByteArray, sd = ⟨(Inf.deflate (lst sb)).toArray⟩ := ⟨_, rfl⟩
        have hdl : lst sd = Inf.deflate (Pak.pxBytes m.l) := by rw [hsd, lst_of, HSL.out]
        have hds : sd.size ≤ 1029 := by
          have h1 := Pak.deflate_short (Pak.pxBytes m.l) (by rw [← HSL.out, lst_length]; omega)
          rw [← hdl, lst_length, ← HSL.out, lst_length] at h1
          omega
        rw [← hsd]
        have HDL := Lib.hid hdl
        have hwd : IntKind.u32.wrap (sd.size : Int) = (sd.size : Nat) := IntWalk.u32_in _ (by omega)
        clear hsd hb5 hdl
        go_wp2_with fail
        refine (number_any sd.size _ (by omega)).mono ?_
        rintro e w6 ⟨tn, rfl, htn, hb6⟩
        have HI6 := Lib.hid (isBd_below HI5.out hb6)
        have HW6 := Lib.hid (HW5.out.trans (hb6.mono hz5))
        have hz6 := HW6.out.size
        have htz : tn.size = 4 := by rw [← lst_length, htn]; rfl
        have hpt : lst ((⟨#[1]⟩ : ByteArray) ++ tn ++ sd) = Pak.packTile m.l := by
          rw [lst_append, lst_append, htn, HDL.out]
          unfold Pak.packTile
          rw [if_neg (by have := HPL.out; have := HN1.out; omega), ← lst_length, HDL.out]
          rfl
        have hcc : (9223372036854775807 < 1 + tn.size) = False := by rw [htz]; decide
        have hc2 : (9223372036854775807 < (⟨#[1]⟩ : ByteArray).size + tn.size) = False := hcc
        have hc3 : (9223372036854775807 < (⟨#[1]⟩ ++ tn : ByteArray).size + sd.size) = False := by
          rw [ByteArray.size_append, htz, eq_false_iff_]
          show ¬ (9223372036854775807 < 1 + 4 + sd.size)
          omega
        have hc4 : (9223372036854775807 < 1 + tn.size + sd.size) = False := by rw [htz, eq_false_iff_]; omega
        have HPT := Lib.hid hpt
        clear hpt hb6 htn
        go_wp2_with fail
        refine (writeString_any w.heap.size g (bodyTo W H ls k) _ _ HI6.out (by have := HBL.out; rw [← lst_length, HPT.out]; have := packTile_length m.l HML.out; omega) hz6).mono ?_
        rintro e w7 ⟨rfl, hI7, hb7⟩
        rw [HPT.out, ← HS.out] at hI7
        have HP7 := Lib.hid (show PkR w g (bodyTo W H ls (k + 1)) w7 from ⟨hI7, HW6.out.trans hb7⟩)
        clear hI7 hb7 hcc hc2 hc3 hc4
        go_wp2_with fail
        go_roundw
        case rel => exact ⟨k + 1, hlt, by go_num, HP7.out⟩
        case measure => simp [intOf]; omega
    · have hkn : k = ls.length := by have := HLEN.out; omega
      have hI := HP.out.b
      rw [hkn, bodyTo_all] at hI
      have hne : Pak.body W H ls ≠ [] := by
        intro e
        have := congrArg List.length e
        unfold Pak.body at this
        rw [List.length_append, List.length_append, Pak.num_length, Pak.num_length] at this
        simp at this
      have hbl : (Pak.body W H ls).length ≤ 300000 := by
        have := HLB.out ls.length
        have := HLEN.out
        rw [bodyTo_all] at *
        omega
      have HST := Lib.hid (hI.str hne)
      have HW := Lib.hid HP.out.bel
      have hz := HW.out.size
      obtain ⟨BD, hBD⟩ : ∃ BD, BD = Pak.body W H ls := ⟨_, rfl⟩
      rw [← hBD] at HST hne hbl
      have HBD := Lib.hid hBD
      clear hkn hI hB HP hP hBD
      go_wp2_with fail
      refine (bstr2_any w.heap.size g BD wr HST.out hne).mono ?_
      rintro e w4 ⟨rfl, hS4, hb4⟩
      obtain ⟨sb, hsb⟩ : ∃ sb : ByteArray, sb = ⟨BD.toArray⟩ := ⟨_, rfl⟩
      have hsz : sb.size = BD.length := by rw [hsb, ← lst_length]
      have hsl : lst sb = BD := by rw [hsb]
      rw [← hsb]
      have HSB := Lib.hid hsb
      have HW4 := Lib.hid (HW.out.trans hb4)
      have hz4 := HW4.out.size
      clear hsb hb4 HST
      go_wp2_with fail
      refine (bstr2_any w.heap.size g BD w4 hS4 hne).mono ?_
      rintro e w5 ⟨rfl, -, hb5⟩
      rw [← HSB.out]
      have HW5 := Lib.hid (HW4.out.trans hb5)
      have hz5 := HW5.out.size
      clear hb5 hS4
      go_wp2_with fail
      refine (crc_any sb w5 (by omega)).mono ?_
      rintro e w6 ⟨rfl, hb6⟩
      have HW6 := Lib.hid (HW5.out.trans (hb6.mono hz5))
      have hz6 := HW6.out.size
      have hcl := Crc.crc_lt BD
      clear hb6
      go_wp2_with fail
      refine (number_any (Crc.crc BD) _ hcl).mono ?_
      rintro e w7 ⟨tn, rfl, htn, hb7⟩
      have HW7 := Lib.hid (HW6.out.trans (hb7.mono hz6))
      have htz : tn.size = 4 := by rw [← lst_length, htn]; rfl
      have hcc : (9223372036854775807 < sb.size + tn.size) = False := by rw [htz, eq_false_iff_]; omega
      have hres : sb ++ tn = ⟨Z.toArray⟩ := by
        apply lst_inj
        have hsl2 : lst sb = BD := hsl
        rw [lst_append, htn, hsl2, lst_of, HZ.out, HBD.out]
        rfl
      have HRES := Lib.hid hres
      clear hb7 htn hres hcl
      go_wp2_with fail
      go_ret
      refine ⟨?_, HW7.out⟩
      rw [HRES.out]
      rfl
end Go.Proofs.YthohmpjoeffckaaGreatDoor
