/- colors.Reduce: more colors than may be: the walk. -/
import Derived.Test.YtlpcmeodbigpjaaDoorReduceA
import Derived.Test.YtlpcmeodbigpjaaDoorStable
import Derived.Test.YtlpcmeodbigpjaaDoorColBetter
namespace Go.Proofs.YtlpcmeodbigpjaaDoor
open Go Go.RowKit
open Stab Col

/-- What stands through the rounds that make a palette better. -/
def RdR (w w1 : World) (ps : List Px) (m : Nat) (T : List Px) (v f i : Value) (wr : World) : Prop :=
  ∃ (r : Nat) (o : List Px) (b off c : Nat), r ≤ 8 ∧ i = .int .i64 r ∧ v = .slice (some ⟨b, off, none⟩) m c ∧ f = .int .i64 (farSum ps o) ∧ o.length = m ∧ red ps (8 - r) o = T ∧ Own wr w1.heap.size 4 v m (pxCells o) ∧ Below w.heap.size w wr ∧ Below w1.heap.size w1 wr
set_option maxRecDepth 100000 in
set_option maxHeartbeats 2000000 in
theorem reduce_many (W H : Int) (A : Option Addr) (n c : Nat) (ps : List Px) (most : Int) (S : List (Px × Nat)) (m : Nat) (w : World) (hp : Reads w w.heap.size 4 A n (pxCells ps)) (hr : rightB W H n = true) (hm : sideB most = true) (hmm : most = m) (hmany : m < (Col.uses ps).length)
    (hS : Same useKey (Col.uses ps) S) (hT : Srt useKey S) :
    Calls Tryd.prog 6 #[.agg #[.int .i64 W, .int .i64 H, .slice A n c], .int .i64 most] w
      fun e w' => ∃ A1 c1, e = .returned (.tuple #[.slice A1 m c1, .nilIface]) ∧ Own w' w.heap.size 4 (.slice A1 m c1) m (pxCells (red ps 8 ((S.take m).map (·.1)))) ∧ Below w.heap.size w w' := by
  subst hmm
  have hm1 := sideB_true hm
  have hn := rightB_le hr
  have hpl := hp.pxLen
  have hub := Col.uses_take_bounds ps ps.length (Nat.le_refl _)
  rw [List.take_length] at hub
  obtain ⟨us, hus⟩ : ∃ us, us = Col.uses ps := ⟨_, rfl⟩
  rw [← hus] at hmany hS hub
  have HUS := Lib.hid hus
  have HS := Lib.hid hS
  have HT := Lib.hid hT
  have HUB := Lib.hid (show SmallU us from fun q hq => by have := hub.2 q hq; omega)
  have hul : us.length ≤ 65536 := by omega
  have HP := Lib.hid hp
  have HPL := Lib.hid hpl
  obtain ⟨T, hTT⟩ : ∃ T, T = red ps 8 ((S.take m).map (·.1)) := ⟨_, rfl⟩
  rw [← hTT]
  have HTT := Lib.hid hTT
  clear hus hS hT hub hpl hTT hp
  go_enter Tryd.func6, Tryd.ntmps6
  go_wp2_with fail
  refine (count_any W H A n c ps _ ((HP.out.alloc (Nat.le_refl _) _).more (by first | omega | (simp; done) | (simp; omega))) hr).mono ?_
  rw [← HUS.out]
  rintro e w1 ⟨A1, c1, rfl, ho1, hb1⟩
  have B1 := Lib.hid ((Blk.new w 24 #[.int .i64 W, .int .i64 H, .slice A n c] rfl).below hb1 (by first | omega | (simp; done) | (simp; omega)))
  have hbw := Lib.hid (show Below w.heap.size w w1 from Below.trans (by go_grown) (hb1.mono (by first | omega | (simp; done) | (simp; omega))))
  obtain ⟨g, off, rfl, hg1, hg2⟩ := ho1.addr (by omega)
  have hg3 : w.heap.size < g := by simp at hg1; omega
  have HSO := Lib.hid (show SoR (w.heap.size + 1) g off us.length c1 w1 us w1 from ⟨by have h := ho1; simp at h; exact h, rfl, Keeps.refl _ _⟩)
  clear ho1 hb1 hg1
  go_wp2_with fail
  refine (many_any (m : Int) _).mono ?_
  rintro e w2 ⟨rfl, rfl⟩
  rw [hm]
  have hno : ¬ us.length ≤ m := by omega
  have hno2 : ¬ (us.length : Int) ≤ (m : Int) := by omega
  go_wp2_with fail
  refine (sortStable_any (w.heap.size + 1) g off us.length c1 us w1 w1 HSO.out HUB.out (by omega)).mono ?_
  rintro e w2 ⟨rfl, l', hl', hs', ht'⟩
  obtain rfl : l' = S := uniq ht' HT.out (hs'.symm.trans HS.out)
  have hbK : Below (w.heap.size + 1) w1 w2 := hl'.keep.below (fun b e => by omega) (by have := B1.out.lt; omega)
  have B2 := Lib.hid (B1.out.below hbK (by omega))
  have hbw2 := Lib.hid (hbw.out.trans (hbK.mono (by omega)))
  have HR2 := Lib.hid hl'.own.reads.2
  have hll : l'.length = us.length := hl'.len
  have hcc : us.length ≤ c1 := by obtain ⟨_, _, e, h, _⟩ := hl'.own.form; injection e with _ _ e3; omega
  clear hl' hs' ht' hbK
  have z1 : (0 : Int) ≤ (m : Int) := by omega
  have z2 : (m : Int) ≤ (c1 : Int) := by omega
  go_wp2_with fail
  go_loopw [8, 53] (fun v i wr => ∃ k, TkR w2 l' v i wr k m) (fun _ i _ => m - (intOf i).toNat)
  case atStart => exact ⟨0, Nat.zero_le _, rfl, Own.nil _ _ _, Below.refl _ _⟩
  case round =>
    obtain ⟨k, hk, rfl, hown, hb⟩ := hrel
    obtain ⟨wo, rfl⟩ : ∃ wo : World, wo = wr := ⟨_, rfl⟩
    have hzb := hb.size
    by_cases hlt : k < m
    · have hkl : k < l'.length := by omega
      have hrk := HR2.out.below hb (Nat.le_refl _)
      have key : ∀ j, j < 5 → wo.cell? ⟨g, off + k * 5 + j, none⟩ = (useCs l'[k])[j]? := fun j hj => by
        rw [Nat.add_assoc, hrk.cell rfl (k * 5 + j) (by omega)]; exact flatCells_at useCs 5 (fun _ => rfl) l' k hkl j hj
      have q0 : wo.cell? ⟨g, off + k * 5, none⟩ = some (.int .u8 l'[k].1.r.toNat) := key 0 (by omega)
      have q1 : wo.cell? ⟨g, off + k * 5 + 1, none⟩ = some (.int .u8 l'[k].1.g.toNat) := key 1 (by omega)
      have q2 : wo.cell? ⟨g, off + k * 5 + 2, none⟩ = some (.int .u8 l'[k].1.b.toNat) := key 2 (by omega)
      have q3 : wo.cell? ⟨g, off + k * 5 + 3, none⟩ = some (.int .u8 l'[k].1.a.toNat) := key 3 (by omega)
      have q4 : wo.cell? ⟨g, off + k * 5 + 4, none⟩ = some (.int .i64 l'[k].2) := key 4 (by omega)
      clear hrk key
      obtain ⟨Ao, co, rfl, hco, hro⟩ := hown.form
      have hblk : ∀ g, (Value.slice Ao k co).ownBlock = some g → w2.heap.size ≤ g ∧ g < wo.heap.size := fun g hg => hown.lt g hg
      have HTK := Lib.hid (show pxCells ((l'.take (k + 1)).map (·.1)) = pxCells ((l'.take k).map (·.1)) ++ pxCs l'[k].1 by
        rw [List.take_succ_eq_append_getElem hkl, List.map_append, pxCells_append]; simp [pxCells])
      obtain ⟨x, hx⟩ : ∃ x, x = l'[k].1 := ⟨_, rfl⟩
      rw [← hx] at q0 q1 q2 q3 HTK
      clear hx
      obtain ⟨i0, hi, hz0, hz1, hz2⟩ := info_parts pxInfo
      go_wp2_with (at_builtin; refine wpList_append_S rfl (.tmp 57) (.tmp 60) 22 22 rfl (w2.heap.size) 46 i0 _ 4 4 Tryd.underlying22 hi hz0 hz1 hz2 rfl (by decide) (.slice Ao k co) (k) (pxCells ((l'.take k).map (·.1))) rfl ((hown.alloc _).alloc _) (pxCells_one _) (1) ([.int .u8 x.r.toNat, .int .u8 x.g.toNat, .int .u8 x.b.toNat, .int .u8 x.a.toNat]) (Src.made Tryd.underlying22 (by first | rfl | simp) rfl (by intro u hu; exact pxCells_one [x] u hu)) (k + 1) (by omega) (pxCells ((l'.take (k + 1)).map (·.1))) (by rw [HTK.out]; rfl) (by unfold maxLen; omega) (by omega) (by first | omega | (simp; done) | (simp; omega)) ?_; intro A' c' w4 hown4 hg4 hat4)
      go_roundw
      case rel => exact ⟨k + 1, by omega, by go_num, hown4, Below.grown (Below.alloc (Below.alloc hb (by omega) _) (by simp; omega) _) hg4 (by simp; omega) (fun g hg => (hblk g hg).1)⟩
      case measure => simp [intOf]; omega
    · have e : k = m := by omega
      subst e
      obtain ⟨Ao, co, rfl, hco, hro⟩ := hown.form
      obtain ⟨b, ob, rfl, hb1, hb2⟩ := hown.addr (by omega)
      obtain ⟨o0, ho0⟩ : ∃ o0, o0 = (l'.take k).map (·.1) := ⟨_, rfl⟩
      rw [← ho0] at hown
      have HO0 := Lib.hid ho0
      have hol : o0.length = k := by rw [ho0, List.length_map, List.length_take]; omega
      have HOL := Lib.hid hol
      have B3 := Lib.hid (B2.out.below hb B2.out.lt)
      have hbw3 := Lib.hid (hbw2.out.trans (hb.mono hbw2.out.size))
      have HP3 := Lib.hid ((HP.out.below hbw3.out (Nat.le_refl _)).more hbw3.out.size)
      have HQ3 := Lib.hid hown.reads.2
      have HOW := Lib.hid hown
      have HB23 := Lib.hid hb
      have cB := B3.out.cell
      have lB := B3.out.lt
      clear hown hro ho0 hol hb hb1 hb2 hco
      go_wp2_with fail
      refine (mapped_any W H A n c ps (some ⟨b, ob, none⟩) k co o0 wo HP3.out HQ3.out (by omega) (by omega) (by omega)).mono ?_
      rintro e w4 ⟨v4, rfl, _, hb4⟩
      have HR4 := Lib.hid (show RdR w w2 ps k T (.slice (some ⟨b, ob, none⟩) k co) (.int .i64 (farSum ps o0)) (.int .i64 0) w4 from
        ⟨0, o0, b, ob, co, by omega, rfl, rfl, rfl, HOL.out, by rw [HTT.out, HO0.out], HOW.out.below hb4 (Nat.le_refl _), hbw3.out.trans (hb4.mono hbw3.out.size), HB23.out.trans (hb4.mono HB23.out.size)⟩)
      have B4 := Lib.hid (B3.out.below hb4 B3.out.lt)
      clear hb4 cB lB
      go_wp2_with fail
      go_loopw [8, 14, 69] (fun v f i wr => RdR w w2 ps k T v f i wr) (fun _ _ i _ => 8 - (intOf i).toNat)
      case atStart => exact HR4.out
      case round =>
        clear HR4
        obtain ⟨r, o, b5, off5, c5, hr8, rfl, rfl, rfl, hol, hred, hown, hbw5, hb5⟩ := hrel
        have HOL := Lib.hid hol
        have HRED := Lib.hid hred
        have HOW := Lib.hid hown
        have HBW5 := Lib.hid hbw5
        have HB5 := Lib.hid hb5
        have B5 := Lib.hid (B2.out.below hb5 B2.out.lt)
        have HP5 := Lib.hid ((HP.out.below hbw5 (Nat.le_refl _)).more hbw5.size)
        have cB := B5.out.cell
        have lB := B5.out.lt
        clear hol hred hown hbw5 hb5
        by_cases hlt8 : r < 8
        · go_wp2_with fail
          refine (better_any W H A n c ps b5 off5 k c5 o wr HP5.out HOW.out.reads.2 (by omega) (by omega) (by omega)).mono ?_
          rintro e w6 ⟨A6, c6, rfl, ho6, hb6⟩
          have HO6 := Lib.hid ho6
          have HBW6 := Lib.hid (HBW5.out.trans (hb6.mono HBW5.out.size))
          have B6 := Lib.hid (B5.out.below hb6 B5.out.lt)
          have HP6 := Lib.hid ((HP5.out.below hb6 (Nat.le_refl _)).more hb6.size)
          have HB6 := Lib.hid hb6
          clear ho6 hb6 cB lB
          have cB := B6.out.cell
          have lB := B6.out.lt
          obtain ⟨f0, hf0⟩ : ∃ f0, f0 = farSum ps o := ⟨_, rfl⟩
          obtain ⟨f1, hf1⟩ : ∃ f1, f1 = farSum ps (better ps o) := ⟨_, rfl⟩
          rw [← hf0]
          have HF0 := Lib.hid hf0
          have HF1 := Lib.hid hf1
          clear hf0 hf1
          go_wp2_with fail
          refine (mapped_any W H A n c ps A6 k c6 (better ps o) w6 HP6.out HO6.out.reads.2 (by omega) (by omega) (by omega)).mono ?_
          rw [← HF1.out]
          rintro e w7 ⟨v7, rfl, _, hb7⟩
          have HB7 := Lib.hid hb7
          clear hb7 cB lB
          by_cases hge : f0 ≤ f1
          · have HRD := Lib.hid (show red ps (8 - r) o = o by rw [show 8 - r = (7 - r) + 1 by omega, red, if_pos (by rw [← HF0.out, ← HF1.out]; exact hge)])
            go_wp2
            go_ret2
            refine ⟨_, _, rfl, ?_, HBW6.out.trans (HB7.out.mono HBW6.out.size)⟩
            rw [← HRED.out, HRD.out]
            exact ((HOW.out.below HB6.out (Nat.le_refl _)).below HB7.out (Nat.le_refl _)).mono hbw2.out.size
          · have HRD := Lib.hid (show red ps (8 - (r + 1)) (better ps o) = T by rw [← HRED.out, show 8 - r = (8 - (r + 1)) + 1 by omega, red, if_neg (by rw [← HF0.out, ← HF1.out]; exact hge)])
            obtain ⟨g6, o6, rfl, hg6, hg6'⟩ := HO6.out.addr (by omega)
            have H8 := Lib.hid (show RdR w w2 ps k T (.slice (some ⟨g6, o6, none⟩) k c6) (.int .i64 f1) (.int .i64 ((r : Int) + 1)) w7 from
              ⟨r + 1, better ps o, g6, o6, c6, by omega, rfl, rfl, by rw [HF1.out], by rw [better_length]; exact HOL.out, HRD.out, (HO6.out.below HB7.out (Nat.le_refl _)).mono HB5.out.size, HBW6.out.trans (HB7.out.mono HBW6.out.size), (HB5.out.trans (HB6.out.mono HB5.out.size)).trans (HB7.out.mono (Nat.le_trans HB5.out.size HB6.out.size))⟩)
            clear hg6 hg6'
            go_wp2
            go_roundw
            case rel => exact H8.out
            case measure => simp [intOf] <;> omega
        · have HRD := Lib.hid (show red ps (8 - r) o = o by rw [show 8 - r = 0 by omega]; rfl)
          go_wp2
          go_ret2
          refine ⟨_, _, rfl, ?_, HBW5.out⟩
          rw [← HRED.out, HRD.out]
          exact HOW.out.mono hbw2.out.size
end Go.Proofs.YtlpcmeodbigpjaaDoor
