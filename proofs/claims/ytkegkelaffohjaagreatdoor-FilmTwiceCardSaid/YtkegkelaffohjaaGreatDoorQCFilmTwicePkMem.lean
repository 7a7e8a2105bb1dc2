/- slices.stableCmpFunc, SortStableFunc at huff.pack: the walks. Packages in memory; what huff.Lengths calls beside sorting: the walks. -/
import Derived.Test.YtkegkelaffohjaaGreatDoorQCFilmTwicePkSymM
import Derived.Test.YtkegkelaffohjaaGreatDoorKCFilmTwice2
import Derived.Test.YtkegkelaffohjaaGreatDoorQCFilmTwiceHufCodes
import Derived.Test.YtkegkelaffohjaaGreatDoorKCFilmTwice3
namespace Go.Proofs.YtkegkelaffohjaaGreatDoor
open Go Go.RowKit
open Stab
def StableTo (base g off n c : Nat) (l : List PkV) (w0 wx : World) : Prop := ∃ l', SoP base g off n c w0 l' wx ∧ Same pkvKey l l' ∧ Srt pkvKey l'
def PhOne (base g off n c : Nat) (l : List PkV) (w0 : World) (s7 s8 : Value) (wr : World) : Prop :=
 ∃ (i a : Nat) (D R : List PkV), a = i * 20 ∧ s7 = .int .i64 a ∧ s8 = .int .i64 ((a : Int) + 20) ∧ D.length = a ∧ a ≤ n ∧ SoP base g off n c w0 (D ++ R) wr ∧ Same pkvKey l (D ++ R) ∧ Blks pkvKey 20 D
def PhTwo (base g off n c : Nat) (l : List PkV) (w0 : World) (s6 : Value) (wr : World) : Prop :=
 ∃ (bs : Nat) (l1 : List PkV), s6 = .int .i64 bs ∧ 20 ≤ bs ∧ bs ≤ 2097152 ∧ SoP base g off n c w0 l1 wr ∧ Same pkvKey l l1 ∧ Blks pkvKey bs l1
def PhIn (base g off n c bs : Nat) (l : List PkV) (w0 : World) (s7 s8 : Value) (wr : World) : Prop :=
 ∃ (i a : Nat) (D R : List PkV), a = i * (2 * bs) ∧ s7 = .int .i64 a ∧ s8 = .int .i64 ((a : Int) + 2 * bs) ∧ D.length = a ∧ a ≤ n ∧ SoP base g off n c w0 (D ++ R) wr ∧ Same pkvKey l (D ++ R) ∧ Blks pkvKey (2 * bs) D ∧ Blks pkvKey bs R
theorem symMerge_as (base g off n c : Nat) (hn : n ≤ 1048576) (P A B S : List PkV) (w0 w : World) (a m b : Nat) (m' b' : Int) (hm' : m' = m) (hb' : b' = b) (ha : a = P.length) (hm : m = a + A.length) (hb : b = m + B.length) (hA0 : 0 < A.length) (hB0 : 0 < B.length) (hA : Srt pkvKey A) (hB : Srt pkvKey B) (hu : SmallU (A ++ B))
  (h : SoP base g off n c w0 (P ++ A ++ B ++ S) w) : Calls Tryz.prog 190 #[.slice (some ⟨g, off, none⟩) n c, .int .i64 a, .int .i64 m', .int .i64 b', .func (.func 171) #[] #[]] w fun e w' => e = .returned (.tuple #[]) ∧ SortedTo base g off n c P (A ++ B) S w0 w' := by
 subst hm' hb'
 exact symMerge_any base g off n c hn _ P A B S w0 w a m b (Nat.le_refl _) ha hm hb hA0 hB0 hA hB hu h
set_option maxRecDepth 100000 in
set_option maxHeartbeats 4000000 in
theorem stable_any (base g off n c : Nat) (l : List PkV) (w0 w : World) (h : SoP base g off n c w0 l w) (hu : SmallU l) (hn : n ≤ 1048576) :
  Calls Tryz.prog 183 #[.slice (some ⟨g, off, none⟩) n c, .int .i64 n, cmpV] w fun e w' => e = .returned (.tuple #[]) ∧ StableTo base g off n c l w0 w' := by
 have HU := Lib.hid hu
 have H0 := Lib.hid (show PhOne base g off n c l w0 (.int .i64 0) (.int .i64 20) w from ⟨0, 0, [], l, by omega, rfl, rfl, rfl, Nat.zero_le _, h, Same.refl _, blks_nil _⟩)
 clear h hu
 unfold cmpV
 go_enter Tryz.func183, Tryz.ntmps183
 go_wp2
 go_loopw [7, 8] (fun s7 s8 wr => PhOne base g off n c l w0 s7 s8 wr) (fun _ s8 _ => n + 20 - (intOf s8).toNat)
 case atStart => exact H0.out
 case round =>
  clear H0
  obtain ⟨i, a, D, R, hi, rfl, rfl, hD, han, hR, hS, hB⟩ := hrel
  have hDR : D.length + R.length = n := by rw [← hR.len, List.length_append]
  have HR := Lib.hid hR
  have HS := Lib.hid hS
  have HB := Lib.hid hB
  have HD := Lib.hid hD
  have HI := Lib.hid hi
  clear hR hS hB hi
  by_cases hlt : (a : Int) + 20 ≤ (n : Int)
  ·obtain ⟨L, R', hLR, hL⟩ : ∃ L R', R = L ++ R' ∧ L.length = 20 := ⟨R.take 20, R.drop 20, (List.take_append_drop _ _).symm, by rw [List.length_take]; omega⟩
   have HLR := Lib.hid hLR
   have HL := Lib.hid hL
   have HR1 := Lib.hid (show SoP base g off n c w0 (D ++ L ++ R') wr by have h := HR.out; rw [hLR] at h; simpa using h)
   have HU1 := Lib.hid (show SmallU L from fun z hz => HU.out z (HS.out.symm.mem (by rw [hLR]; exact List.mem_append_right _ (List.mem_append_left _ hz))))
   obtain ⟨b, hb⟩ : ∃ b, b = a + 20 := ⟨_, rfl⟩
   rw [show (a : Int) + 20 = (b : Int) by omega] at hlt ⊢
   have HBB := Lib.hid hb
   clear hLR hL hD hDR hb
   go_wp2_with fail
   refine (insSort_any base g off n c D L R' w0 wr a b HD.out.symm (by rw [HD.out, HL.out]; exact HBB.out) HR1.out HU1.out hn).mono ?_
   rintro e w1 ⟨rfl, L', hL', hs, ht⟩
   have hl' : L'.length = 20 := by
    have h1 := hL'.len
    have h2 := HR1.out.len
    have := HL.out
    simp only [List.length_append] at h1 h2
    omega
   have H1 := Lib.hid (show PhOne base g off n c l w0 (.int .i64 b) (.int .i64 ((b : Int) + 20)) w1 from
    ⟨i + 1, b, D ++ L', R', by have := HBB.out; have := HI.out; omega, rfl, rfl, by rw [List.length_append, HD.out, hl', HBB.out], by omega, hL', (by rw [HLR.out] at HS; have h := HS.out; rw [← List.append_assoc] at h; exact h.trans (((Same.refl D).append hs).append (Same.refl R'))), HB.out.snoc (m := i) (by rw [HD.out]; exact HI.out) ht (by omega)⟩)
   clear hL' hs ht hl'
   go_wp2
   go_roundw
   case rel => exact H1.out
   case measure => have := HBB.out; simp [intOf] <;> omega
  ·have hDR2 := Lib.hid hDR
   have HU1 := Lib.hid (show SmallU R from fun z hz => HU.out z (HS.out.symm.mem (List.mem_append_right _ hz)))
   clear hD hDR
   obtain ⟨wo, rfl⟩ : ∃ wo : World, wo = wr := ⟨_, rfl⟩
   go_wp2_with fail
   refine (insSort_any base g off n c D R [] w0 wo a n HD.out.symm (by have := hDR2.out; omega) (by simpa using HR.out) HU1.out hn).mono ?_
   rintro e w1 ⟨rfl, L', hL', hs, ht⟩
   have H2 := Lib.hid (show PhTwo base g off n c l w0 (.int .i64 20) w1 by
    have hl' : D.length + L'.length = n := by have h1 := hL'.len; simpa using h1
    refine ⟨20, D ++ L', rfl, by omega, by omega, by simpa using hL', HS.out.trans ((Same.refl D).append hs), HB.out.snoc (m := i) (by rw [HD.out]; exact HI.out) ht (by have := HD.out; omega)⟩)
   clear hL' hs ht
   go_wp2
   go_loopw [6] (fun s6 wr => PhTwo base g off n c l w0 s6 wr) (fun s6 _ => n - (intOf s6).toNat)
   case atStart => exact H2.out
   case round =>
    clear H2
    obtain ⟨bs, l1, rfl, hbs, hbs2, hR, hS, hB⟩ := hrel
    have HR2 := Lib.hid hR
    have HS2 := Lib.hid hS
    have HB2 := Lib.hid hB
    clear hR hS hB
    by_cases hlt2 : bs < n
    ·have H3 := Lib.hid (show PhIn base g off n c bs l w0 (.int .i64 0) (.int .i64 (2 * (bs : Int))) wr from ⟨0, 0, [], l1, by omega, rfl, by congr 1; omega, rfl, Nat.zero_le _, HR2.out, HS2.out, blks_nil _, HB2.out⟩)
     obtain ⟨wi, rfl⟩ : ∃ wi : World, wi = wr := ⟨_, rfl⟩
     go_wp2
     go_loopw [7, 8] (fun s7 s8 wr => PhIn base g off n c bs l w0 s7 s8 wr) (fun _ s8 _ => n + 2 * bs - (intOf s8).toNat)
     case atStart => exact H3.out
     case round =>
      clear H3
      obtain ⟨i2, a2, D2, R2, hi2, rfl, rfl, hD2, han2, hR2, hS2, hB3, hB4⟩ := hrel
      have hDR3 : D2.length + R2.length = n := by rw [← hR2.len, List.length_append]
      have HR3 := Lib.hid hR2
      have HS3 := Lib.hid hS2
      have HB3 := Lib.hid hB3
      have HB4 := Lib.hid hB4
      have HD2 := Lib.hid hD2
      have HI2 := Lib.hid hi2
      clear hR2 hS2 hB3 hB4 hi2
      by_cases hlt3 : (a2 : Int) + 2 * bs ≤ (n : Int)
      ·obtain ⟨A, hA⟩ : ∃ A, A = R2.take bs := ⟨_, rfl⟩
       obtain ⟨B, hB⟩ : ∃ B, B = (R2.drop bs).take bs := ⟨_, rfl⟩
       obtain ⟨R', hR'⟩ : ∃ R', R' = (R2.drop bs).drop bs := ⟨_, rfl⟩
       have hAB : R2 = A ++ B ++ R' := by rw [hA, hB, hR', List.append_assoc, List.take_append_drop, List.take_append_drop]
       have hla : A.length = bs := by rw [hA, List.length_take]; omega
       have hlb : B.length = bs := by rw [hB, List.length_take, List.length_drop]; omega
       have HLL := Lib.hid (show A.length = bs ∧ B.length = bs from ⟨hla, hlb⟩)
       have HAB := Lib.hid hAB
       have HSA := Lib.hid (show Srt pkvKey A by rw [hA]; exact HB4.out.head)
       have HSB := Lib.hid (show Srt pkvKey B by rw [hB]; exact HB4.out.tail.head)
       have HSR := Lib.hid (show Blks pkvKey bs R' by rw [hR']; exact HB4.out.tail.tail)
       have HR4 := Lib.hid (show SoP base g off n c w0 (D2 ++ A ++ B ++ R') wr by have h := HR3.out; rw [hAB] at h; simpa using h)
       have HU4 := Lib.hid (show SmallU (A ++ B) from fun z hz => HU.out z (HS3.out.symm.mem (by rw [hAB]; exact List.mem_append_right _ (List.mem_append_left _ hz))))
       clear hA hB hR' hAB hla hlb hDR3 hD2
       go_wp2_with fail
       refine (symMerge_as base g off n c hn D2 A B R' w0 wr a2 (a2 + bs) (a2 + 2 * bs) _ _ (by omega) (by omega) HD2.out.symm (by rw [HLL.out.1]) (by rw [HLL.out.2]; omega) (by rw [HLL.out.1]; omega) (by rw [HLL.out.2]; omega) HSA.out HSB.out HU4.out HR4.out).mono ?_
       rintro e w1 ⟨rfl, C, hC, hs, ht⟩
       have hlc : C.length = 2 * bs := by
        have h1 := hC.len
        have h2 := HR4.out.len
        obtain ⟨e1, e2⟩ := HLL.out
        simp only [List.length_append] at h1 h2
        omega
       have H4 := Lib.hid (show PhIn base g off n c bs l w0 (.int .i64 ((a2 : Int) + 2 * bs)) (.int .i64 ((a2 : Int) + 2 * bs + 2 * bs)) w1 from
        ⟨i2 + 1, a2 + 2 * bs, D2 ++ C, R', by rw [HI2.out, Nat.add_mul, Nat.one_mul], by first | (congr 1; done) | (congr 1; omega), by first | (congr 1; done) | (congr 1; omega), by rw [List.length_append, HD2.out, hlc], by omega, hC, by
         have h := HS3.out
         rw [HAB.out, ← List.append_assoc] at h
         exact h.trans (((Same.refl D2).append hs).append (Same.refl R')), HB3.out.snoc (m := i2) (by rw [HD2.out]; exact HI2.out) ht (by omega), HSR.out⟩)
       clear hC hs ht hlc
       go_wp2
       go_roundw
       case rel => exact H4.out
       case measure => simp [intOf] <;> omega
      ·have HDR3 := Lib.hid hDR3
       have HEQ := Lib.hid (show ∀ (C : List PkV) (wx : World), SoP base g off n c w0 (D2 ++ C) wx → Same pkvKey R2 C → Srt pkvKey C → PhTwo base g off n c l w0 (.int .i64 ((bs : Int) * 2)) wx from fun C wx h1 h2 h3 =>
        ⟨2 * bs, D2 ++ C, by congr 1; omega, by omega, by omega, h1, HS3.out.trans ((Same.refl D2).append h2), HB3.out.snoc (m := i2) (by rw [HD2.out]; exact HI2.out) h3 (by
         have h4 := h1.len
         rw [List.length_append] at h4
         omega)⟩)
       clear hDR3 hD2
       obtain ⟨wj, rfl⟩ : ∃ wj : World, wj = wr := ⟨_, rfl⟩
       by_cases hm3 : (a2 : Int) + bs < (n : Int)
       ·obtain ⟨A, hA⟩ : ∃ A, A = R2.take bs := ⟨_, rfl⟩
        obtain ⟨B, hB⟩ : ∃ B, B = R2.drop bs := ⟨_, rfl⟩
        have hAB : R2 = A ++ B := by rw [hA, hB, List.take_append_drop]
        have hla : A.length = bs := by have := HDR3.out; have := HD2.out; rw [hA, List.length_take]; omega
        have hlb : B.length = n - (a2 + bs) := by have := HDR3.out; have := HD2.out; rw [hB, List.length_drop]; omega
        have HLL := Lib.hid (show A.length = bs ∧ B.length = n - (a2 + bs) from ⟨hla, hlb⟩)
        have HSA := Lib.hid (show Srt pkvKey A by rw [hA]; exact HB4.out.head)
        have HSB := Lib.hid (show Srt pkvKey B by rw [hB]; exact HB4.out.tail.small (by rw [← hB]; omega))
        have HR4 := Lib.hid (show SoP base g off n c w0 (D2 ++ A ++ B ++ []) wj by have h := HR3.out; rw [hAB] at h; simpa using h)
        have HU4 := Lib.hid (show SmallU (A ++ B) from fun z hz => HU.out z (HS3.out.symm.mem (by rw [hAB]; exact List.mem_append_right _ hz)))
        have HAB := Lib.hid hAB
        clear hA hB hAB hla hlb
        go_wp2_with fail
        refine (symMerge_as base g off n c hn D2 A B [] w0 wj a2 (a2 + bs) n _ _ (by omega) (by omega) HD2.out.symm (by rw [HLL.out.1]) (by rw [HLL.out.2]; omega) (by rw [HLL.out.1]; omega) (by rw [HLL.out.2]; omega) HSA.out HSB.out HU4.out HR4.out).mono ?_
        rintro e w1 ⟨rfl, C, hC, hs, ht⟩
        have H5 := Lib.hid (HEQ.out C w1 (by simpa using hC) (by rw [HAB.out]; exact hs) ht)
        clear hC hs ht
        go_wp2
        go_roundw
        case rel => exact H5.out
        case measure => simp [intOf] <;> omega
       ·have H5 := Lib.hid (HEQ.out R2 wj HR3.out (Same.refl _) (HB4.out.small (by have := HDR3.out; have := HD2.out; omega)))
        go_wp2
        go_roundw
        case rel => exact H5.out
        case measure => simp [intOf] <;> omega
    ·have HEND := Lib.hid (show StableTo base g off n c l w0 wr from ⟨l1, HR2.out, HS2.out, HB2.out.small (by rw [HR2.out.len]; omega)⟩)
     go_wp2
     go_end0
     exact ⟨rfl, HEND.out⟩
theorem sortStable_any (base g off n c : Nat) (l : List PkV) (w0 w : World) (h : SoP base g off n c w0 l w) (hu : SmallU l) (hn : n ≤ 1048576) :
  Calls Tryz.prog 170 #[.slice (some ⟨g, off, none⟩) n c, .func (.func 171) #[] #[]] w fun e w' => e = .returned (.tuple #[]) ∧ StableTo base g off n c l w0 w' := by
 go_enter Tryz.func170, Tryz.ntmps170
 go_wp2_with fail
 refine (stable_any base g off n c l w0 w h hu hn).mono ?_
 rintro e w1 ⟨rfl, hs⟩
 have HS := Lib.hid hs
 clear hs
 go_wp2
 go_end0
 exact ⟨rfl, HS.out⟩
end Go.Proofs.YtkegkelaffohjaaGreatDoor
namespace Go.Proofs.YtkegkelaffohjaaGreatDoor
open Go Go.RowKit
theorem pkInfo : (Tryz.prog.info? 262).map (fun i => (i.zero, i.size, i.bytes)) = some (some (.agg #[.int .i64 0, .slice none 0 0]), 2, 32) := by kernel_rfl
def PkV.v (p : PkV) : Value := .slice p.A p.sy.length p.c
def PkV.pk (p : PkV) : Huf.Pk := (p.cost, p.sy)
def pkCells (l : List PkV) : List Value := l.flatMap pkvCs
theorem pkCells_length (l : List PkV) : (pkCells l).length = l.length * 2 := flatCells_length pkvCs 2 (fun _ => rfl) l
theorem pkCells_one (l : List PkV) : ∀ u ∈ pkCells l, u.oneCell' = true := by
 intro u hu
 obtain ⟨p, _, hp⟩ := List.mem_flatMap.1 hu
 simp only [pkvCs, List.mem_cons, List.not_mem_nil, or_false] at hp
 rcases hp with rfl | rfl <;> rfl
theorem Reads.pk {w : World} {B n g off : Nat} {l : List PkV} (h : Reads w B 2 (some ⟨g, off, none⟩) n (pkCells l)) (i : Nat) (hi : i < l.length) :
  w.cell? ⟨g, off + i * 2, none⟩ = some (.int .i64 (l[i].cost : Int)) ∧ w.cell? ⟨g, off + i * 2 + 1, none⟩ = some (.slice l[i].A l[i].sy.length l[i].c) := by
 have hn : n * 2 = l.length * 2 := by rw [← h.1, pkCells_length]
 have key : ∀ j, j < 2 → w.cell? ⟨g, off + i * 2 + j, none⟩ = (pkvCs l[i])[j]? := fun j hj => by
  have h1 := h.cell rfl (i * 2 + j) (by omega)
  have h2 := flatCells_at pkvCs 2 (fun _ => rfl) l i hi j hj
  rw [Nat.add_assoc, h1]
  exact h2
 exact ⟨key 0 (by omega), key 1 (by omega)⟩
def PkOK (w : World) (S : Nat → Prop) (l : List PkV) : Prop := ∀ p ∈ l, Vals w 1 p.v p.sy.length (nats p.sy) ∧ ∀ x, p.v.ownBlock = some x → x < w.heap.size ∧ ¬ S x
section
variable {w w' : World} {S T : Nat → Prop} {l m : List PkV}
theorem PkOK.keeps (h : PkOK w S l) (k : Keeps T w w') (hT : ∀ x, x < w.heap.size → T x → S x) : PkOK w' S l := fun p hp => by
 obtain ⟨h1, h2⟩ := h p hp
 exact ⟨h1.keeps k fun x hx e => (h2 x hx).2 (hT x (h2 x hx).1 e), fun x hx => ⟨Nat.lt_of_lt_of_le (h2 x hx).1 k.size, (h2 x hx).2⟩⟩
theorem PkOK.below (h : PkOK w S l) (hb : Below w.heap.size w w') : PkOK w' S l := h.keeps (T := fun _ => False) (Keeps.of_below hb fun _ hg _ => hg) fun _ _ e => e.elim
theorem PkOK.mono (h : PkOK w S l) (hT : ∀ x, x < w.heap.size → T x → S x) : PkOK w T l := fun p hp => ⟨(h p hp).1, fun x hx => ⟨((h p hp).2 x hx).1, fun e => ((h p hp).2 x hx).2 (hT x ((h p hp).2 x hx).1 e)⟩⟩
theorem PkOK.append (h : PkOK w S l) (h2 : PkOK w S m) : PkOK w S (l ++ m) := fun p hp => (List.mem_append.1 hp).elim (h p) (h2 p)
theorem PkOK.sub (h : PkOK w S l) (hm : ∀ p ∈ m, p ∈ l) : PkOK w S m := fun p hp => h p (hm p hp)
end
theorem same_pk {l m : List PkV} (h : Stab.Same pkvKey l m) : Stab.Same Huf.pkKey (l.map PkV.pk) (m.map PkV.pk) := fun v => by
 rw [List.filter_map, List.filter_map]
 exact congrArg (List.map PkV.pk) (h v)
theorem srt_pk {l : List PkV} (h : Stab.Srt pkvKey l) : Stab.Srt Huf.pkKey (l.map PkV.pk) := List.pairwise_map.2 h
theorem sorted_pk {l m : List PkV} (h : Stab.Same pkvKey l m) (hs : Stab.Srt pkvKey m) : m.map PkV.pk = Huf.sort (l.map PkV.pk) := Huf.sort_uniq (same_pk h) (srt_pk hs)
set_option maxRecDepth 100000 in
theorem clonePk_any (b off n c : Nat) (l : List PkV) (w : World) (h : Reads w w.heap.size 2 (some ⟨b, off, none⟩) n (pkCells l)) (hn : n ≤ 1048576) :
  Calls Tryz.prog 172 #[.slice (some ⟨b, off, none⟩) n c] w fun e w' => ∃ A' c', e = .returned (.slice A' n c') ∧ Own w' w.heap.size 2 (.slice A' n c') n (pkCells l) ∧ Below w.heap.size w w' := by
 obtain ⟨i0, hi, hz0, hz1, hz2⟩ := info_parts pkInfo
 have hnil := @Lib.run_eql_slice_nil Tryz.prog
 go_enter Tryz.func172, Tryz.ntmps172
 go_wp2_with (at_builtin; refine wpList_append_S rfl (.tmp 5) (.tmp 6) 260 260 rfl (w.heap.size) 262 i0 _ 2 32 Tryz.underlying260 hi hz0 hz1 hz2 rfl (by decide) (.slice (some ⟨w.heap.size, 0, none⟩) 0 0) (0) (pkCells ([])) rfl (Own.emptyRow _ _ _ _ _ (Nat.le_refl _) rfl) (pkCells_one _) (n) (pkCells l) ((h.alloc (Nat.le_refl _) _).src Tryz.underlying260 (by decide) (pkCells_one _) _) (n) (by omega) (pkCells (l)) (rfl) (by unfold maxLen; omega) (by omega) (by first | omega | (simp; done) | (simp; omega)) ?_; intro A' c' w1 hown1 hg1 hat1)
 go_outline
 go_show
 go_ret
 refine ⟨A', c', rfl, hown1, Below.grown (by go_grown) hg1 (by first | omega | (simp; done) | (simp; omega)) (fun g hg => by simp [Value.ownBlock] at hg; omega)⟩
theorem lenLow_any (n : Nat) (w : World) (hn : n ≤ 1048576) :
  Calls Tryz.prog 169 #[.int .i64 n] w fun e w' => e = .returned (.bool false) ∧ w' = w := by
 have h1 : ¬ (n : Int) < 0 := by omega
 have h2 : ¬ (1048576 : Int) < n := by omega
 go_enter Tryz.func169, Tryz.ntmps169
 go_wp2
 go_ret
 exact ⟨by simp, rfl⟩
set_option maxRecDepth 100000 in
theorem indexLen_any (B n c : Nat) (A : Option Addr) (l : List Nat) (w : World) (hr : Reads w B 1 A n (nats l)) (hbig : ∀ x ∈ l, x ≤ 1048576) (hm : l.length ≤ 1000) :
  Calls Tryz.prog 182 #[.slice A n c, .func (.func 169) #[] #[]] w fun e w' => e = .returned (.int .i64 (-1)) ∧ w' = w := by
 have hn : n = l.length := by have := hr.1; rw [nats_length] at this; omega
 subst hn
 go_enter Tryz.func182, Tryz.ntmps182
 go_wp2_with fail
 go_loop [8] (fun i => ∃ k : Nat, k ≤ l.length ∧ i = .int .i64 k) (fun i => l.length - (intOf i).toNat)
 case atStart => exact ⟨0, Nat.zero_le _, rfl⟩
 case round =>
  obtain ⟨k, hk, rfl⟩ := hrel
  by_cases hlt : k < l.length
  ·obtain ⟨ga, oa, rfl, hga⟩ := hr.addr (by omega)
   have hcell := hr.cell rfl k (by rw [Nat.mul_one]; exact hlt)
   rw [nats_at _ _ hlt] at hcell
   have hx15 := hbig _ (List.getElem_mem hlt)
   obtain ⟨x, hx⟩ : ∃ x, x = l[k] := ⟨_, rfl⟩
   rw [← hx] at hcell hx15
   clear hx
   go_wp2_with fail
   refine (lenLow_any x _ hx15).mono ?_
   rintro e w1 ⟨rfl, rfl⟩
   go_wp2_with fail
   go_round
   case rel => exact ⟨k + 1, hlt, by go_num⟩
   case measure => simp [intOf]; omega
  ·go_wp2_with fail
   go_ret
   exact ⟨rfl, rfl⟩
theorem containsLen_any (B n c : Nat) (A : Option Addr) (l : List Nat) (w : World) (hr : Reads w B 1 A n (nats l)) (hbig : ∀ x ∈ l, x ≤ 1048576) (hm : l.length ≤ 1000) :
  Calls Tryz.prog 168 #[.slice A n c, .func (.func 169) #[] #[]] w fun e w' => e = .returned (.bool false) ∧ w' = w := by
 go_enter Tryz.func168, Tryz.ntmps168
 go_wp2_with fail
 refine (indexLen_any B n c A l _ hr hbig hm).mono ?_
 rintro e w1 ⟨rfl, rfl⟩
 go_wp2_with fail
 go_ret
 exact ⟨rfl, rfl⟩
end Go.Proofs.YtkegkelaffohjaaGreatDoor
