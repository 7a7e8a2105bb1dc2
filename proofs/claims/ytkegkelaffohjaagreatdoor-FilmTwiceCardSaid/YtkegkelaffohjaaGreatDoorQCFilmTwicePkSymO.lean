/- slices.swapRangeCmpFunc at huff.pack; order: the walks. Printed by mkpk.py. slices.insertionSortCmpFunc at huff.pack; the closure that compares: the walks. slices.rotateCmpFunc at huff.pack: the walk. slices.symMergeCmpFunc at huff.pack, where one part is one element: the walks. Printed by mksym.py. -/
import Derived.Test.YtkegkelaffohjaaGreatDoorKCFilmTwice1
import Derived.Test.YtkegkelaffohjaaGreatDoorQCFilmTwiceHufCodes
import Derived.Test.YtkegkelaffohjaaGreatDoorKCFilmTwice2
import Derived.BigRegion
import Derived.IntWalk
import Derived.Lib.Hide
import Derived.WalkKit
import Derived.Deep.RegionHeld3
import Derived.Deep.DeepCutAuto
namespace Go.Proofs.YtkegkelaffohjaaGreatDoor
open Go Go.RowKit
structure PkV where
 cost : Nat
 A : Option Addr
 c : Nat
 sy : List Nat
def pkvCs (p : PkV) : List Value := [.int .i64 (p.1 : Int), .slice p.A p.sy.length p.c]
def pkvKey (p : PkV) : Int := (p.1 : Int)
theorem Keeps.setCells_ {S : Nat → Prop} {a w : World} (h : Keeps S a w) {b : Nat} (hb : S b) (o : Nat) (vs : List Value) : Keeps S a (w.setCells b o vs) :=
 ⟨(os_setCells b vs o w).trans h.os, (tape_setCells b vs o w).trans h.tape, (output_setCells b vs o w).trans h.output, by rw [size_setCells]; exact h.size, fun g hg hn => (heap_setCells b g (fun e => hn (e ▸ hb)) vs o w).trans (h.block g hg hn)⟩
structure SoP (base g off n c : Nat) (w : World) (l : List PkV) (wr : World) : Prop where
 own : Own wr base 2 (.slice (some ⟨g, off, none⟩) n c) n (l.flatMap pkvCs)
 len : l.length = n
 keep : Keeps (fun b => b = g) w wr
section
variable {base g off n c : Nat} {w wr w' : World} {l : List PkV}
theorem SoP.drew (h : SoP base g off n c w l wr) : SoP base g off n c w l wr.drew := ⟨h.own.drew, h.len, h.keep.drew⟩
theorem SoP.below (h : SoP base g off n c w l wr) (hb : Below wr.heap.size wr w') : SoP base g off n c w l w' :=
 ⟨h.own.below hb (Nat.le_refl _), h.len, h.keep.trans (Keeps.of_below (S := fun _ => False) hb (fun _ hg _ => hg)) (fun _ _ h => h.elim)⟩
theorem SoP.at (h : SoP base g off n c w l wr) (i : Nat) (x : PkV) (hx : l[i]? = some x) :
  wr.cell? ⟨g, off + i * 2, none⟩ = some (.int .i64 x.1) ∧ wr.cell? ⟨g, off + i * 2 + 1, none⟩ = some (.slice x.A x.sy.length x.c) := by
 obtain ⟨hi, e⟩ := List.getElem?_eq_some_iff.1 hx
 have hr := h.own.reads.2
 have hln := h.len
 have key : ∀ j, j < 2 → wr.cell? ⟨g, off + i * 2 + j, none⟩ = (pkvCs x)[j]? := fun j hj => by
  have h1 := hr.cell rfl (i * 2 + j) (by omega)
  have h2 := flatCells_at pkvCs 2 (fun _ => rfl) l i hi j hj
  rw [e] at h2
  rw [Nat.add_assoc, h1, h2]
 exact ⟨key 0 (by omega), key 1 (by omega)⟩
theorem SoP.free (h : SoP base g off n c w l wr) (i : Nat) (hi : i < n) :
  wr.frozen? ⟨g, off + i * 2, none⟩ = false ∧ wr.frozen? ⟨g, off + i * 2 + 1, none⟩ = false := by
 have ht := h.own.there i hi
 exact ⟨(ht 0 (by omega)).2, (ht 1 (by omega)).2⟩
theorem SoP.swap (h : SoP base g off n c w l wr) (i j : Nat) (hi : i < n) (hj : j < n) (x y : PkV) :
  SoP base g off n c w (Stab.swp l i j x y) ((wr.setCells g (off + i * 2) (pkvCs y)).setCells g (off + j * 2) (pkvCs x)) := by
 refine ⟨h.own.swap (fun _ => rfl) h.len i j hi hj x y, by rw [Stab.swp_length]; exact h.len, ?_⟩
 exact (h.keep.setCells_ rfl _ _).setCells_ rfl _ _
theorem SoP.swapC (h : SoP base g off n c w l wr) (i j : Nat) (hi : i < n) (hj : j < n) (x y : PkV) (l' : List PkV) (e : Stab.swp l i j x y = l') :
  SoP base g off n c w l' ((((wr.setCell ⟨g, off + i * 2, none⟩ (.int .i64 y.1)).setCell ⟨g, off + i * 2 + 1, none⟩ (.slice y.A y.sy.length y.c)).setCell ⟨g, off + j * 2, none⟩ (.int .i64 x.1)).setCell ⟨g, off + j * 2 + 1, none⟩ (.slice x.A x.sy.length x.c)) := by
 subst e
 exact h.swap i j hi hj x y
end
def OrdR (z : Int) (x y : Nat) : Prop := (z < 0 ∧ x < y) ∨ (¬ z < 0 ∧ y ≤ x)
theorem isNaN_any (z : Int) (w : World) : Calls Tryz.prog 191 #[.int .i64 z] w fun e w' => e = .returned (.bool false) ∧ w' = w := by
 have h : (z != z) = false := by simp
 go_enter Tryz.func191, Tryz.ntmps191
 go_wp2
 go_ret
 first | exact ⟨rfl, rfl⟩ | exact ⟨by simp, rfl⟩
theorem cmpInt_any (x y : Nat) (w : World) :
  Calls Tryz.prog 184 #[.int .i64 x, .int .i64 y] w fun e w' => ∃ z : Int, e = .returned (.int .i64 z) ∧ OrdR z x y ∧ w' = w := by
 go_enter Tryz.func184, Tryz.ntmps184
 go_wp2_with fail
 refine (isNaN_any x _).mono ?_
 rintro e w1 ⟨rfl, rfl⟩
 go_wp2_with fail
 refine (isNaN_any y _).mono ?_
 rintro e w1 ⟨rfl, rfl⟩
 rcases Nat.lt_trichotomy x y with h | h | h
 ·have hi : (x : Int) < y := by omega
  go_wp2_with fail
  go_ret
  exact ⟨-1, rfl, .inl ⟨by decide, h⟩, rfl⟩
 ·subst h
  go_wp2_with fail
  go_ret
  exact ⟨0, rfl, .inr ⟨by decide, Nat.le_refl _⟩, rfl⟩
 ·have hi : (y : Int) < x := by omega
  go_wp2_with fail
  go_ret
  exact ⟨1, rfl, .inr ⟨by decide, Nat.le_of_lt h⟩, rfl⟩
theorem cmpUse_any (x y : PkV) (w : World) (_hx : x.1 ≤ 1099511627776) (_hy : y.1 ≤ 1099511627776) :
  Calls Tryz.prog 171 #[.agg #[.int .i64 x.1, (.slice x.A x.sy.length x.c)], .agg #[.int .i64 y.1, (.slice y.A y.sy.length y.c)]] w
   fun e w' => ∃ z : Int, e = .returned (.int .i64 z) ∧ OrdR z x.1 y.1 ∧ Below w.heap.size w w' := by
 go_enter Tryz.func171, Tryz.ntmps171
 go_wp2_with fail
 refine (cmpInt_any x.1 y.1 _).mono ?_
 rintro e w1 ⟨z, rfl, hz, rfl⟩
 have HZ := Lib.hid hz
 clear hz
 go_wp2_with fail
 go_ret
 exact ⟨_, rfl, HZ.out, by go_grown⟩
set_option maxRecDepth 100000 in
set_option maxHeartbeats 2000000 in
theorem swapRange_any (base g off n c : Nat) (P X M Y S : List PkV) (fv : Value) (w0 w : World) (h : SoP base g off n c w0 (P ++ X ++ M ++ Y ++ S) w) (hxy : X.length = Y.length) (hn : n ≤ 1048576) :
  Calls Tryz.prog 193 #[.slice (some ⟨g, off, none⟩) n c, .int .i64 P.length, .int .i64 (P.length + X.length + M.length), .int .i64 X.length, fv] w
   fun e w' => e = .returned (.tuple #[]) ∧ SoP base g off n c w0 (P ++ Y ++ M ++ X ++ S) w' := by
 have hlen : P.length + X.length + M.length + Y.length + S.length = n := by rw [← h.len]; simp only [List.length_append]
 have HS := Lib.hid h
 have HXY := Lib.hid hxy
 obtain ⟨a, ha⟩ : ∃ a, a = P.length := ⟨_, rfl⟩
 obtain ⟨b, hb⟩ : ∃ b : Nat, b = P.length + X.length + M.length := ⟨_, rfl⟩
 obtain ⟨m, hm⟩ : ∃ m, m = X.length := ⟨_, rfl⟩
 rw [show ((P.length : Int) + X.length + M.length) = (b : Int) by omega, ← ha, ← hm]
 have HA := Lib.hid ha
 have HB := Lib.hid hb
 have HM := Lib.hid hm
 have ham : a + m ≤ n := by omega
 have hbm : b + m ≤ n := by omega
 have hab : a + m ≤ b := by omega
 clear h hxy hlen ha hb hm
 go_enter Tryz.func193, Tryz.ntmps193
 go_wp2
 go_loopw [10] (fun i wr => ∃ t : Nat, i = .int .i64 t ∧ t ≤ m ∧ SoP base g off n c w0 (Stab.xch P X M Y S t) wr) (fun i _ => m - (intOf i).toNat)
 case atStart => exact ⟨0, rfl, Nat.zero_le _, by rw [Stab.xch_zero]; exact HS.out⟩
 case round =>
  obtain ⟨t, rfl, htm, hR⟩ := hrel
  have HR := Lib.hid hR
  clear hR
  by_cases hlt : t < m
  ·have hx : t < X.length := by have := HM.out; omega
   have hy : t < Y.length := by have := HM.out; have := HXY.out; omega
   obtain ⟨x, hxe⟩ : ∃ x, x = X[t] := ⟨_, rfl⟩
   obtain ⟨y, hye⟩ : ∃ y, y = Y[t] := ⟨_, rfl⟩
   obtain ⟨i, hi⟩ : ∃ i, i = a + t := ⟨_, rfl⟩
   obtain ⟨j, hj⟩ : ∃ j, j = b + t := ⟨_, rfl⟩
   have q1 : IntKind.i64.wrap ((a : Int) + t) = (i : Int) := by rw [show (a : Int) + t = (i : Int) by omega]; exact IntWalk.i64_in _ (by omega)
   have q2 : IntKind.i64.wrap ((b : Int) + t) = (j : Int) := by rw [show (b : Int) + t = (j : Int) by omega]; exact IntWalk.i64_in _ (by omega)
   have HST := Lib.hid (show Stab.swp (Stab.xch P X M Y S t) i j x y = Stab.xch P X M Y S (t + 1) by rw [hxe, hye]; exact Stab.xch_step P X M Y S t i j hx hy (by rw [hi, HA.out]) (by rw [hj, HB.out]))
   have cx := HR.out.at i x (by rw [hxe]; exact Stab.xch_fst P X M Y S t i hx hy (by rw [hi, HA.out]))
   have cy := HR.out.at j y (by rw [hye]; exact Stab.xch_snd P X M Y S t j hx hy (by rw [hj, HB.out]))
   have p0 : (0 : Int) ≤ (i : Int) := by omega
   have p1 : (i : Int) < (n : Int) := by omega
   have p2 : (0 : Int) ≤ (j : Int) := by omega
   have p3 : (j : Int) < (n : Int) := by omega
   have hij : i < j := by omega
   have fx := HR.out.free i (by omega)
   have fy := HR.out.free j (by omega)
   obtain ⟨cx0, cx1⟩ := cx
   obtain ⟨cy0, cy1⟩ := cy
   obtain ⟨fx0, fx1⟩ := fx
   obtain ⟨fy0, fy1⟩ := fy
   clear hxe hye hi hj
   go_wp2_with fail
   go_big_region
   have hS := (HR.out.swapC i j (by omega) (by omega) x y _ HST.out).drew
   have HSS := Lib.hid hS
   clear hS cx0 cx1 cy0 cy1 fx0 fx1 fy0 fy1 q1 q2
   go_wp2
   go_roundw
   case rel => exact ⟨t + 1, by go_num, by omega, HSS.out⟩
   case measure => simp [intOf]; omega
  ·obtain rfl : t = m := by omega
   go_wp2
   go_end0
   refine ⟨rfl, ?_⟩
   have h := HR.out
   rw [HM.out, Stab.xch_all P X M Y S HXY.out] at h
   exact h
end Go.Proofs.YtkegkelaffohjaaGreatDoor
namespace Go.Proofs.YtkegkelaffohjaaGreatDoor
open Go Go.RowKit
open Stab
def cmpV : Value := .func (.func 171) #[] #[]
def SortedTo (base g off n c : Nat) (P L S : List PkV) (w0 w' : World) : Prop := ∃ L', SoP base g off n c w0 (P ++ L' ++ S) w' ∧ Same pkvKey L L' ∧ Srt pkvKey L'
def SmallU (l : List PkV) : Prop := ∀ x ∈ l, x.1 ≤ 1099511627776
theorem ins_done {base g off n c : Nat} {P L Q R S : List PkV} {x : PkV} {t : Nat} {w0 wr : World} (hs : Same pkvKey L (Q ++ x :: R)) (hq : Srt pkvKey Q) (h : SoP base g off n c w0 (mov P x Q (R ++ S) t) wr) (_ht : t ≤ Q.length)
  (h1 : t = 0 ∨ ∃ h1 : t - 1 < Q.length, pkvKey Q[t - 1] ≤ pkvKey x) (h2 : t = Q.length ∨ ∃ h1 : t < Q.length, pkvKey x + 1 ≤ pkvKey Q[t]) :
  ∃ Q' : List PkV, Q'.length = Q.length + 1 ∧ SoP base g off n c w0 (P ++ Q' ++ R ++ S) wr ∧ Same pkvKey L (Q' ++ R) ∧ Srt pkvKey Q' := by
 obtain ⟨a1, a2⟩ := one_last hq t h1 h2
 refine ⟨Q.take t ++ x :: Q.drop t, ?_, ?_, ?_, a2⟩
 ·rw [List.length_append, List.length_cons, List.length_take, List.length_drop]; omega
 ·unfold mov at h
  simpa using h
 ·have h3 : Same pkvKey (Q ++ x :: R) ((Q ++ [x]) ++ R) := by rw [List.append_assoc]; exact Same.refl _
  exact hs.trans (h3.trans (a1.append (Same.refl R)))
set_option maxRecDepth 100000 in
set_option maxHeartbeats 2000000 in
theorem insSort_any (base g off n c : Nat) (P L S : List PkV) (w0 w : World) (a b : Nat) (ha : a = P.length) (hb : b = P.length + L.length) (h : SoP base g off n c w0 (P ++ L ++ S) w) (hu : SmallU L) (hn : n ≤ 1048576) :
  Calls Tryz.prog 189 #[.slice (some ⟨g, off, none⟩) n c, .int .i64 a, .int .i64 b, cmpV] w
   fun e w' => e = .returned (.tuple #[]) ∧ SortedTo base g off n c P L S w0 w' := by
 have hlen : P.length + L.length + S.length = n := by rw [← h.len]; simp only [List.length_append]
 have HS := Lib.hid h
 have HA := Lib.hid ha
 have HB := Lib.hid hb
 have HU := Lib.hid hu
 have hab : a ≤ b := by omega
 have hbn : b ≤ n := by omega
 clear h hlen ha hb hu
 unfold cmpV
 rcases Nat.eq_zero_or_pos L.length with hz | hpos
 ·have h1 : ¬ (a : Int) + 1 < (b : Int) := by have := HA.out; have := HB.out; omega
  have HL := Lib.hid (List.eq_nil_of_length_eq_zero hz)
  clear hz
  go_enter Tryz.func189, Tryz.ntmps189
  go_wp2
  go_loopw [8] (fun i wr => i = .int .i64 ((a : Int) + 1) ∧ w = wr) (fun i _ => 0)
  case atStart => exact ⟨rfl, rfl⟩
  case round =>
   obtain ⟨rfl, rfl⟩ := hrel
   go_wp2
   go_end0
   exact ⟨rfl, L, HS.out, Same.refl _, by rw [HL.out]; exact List.Pairwise.nil⟩
 have H0 := Lib.hid (show ∃ (Q R : List PkV), (Value.int .i64 ((a : Int) + 1)) = .int .i64 ((a : Int) + Q.length) ∧ a + Q.length + R.length = b ∧ SoP base g off n c w0 (P ++ Q ++ R ++ S) w ∧ Same pkvKey L (Q ++ R) ∧ Srt pkvKey Q by
  refine ⟨L.take 1, L.drop 1, ?_, ?_, ?_, ?_, ?_⟩
  ·rw [List.length_take, Nat.min_eq_left (by omega)]; rfl
  ·rw [List.length_take, List.length_drop]; have := HA.out; have := HB.out; omega
  ·rw [List.append_assoc P, List.take_append_drop]; exact HS.out
  ·rw [List.take_append_drop]; exact Same.refl _
  ·match L, hpos with
   | x :: r, _ => exact srt_one x)
 clear hpos
 go_enter Tryz.func189, Tryz.ntmps189
 go_wp2
 go_loopw [8] (fun i wr => ∃ (Q R : List PkV), i = .int .i64 ((a : Int) + Q.length) ∧ a + Q.length + R.length = b ∧ SoP base g off n c w0 (P ++ Q ++ R ++ S) wr ∧ Same pkvKey L (Q ++ R) ∧ Srt pkvKey Q) (fun i _ => b - (intOf i).toNat)
 case atStart => exact H0.out
 case round =>
  clear H0
  obtain ⟨Q, R, rfl, hlen, hR, hsame, hsrt⟩ := hrel
  have HR := Lib.hid hR
  have HSA := Lib.hid hsame
  have HSR := Lib.hid hsrt
  clear hR hsame hsrt
  match R with
  | [] =>
   have h1 : ¬ (a : Int) + Q.length < (b : Int) := by simp at hlen; omega
   clear hlen
   go_wp2
   go_end0
   have h := HR.out
   have h2 := HSA.out
   rw [List.append_nil] at h h2
   exact ⟨rfl, Q, h, h2, HSR.out⟩
  | x :: R =>
   have hq : a + Q.length + 1 + R.length = b := by simp at hlen; omega
   have h1 : (a : Int) + Q.length < (b : Int) := by omega
   clear hlen
   obtain ⟨q, hqe⟩ : ∃ q, q = Q.length := ⟨_, rfl⟩
   have HQ := Lib.hid hqe
   rw [← hqe] at hq h1 ⊢
   clear hqe
   have HUX := Lib.hid (show SmallU (Q ++ x :: R) from fun y hy => HU.out y (HSA.out.symm.mem hy))
   obtain ⟨wo, rfl⟩ : ∃ wo : World, wo = wr := ⟨_, rfl⟩
   go_wp2
   go_loopw [9] (fun j wr => ∃ t : Nat, j = .int .i64 ((a : Int) + t) ∧ t ≤ q ∧ SoP base g off n c w0 (mov P x Q (R ++ S) t) wr ∧ (t = q ∨ ∃ h1 : t < Q.length, pkvKey x + 1 ≤ pkvKey Q[t])) (fun j _ => (intOf j).toNat - a)
   case atStart =>
    refine ⟨q, rfl, Nat.le_refl _, ?_, .inl rfl⟩
    rw [mov_all P x Q (R ++ S) q (by rw [HQ.out]; exact Nat.le_refl _)]
    simpa using HR.out
   case round =>
    obtain ⟨t, rfl, htq, hM, hT⟩ := hrel
    have HMv := Lib.hid hM
    have HT := Lib.hid hT
    clear hM hT
    rcases Nat.eq_zero_or_pos t with rfl | ht0
    ·rw [show (a : Int) + ((0 : Nat) : Int) = (a : Int) by omega]
     have h2 : ¬ a < a := by omega
     have h3 : decide (a < a) = false := decide_eq_false h2
     go_wp2_with fail
     go_big_region
     go_wp2
     go_roundw
     case rel =>
      obtain ⟨Q', e1, e2, e3, e4⟩ := ins_done HSA.out HSR.out HMv.out.drew (Nat.zero_le _) (.inl rfl) (by have h := HT.out; rw [HQ.out] at h; exact h)
      exact ⟨Q', R, by rw [e1, HQ.out]; congr 1, by rw [e1, ← HQ.out]; omega, e2, e3, e4⟩
     case measure => simp [intOf] <;> omega
    ·obtain ⟨t, rfl⟩ : ∃ t', t = t' + 1 := ⟨t - 1, by omega⟩
     have hql : t < Q.length := by have := HQ.out; omega
     obtain ⟨y, hye⟩ : ∃ y, y = Q[t] := ⟨_, rfl⟩
     obtain ⟨jp, hjp⟩ : ∃ jp, jp = a + t := ⟨_, rfl⟩
     obtain ⟨j, hj⟩ : ∃ j, j = jp + 1 := ⟨_, rfl⟩
     rw [show (a : Int) + ((t + 1 : Nat) : Int) = (j : Int) by omega]
     have cx := HMv.out.at j x (mov_fst P x Q (R ++ S) (t + 1) j (by omega) (by have := HA.out; omega))
     have cy := HMv.out.at jp y (by rw [hye]; exact mov_pred P x Q (R ++ S) t jp hql (by have := HA.out; omega))
     obtain ⟨cx0, cx1⟩ := cx
     obtain ⟨cy0, cy1⟩ := cy
     have q1 : IntKind.i64.wrap ((j : Int) - 1) = (jp : Int) := by rw [show (j : Int) - 1 = (jp : Int) by omega]; exact IntWalk.i64_in _ (by omega)
     have p0 : (0 : Int) ≤ (j : Int) := by omega
     have p1 : (j : Int) < (n : Int) := by omega
     have p2 : (0 : Int) ≤ (jp : Int) := by omega
     have p3 : (jp : Int) < (n : Int) := by omega
     have p4 : (a : Int) < (j : Int) := by omega
     have p6 : a < j := by omega
     have p5 : decide (a < j) = true := decide_eq_true p6
     have HJ := Lib.hid hj
     have HJP := Lib.hid hjp
     have HYE := Lib.hid hye
     have HUXY := Lib.hid (show x.1 ≤ 1099511627776 ∧ y.1 ≤ 1099511627776 from ⟨HUX.out x (by simp), HUX.out y (by rw [hye]; simp)⟩)
     clear hj hjp hye
     go_wp2_with fail
     refine wp_region_held_drew (S := (fun w' => w'.cell? ⟨g, off + j * 2, none⟩ = some (.int .i64 x.1) ∧ w'.cell? ⟨g, off + j * 2 + 1, none⟩ = some (.slice x.A x.sy.length x.c) ∧ w'.cell? ⟨g, off + jp * 2, none⟩ = some (.int .i64 y.1) ∧ w'.cell? ⟨g, off + jp * 2 + 1, none⟩ = some (.slice y.A y.sy.length y.c))) (by kernel_rfl) ?_ (fun hHeld => ?_)
     ·exact ⟨cx0, cx1, cy0, cy1⟩
     refine opT 0 rfl ?_; refine opT 1 rfl ?_; refine opT 2 rfl ?_; refine opT 3 rfl ?_; refine opT 4 rfl ?_; refine opT 5 rfl ?_; refine opT 6 rfl ?_; refine opT 7 rfl ?_; refine opT 8 rfl ?_; refine opT 9 rfl ?_; refine opT 10 rfl ?_; refine opT 11 rfl ?_; refine opT 12 rfl ?_; refine opT 13 rfl ?_
     refine opD 14 rfl (fun K hK => ?_)
     go_simp
     (go_at_call 171; refine (cmpUse_any x y wr.drew HUXY.out.1 HUXY.out.2).mono ?_; rintro e wC ⟨zc, rfl, hzc, hbC⟩; have HZC := Lib.hid hzc; clear hzc)
     refine hK.out _ _ ?_ (fun hHeld => ?_)
     ·exact ⟨bkeep (Below.fromDrew hbC) cx0, bkeep (Below.fromDrew hbC) cx1, bkeep (Below.fromDrew hbC) cy0, bkeep (Below.fromDrew hbC) cy1⟩
     clear hK K
     (try simp only [Act.put, nz1, nz2, nz3, nz4, nz5, nz6])
     refine opT 15 rfl ?_; refine opT 16 rfl ?_
     refine wpAnyH_done (by kernel_rfl) ?_ _
     have HMC := Lib.hid (HMv.out.below (Below.fromDrew hbC))
     clear cx0 cx1 cy0 cy1 hbC
     rcases HZC.out with ⟨hc, hcc⟩ | ⟨hc, hcc⟩
     ·have hjj := HJ.out
      have hjpp := HJP.out
      obtain ⟨dx0, dx1⟩ := HMC.out.at j x (mov_fst P x Q (R ++ S) (t + 1) j (by omega) (by have := HA.out; omega))
      obtain ⟨dy0, dy1⟩ := HMC.out.at jp y (by rw [HYE.out]; exact mov_pred P x Q (R ++ S) t jp hql (by have := HA.out; omega))
      obtain ⟨fx0, fx1⟩ := HMC.out.free j (by omega)
      obtain ⟨fy0, fy1⟩ := HMC.out.free jp (by omega)
      have hne : jp < j := by omega
      clear hjj hjpp
      go_wp2_with fail
      go_big_region
      have HSS := Lib.hid (HMC.out.swapC j jp (by omega) (by omega) x y (mov P x Q (R ++ S) t) (by rw [HYE.out]; exact mov_back P x Q (R ++ S) t jp j hql (by rw [HJP.out, HA.out]) (by rw [HJ.out, HJP.out, HA.out]))).drew
      clear dx0 dx1 dy0 dy1 fx0 fx1 fy0 fy1 q1
      go_wp2
      go_roundw
      case rel => exact ⟨t, by have := HJ.out; have := HJP.out; congr 1; omega, by have := HQ.out; omega, HSS.out, .inr ⟨hql, by have := HYE.out; rw [← this]; unfold pkvKey; omega⟩⟩
      case measure => have := HJ.out; have := HJP.out; simp [intOf] <;> omega
     ·go_wp2
      go_roundw
      case rel =>
       obtain ⟨Q', e1, e2, e3, e4⟩ := ins_done HSA.out HSR.out HMC.out hql (.inr ⟨hql, by have := HYE.out; show pkvKey Q[t] ≤ _; rw [← this]; unfold pkvKey; omega⟩) (by have h := HT.out; rw [HQ.out] at h; exact h)
       exact ⟨Q', R, by rw [e1, HQ.out]; congr 1, by rw [e1, ← HQ.out]; omega, e2, e3, e4⟩
      case measure => simp [intOf] <;> omega
end Go.Proofs.YtkegkelaffohjaaGreatDoor
namespace Go.Proofs.YtkegkelaffohjaaGreatDoor
open Go Go.RowKit
theorem swapRange_as (base g off n c : Nat) (P X M Y S : List PkV) (fv : Value) (w0 w : World) (a b m : Int) (ha : a = P.length) (hb : b = P.length + X.length + M.length) (hm : m = X.length) (h : SoP base g off n c w0 (P ++ X ++ M ++ Y ++ S) w) (hxy : X.length = Y.length) (hn : n ≤ 1048576) :
  Calls Tryz.prog 193 #[.slice (some ⟨g, off, none⟩) n c, .int .i64 a, .int .i64 b, .int .i64 m, fv] w
   fun e w' => e = .returned (.tuple #[]) ∧ SoP base g off n c w0 (P ++ Y ++ M ++ X ++ S) w' := by
 subst ha hb hm
 exact swapRange_any base g off n c P X M Y S fv w0 w h hxy hn
def RoR (base g off n c : Nat) (w0 : World) (m : Nat) (T : List PkV) (i j : Value) (wr : World) : Prop :=
 ∃ (Pre X Y Post : List PkV), i = .int .i64 X.length ∧ j = .int .i64 Y.length ∧ 0 < X.length ∧ 0 < Y.length ∧ Pre.length + X.length = m ∧ m + Y.length ≤ n ∧ Pre ++ Y ++ X ++ Post = T ∧ SoP base g off n c w0 (Pre ++ X ++ Y ++ Post) wr
set_option maxRecDepth 100000 in
set_option maxHeartbeats 2000000 in
theorem rotate_any (base g off n c : Nat) (P U V S : List PkV) (fv : Value) (w0 w : World) (a m b : Nat) (ha : a = P.length) (hm : m = P.length + U.length) (hb : b = P.length + U.length + V.length) (h : SoP base g off n c w0 (P ++ U ++ V ++ S) w) (hU : 0 < U.length) (hV : 0 < V.length) (hn : n ≤ 1048576) :
  Calls Tryz.prog 192 #[.slice (some ⟨g, off, none⟩) n c, .int .i64 a, .int .i64 m, .int .i64 b, fv] w
   fun e w' => e = .returned (.tuple #[]) ∧ SoP base g off n c w0 (P ++ V ++ U ++ S) w' := by
 have hlen : P.length + U.length + V.length + S.length = n := by rw [← h.len]; simp only [List.length_append]
 have HS := Lib.hid h
 have ham : a ≤ m := by omega
 have hmb : m ≤ b := by omega
 have hbn : b ≤ n := by omega
 have H0 := Lib.hid (show RoR base g off n c w0 m (P ++ V ++ U ++ S) (.int .i64 ((m : Int) - a)) (.int .i64 ((b : Int) - m)) w from ⟨P, U, V, S, by congr 1; omega, by congr 1; omega, hU, hV, by omega, by omega, rfl, h⟩)
 clear h hlen ha hm hb hU hV
 go_enter Tryz.func192, Tryz.ntmps192
 go_wp2
 go_loopw [10, 11] (fun i j wr => RoR base g off n c w0 m (P ++ V ++ U ++ S) i j wr) (fun i j _ => (intOf i).toNat + (intOf j).toNat)
 case atStart => exact H0.out
 case round =>
  obtain ⟨Pre, X, Y, Post, rfl, rfl, hX, hY, hmX, hmY, hT, hR⟩ := hrel
  have HR := Lib.hid hR
  have HT := Lib.hid hT
  clear hR hT
  rcases Nat.lt_trichotomy X.length Y.length with hlt | heq | hgt
  ·have e1 : ((X.length : Int) == (Y.length : Int)) = false := by simp; omega
   have e2 : ((X.length : Int) != (Y.length : Int)) = true := by simp; omega
   have e3 : ¬ (Y.length : Int) < (X.length : Int) := by omega
   obtain ⟨Y1, Y2, hY12, hY2⟩ : ∃ Y1 Y2, Y = Y1 ++ Y2 ∧ Y2.length = X.length := ⟨Y.take (Y.length - X.length), Y.drop (Y.length - X.length), (List.take_append_drop _ _).symm, by rw [List.length_drop]; omega⟩
   have hyl : Y.length = Y1.length + Y2.length := by rw [hY12, List.length_append]
   have HY := Lib.hid hY12
   have HR2 := Lib.hid (show SoP base g off n c w0 (Pre ++ X ++ Y1 ++ Y2 ++ Post) wr by have h := HR.out; rw [hY12] at h; simpa using h)
   clear hY12
   have q1 : IntKind.i64.wrap ((m : Int) - X.length) = (m : Int) - X.length := IntWalk.i64_in _ (by omega)
   go_wp2_with fail
   refine (swapRange_as base g off n c Pre X Y1 Y2 Post fv w0 wr _ _ _ (by omega) (by omega) (by omega) HR2.out (by omega) hn).mono ?_
   rintro e w1 ⟨rfl, hS1⟩
   have HS1 := Lib.hid hS1
   clear hS1 q1
   go_wp2
   go_roundw
   case rel => exact ⟨Pre, Y2, Y1, X ++ Post, by first | (congr 1; done) | (congr 1; omega), by first | (congr 1; done) | (congr 1; omega), by omega, by omega, by omega, by omega, by rw [← HT.out, HY.out]; simp, by have h := HS1.out; simpa using h⟩
   case measure => simp [intOf] <;> omega
  ·have e1 : ((X.length : Int) == (Y.length : Int)) = true := by simp; omega
   have e2 : ((X.length : Int) != (Y.length : Int)) = false := by simp; omega
   go_wp2_with fail
   refine (swapRange_as base g off n c Pre X [] Y Post fv w0 wr _ _ _ (by omega) (by simp; omega) (by omega) (by simpa using HR.out) (by omega) hn).mono ?_
   rintro e w1 ⟨rfl, hS1⟩
   have HS1 := Lib.hid hS1
   clear hS1
   go_wp2
   go_end0
   exact ⟨rfl, by rw [← HT.out]; simpa using HS1.out⟩
  ·have e1 : ((X.length : Int) == (Y.length : Int)) = false := by simp; omega
   have e2 : ((X.length : Int) != (Y.length : Int)) = true := by simp; omega
   have e3 : (Y.length : Int) < (X.length : Int) := by omega
   obtain ⟨X1, X2, hX12, hX1⟩ : ∃ X1 X2, X = X1 ++ X2 ∧ X1.length = Y.length := ⟨X.take Y.length, X.drop Y.length, (List.take_append_drop _ _).symm, by rw [List.length_take]; omega⟩
   have hxl : X.length = X1.length + X2.length := by rw [hX12, List.length_append]
   have HX := Lib.hid hX12
   have HR2 := Lib.hid (show SoP base g off n c w0 (Pre ++ X1 ++ X2 ++ Y ++ Post) wr by have h := HR.out; rw [hX12] at h; simpa using h)
   clear hX12
   go_wp2_with fail
   refine (swapRange_as base g off n c Pre X1 X2 Y Post fv w0 wr _ _ _ (by omega) (by omega) (by omega) HR2.out (by omega) hn).mono ?_
   rintro e w1 ⟨rfl, hS1⟩
   have HS1 := Lib.hid hS1
   clear hS1
   go_wp2
   go_roundw
   case rel => exact ⟨Pre ++ Y, X2, X1, Post, by first | (congr 1; done) | (congr 1; omega), by first | (congr 1; done) | (congr 1; omega), by omega, by omega, by rw [List.length_append]; omega, by omega, by rw [← HT.out, HX.out]; simp, by have h := HS1.out; simpa using h⟩
   case measure => simp [intOf] <;> omega
end Go.Proofs.YtkegkelaffohjaaGreatDoor
namespace Go.Proofs.YtkegkelaffohjaaGreatDoor
open Go Go.RowKit
open Stab
def SeekA (B : List PkV) (x : PkV) (lo hi : Nat) : Prop := (lo = 0 ∨ ∃ h1 : lo - 1 < B.length, pkvKey B[lo - 1] ≤ pkvKey x - 1) ∧ (hi = B.length ∨ ∃ h1 : hi < B.length, pkvKey x ≤ pkvKey B[hi])
def SeekB (A : List PkV) (y : PkV) (lo hi : Nat) : Prop := (lo = 0 ∨ ∃ h1 : lo - 1 < A.length, pkvKey A[lo - 1] ≤ pkvKey y) ∧ (hi = A.length ∨ ∃ h1 : hi < A.length, pkvKey y + 1 ≤ pkvKey A[hi])
set_option maxRecDepth 100000 in
set_option maxHeartbeats 2000000 in
theorem symFirst_any (base g off n c : Nat) (P B S : List PkV) (x : PkV) (w0 w : World) (a m b : Nat) (ha : a = P.length) (hm : m = a + 1) (hb : b = m + B.length) (hB0 : 0 < B.length) (h : SoP base g off n c w0 (P ++ [x] ++ B ++ S) w) (hu : SmallU (x :: B)) (hB : Srt pkvKey B) (hn : n ≤ 1048576) :
  Calls Tryz.prog 190 #[.slice (some ⟨g, off, none⟩) n c, .int .i64 a, .int .i64 m, .int .i64 b, cmpV] w
   fun e w' => e = .returned (.tuple #[]) ∧ SortedTo base g off n c P ([x] ++ B) S w0 w' := by
 have hlen : P.length + 1 + B.length + S.length = n := by rw [← h.len]; simp only [List.length_append, List.length_singleton]
 have HS := Lib.hid (show SoP base g off n c w0 (mov P x B S 0) w by rw [mov_zero]; simpa using h)
 have HA := Lib.hid ha
 have HM := Lib.hid hm
 have HB := Lib.hid hb
 have HU := Lib.hid hu
 have HUXX := Lib.hid (hu x (List.mem_cons_self))
 have HSB := Lib.hid hB
 have hbn : b ≤ n := by omega
 have hmb : m < b := by omega
 have ham : a ≤ m := by omega
 have he : ((m : Int) - a == 1) = true := by simp; omega
 clear h hlen ha hm hb hu hB hB0
 unfold cmpV
 go_enter Tryz.func190, Tryz.ntmps190
 go_wp2
 go_loopw [10, 11] (fun i j wr => ∃ lo hi I J : Nat, i = .int .i64 I ∧ j = .int .i64 J ∧ I = m + lo ∧ J = m + hi ∧ lo ≤ hi ∧ hi ≤ B.length ∧ SeekA B x lo hi ∧ SoP base g off n c w0 (mov P x B S 0) wr) (fun i j _ => (intOf j).toNat - (intOf i).toNat)
 case atStart => exact ⟨0, B.length, m, b, rfl, rfl, rfl, HB.out, Nat.zero_le _, Nat.le_refl _, ⟨.inl rfl, .inl rfl⟩, HS.out⟩
 case round =>
  obtain ⟨lo, hi, I, J, rfl, rfl, hI, hJ, hlh, hhb, hsk, hR⟩ := hrel
  have HMC := Lib.hid hR
  have HSK := Lib.hid hsk
  have HI := Lib.hid hI
  have HJ := Lib.hid hJ
  clear hR hsk
  by_cases hlt : I < J
  ·have b1 : J ≤ n := by have := HB.out; omega
   obtain ⟨H, hH⟩ : ∃ H, H = (I + J) / 2 := ⟨_, rfl⟩
   have hh : ((I : Int) + J) / 2 = (H : Int) := by omega
   have HH := Lib.hid hH
   have hH1 : I ≤ H ∧ H < J := by omega
   have HHI := Lib.hid hH1
   obtain ⟨t, ht⟩ : ∃ t, H = m + t := ⟨H - m, by omega⟩
   have HT := Lib.hid ht
   have htl : t < B.length := by omega
   obtain ⟨y, hye⟩ : ∃ y, y = B[t] := ⟨_, rfl⟩
   have HYE := Lib.hid hye
   have HUY := Lib.hid (show y.1 ≤ 1099511627776 from HU.out y (by rw [hye]; exact List.mem_cons_of_mem _ (List.getElem_mem htl)))
   obtain ⟨cx0, cx1⟩ := HMC.out.at a x (mov_fst P x B S 0 a (by omega) (by rw [HA.out]; rfl))
   obtain ⟨cy0, cy1⟩ := HMC.out.at H y (by
    rw [mov_zero, hye, ht, HM.out, HA.out, List.getElem?_append_right (by omega), show P.length + 1 + t - P.length = t + 1 by omega, List.getElem?_cons_succ, List.getElem?_append_left htl, List.getElem?_eq_getElem htl])
   have p0 : (0 : Int) ≤ (H : Int) := by omega
   have p1 : (H : Int) < (n : Int) := by omega
   have p2 : (0 : Int) ≤ (a : Int) := by omega
   have p3 : (a : Int) < (n : Int) := by omega
   clear hI hJ hH ht hye hH1
   go_wp2_with fail
   refine wp_region_held_drew (S := (fun w' => w'.cell? ⟨g, off + a * 2, none⟩ = some (.int .i64 x.1) ∧ w'.cell? ⟨g, off + a * 2 + 1, none⟩ = some (.slice x.A x.sy.length x.c) ∧ w'.cell? ⟨g, off + H * 2, none⟩ = some (.int .i64 y.1) ∧ w'.cell? ⟨g, off + H * 2 + 1, none⟩ = some (.slice y.A y.sy.length y.c))) (by kernel_rfl) ?_ (fun hHeld => ?_)
   ·exact ⟨cx0, cx1, cy0, cy1⟩
   refine opT 0 rfl ?_; refine opT 1 rfl ?_; refine opT 2 rfl ?_; refine opT 3 rfl ?_; refine opT 4 rfl ?_; refine opT 5 rfl ?_; refine opT 6 rfl ?_; refine opT 7 rfl ?_; refine opT 8 rfl ?_
   refine opD 9 rfl (fun K hK => ?_)
   go_simp
   (go_at_call 171; refine (cmpUse_any y x wr.drew HUY.out HUXX.out).mono ?_; rintro e wC ⟨zc, rfl, hzc, hbC⟩; have HZC := Lib.hid hzc; clear hzc)
   refine hK.out _ _ ?_ (fun hHeld => ?_)
   ·exact ⟨bkeep (Below.fromDrew hbC) cx0, bkeep (Below.fromDrew hbC) cx1, bkeep (Below.fromDrew hbC) cy0, bkeep (Below.fromDrew hbC) cy1⟩
   clear hK K
   (try simp only [Act.put, nz1, nz2, nz3, nz4, nz5, nz6])
   refine opT 10 rfl ?_
   refine wpAnyH_done (by kernel_rfl) ?_ _
   have HM2 := Lib.hid (HMC.out.below (Below.fromDrew hbC))
   clear cx0 cx1 cy0 cy1 hbC
   rcases HZC.out with ⟨hc, hcc⟩ | ⟨hc, hcc⟩
   ·go_wp2
    go_roundw
    case rel => exact ⟨t + 1, hi, H + 1, J, by congr 1, rfl, by rw [HT.out]; rfl, HJ.out, by have := HJ.out; have := HT.out; have := HHI.out; omega, hhb, ⟨.inr ⟨by omega, by show pkvKey B[t] ≤ _; rw [← HYE.out]; unfold pkvKey; omega⟩, HSK.out.2⟩, HM2.out⟩
    case measure => have := HHI.out; simp [intOf] <;> omega
   ·go_wp2
    go_roundw
    case rel => exact ⟨lo, t, I, H, rfl, rfl, HI.out, HT.out, by have := HI.out; have := HT.out; have := HHI.out; omega, by omega, ⟨HSK.out.1, .inr ⟨htl, by rw [← HYE.out]; unfold pkvKey; omega⟩⟩, HM2.out⟩
    case measure => have := HHI.out; simp [intOf] <;> omega
  ·obtain rfl : lo = hi := by omega
   have hIJ : I = J := by omega
   subst hIJ
   obtain ⟨I1, hI1⟩ : ∃ I1, I = I1 + 1 := ⟨I - 1, by have := HM.out; omega⟩
   have q9 : IntKind.i64.wrap ((I : Int) - 1) = (I1 : Int) := by rw [show (I : Int) - 1 = (I1 : Int) by omega]; exact IntWalk.i64_in _ (by have := HB.out; omega)
   have HI1 := Lib.hid hI1
   have q8 : (I : Int) - 1 = (I1 : Int) := by omega
   have bI : I ≤ n := by have := HB.out; omega
   clear hI hJ hI1
   obtain ⟨wo, rfl⟩ : ∃ wo : World, wo = wr := ⟨_, rfl⟩
   go_wp2
   go_loopw [13] (fun k wr => ∃ t K : Nat, k = .int .i64 K ∧ K = a + t ∧ t ≤ lo ∧ SoP base g off n c w0 (mov P x B S t) wr) (fun k _ => I - (intOf k).toNat)
   case atStart => exact ⟨0, a, rfl, rfl, Nat.zero_le _, HMC.out⟩
   case round =>
    obtain ⟨t, K, rfl, hK, htlo, hR⟩ := hrel
    clear HMC
    have HMC := Lib.hid hR
    have HKK := Lib.hid hK
    clear hR
    by_cases hlt2 : K < I1
    ·have htl : t < B.length := by have := HI1.out; have := HI.out; have := HM.out; omega
     obtain ⟨y, hye⟩ : ∃ y, y = B[t] := ⟨_, rfl⟩
     have HYE := Lib.hid hye
     obtain ⟨K1, hK1⟩ : ∃ K1, K1 = K + 1 := ⟨_, rfl⟩
     have q1 : IntKind.i64.wrap ((K : Int) + 1) = (K1 : Int) := by rw [show (K : Int) + 1 = (K1 : Int) by omega]; exact IntWalk.i64_in _ (by have := HI1.out; omega)
     have hK1n : K1 < n := by have := HI1.out; omega
     obtain ⟨dx0, dx1⟩ := HMC.out.at K x (mov_fst P x B S t K (by omega) (by have := HA.out; have := HKK.out; omega))
     obtain ⟨dy0, dy1⟩ := HMC.out.at K1 y (by rw [HYE.out]; exact mov_snd P x B S t K1 htl (by have := HA.out; have := HKK.out; omega))
     obtain ⟨fx0, fx1⟩ := HMC.out.free K (by omega)
     obtain ⟨fy0, fy1⟩ := HMC.out.free K1 (by omega)
     have p0 : (0 : Int) ≤ (K : Int) := by omega
     have p1 : (K : Int) < (n : Int) := by omega
     have p2 : (0 : Int) ≤ (K1 : Int) := by omega
     have p3 : (K1 : Int) < (n : Int) := by omega
     have hne : K < K1 := by omega
     have htl2 : t + 1 ≤ lo := by have := HI1.out; have := HI.out; have := HM.out; omega
     have HK1 := Lib.hid hK1
     clear hye hK hK1
     go_wp2_with fail
     go_big_region
     have HSS := Lib.hid (HMC.out.swapC K K1 (by omega) (by omega) x y (mov P x B S (t + 1)) (by rw [HYE.out]; exact mov_step P x B S t K K1 htl (by rw [HKK.out, HA.out]) (by have := HA.out; have := HKK.out; have := HK1.out; omega))).drew
     clear dx0 dx1 dy0 dy1 fx0 fx1 fy0 fy1
     go_wp2
     go_roundw
     case rel => exact ⟨t + 1, K1, rfl, by rw [HK1.out, HKK.out]; rfl, htl2, HSS.out⟩
     case measure => have := HK1.out; have := HI1.out; simp [intOf] <;> omega
    ·have htt : t = lo := by have := HI1.out; have := HI.out; have := HM.out; omega
     clear hK
     go_wp2
     refine bodyPost_ret (v := .tuple #[]) (by simp [results, Tryz.results190, go_sem]) rfl ?_
     obtain ⟨e1, e2⟩ := one_first HSB.out lo HSK.out.1 HSK.out.2
     refine ⟨rfl, B.take lo ++ x :: B.drop lo, ?_, e1, e2⟩
     have h := HMC.out
     rw [htt] at h
     unfold mov at h
     simpa using h
set_option maxRecDepth 100000 in
set_option maxHeartbeats 2000000 in
theorem symLast_any (base g off n c : Nat) (P A S : List PkV) (y : PkV) (w0 w : World) (a m b : Nat) (ha : a = P.length) (hm : m = a + A.length) (hb : b = m + 1) (hA1 : A.length ≠ 1) (hA0 : 0 < A.length) (h : SoP base g off n c w0 (P ++ A ++ [y] ++ S) w) (hu : SmallU (A ++ [y])) (hSA : Srt pkvKey A) (hn : n ≤ 1048576) :
  Calls Tryz.prog 190 #[.slice (some ⟨g, off, none⟩) n c, .int .i64 a, .int .i64 m, .int .i64 b, cmpV] w
   fun e w' => e = .returned (.tuple #[]) ∧ SortedTo base g off n c P (A ++ [y]) S w0 w' := by
 have hlen : P.length + A.length + 1 + S.length = n := by rw [← h.len]; simp only [List.length_append, List.length_singleton]
 have HS := Lib.hid (show SoP base g off n c w0 (mov P y A S A.length) w by rw [mov_all _ _ _ _ _ (Nat.le_refl _)]; simpa using h)
 have HA := Lib.hid ha
 have HM := Lib.hid hm
 have HB := Lib.hid hb
 have HU := Lib.hid hu
 have HUXX := Lib.hid (hu y (List.mem_append_right _ (List.mem_singleton.2 rfl)))
 have HSB := Lib.hid hSA
 have hbn : b ≤ n := by omega
 have hmb : m < b := by omega
 have ham : a < m := by omega
 have he0 : ((m : Int) - a == 1) = false := by simp; omega
 have he : ((b : Int) - m == 1) = true := by simp; omega
 clear h hlen ha hm hb hu hSA hA0 hA1
 unfold cmpV
 go_enter Tryz.func190, Tryz.ntmps190
 go_wp2
 go_loopw [14, 15] (fun i j wr => ∃ lo hi I J : Nat, i = .int .i64 I ∧ j = .int .i64 J ∧ I = a + lo ∧ J = a + hi ∧ lo ≤ hi ∧ hi ≤ A.length ∧ SeekB A y lo hi ∧ SoP base g off n c w0 (mov P y A S A.length) wr) (fun i j _ => (intOf j).toNat - (intOf i).toNat)
 case atStart => exact ⟨0, A.length, a, m, rfl, rfl, rfl, HM.out, Nat.zero_le _, Nat.le_refl _, ⟨.inl rfl, .inl rfl⟩, HS.out⟩
 case round =>
  obtain ⟨lo, hi, I, J, rfl, rfl, hI, hJ, hlh, hhb, hsk, hR⟩ := hrel
  have HMC := Lib.hid hR
  have HSK := Lib.hid hsk
  have HI := Lib.hid hI
  have HJ := Lib.hid hJ
  clear hR hsk
  by_cases hlt : I < J
  ·have b1 : J ≤ n := by have := HM.out; omega
   obtain ⟨H, hH⟩ : ∃ H, H = (I + J) / 2 := ⟨_, rfl⟩
   have hh : ((I : Int) + J) / 2 = (H : Int) := by omega
   have hH1 : I ≤ H ∧ H < J := by omega
   have HHI := Lib.hid hH1
   obtain ⟨t, ht⟩ : ∃ t, H = a + t := ⟨H - a, by omega⟩
   have HT := Lib.hid ht
   have htl : t < A.length := by omega
   obtain ⟨x, hye⟩ : ∃ y, y = A[t] := ⟨_, rfl⟩
   have HYE := Lib.hid hye
   have HUY := Lib.hid (show x.1 ≤ 1099511627776 from HU.out x (by rw [hye]; exact List.mem_append_left _ (List.getElem_mem htl)))
   obtain ⟨cx0, cx1⟩ := HMC.out.at m y (mov_fst P y A S A.length m (Nat.le_refl _) (by rw [HM.out, HA.out]))
   obtain ⟨cy0, cy1⟩ := HMC.out.at H x (by
    rw [mov_all _ _ _ _ _ (Nat.le_refl _), hye, ht, HA.out, List.getElem?_append_left (by rw [List.length_append]; omega), List.getElem?_append_right (by omega), Nat.add_sub_cancel_left, List.getElem?_eq_getElem htl])
   have p0 : (0 : Int) ≤ (H : Int) := by omega
   have p1 : (H : Int) < (n : Int) := by omega
   have p2 : (0 : Int) ≤ (m : Int) := by omega
   have p3 : (m : Int) < (n : Int) := by omega
   clear hI hJ hH ht hye hH1
   go_wp2_with fail
   refine wp_region_held_drew (S := (fun w' => w'.cell? ⟨g, off + m * 2, none⟩ = some (.int .i64 y.1) ∧ w'.cell? ⟨g, off + m * 2 + 1, none⟩ = some (.slice y.A y.sy.length y.c) ∧ w'.cell? ⟨g, off + H * 2, none⟩ = some (.int .i64 x.1) ∧ w'.cell? ⟨g, off + H * 2 + 1, none⟩ = some (.slice x.A x.sy.length x.c))) (by kernel_rfl) ?_ (fun hHeld => ?_)
   ·exact ⟨cx0, cx1, cy0, cy1⟩
   refine opT 0 rfl ?_; refine opT 1 rfl ?_; refine opT 2 rfl ?_; refine opT 3 rfl ?_; refine opT 4 rfl ?_; refine opT 5 rfl ?_; refine opT 6 rfl ?_; refine opT 7 rfl ?_; refine opT 8 rfl ?_
   refine opD 9 rfl (fun K hK => ?_)
   go_simp
   (go_at_call 171; refine (cmpUse_any y x wr.drew HUXX.out HUY.out).mono ?_; rintro e wC ⟨zc, rfl, hzc, hbC⟩; have HZC := Lib.hid hzc; clear hzc)
   refine hK.out _ _ ?_ (fun hHeld => ?_)
   ·exact ⟨bkeep (Below.fromDrew hbC) cx0, bkeep (Below.fromDrew hbC) cx1, bkeep (Below.fromDrew hbC) cy0, bkeep (Below.fromDrew hbC) cy1⟩
   clear hK K
   (try simp only [Act.put, nz1, nz2, nz3, nz4, nz5, nz6])
   refine opT 10 rfl ?_; refine opT 11 rfl ?_
   refine wpAnyH_done (by kernel_rfl) ?_ _
   have HM2 := Lib.hid (HMC.out.below (Below.fromDrew hbC))
   clear cx0 cx1 cy0 cy1 hbC
   rcases HZC.out with ⟨hc, hcc⟩ | ⟨hc, hcc⟩
   ·have hc2 : decide (zc < 0) = true := decide_eq_true hc
    have HC2 := Lib.hid hc2
    clear hc2
    go_wp2
    ·have h : (!decide (zc < 0)) = true := by assumption
     rw [HC2.out] at h
     cases h
    go_roundw
    case rel => exact ⟨lo, t, I, H, rfl, rfl, HI.out, HT.out, by have := HI.out; have := HT.out; have := HHI.out; omega, by omega, ⟨HSK.out.1, .inr ⟨htl, by rw [← HYE.out]; unfold pkvKey; omega⟩⟩, HM2.out⟩
    case measure => have := HHI.out; simp [intOf] <;> omega
   ·have hc2 : decide (zc < 0) = false := decide_eq_false hc
    have HC2 := Lib.hid hc2
    clear hc2
    go_wp2
    rotate_left
    ·have h : (!decide (zc < 0)) = false := by assumption
     rw [HC2.out] at h
     cases h
    go_roundw
    case rel => exact ⟨t + 1, hi, H + 1, J, by congr 1, rfl, by rw [HT.out]; rfl, HJ.out, by have := HJ.out; have := HT.out; have := HHI.out; omega, hhb, ⟨.inr ⟨htl, by show pkvKey A[t] ≤ _; rw [← HYE.out]; unfold pkvKey; omega⟩, HSK.out.2⟩, HM2.out⟩
    case measure => have := HHI.out; simp [intOf] <;> omega
  ·obtain rfl : lo = hi := by omega
   have hIJ : I = J := by omega
   subst hIJ
   have bI : I ≤ m := by have := HM.out; omega
   have bn : m ≤ n := by omega
   clear hI hJ
   obtain ⟨wo, rfl⟩ : ∃ wo : World, wo = wr := ⟨_, rfl⟩
   go_wp2
   go_loopw [17] (fun k wr => ∃ t K : Nat, k = .int .i64 K ∧ K = a + t ∧ lo ≤ t ∧ t ≤ A.length ∧ SoP base g off n c w0 (mov P y A S t) wr) (fun k _ => (intOf k).toNat)
   case atStart => exact ⟨A.length, m, rfl, HM.out, hhb, Nat.le_refl _, HMC.out⟩
   case round =>
    obtain ⟨t, K, rfl, hK, htlo, htA, hR⟩ := hrel
    clear HMC
    have HMC := Lib.hid hR
    have HKK := Lib.hid hK
    clear hR
    by_cases hlt2 : I < K
    ·obtain ⟨t, rfl⟩ : ∃ t', t = t' + 1 := ⟨t - 1, by have := HI.out; omega⟩
     have htl : t < A.length := by omega
     obtain ⟨x, hye⟩ : ∃ y, y = A[t] := ⟨_, rfl⟩
     have HYE := Lib.hid hye
     obtain ⟨K1, hK1⟩ : ∃ K1, K = K1 + 1 := ⟨K - 1, by omega⟩
     have hKn : K < n := by have := HM.out; have := HB.out; omega
     have q1 : IntKind.i64.wrap ((K : Int) - 1) = (K1 : Int) := by rw [show (K : Int) - 1 = (K1 : Int) by omega]; exact IntWalk.i64_in _ (by omega)
     obtain ⟨dx0, dx1⟩ := HMC.out.at K y (mov_fst P y A S (t + 1) K (by omega) (by have := HA.out; have := HKK.out; omega))
     obtain ⟨dy0, dy1⟩ := HMC.out.at K1 x (by rw [HYE.out]; exact mov_pred P y A S t K1 htl (by have := HA.out; have := HKK.out; omega))
     obtain ⟨fx0, fx1⟩ := HMC.out.free K (by omega)
     obtain ⟨fy0, fy1⟩ := HMC.out.free K1 (by omega)
     have p0 : (0 : Int) ≤ (K : Int) := by omega
     have p1 : (K : Int) < (n : Int) := by omega
     have p2 : (0 : Int) ≤ (K1 : Int) := by omega
     have p3 : (K1 : Int) < (n : Int) := by omega
     have hne : K1 < K := by omega
     have htl2 : lo ≤ t := by have := HI.out; omega
     have HK1 := Lib.hid hK1
     clear hye hK hK1
     go_wp2_with fail
     go_big_region
     have HSS := Lib.hid (HMC.out.swapC K K1 (by omega) (by omega) y x (mov P y A S t) (by rw [HYE.out]; exact mov_back P y A S t K1 K htl (by have := HA.out; have := HKK.out; have := HK1.out; omega) (by have := HA.out; have := HKK.out; omega))).drew
     clear dx0 dx1 dy0 dy1 fx0 fx1 fy0 fy1
     go_wp2
     go_roundw
     case rel => exact ⟨t, K1, by have := HK1.out; first | rfl | (congr 1; omega), by have := HK1.out; have := HKK.out; omega, htl2, by omega, HSS.out⟩
     case measure => have := HK1.out; simp [intOf] <;> omega
    ·have htt : t = lo := by have := HI.out; omega
     clear hK
     go_wp2
     refine bodyPost_ret (v := .tuple #[]) (by simp [results, Tryz.results190, go_sem]) rfl ?_
     obtain ⟨e1, e2⟩ := one_last HSB.out lo HSK.out.1 HSK.out.2
     refine ⟨rfl, A.take lo ++ y :: A.drop lo, ?_, e1, e2⟩
     have h := HMC.out
     rw [htt] at h
     unfold mov at h
     simpa using h
end Go.Proofs.YtkegkelaffohjaaGreatDoor
