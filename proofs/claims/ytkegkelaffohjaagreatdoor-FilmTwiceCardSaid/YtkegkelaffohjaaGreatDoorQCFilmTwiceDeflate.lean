/- deflate.Deflate: the walk. -/
import Derived.Test.YtkegkelaffohjaaGreatDoorQCFilmTwiceDefDyn
import Derived.Test.YtkegkelaffohjaaGreatDoorQCFilmTwiceBitT
import Derived.Test.YtkegkelaffohjaaGreatDoorQCFilmTwiceMatTok
import Derived.Deep.Cut
import Derived.Deep.DeepCutAuto
import Derived.Deep.CutBlock
namespace Go.Proofs.YtkegkelaffohjaaGreatDoor
open Go Go.RowKit
def shorterB (a b : ByteArray) : ByteArray := if a.size < b.size then a else b
set_option maxRecDepth 100000 in
set_option maxHeartbeats 4000000 in
theorem deflate_any (s : ByteArray) (E : Nat → Addr) (w : World) (hE : ErS w E) (hT : Tabs w) (hs : s.size ≤ 300000) :
  Calls Tryz.prog 71 #[.string s] w fun e w' => e = .returned (.tuple #[.string ⟨(Inf.deflate (lst s)).toArray⟩, .nilIface]) ∧ Below w.heap.size w w' := by
 have hsi : (s.size : Int) ≤ 300000 := by omega
 have HT := Lib.hid hT
 have HE := Lib.hid hE
 clear hE hT
 go_enter Tryz.func71, Tryz.ntmps71
 go_wp2_with fail
 refine (tokens_any s w hs).mono ?_
 rintro e w1 ⟨A, c, rfl, hoT, hb1⟩
 have HTO := Lib.hid hoT
 have HB1 := Lib.hid hb1
 clear hoT hb1
 go_wp2_with fail
 refine (stored_any s w1 hs).mono ?_
 rintro e w2 ⟨rfl, hb2⟩
 have HB2 := Lib.hid hb2
 clear hb2
 have HT2 := Lib.hid (HT.out.below (HB1.out.trans (HB2.out.mono HB1.out.size)) HT.out.size)
 obtain ⟨b0, hb0⟩ : ∃ b : ByteArray, b = ⟨(Inf.stored (lst s)).toArray⟩ := ⟨_, rfl⟩
 obtain ⟨b1, hb1⟩ : ∃ b : ByteArray, b = ⟨(Bit.pack (Inf.fixBits (Mat.tokens (lst s)))).toArray⟩ := ⟨_, rfl⟩
 obtain ⟨b2, hb2⟩ : ∃ b : ByteArray, b = ⟨(Bit.pack (Inf.dynBits (Mat.tokens (lst s)))).toArray⟩ := ⟨_, rfl⟩
 rw [← hb0]
 obtain ⟨a, ha⟩ : ∃ a, a = w2.heap.size := ⟨_, rfl⟩
 have hB3 := Blk.new w2 174 #[Value.func (Fn.func 107) #[] #[], Value.func (Fn.func 108) #[] #[]] ha
 have HBS := Lib.hid (And.intro hb0 (And.intro hb1 hb2))
 clear hb0 hb1 hb2
 go_upto_block 0 with (fail)
 rw [← ha]
 have hW3 : Below w.heap.size w (w2.alloc (.cells #[Value.func (Fn.func 107) #[] #[], Value.func (Fn.func 108) #[] #[]] 174)) := (HB1.out.trans (HB2.out.mono HB1.out.size)).alloc (Nat.le_trans HB1.out.size HB2.out.size) _
 have hTO3 := ((HTO.out.below HB2.out (Nat.le_refl _)).alloc (.cells #[Value.func (Fn.func 107) #[] #[], Value.func (Fn.func 108) #[] #[]] 174))
 clear HB1 HB2 HTO HT2 ha
 generalize w2.alloc (.cells #[Value.func (Fn.func 107) #[] #[], Value.func (Fn.func 108) #[] #[]] 174) = w3 at *
 have HB3 := Lib.hid hB3
 have HW3 := Lib.hid hW3
 have HTO3 := Lib.hid hTO3
 have HPL := Lib.hid (Mat.tokens_plain (lst s))
 have HTL := Lib.hid (Nat.le_trans (Mat.tokens_length (lst s)) (show (lst s).length ≤ 300000 by simpa using hs))
 clear hB3 hW3 hTO3
 obtain ⟨T, hTe⟩ : ∃ T, T = Mat.tokens (lst s) := ⟨_, rfl⟩
 rw [← hTe] at HTO3 HPL HTL HBS
 rw [← hTe]
 have HTE := Lib.hid hTe
 clear hTe
 have HPRE := Lib.hid (show ∀ W, Below w3.heap.size w3 W → ErS W E ∧ Tabs W ∧ Vals W 3 (.slice A T.length c) T.length (tokCells T) ∧ (∀ x, (Value.slice A T.length c).ownBlock = some x → x < W.heap.size) ∧ Below w.heap.size w W from fun W hb => by
  have hwW := HW3.out.trans (hb.mono HW3.out.size)
  have ho := HTO3.out.below hb (Nat.le_refl _)
  exact ⟨HE.out.below hwW, HT.out.below hwW HT.out.size, Vals.of_own ho, fun x hx => (ho.lt x hx).2, hwW⟩)
 go_wp2_with fail
 go_loopw [23, 6] (fun iv bv wr => ∃ (i : Nat) (b : ByteArray), i ≤ 2 ∧ iv = .int .i64 i ∧ bv = .string b ∧ Below w3.heap.size w3 wr ∧ b = (if i = 0 then b0 else if i = 1 then shorterB b1 b0 else shorterB b2 (shorterB b1 b0))) (fun iv _ _ => 2 - (intOf iv).toNat)
 case atStart => exact ⟨0, b0, by omega, rfl, rfl, Below.refl _ _, rfl⟩
 case round =>
  obtain ⟨i, b, hi2, rfl, rfl, hb, hbe⟩ := hrel
  have hal := HB3.out.lt
  have HBB := Lib.hid hb
  have HBE := Lib.hid hbe
  obtain ⟨p1, p2, p3, p4, p5⟩ := HPRE.out wr hb
  have HP1 := Lib.hid (And.intro p1 (And.intro p2 (And.intro p3 p4)))
  clear p1 p2 p3 p4 p5 hbe
  match i, hi2 with
  | 0, _ =>
   have d0 : wr.cell? ⟨a, 0, none⟩ = some (Value.func (Fn.func 107) #[] #[]) := by rw [hb.cell (p := ⟨a, 0, none⟩) hal, HB3.out.cell]; rfl
   have hbeq : b = b0 := HBE.out
   subst hbeq
   clear hb
   go_wp2_with fail
   refine (fixed_any (.slice A T.length c) T E wr HP1.out.1 HP1.out.2.1 HP1.out.2.2.1 HPL.out HTL.out HP1.out.2.2.2).mono ?_
   rw [← HBS.out.2.1]
   rintro e w5 ⟨rfl, hb5⟩
   have HB5 := Lib.hid (HBB.out.trans (hb5.mono HBB.out.size))
   clear hb5
   by_cases hlt : b1.size < b.size
   ·have hlti : (b1.size : Int) < b.size := by omega
    have he : shorterB b1 b = b1 := if_pos hlt
    have HEQ := Lib.hid he
    clear hlt he
    go_wp2_with fail
    go_roundw
    case rel => exact ⟨1, _, by omega, rfl, rfl, HB5.out, HEQ.out.symm⟩
    case measure => simp [intOf]
   ·have hlti : (b.size : Int) ≤ b1.size := by omega
    have he : shorterB b1 b = b := if_neg hlt
    have HEQ := Lib.hid he
    clear hlt he
    go_wp2_with fail
    go_roundw
    case rel => exact ⟨1, _, by omega, rfl, rfl, HB5.out, HEQ.out.symm⟩
    case measure => simp [intOf]
  | 1, _ =>
   have d0 : wr.cell? ⟨a, 1, none⟩ = some (Value.func (Fn.func 108) #[] #[]) := by rw [hb.cell (p := ⟨a, 1, none⟩) hal, HB3.out.cell]; rfl
   have hbeq : b = shorterB b1 b0 := HBE.out
   subst hbeq
   clear hb
   go_wp2_with fail
   refine (dynamic_any (.slice A T.length c) T E wr HP1.out.1 HP1.out.2.1 HP1.out.2.2.1 HPL.out HTL.out HP1.out.2.2.2).mono ?_
   rw [← HBS.out.2.2]
   rintro e w5 ⟨rfl, hb5⟩
   have HB5 := Lib.hid (HBB.out.trans (hb5.mono HBB.out.size))
   clear hb5
   by_cases hlt : b2.size < (shorterB b1 b0).size
   ·have hlti : (b2.size : Int) < (shorterB b1 b0).size := by omega
    have he : shorterB b2 (shorterB b1 b0) = b2 := if_pos hlt
    have HEQ := Lib.hid he
    clear hlt he
    go_wp2_with fail
    go_roundw
    case rel => exact ⟨2, _, by omega, rfl, rfl, HB5.out, HEQ.out.symm⟩
    case measure => simp [intOf]
   ·have hlti : ((shorterB b1 b0).size : Int) ≤ b2.size := by omega
    have he : shorterB b2 (shorterB b1 b0) = shorterB b1 b0 := if_neg hlt
    have HEQ := Lib.hid he
    clear hlt he
    go_wp2_with fail
    go_roundw
    case rel => exact ⟨2, _, by omega, rfl, rfl, HB5.out, HEQ.out.symm⟩
    case measure => simp [intOf]
  | 2, _ =>
   have hbeq : b = shorterB b2 (shorterB b1 b0) := HBE.out
   have HBQ := Lib.hid hbeq
   clear hb hbeq
   go_wp2_with fail
   go_ret2
   refine ⟨?_, HW3.out.trans (HBB.out.mono HW3.out.size)⟩
   rw [HBQ.out]
   obtain ⟨q0, q1, q2⟩ := HBS.out
   have hsz : ∀ x : List UInt8, (⟨x.toArray⟩ : ByteArray).size = x.length := fun x => rfl
   have hsb : ∀ x y : List UInt8, shorterB ⟨x.toArray⟩ ⟨y.toArray⟩ = ⟨(Inf.shorter x y).toArray⟩ := fun x y => by
    unfold shorterB Inf.shorter
    rw [hsz, hsz]
    split <;> rfl
   rw [q0, q1, q2, hsb, hsb, HTE.out]
   rfl
end Go.Proofs.YtkegkelaffohjaaGreatDoor
