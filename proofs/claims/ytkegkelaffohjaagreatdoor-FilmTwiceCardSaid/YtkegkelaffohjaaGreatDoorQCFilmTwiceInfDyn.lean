/- inflate.reader.dynamic: the walk. Printed by mk.py. -/
import Derived.Test.YtkegkelaffohjaaGreatDoorKCFilmTwice13
import Derived.Test.YtkegkelaffohjaaGreatDoorQCFilmTwiceDefDyn
import Derived.Deep.LoopGhost
import Derived.Deep.CutBlock
namespace Go.Proofs.YtkegkelaffohjaaGreatDoor
open Go Go.RowKit
namespace Inf
def rd3 (a : Nat) (q : Option (List Nat × List Bool)) : Option ((List Nat × List Nat) × List Bool) :=
 match q with
 | none => none
 | some (l, b5) => if ¬ Huf.Good (l.take (a + 257)) ∨ ¬ Huf.Good (l.drop (a + 257)) ∨ (l.take (a + 257)).getD 256 0 = 0 then none else some ((l.take (a + 257), l.drop (a + 257)), b5)
def rd2 (a b : Nat) (q : Option (List Nat × List Bool)) : Option ((List Nat × List Nat) × List Bool) :=
 match q with
 | none => none
 | some (small, b4) => if ¬ Huf.Good small then none else rd3 a (rlens small (a + 257 + (b + 1)) (b4.length + 1) b4 [])
theorem rd_1 {bs : List Bool} (h : get 5 bs = none) : rdynamic bs = none := by unfold rdynamic; rw [h]
theorem rd_2 {bs b1 : List Bool} {a : Nat} (h : get 5 bs = some (a, b1)) (h2 : get 5 b1 = none) : rdynamic bs = none := by unfold rdynamic; rw [h]; simp only; rw [h2]
theorem rd_3 {bs b1 b2 : List Bool} {a b : Nat} (h : get 5 bs = some (a, b1)) (h2 : get 5 b1 = some (b, b2)) (h3 : get 4 b2 = none) : rdynamic bs = none := by unfold rdynamic; rw [h]; simp only; rw [h2]; simp only; rw [h3]
theorem rd_is {bs b1 b2 b3 : List Bool} {a b c : Nat} (h : get 5 bs = some (a, b1)) (h2 : get 5 b1 = some (b, b2)) (h3 : get 4 b2 = some (c, b3)) :
  rdynamic bs = if 286 < a + 257 ∨ 30 < b + 1 then none else rd2 a b (rsmall (Order.take (c + 4)) b3 (List.replicate 19 0)) := by
 unfold rdynamic; rw [h]; simp only; rw [h2]; simp only; rw [h3]; simp only
 split
 ·rfl
 ·generalize rsmall (Order.take (c + 4)) b3 (List.replicate 19 0) = q
  cases q with
  | none => rfl
  | some r =>
   obtain ⟨small, b4⟩ := r
   unfold rd2
   simp only
   split
   ·rfl
   ·generalize rlens small (a + 257 + (b + 1)) (b4.length + 1) b4 [] = q
    cases q <;> rfl
theorem rsmall_cons (k : Nat) (r : List Nat) (bs : List Bool) (l : List Nat) : rsmall (k :: r) bs l = match get 3 bs with | none => none | some (x, b1) => rsmall r b1 (l.set k x) := by
 rw [rsmall]
 cases get 3 bs <;> rfl
theorem drop_cons (l : List Nat) (i : Nat) (h : i < l.length) : l.drop i = l.getD i 0 :: l.drop (i + 1) := by
 rw [List.drop_eq_getElem_cons h, getD_at _ _ h]
end Inf
structure DyS (w : World) (g gb : Nat) (s : ByteArray) (c1 c2 : Value) (bs : List Bool) (W : World) : Prop where
 blk : Blk W g 187 #[.pointer (some ⟨gb, 0, none⟩), c1, c2]
 rd : RdB W gb s bs
 kp : Keeps (fun x => x = gb) w W
section
variable {w W W' : World} {g gb : Nat} {s : ByteArray} {c1 c2 : Value} {bs b2 : List Bool} {E : Nat → Addr}
theorem DyS.step (h : DyS w g gb s c1 c2 bs W) (hne : g ≠ gb) (k : Keeps (fun x => x = gb) W W') (rd : RdB W' gb s b2) : DyS w g gb s c1 c2 b2 W' := ⟨h.blk.keeps k hne, rd, h.kp.trans k fun _ _ e => e⟩
theorem DyS.below (h : DyS w g gb s c1 c2 bs W) (hb : Below W.heap.size W W') : DyS w g gb s c1 c2 bs W' := by
 have k : Keeps (fun _ => False) W W' := Keeps.of_below hb fun _ hx _ => hx
 exact ⟨h.blk.keeps k fun e => e, h.rd.keeps k fun e => e, h.kp.trans k fun _ _ e => e.elim⟩
theorem DyS.er (h : DyS w g gb s c1 c2 bs W) (hE : Er4 w E) (hG : 15 ≤ gb) (hl : gb < w.heap.size) : Er4 W E := hE.keeps h.kp hG hl
end
def DynI (w : World) (gb : Nat) (s : ByteArray) (E : Nat → Addr) (R : Option ((List Nat × List Nat) × List Bool)) (e : Ending) (w' : World) : Prop :=
 Keeps (fun x => x = gb) w w' ∧ match R with
 | none => e = .panicked (thrownI E 0)
 | some q => ∃ g1 g2 v1 v2, e = .returned (.tuple #[.pointer (some ⟨g1, 0, none⟩), .pointer (some ⟨g2, 0, none⟩)]) ∧ RdB w' gb s q.2 ∧ TreeAt w' w.heap.size g1 q.1.1 (Huf.syms q.1.1) v1 ∧ TreeAt w' w.heap.size g2 q.1.2 (Huf.syms q.1.2) v2
structure LnS (w w5 : World) (g gb : Nat) (s : ByteArray) (c1 c2 : Value) (bs : List Bool) (l : List Nat) (v : Value) (W : World) : Prop where
 st : DyS w g gb s c1 c2 bs W
 own : Own W w5.heap.size 1 v l.length (nats l)
 kp : Keeps (fun x => x = gb) w5 W
theorem LnS.step {w w5 W W' : World} {g gb : Nat} {s : ByteArray} {c1 c2 v : Value} {bs b2 : List Bool} {l : List Nat} (h : LnS w w5 g gb s c1 c2 bs l v W) (hne : g ≠ gb) (hgb : gb < w5.heap.size) (k : Keeps (fun x => x = gb) W W') (rd : RdB W' gb s b2) : LnS w w5 g gb s c1 c2 b2 l v W' :=
 ⟨h.st.step hne k rd, h.own.keeps k (fun x hx e => by have := (h.own.lt x hx).1; omega), h.kp.trans k fun _ _ e => e⟩
theorem LnS.below {w w5 W W' : World} {g gb : Nat} {s : ByteArray} {c1 c2 v : Value} {bs : List Bool} {l : List Nat} (h : LnS w w5 g gb s c1 c2 bs l v W) (hb : Below W.heap.size W W') : LnS w w5 g gb s c1 c2 bs l v W' := by
 have k : Keeps (fun _ => False) W W' := Keeps.of_below hb fun _ hx _ => hx
 exact ⟨h.st.below hb, h.own.keeps k fun _ _ e => e, h.kp.trans k fun _ _ e => e.elim⟩
theorem LnS.grow {w w5 W W' : World} {g gb : Nat} {s : ByteArray} {c1 c2 v v' : Value} {bs : List Bool} {l l' : List Nat} (h : LnS w w5 g gb s c1 c2 bs l v W) (hg5 : g < w5.heap.size) (hgb : gb < w5.heap.size) (hw : w.heap.size ≤ w5.heap.size) (hg : W.grownBy W' v.ownBlock) (ho : Own W' w5.heap.size 1 v' l'.length (nats l')) : LnS w w5 g gb s c1 c2 bs l' v' W' := by
 obtain ⟨p, r1, r2, r3⟩ := h.st.rd.ex
 have hlo : ∀ x, v.ownBlock = some x → w5.heap.size ≤ x := fun x hx => (h.own.lt x hx).1
 exact ⟨⟨h.st.blk.grown hg (fun e => by have := hlo _ e.symm; omega), ⟨p, r1.grown hg (fun e => by have := hlo _ e.symm; omega), r2, r3⟩, h.st.kp.grown hg fun x hx hl => by have := hlo x hx; omega⟩, ho, h.kp.grown hg fun x hx hl => by have := hlo x hx; omega⟩
namespace Inf
section
variable {small : List Nat} {all k y : Nat} {go : List Bool → List Nat → Option (List Nat × List Bool)} {bs b1 b2 : List Bool} {l : List Nat}
theorem ls_no (h : Huf.next small 15 0 0 bs = none) : rlstep small all go bs l = none := by unfold rlstep; rw [h]
theorem ls_16n (h : Huf.next small 15 0 0 bs = some (16, b1)) (hl : l = []) : rlstep small all go bs l = none := by unfold rlstep; rw [h]; simp only; rw [if_pos trivial, if_pos hl]
theorem ls_16g (h : Huf.next small 15 0 0 bs = some (16, b1)) (hg : get 2 b1 = none) : rlstep small all go bs l = none := by
 unfold rlstep; rw [h]; simp only; rw [if_pos trivial]
 split
 ·rfl
 ·rw [hg]; rfl
theorem ls_16 (h : Huf.next small 15 0 0 bs = some (16, b1)) (hl : l ≠ []) (hg : get 2 b1 = some (y, b2)) : rlstep small all go bs l = if all < l.length + (3 + y) then none else go b2 (l ++ List.replicate (3 + y) (l.getD (l.length - 1) 0)) := by
 unfold rlstep; rw [h]; simp only; rw [if_pos trivial, if_neg hl, hg]; rfl
theorem ls_17g (h : Huf.next small 15 0 0 bs = some (17, b1)) (hg : get 3 b1 = none) : rlstep small all go bs l = none := by
 unfold rlstep; rw [h]; simp only; rw [if_neg (by omega), if_pos trivial, hg]; rfl
theorem ls_17 (h : Huf.next small 15 0 0 bs = some (17, b1)) (hg : get 3 b1 = some (y, b2)) : rlstep small all go bs l = if all < l.length + (3 + y) then none else go b2 (l ++ List.replicate (3 + y) 0) := by
 unfold rlstep; rw [h]; simp only; rw [if_neg (by omega), if_pos trivial, hg]; rfl
theorem ls_18g (h : Huf.next small 15 0 0 bs = some (18, b1)) (hg : get 7 b1 = none) : rlstep small all go bs l = none := by
 unfold rlstep; rw [h]; simp only; rw [if_neg (by omega), if_neg (by omega), if_pos trivial, hg]; rfl
theorem ls_18 (h : Huf.next small 15 0 0 bs = some (18, b1)) (hg : get 7 b1 = some (y, b2)) : rlstep small all go bs l = if all < l.length + (11 + y) then none else go b2 (l ++ List.replicate (11 + y) 0) := by
 unfold rlstep; rw [h]; simp only; rw [if_neg (by omega), if_neg (by omega), if_pos trivial, hg]; rfl
theorem ls_lit (h : Huf.next small 15 0 0 bs = some (k, b1)) (hk : k < 16) : rlstep small all go bs l = if all < l.length + 1 then none else go b1 (l ++ List.replicate 1 k) := by
 unfold rlstep; rw [h]; simp only; rw [if_neg (by omega), if_neg (by omega), if_neg (by omega)]; rfl
end
end Inf
structure SmS (w : World) (g gb : Nat) (s : ByteArray) (c1 c2 : Value) (gs : Nat) (bs : List Bool) (S : List Nat) (W : World) : Prop where
 st : DyS w g gb s c1 c2 bs W
 own : Own W w.heap.size 1 (.slice (some ⟨gs, 0, none⟩) 19 19) 19 (nats S)
theorem TreeAt.mono {w : World} {B B' gt : Nat} {l sy : List Nat} {v : Value} (h : TreeAt w B gt l sy v) (hB : B' ≤ B) : TreeAt w B' gt l sy v := ⟨h.blk, h.own.mono hB, h.ne, Nat.le_trans hB h.bg⟩
theorem TreeAt.below {w w' : World} {B gt : Nat} {l sy : List Nat} {v : Value} (h : TreeAt w B gt l sy v) (hb : Below w.heap.size w w') : TreeAt w' B gt l sy v := ⟨h.blk.below hb h.blk.lt, h.own.below hb (Nat.le_refl _), h.ne, h.bg⟩
theorem Keeps.undrew {S : Nat → Prop} {w w' : World} (h : Keeps S w.drew w') : Keeps S w w' := ⟨h.os, h.tape, h.output, h.size, h.block⟩
theorem Keeps.cellOld5 {w w' : World} {gb a i : Nat} {u : Value} (k : Keeps (fun x => x = gb) w w') (hne : a ≠ gb) (h : w.cell? ⟨a, i, none⟩ = some u) : w'.cell? ⟨a, i, none⟩ = some u := by
 have hl := cell_lt h
 rw [← h]
 unfold World.cell?
 rw [k.block a hl hne]
section
variable (g gb : Nat) (s : ByteArray) (E : Nat → Addr) (w : World)
set_option maxHeartbeats 40000000 in
set_option maxRecDepth 100000 in
theorem idynamic_any (bs : List Bool) (c1 c2 : Value) (hE : Er4 w E) (hTb : Tabs w) (hb : Blk w g 187 #[.pointer (some ⟨gb, 0, none⟩), c1, c2]) (hR : RdB w gb s bs) (hne : g ≠ gb) (hG : 15 ≤ gb) (hs : s.size ≤ 300000) :
  Calls Tryz.prog 155 #[.pointer (some ⟨g, 0, none⟩)] w fun e w' => DynI w gb s E (Inf.rdynamic bs) e w' := by
 have hgl : gb < w.heap.size := by obtain ⟨p, h1, _⟩ := hR.ex; exact h1.lt
 have S0 : DyS w g gb s c1 c2 bs w := ⟨hb, hR, Keeps.refl _ _⟩
 have hglt : g < w.heap.size := hb.lt
 obtain ⟨R, hRe⟩ : ∃ R, R = Inf.rdynamic bs := ⟨_, rfl⟩
 rw [← hRe]
 have HR := Lib.hid hRe
 have HE := Lib.hid hE
 have HTB := Lib.hid hTb
 have HS0 := Lib.hid S0
 have HEND := Lib.hid (show ∀ W', Keeps (fun x => x = gb) w W' → DynI w gb s E none (.panicked (thrownI E 0)) W' from fun W' k => ⟨k, rfl⟩)
 clear hRe hE hTb S0 hb hR
 go_enter Tryz.func155, Tryz.ntmps155
 go_wp2_with fail
 refine (iget_any g gb s E w 5 bs c1 c2 HE.out HS0.out.blk HS0.out.rd hG (by omega) (by omega)).mono ?_
 rintro e w1 ⟨hk1, he1⟩
 cases hx1 : Inf.get 5 bs with
 | none =>
  rw [hx1] at he1
  replace he1 : e = .panicked (thrownI E 0) := he1
  subst he1
  have hR : R = none := by rw [HR.out]; exact Inf.rd_1 hx1
  subst hR
  go_wp2_with fail
  exact ⟨rfl, HEND.out _ hk1⟩
 | some r =>
 obtain ⟨a, b1⟩ := r
 rw [hx1] at he1
 replace he1 : e = .returned (.int .i64 a) ∧ RdB w1 gb s b1 := he1
 obtain ⟨rfl, hR1⟩ := he1
 obtain ⟨_, _, ha⟩ := Inf.get_some hx1
 replace ha : a < 32 := ha
 have HX1 := Lib.hid hx1
 have HS1 := Lib.hid (HS0.out.step hne hk1 hR1)
 clear hx1 hR1 hk1
 obtain ⟨many, hmany⟩ : ∃ many, many = a + 257 := ⟨_, rfl⟩
 have hw1 : (a : Int) + 257 = many := by omega
 have hw1w : IntKind.i64.wrap (many : Int) = many := IntWalk.i64_in _ (by omega)
 have HMN := Lib.hid hmany
 clear hmany
 go_wp2_with fail
 refine (iget_any g gb s E w1 5 b1 c1 c2 (HS1.out.er HE.out hG hgl) HS1.out.blk HS1.out.rd hG (by omega) (by omega)).mono ?_
 rintro e w2 ⟨hk2, he2⟩
 cases hx2 : Inf.get 5 b1 with
 | none =>
  rw [hx2] at he2
  replace he2 : e = .panicked (thrownI E 0) := he2
  subst he2
  have hR : R = none := by rw [HR.out]; exact Inf.rd_2 HX1.out hx2
  subst hR
  go_wp2_with fail
  exact ⟨rfl, HEND.out _ (HS1.out.kp.trans hk2 fun _ _ e => e)⟩
 | some r =>
 obtain ⟨b, b2⟩ := r
 rw [hx2] at he2
 replace he2 : e = .returned (.int .i64 b) ∧ RdB w2 gb s b2 := he2
 obtain ⟨rfl, hR2⟩ := he2
 obtain ⟨_, _, hb⟩ := Inf.get_some hx2
 replace hb : b < 32 := hb
 have HX2 := Lib.hid hx2
 have HS2 := Lib.hid (HS1.out.step hne hk2 hR2)
 clear hx2 hR2 hk2
 obtain ⟨far, hfar⟩ : ∃ far, far = b + 1 := ⟨_, rfl⟩
 have hw2 : (b : Int) + 1 = far := by omega
 have hw2w : IntKind.i64.wrap (far : Int) = far := IntWalk.i64_in _ (by omega)
 have HFR := Lib.hid hfar
 clear hfar
 go_wp2_with fail
 refine (iget_any g gb s E w2 4 b2 c1 c2 (HS2.out.er HE.out hG hgl) HS2.out.blk HS2.out.rd hG (by omega) (by omega)).mono ?_
 rintro e w3 ⟨hk3, he3⟩
 cases hx3 : Inf.get 4 b2 with
 | none =>
  rw [hx3] at he3
  replace he3 : e = .panicked (thrownI E 0) := he3
  subst he3
  have hR : R = none := by rw [HR.out]; exact Inf.rd_3 HX1.out HX2.out hx3
  subst hR
  go_wp2_with fail
  exact ⟨rfl, HEND.out _ (HS2.out.kp.trans hk3 fun _ _ e => e)⟩
 | some r =>
 obtain ⟨c, b3⟩ := r
 rw [hx3] at he3
 replace he3 : e = .returned (.int .i64 c) ∧ RdB w3 gb s b3 := he3
 obtain ⟨rfl, hR3⟩ := he3
 obtain ⟨_, _, hc⟩ := Inf.get_some hx3
 replace hc : c < 16 := hc
 have hRe := HR.out
 rw [Inf.rd_is HX1.out HX2.out hx3] at hRe
 have HS3 := Lib.hid (HS2.out.step hne hk3 hR3)
 clear hx3 hR3 hk3 HX1 HX2 HS1 HS2 HS0 HR
 obtain ⟨few, hfew⟩ : ∃ few, few = c + 4 := ⟨_, rfl⟩
 have hw3 : (c : Int) + 4 = few := by omega
 have hw3w : IntKind.i64.wrap (few : Int) = few := IntWalk.i64_in _ (by omega)
 have hf4 : 4 ≤ few := by omega
 have hf19 : few ≤ 19 := by omega
 have hf19i : (few : Int) ≤ 19 := by omega
 rw [← HMN.out, ← HFR.out, ← hfew] at hRe
 clear hfew
 have dE := (HS3.out.er HE.out hG hgl).text
 by_cases hbad : 286 < many ∨ 30 < far
 ·rw [if_pos hbad] at hRe
  subst hRe
  by_cases hm : 286 < many
  ·have hd1 : decide ((many : Int) ≤ 286) = false := decide_eq_false (by omega)
   clear hbad
   go_wp2_with fail
   refine (must_no g E w3 0).mono ?_
   rintro e w4 ⟨rfl, rfl⟩
   go_wp2_with fail
   exact ⟨rfl, HEND.out _ HS3.out.kp⟩
  ·have hd1 : decide ((many : Int) ≤ 286) = true := decide_eq_true (by omega)
   have hd2 : decide ((far : Int) ≤ 30) = false := decide_eq_false (by omega)
   clear hbad
   go_wp2_with fail
   refine (must_no g E w3 0).mono ?_
   rintro e w4 ⟨rfl, rfl⟩
   go_wp2_with fail
   exact ⟨rfl, HEND.out _ HS3.out.kp⟩
 rw [if_neg hbad] at hRe
 have hd1 : decide ((many : Int) ≤ 286) = true := decide_eq_true (by omega)
 have hd2 : decide ((far : Int) ≤ 30) = true := decide_eq_true (by omega)
 have hmb : many ≤ 286 ∧ far ≤ 30 := by omega
 have HR := Lib.hid hRe
 clear hbad hRe
 go_wp2_with fail
 refine (must_yes g w3 _).mono ?_
 rintro e w4 ⟨rfl, hw4⟩
 rw [hw4]
 clear hw4 w4 dE hd1 hd2
 -- the small code's lengths
 obtain ⟨i0, hi, hz0, hz1, hz2⟩ := info_parts intInfo
 obtain ⟨Z, hZ⟩ : ∃ Z, Z = madeCells (Value.int .i64 0).cells (19 * i0.size) := ⟨_, rfl⟩
 have hmk : ∀ W : World, (Instr.makeSlice 119 (.int .i64 19) (.int .i64 19)).run Tryz.prog W = .ok (.slice (some ⟨W.heap.size, 0, none⟩) 19 19) (W.alloc (.cells Z 3)) := fun W => by
  rw [hZ]
  exact run_make (P := Tryz.prog) W 119 3 i0 _ Tryz.underlying119 hi hz0 .i64 .i64 19 19 (by decide) (by decide) (by rw [hz2]; decide) (by decide)
 have hZn : Z.toList = nats (List.replicate 19 0) := made_nats _ _ (by rw [hZ, hz1])
 clear hZ
 obtain ⟨gs, hgs⟩ : ∃ gs, gs = w3.heap.size := ⟨_, rfl⟩
 have hsz3 : w.heap.size ≤ w3.heap.size := HS3.out.kp.size
 have hSM := show SmS w g gb s c1 c2 gs b3 (List.replicate 19 0) (w3.alloc (.cells Z 3)) from ⟨HS3.out.below ((Below.refl _ _).alloc (Nat.le_refl _) _), own_made w3 Z 19 _ _ hZn hgs hsz3 (by decide)⟩
 go_upto_block 0 with (fail)
 rw [← hgs]
 generalize w3.alloc (.cells Z 3) = w4 at *
 have HSM := Lib.hid hSM
 have hgs2 : gs ≠ gb := by omega
 clear hSM hmk hZn hgs
 obtain ⟨RS, hRS⟩ : ∃ RS, RS = Inf.rsmall (Inf.Order.take few) b3 (List.replicate 19 0) := ⟨_, rfl⟩
 have hRR := HR.out
 rw [← hRS] at hRR
 have HRS := Lib.hid hRS
 have HRR := Lib.hid hRR
 clear hRS hRR HR HS3
 have hfl : (Inf.Order.take few).length = few := by rw [List.length_take]; exact Nat.min_eq_left hf19
 have HFL := Lib.hid hfl
 clear hfl
 go_cut [] (fun wx => ∃ (sm : List Nat) (b4 : List Bool), RS = some (sm, b4) ∧ SmS w g gb s c1 c2 gs b4 sm wx ∧ sm.length = 19 ∧ (∀ x ∈ sm, x ≤ 7) ∧ b4.length ≤ 8 * s.size)
 case first => as_aux_lemma =>
  go_wp2_with fail
  go_loopw [37] (fun iv wr => ∃ (i : Nat) (sm : List Nat) (b4 : List Bool), i ≤ few ∧ iv = .int .i64 i ∧ Inf.rsmall ((Inf.Order.take few).drop i) b4 sm = RS ∧ SmS w g gb s c1 c2 gs b4 sm wr ∧ sm.length = 19 ∧ (∀ x ∈ sm, x ≤ 7)) (fun iv _ => few - (intOf iv).toNat)
  case atStart => exact ⟨0, _, b3, Nat.zero_le _, rfl, HRS.out.symm, HSM.out, by rw [List.length_replicate], fun x hx => by rw [(List.mem_replicate.1 hx).2]; omega⟩
  case round =>
   clear HSM HRS
   obtain ⟨i, sm, b4, hi1, rfl, hrs, hS, hl19, h7⟩ := hrel
   by_cases hlt : i < few
   ·have hTw := HTB.out.keeps hS.st.kp (Nat.le_trans hG (by omega)) (fun x hx e => by omega)
    have hod := order_lt i
    have hi19 : i < Inf.Order.length := by show i < 19; omega
    have t1 : wr.cell? ⟨10, i, none⟩ = some (.int .i64 (Inf.Order.getD i 0 : Nat)) := by
     have := hTw.order.cell rfl i (by omega)
     rw [Nat.zero_add, nats_at _ _ hi19, ← getD_at _ _ hi19] at this
     exact this
    rw [Inf.drop_cons _ _ (by rw [HFL.out]; exact hlt), getD_take _ _ _ hlt, Inf.rsmall_cons] at hrs
    obtain ⟨o, ho⟩ : ∃ o, o = Inf.Order.getD i 0 := ⟨_, rfl⟩
    rw [← ho] at t1 hod hrs
    have HSX := Lib.hid hS
    have HRSX := Lib.hid hrs
    have H7 := Lib.hid (And.intro hl19 h7)
    have hif : (i : Int) < few := by omega
    have hof : (o : Int) < 19 := by omega
    clear hrs hS ho h7 hTw
    go_wp2_with fail
    refine (iget_any g gb s E wr 3 b4 c1 c2 (HSX.out.st.er HE.out hG hgl) HSX.out.st.blk HSX.out.st.rd hG (by omega) (by omega)).mono ?_
    rintro e w5 ⟨hk5, he5⟩
    cases hx : Inf.get 3 b4 with
    | none =>
     rw [hx] at he5
     replace he5 : e = .panicked (thrownI E 0) := he5
     subst he5
     have hRn := HRSX.out
     rw [hx] at hRn
     have hR : R = none := by rw [HRR.out, ← hRn]; rfl
     subst hR
     go_wp2_with fail
     exact ⟨rfl, HEND.out _ (HSX.out.st.kp.trans hk5 fun _ _ e => e)⟩
    | some r =>
     obtain ⟨x, b5⟩ := r
     rw [hx] at he5
     replace he5 : e = .returned (.int .i64 x) ∧ RdB w5 gb s b5 := he5
     obtain ⟨rfl, hR5⟩ := he5
     obtain ⟨_, _, hx8⟩ := Inf.get_some hx
     replace hx8 : x < 8 := hx8
     have hRn := HRSX.out
     rw [hx] at hRn
     have HRN := Lib.hid hRn
     have hown5 := HSX.out.own.keeps hk5 (fun y hy e => by injection hy with hy; exact hgs2 (by have hy2 : gs = y := hy; omega))
     have hS5 := HSX.out.st.step hne hk5 hR5
     obtain ⟨hcc, hff⟩ := hown5.cellAt o (by omega)
     rw [Nat.zero_add] at hcc hff
     rw [nats_at _ _ (by rw [H7.out.1]; omega)] at hcc
     have hset := hown5.setNat o (by omega) x
     rw [Nat.zero_add] at hset
     have HS6 := Lib.hid (show SmS w g gb s c1 c2 gs b5 (sm.set o x) (w5.setCell ⟨gs, o, none⟩ (.int .i64 x)) from by
      obtain ⟨p, r1, r2, r3⟩ := hS5.rd.ex
      exact ⟨⟨hS5.blk.far (p := ⟨gs, o, none⟩) (by have := (HSX.out.own.lt gs rfl).1; show g ≠ gs; omega) _, ⟨p, r1.far (p := ⟨gs, o, none⟩) (fun e => hgs2 e.symm) _, r2, r3⟩, hS5.kp.setCell (p := ⟨gs, o, none⟩) (fun e => absurd (hown5.lt gs rfl).1 (by simp only at e; omega)) _⟩, hset⟩)
     clear hx hk5 hR5 hRn hown5 hS5 hset
     go_wp2_with fail
     go_roundw
     case rel =>
      refine ⟨i + 1, sm.set o x, b5, hlt, by go_num, HRN.out, HS6.out, by rw [List.length_set]; exact H7.out.1, fun y hy => ?_⟩
      rcases List.mem_or_eq_of_mem_set hy with h | h
      ·exact H7.out.2 y h
      ·omega
     case measure => simp [intOf]; omega
   ·have hi2 : i = few := by omega
    subst hi2
    rw [List.drop_eq_nil_of_le (by rw [HFL.out]; exact Nat.le_refl _), Inf.rsmall] at hrs
    have HRSX := Lib.hid hrs.symm
    have HSX := Lib.hid (And.intro hS (And.intro hl19 h7))
    clear hrs hS hl19 h7
    go_wp2_with fail
    go_meet
    case rel => exact ⟨sm, b4, HRSX.out, HSX.out.1, HSX.out.2.1, HSX.out.2.2, HSX.out.1.st.rd.len⟩
 obtain ⟨sm, b4, hsm, hS4, hsl, hs7, hb4⟩ := hcut
 have hRR := HRR.out
 rw [hsm] at hRR
 replace hRR : R = if ¬ Huf.Good sm then none else Inf.rd3 a (Inf.rlens sm (a + 257 + (b + 1)) (b4.length + 1) b4 []) := hRR
 have HS4 := Lib.hid hS4
 have HSL := Lib.hid (And.intro hsl hs7)
 clear hsm HRR HSM HRS HFL hS4 hs7 RS hsz3
 by_cases hg : Huf.Good sm
 case neg =>
  rw [if_pos hg] at hRR
  subst hRR
  go_wp2_with fail
  refine (itree_bad g E wc wc.heap.size 19 19 (some ⟨gs, 0, none⟩) sm (HS4.out.st.er HE.out hG hgl) HS4.out.own.rd (Nat.le_refl _) (fun x hx => by have := HSL.out.2 x hx; omega) hg (by omega)).mono ?_
  rintro e w5 ⟨rfl, hb5⟩
  go_wp2_with fail
  exact ⟨rfl, HEND.out _ (HS4.out.st.below hb5).kp⟩
 rw [if_neg (fun h => h hg)] at hRR
 have HRR := Lib.hid hRR
 go_wp2_with fail
 refine (itree_good g E wc wc.heap.size 19 19 (some ⟨gs, 0, none⟩) sm (HS4.out.st.er HE.out hG hgl) HS4.out.own.rd (Nat.le_refl _) hg (by omega)).mono ?_
 rintro e w5 ⟨gt, tv, rfl, hT5, hb5⟩
 have HS5 := Lib.hid (HS4.out.st.below hb5)
 have hgb5 : gb < w5.heap.size := Nat.lt_of_lt_of_le hgl HS5.out.kp.size
 have hw5 : w.heap.size ≤ w5.heap.size := HS5.out.kp.size
 have hgbc : gb < wc.heap.size := Nat.lt_of_lt_of_le hgl HS4.out.st.kp.size
 have HT5 := Lib.hid hT5
 have hgt : gb ≠ gt := by have := hT5.bg; omega
 have htv : tv.ownBlock ≠ some gb := fun e => by have := (hT5.own.lt _ e).1; omega
 obtain ⟨all, hall⟩ : ∃ all, all = many + far := ⟨_, rfl⟩
 have hai : (many : Int) + far = all := by omega
 have haw : IntKind.i64.wrap (all : Int) = all := IntWalk.i64_in _ (by omega)
 have hab : all ≤ 316 := by omega
 have hrl := HRR.out
 rw [← HMN.out, ← HFR.out, ← hall] at hrl
 have HALL := Lib.hid hall
 obtain ⟨RL, hRL⟩ : ∃ RL, RL = Inf.rlens sm all (b4.length + 1) b4 [] := ⟨_, rfl⟩
 rw [← hRL] at hrl
 have HRL := Lib.hid hRL
 have HRD := Lib.hid hrl
 have HGD := Lib.hid hg
 clear hall hRL hrl HRR hg hb5 hT5 HS4 hRR
 go_upto_block 2 with (fail)
 go_cut [11] (fun lv wx => ∃ (b : List Bool) (l : List Nat), RL = some (l, b) ∧ l.length = all ∧ (∀ x ∈ l, x ≤ 15) ∧ LnS w w5 g gb s c1 c2 b l lv wx)
 case first => as_aux_lemma =>
  go_wp2_with fail
  go_loopg [11] (b4.length + 1) (fun f lv wr => ∃ (b : List Bool) (l : List Nat), b.length < f ∧ Inf.rlens sm all f b l = RL ∧ l.length ≤ all ∧ (∀ x ∈ l, x ≤ 15) ∧ LnS w w5 g gb s c1 c2 b l lv wr)
  case atStart => exact ⟨b4, [], Nat.lt_succ_self _, HRL.out.symm, Nat.zero_le _, fun x hx => absurd hx (by simp), HS5.out, Own.nil _ _ _, Keeps.refl _ _⟩
  case round =>
   clear HRL HS5
   obtain ⟨bb, l, hbf, hrl, hla, h15, hS⟩ := hrel
   obtain ⟨f, rfl⟩ : ∃ f, gk = f + 1 := ⟨gk - 1, by omega⟩
   rw [Inf.rlens_succ] at hrl
   obtain ⟨A, c', rfl, hc', hrd⟩ := hS.own.form
   have HS := Lib.hid hS
   have H15 := Lib.hid h15
   by_cases hlt : l.length < all
   ·rw [if_pos hlt] at hrl
    obtain ⟨go, hgo⟩ : ∃ go, go = Inf.rlens sm all f := ⟨_, rfl⟩
    rw [← hgo] at hrl
    have HGO := Lib.hid hgo
    have HRLX := Lib.hid hrl
    have hTk := HT5.out.keeps HS.out.kp hgt htv
    have hli : (l.length : Int) < all := by omega
    clear hgo hrl hS h15
    go_wp2_with fail
    refine (inext_any g gb s E wr gt wc.heap.size sm tv bb c1 c2 (HS.out.st.er HE.out hG hgl) HS.out.st.blk hTk HS.out.st.rd hG hgt htv (by omega) HGD.out.le (by rw [HSL.out.1]; omega)).mono ?_
    rintro e w6 ⟨hk6, he6⟩
    have HKE := Lib.hid (show ∀ W', Keeps (fun x => x = gb) w6 W' → Keeps (fun x => x = gb) w W' from fun W' k => (HS.out.st.kp.trans hk6 fun _ _ e => e).trans k fun _ _ e => e)
    cases hn : Huf.next sm 15 0 0 bb with
    | none =>
     rw [hn] at he6
     replace he6 : e = .panicked (thrownI E 0) := he6
     subst he6
     have hR : R = none := by rw [HRD.out, ← HRLX.out, Inf.ls_no hn]; rfl
     subst hR
     go_wp2_with fail
     exact ⟨rfl, HEND.out _ (HKE.out _ (Keeps.refl _ _))⟩
    | some r =>
     obtain ⟨k, b1'⟩ := r
     rw [hn] at he6
     replace he6 : e = .returned (.int .i64 k) ∧ RdB w6 gb s b1' := he6
     obtain ⟨rfl, hR6⟩ := he6
     obtain ⟨hk19, hbl, _⟩ := Huf.next_sym 15 0 0 bb (by omega) hn
     have hk19 : k < 19 := by rw [HSL.out.1] at hk19; exact hk19
     have HS6 := Lib.hid (HS.out.step hne hgb5 hk6 hR6)
     have HN := Lib.hid hn
     clear hn hR6 hk6 hTk
     go_upto_block 4 with (fail)
     go_cut [13, 14] (fun av bv wx => ∃ (T V : Nat) (b2' : List Bool), av = .int .i64 T ∧ bv = .int .i64 V ∧ LnS w w5 g gb s c1 c2 b2' l (.slice A l.length c') wx ∧ b2'.length < bb.length ∧ 1 ≤ T ∧ T ≤ 138 ∧ V ≤ 15 ∧ (if all < l.length + T then none else go b2' (l ++ List.replicate T V)) = RL)
     case first => as_aux_lemma =>
      rcases (show k = 16 ∨ k = 17 ∨ k = 18 ∨ k < 16 by omega) with rfl | rfl | rfl | hk16
      ·by_cases hl0 : l = []
       ·have hR : R = none := by rw [HRD.out, ← HRLX.out, Inf.ls_16n HN.out hl0]; rfl
        subst hR
        have hd0 : decide (0 < l.length) = false := decide_eq_false (by rw [hl0]; decide)
        have dE := (HS6.out.st.er HE.out hG hgl).text
        clear hl0
        go_wp2_with fail
        refine (must_no g E w6 0).mono ?_
        rintro e w7 ⟨rfl, rfl⟩
        go_wp2_with fail
        exact ⟨rfl, HEND.out _ (HKE.out _ (Keeps.refl _ _))⟩
       ·have hl1 : 0 < l.length := List.length_pos_iff.2 hl0
        have hd0 : decide (0 < l.length) = true := decide_eq_true hl1
        have dE := (HS6.out.st.er HE.out hG hgl).text
        have HL0 := Lib.hid hl0
        clear hl0
        go_wp2_with fail
        refine (must_yes g w6 _).mono ?_
        rintro e w7 ⟨rfl, hw7⟩
        rw [hw7]
        clear hw7 w7 dE hd0
        obtain ⟨gA, oA, rfl, hgA5, _⟩ := HS6.out.own.addr hl1
        obtain ⟨I, hI⟩ : ∃ I, I = l.length - 1 := ⟨_, rfl⟩
        have hIl : I < l.length := by omega
        obtain ⟨x, hx⟩ : ∃ x, x = l.getD I 0 := ⟨_, rfl⟩
        have hx15 : x ≤ 15 := by rw [hx, getD_at _ _ hIl]; exact H15.out _ (List.getElem_mem hIl)
        have hcx := HS6.out.own.reads.2.cell rfl I (by omega)
        rw [nats_at _ _ hIl, ← getD_at _ _ hIl, ← hx] at hcx
        have hIi : (l.length : Int) - 1 = I := by omega
        have hIw : IntKind.i64.wrap (I : Int) = I := IntWalk.i64_in _ (by omega)
        have hIl2 : (I : Int) < l.length := by omega
        have hgA : gA ≠ gb := by omega
        have HX := Lib.hid (And.intro hI hx)
        have HG2 := Lib.hid (iget_any g gb s E w6.drew 2 b1' c1 c2 ((HS6.out.st.er HE.out hG hgl).below (Below.here w6)) HS6.out.st.blk.drew HS6.out.st.rd.drew hG (by omega) (by omega))
        clear hI hx
        go_upto_region 17 with (fail)
        cases hy : Inf.get 2 b1' with
        | none =>
         have hR : R = none := by rw [HRD.out, ← HRLX.out, Inf.ls_16g HN.out hy]; rfl
         subst hR
         have HY := Lib.hid hy
         clear hy
         refine wp_region_held_drew (S := (fun w' => w'.cell? ⟨gA, oA + I, none⟩ = some (.int .i64 (x : Nat)))) (by kernel_rfl) ?_ (fun hHeld => ?_)
         ·exact hcx
         refine opT 0 rfl ?_; refine opT 3 rfl ?_; refine opT 4 rfl ?_; refine opT 5 rfl ?_; refine opT 6 rfl ?_; refine opT 7 rfl ?_; refine opT 8 rfl ?_
         refine opD 1 rfl (fun K hK => ?_)
         go_simp
         (go_at_call 150; refine HG2.out.mono ?_; rintro e w7 ⟨hk7, he7⟩; rw [HY.out] at he7; replace he7 : e = .panicked (thrownI E 0) := he7; subst he7; exact bodyPost_pan rfl (HEND.out _ (HKE.out _ (Keeps.undrew hk7))))
        | some r =>
         obtain ⟨y, b2'⟩ := r
         obtain ⟨_, hyd, hy2⟩ := Inf.get_some hy
         replace hy2 : y < 4 := hy2
         have hbl2 : b2'.length ≤ b1'.length := by rw [hyd, List.length_drop]; omega
         have hrlx := HRLX.out
         rw [Inf.ls_16 HN.out HL0.out hy, ← HX.out.1, ← HX.out.2] at hrlx
         have HRLY := Lib.hid hrlx
         have HY := Lib.hid hy
         obtain ⟨T, hT⟩ : ∃ T, T = 3 + y := ⟨_, rfl⟩
         have hTw : IntKind.i64.wrap ((3 : Int) + y) = T := by rw [show (3 : Int) + y = T by omega]; exact IntWalk.i64_in _ (by omega)
         have HTT := Lib.hid hT
         clear hy hyd hrlx hT
         refine wp_region_held_drew (S := (fun w' => w'.cell? ⟨gA, oA + I, none⟩ = some (.int .i64 (x : Nat)))) (by kernel_rfl) ?_ (fun hHeld => ?_)
         ·exact hcx
         refine opT 0 rfl ?_; refine opT 3 rfl ?_; refine opT 4 rfl ?_; refine opT 5 rfl ?_; refine opT 6 rfl ?_; refine opT 7 rfl ?_; refine opT 8 rfl ?_
         refine opD 1 rfl (fun K hK => ?_)
         go_simp
         (go_at_call 150; refine HG2.out.mono ?_; rintro e w7 ⟨hk7, he7⟩; rw [HY.out] at he7; obtain ⟨rfl, hR7⟩ := he7; have hk7 := Keeps.undrew hk7)
         refine hK.out _ _ ?_ (fun hHeld => ?_)
         ·exact hk7.cellOld5 hgA hcx
         clear hK K
         refine opT 2 rfl ?_; refine opT 9 rfl ?_; refine opT 10 rfl ?_
         refine wpAnyH_done (by kernel_rfl) ?_ _
         have HS7 := Lib.hid (HS6.out.step hne hgb5 hk7 hR7)
         clear hk7 hR7 hHeld hcx
         go_wp2_with fail
         go_meet
         case rel => exact ⟨T, x, b2', rfl, rfl, HS7.out, by omega, by have := HTT.out; omega, by have := HTT.out; omega, hx15, by rw [HTT.out]; exact HRLY.out⟩
      ·cases hy : Inf.get 3 b1' with
       | none =>
        have hR : R = none := by rw [HRD.out, ← HRLX.out, Inf.ls_17g HN.out hy]; rfl
        subst hR
        go_wp2_with fail
        refine (iget_any g gb s E w6 3 b1' c1 c2 (HS6.out.st.er HE.out hG hgl) HS6.out.st.blk HS6.out.st.rd hG (by omega) (by omega)).mono ?_
        rintro e w7 ⟨hk7, he7⟩
        rw [hy] at he7
        replace he7 : e = .panicked (thrownI E 0) := he7
        subst he7
        go_wp2_with fail
        exact ⟨rfl, HEND.out _ (HKE.out _ hk7)⟩
       | some r =>
        obtain ⟨y, b2'⟩ := r
        obtain ⟨_, hyd, hy2⟩ := Inf.get_some hy
        replace hy2 : y < 8 := hy2
        have hbl2 : b2'.length ≤ b1'.length := by rw [hyd, List.length_drop]; omega
        have hrlx := HRLX.out
        rw [Inf.ls_17 HN.out hy] at hrlx
        have HRLY := Lib.hid hrlx
        have HY := Lib.hid hy
        obtain ⟨T, hT⟩ : ∃ T, T = 3 + y := ⟨_, rfl⟩
        have hTi : (3 : Int) + y = T := by omega
        have hTw : IntKind.i64.wrap (T : Int) = T := IntWalk.i64_in _ (by omega)
        have HTT := Lib.hid hT
        clear hy hyd hrlx hT
        go_wp2_with fail
        refine (iget_any g gb s E w6 3 b1' c1 c2 (HS6.out.st.er HE.out hG hgl) HS6.out.st.blk HS6.out.st.rd hG (by omega) (by omega)).mono ?_
        rintro e w7 ⟨hk7, he7⟩
        rw [HY.out] at he7
        replace he7 : e = .returned (.int .i64 y) ∧ RdB w7 gb s b2' := he7
        obtain ⟨rfl, hR7⟩ := he7
        have HS7 := Lib.hid (HS6.out.step hne hgb5 hk7 hR7)
        clear hk7 hR7
        go_wp2_with fail
        go_meet
        case rel => exact ⟨T, 0, b2', rfl, rfl, HS7.out, by omega, by omega, by omega, by omega, by rw [HTT.out]; exact HRLY.out⟩
      ·cases hy : Inf.get 7 b1' with
       | none =>
        have hR : R = none := by rw [HRD.out, ← HRLX.out, Inf.ls_18g HN.out hy]; rfl
        subst hR
        go_wp2_with fail
        refine (iget_any g gb s E w6 7 b1' c1 c2 (HS6.out.st.er HE.out hG hgl) HS6.out.st.blk HS6.out.st.rd hG (by omega) (by omega)).mono ?_
        rintro e w7 ⟨hk7, he7⟩
        rw [hy] at he7
        replace he7 : e = .panicked (thrownI E 0) := he7
        subst he7
        go_wp2_with fail
        exact ⟨rfl, HEND.out _ (HKE.out _ hk7)⟩
       | some r =>
        obtain ⟨y, b2'⟩ := r
        obtain ⟨_, hyd, hy2⟩ := Inf.get_some hy
        replace hy2 : y < 128 := hy2
        have hbl2 : b2'.length ≤ b1'.length := by rw [hyd, List.length_drop]; omega
        have hrlx := HRLX.out
        rw [Inf.ls_18 HN.out hy] at hrlx
        have HRLY := Lib.hid hrlx
        have HY := Lib.hid hy
        obtain ⟨T, hT⟩ : ∃ T, T = 11 + y := ⟨_, rfl⟩
        have hTi : (11 : Int) + y = T := by omega
        have hTw : IntKind.i64.wrap (T : Int) = T := IntWalk.i64_in _ (by omega)
        have HTT := Lib.hid hT
        clear hy hyd hrlx hT
        go_wp2_with fail
        refine (iget_any g gb s E w6 7 b1' c1 c2 (HS6.out.st.er HE.out hG hgl) HS6.out.st.blk HS6.out.st.rd hG (by omega) (by omega)).mono ?_
        rintro e w7 ⟨hk7, he7⟩
        rw [HY.out] at he7
        replace he7 : e = .returned (.int .i64 y) ∧ RdB w7 gb s b2' := he7
        obtain ⟨rfl, hR7⟩ := he7
        have HS7 := Lib.hid (HS6.out.step hne hgb5 hk7 hR7)
        clear hk7 hR7
        go_wp2_with fail
        go_meet
        case rel => exact ⟨T, 0, b2', rfl, rfl, HS7.out, by omega, by omega, by omega, by omega, by rw [HTT.out]; exact HRLY.out⟩
      ·have hrlx := HRLX.out
       rw [Inf.ls_lit HN.out hk16] at hrlx
       have HRLY := Lib.hid hrlx
       have n16 : ((k : Int) == 16) = false := by rw [beq_eq_false_iff_ne]; omega
       have n17 : ((k : Int) == 17) = false := by rw [beq_eq_false_iff_ne]; omega
       have n18 : ((k : Int) == 18) = false := by rw [beq_eq_false_iff_ne]; omega
       clear hrlx
       go_wp2_with fail
       go_meet
       case rel => exact ⟨1, k, b1', rfl, rfl, HS6.out, hbl, by omega, by omega, by omega, HRLY.out⟩
     obtain ⟨T, V, b2', rfl, rfl, hS7, hbl2, hT1, hT138, hV15, hrly⟩ := hcut
     have HS7 := Lib.hid hS7
     have HRLY := Lib.hid hrly
     have dE := (HS7.out.st.er HE.out hG hgl).text
     obtain ⟨Q, hQ⟩ : ∃ Q, Q = l.length + T := ⟨_, rfl⟩
     have hQi : (l.length : Int) + T = Q := by omega
     have hQw : IntKind.i64.wrap (Q : Int) = Q := IntWalk.i64_in _ (by omega)
     have HQ := Lib.hid hQ
     clear hS7 hrly HS6 HKE HN hQ
     by_cases hQa : all < Q
     ·have hR : R = none := by
       have := HRLY.out
       rw [← HQ.out, if_pos hQa] at this
       rw [HRD.out, ← this]
       rfl
      subst hR
      have hd0 : decide ((Q : Int) ≤ all) = false := decide_eq_false (by omega)
      have hd1 : decide (Q ≤ all) = false := decide_eq_false (by omega)
      clear hQa
      go_wp2_with fail
      refine (must_no g E wc 0).mono ?_
      rintro e w8 ⟨rfl, rfl⟩
      go_wp2_with fail
      exact ⟨rfl, HEND.out _ HS7.out.st.kp⟩
     ·have hrly := HRLY.out
      rw [← HQ.out, if_neg hQa] at hrly
      have HRLZ := Lib.hid hrly
      have hd0 : decide ((Q : Int) ≤ all) = true := decide_eq_true (by omega)
      have hd1 : decide (Q ≤ all) = true := decide_eq_true (by omega)
      have hQal : Q ≤ all := by omega
      clear hQa hrly HRLY
      go_wp2_with fail
      refine (must_yes g wc _).mono ?_
      rintro e w8 ⟨rfl, hw8⟩
      rw [hw8]
      clear hw8 w8 dE hd0 hd1
      go_wp2_with fail
      have hc1 : (wc.alloc (.cells #[.int .i64 (V : Int)] 3)).cell? ⟨wc.heap.size, 0, none⟩ = some (.int .i64 (V : Int)) := by rw [(Blk.new wc 3 #[.int .i64 (V : Int)] rfl).cell]; rfl
      refine (repeat_any wc.heap.size 0 1 T V _ hc1 hT1 (by omega)).mono ?_
      rintro e w8 ⟨Ar, cr, rfl, hor, hb8⟩
      have hbw : Below wc.heap.size wc w8 := ((Below.refl _ _).alloc (Nat.le_refl _) _).trans (hb8.mono (by simp))
      have hir : ints (List.replicate T (V : Int)) = nats (List.replicate T V) := by unfold ints nats; rw [List.map_replicate, List.map_replicate]
      rw [hir] at hor
      have HS8 := Lib.hid (HS7.out.below hbw)
      have HOR := Lib.hid hor.rd
      have hb58 : w5.heap.size ≤ w8.heap.size := HS8.out.kp.size
      have hlr : (l ++ List.replicate T V).length = Q := by rw [List.length_append, List.length_replicate, HQ.out]
      have HLR := Lib.hid hlr
      have hTQ : l.length + T = Q := HQ.out.symm
      clear hc1 hor hb8 hbw hir hlr
      go_wp2_with (at_builtin; refine wpList_append_S rfl (.tmp 99) (.tmp 103) 119 119 rfl w5.heap.size 3 i0 (.int .i64 0) 1 8 Tryz.underlying119 hi hz0 hz1 hz2 rfl (by decide) (.slice A l.length c') l.length (nats l) rfl HS8.out.own (nats_one _) T (nats (List.replicate T V)) (Reads.src Tryz.underlying119 HOR.out (by omega) (nats_one _) cr) Q hTQ (nats (l ++ List.replicate T V)) (by rw [nats_append]) (by unfold maxLen; omega) (by omega) hb58 ?_; intro A9 c9 w9 ho9 hg9 ha9)
      have HS9 := Lib.hid (HS8.out.grow (by omega) hgb5 (by omega) hg9 (by rw [HLR.out]; exact ho9))
      go_roundg f
      case rel =>
       refine ⟨b2', l ++ List.replicate T V, by omega, by rw [← HGO.out]; exact HRLZ.out, by rw [HLR.out]; exact hQal, fun x hx => ?_, HS9.out⟩
       rcases List.mem_append.1 hx with h | h
       ·exact H15.out x h
       ·rw [(List.mem_replicate.1 h).2]; exact hV15
      case measure => exact Nat.lt_succ_self f
   ·rw [if_neg hlt] at hrl
    have HRLX := Lib.hid hrl.symm
    have hla2 : l.length = all := by omega
    have hli : (all : Int) ≤ l.length := by omega
    clear hrl hS h15 hlt
    go_wp2_with fail
    go_meet
    case rel => exact ⟨bb, l, HRLX.out, hla2, H15.out, HS.out⟩
 obtain ⟨b5, l, hrl, hll, h15, hS⟩ := hcut
 have hR := HRD.out
 rw [hrl] at hR
 replace hR : R = if ¬ Huf.Good (l.take (a + 257)) ∨ ¬ Huf.Good (l.drop (a + 257)) ∨ (l.take (a + 257)).getD 256 0 = 0 then none else some ((l.take (a + 257), l.drop (a + 257)), b5) := hR
 rw [← HMN.out] at hR
 have hal : all = many + far := HALL.out
 have hmn : many = a + 257 := HMN.out
 have hfr : far = b + 1 := HFR.out
 obtain ⟨A5, c5, rfl, hc5, _⟩ := hS.own.form
 obtain ⟨gA, oA, rfl, hgA5, _⟩ := hS.own.addr (by omega)
 rw [hll] at hS hc5 ⊢
 have hma : many < all := by omega
 have hown : Own wc w5.heap.size 1 (.slice (some ⟨gA, oA, none⟩) all c5) all (nats l) := by
  have h1 := hS.own
  rw [hll] at h1
  exact h1
 have hrd1 : Reads wc wc.heap.size 1 (some ⟨gA, oA, none⟩) many (nats (l.take many)) := by
  have := (hown.take (k := many) (Nat.le_of_lt hma)).reads.2
  rw [Nat.mul_one] at this
  unfold nats at *
  rw [List.map_take]
  exact this
 have hrd2 : Own wc w5.heap.size 1 (.slice (some ⟨gA, oA + many, none⟩) (all - many) (c5 - many)) (all - many) (nats (l.drop many)) := by
  have := hown.drop (k := many) (Nat.le_of_lt hma)
  rw [if_neg (by omega), Nat.mul_one, Option.map_some, add_lit] at this
  unfold nats at *
  rw [List.map_drop]
  exact this
 have HSC := Lib.hid hS
 have HRD1 := Lib.hid (show Reads wc.drew wc.heap.size 1 (some ⟨gA, oA, none⟩) many (nats (l.take many)) from hrd1)
 have HRD2 := Lib.hid (show ∀ W, Below wc.heap.size wc W → Reads W W.heap.size 1 (some ⟨gA, oA + many, none⟩) (all - many) (nats (l.drop many)) from fun W hb => (hrd2.below hb (Nat.le_refl _)).rd)
 have HEW := Lib.hid ((hS.st.er HE.out hG hgl).below (Below.here wc))
 have HTK := Lib.hid (show (∀ x ∈ l.take many, x ≤ 15) ∧ (∀ x ∈ l.drop many, x ≤ 15) ∧ (l.take many).length ≤ 300 ∧ (l.drop many).length ≤ 300 from ⟨fun x hx => h15 x (List.mem_of_mem_take hx), fun x hx => h15 x (List.mem_of_mem_drop hx), by rw [List.length_take]; omega, by rw [List.length_drop]; omega⟩)
 have hi256 : 256 < l.length := by omega
 obtain ⟨z, hz⟩ : ∃ z, z = l.getD 256 0 := ⟨_, rfl⟩
 have hz2' : (l.take many).getD 256 0 = z := by rw [getD_take _ _ _ (by omega), hz]
 have hcz0 := hS.own.reads.2.cell rfl 256 (by omega)
 rw [nats_at _ _ hi256, ← getD_at _ _ hi256, ← hz] at hcz0
 rw [hz2'] at hR
 have HRX := Lib.hid hR
 have HZ := Lib.hid (h15 z (by rw [hz, getD_at _ _ hi256]; exact List.getElem_mem hi256))
 have HCZ := Lib.hid (show ∀ W, Below wc.heap.size wc W → W.cell? ⟨gA, oA + 256, none⟩ = some (.int .i64 (z : Nat)) from fun W hb => by
  rw [hb.cell (p := ⟨gA, oA + 256, none⟩) (hS.own.lt gA rfl).2]
  exact hcz0)
 have hmi : (many : Int) < all := by omega
 have hmi2 : (many : Int) ≤ all := by omega
 have hmc : many ≤ c5 := by omega
 have hmci : (many : Int) ≤ c5 := by omega
 have hmcn : ¬ c5 = many := by omega
 have hai2 : (256 : Int) < all := by omega
 have hBB := Lib.hid hS.st.kp.size
 clear hrl hS hrd1 hrd2 hR h15 hz hz2' hcz0 hi256 HRD HTB HT5 HGD HSL hown hal hmn hfr hll
 go_upto_region 24 with (fail)
 by_cases hg1 : Huf.Good (l.take many)
 case neg =>
  have hR : R = none := by rw [HRX.out, if_pos (.inl hg1)]
  subst hR
  refine wp_region_held_drew (S := (fun _ => True)) (by kernel_rfl) ?_ (fun hHeld => ?_)
  ·trivial
  refine opT 0 rfl ?_; refine opT 1 rfl ?_; refine opT 2 rfl ?_; refine opT 3 rfl ?_; refine opT 5 rfl ?_; refine opT 6 rfl ?_; refine opT 7 rfl ?_; refine opT 8 rfl ?_
  refine opD 4 rfl (fun K hK => ?_)
  go_simp
  (go_at_call 153; refine (itree_bad g E _ wc.heap.size many c5 (some ⟨gA, oA, none⟩) (l.take many) HEW.out HRD1.out (Nat.le_refl _) HTK.out.1 hg1 HTK.out.2.2.1).mono ?_; rintro e w6 ⟨rfl, hb6⟩; exact bodyPost_pan rfl (HEND.out _ (HSC.out.st.below (Below.fromDrew hb6)).kp))
 by_cases hg2 : Huf.Good (l.drop many)
 case neg =>
  have hR : R = none := by rw [HRX.out, if_pos (.inr (.inl hg2))]
  subst hR
  refine wp_region_held_drew (S := (fun _ => True)) (by kernel_rfl) ?_ (fun hHeld => ?_)
  ·trivial
  refine opT 0 rfl ?_; refine opT 1 rfl ?_; refine opT 2 rfl ?_; refine opT 3 rfl ?_; refine opT 5 rfl ?_; refine opT 6 rfl ?_; refine opT 7 rfl ?_; refine opT 8 rfl ?_
  refine opD 4 rfl (fun K hK => ?_)
  go_simp
  (go_at_call 153; refine (itree_good g E _ wc.heap.size many c5 (some ⟨gA, oA, none⟩) (l.take many) HEW.out HRD1.out (Nat.le_refl _) hg1 HTK.out.2.2.1).mono ?_; rintro e w6 ⟨t1, v1, rfl, hT1, hb6⟩; have hS6 := HSC.out.below (Below.fromDrew hb6); have hR6 := HRD2.out w6 (Below.fromDrew hb6); have hE6 := hS6.st.er HE.out hG hgl)
  refine hK.out _ _ ?_ (fun hHeld => ?_)
  ·trivial
  clear hK K
  (try simp only [Act.put, nz1, nz2, nz3, nz4, nz5, nz6])
  refine opD 9 rfl (fun K hK => ?_)
  go_simp
  (go_at_call 153; refine (itree_bad g E w6 w6.heap.size (all - many) (c5 - many) (some ⟨gA, oA + many, none⟩) (l.drop many) hE6 hR6 (Nat.le_refl _) HTK.out.2.1 hg2 HTK.out.2.2.2).mono ?_; rintro e w7 ⟨rfl, hb7⟩; exact bodyPost_pan rfl (HEND.out _ (hS6.st.below hb7).kp))
 have HG12 := Lib.hid (And.intro hg1 hg2)
 refine wp_region_held_drew (S := (fun _ => True)) (by kernel_rfl) ?_ (fun hHeld => ?_)
 ·trivial
 refine opT 0 rfl ?_; refine opT 1 rfl ?_; refine opT 2 rfl ?_; refine opT 3 rfl ?_; refine opT 5 rfl ?_; refine opT 6 rfl ?_; refine opT 7 rfl ?_; refine opT 8 rfl ?_
 refine opD 4 rfl (fun K hK => ?_)
 go_simp
 (go_at_call 153; refine (itree_good g E _ wc.heap.size many c5 (some ⟨gA, oA, none⟩) (l.take many) HEW.out HRD1.out (Nat.le_refl _) hg1 HTK.out.2.2.1).mono ?_; rintro e w6 ⟨t1, v1, rfl, hT1, hb6⟩; have hS6 := HSC.out.below (Below.fromDrew hb6); have hR6 := HRD2.out w6 (Below.fromDrew hb6); have hE6 := hS6.st.er HE.out hG hgl)
 refine hK.out _ _ ?_ (fun hHeld => ?_)
 ·trivial
 clear hK K
 (try simp only [Act.put, nz1, nz2, nz3, nz4, nz5, nz6])
 refine opD 9 rfl (fun K hK => ?_)
 go_simp
 (go_at_call 153; refine (itree_good g E w6 w6.heap.size (all - many) (c5 - many) (some ⟨gA, oA + many, none⟩) (l.drop many) hE6 hR6 (Nat.le_refl _) hg2 HTK.out.2.2.2).mono ?_; rintro e w7 ⟨t2, v2, rfl, hT2, hb7⟩; have hS7 := hS6.below hb7)
 refine hK.out _ _ ?_ (fun hHeld => ?_)
 ·trivial
 clear hK K
 (try simp only [Act.put, nz1, nz2, nz3, nz4, nz5, nz6])
 refine opT 10 rfl ?_; refine opT 11 rfl ?_
 refine wpAnyH_done (by kernel_rfl) ?_ _
 have HS7 := Lib.hid hS7
 have HTR := Lib.hid (And.intro (hT1.below hb7) hT2)
 have hcz := HCZ.out w7 ((Below.fromDrew hb6).trans (hb7.mono (Below.fromDrew hb6).size))
 have dE := (HS7.out.st.er HE.out hG hgl).text
 have hsz6 := (Below.fromDrew hb6).size
 have HS67 := Lib.hid hsz6
 clear hS7 hT1 hT2 hb6 hb7 hS6 hR6 hE6 hHeld HSC HRD1 HRD2 HEW HTK HCZ hg1 hg2 hsz6
 go_upto_region 25 with (fail)
 by_cases hz0 : z = 0
 ·have hR : R = none := by rw [HRX.out, if_pos (.inr (.inr hz0))]
  subst hR
  have hd0 : decide (0 < z) = false := decide_eq_false (by omega)
  clear hz0
  refine wp_region_held_drew (S := (fun w' => w'.cell? ⟨gA, oA + 256, none⟩ = some (.int .i64 (z : Nat)) ∧ w'.cell? ⟨0, 0, none⟩ = some (.iface 290 (.pointer (some (E 0)))))) (by kernel_rfl) ?_ (fun hHeld => ?_)
  ·exact ⟨hcz, dE⟩
  refine opT 0 rfl ?_; refine opT 1 rfl ?_; refine opT 2 rfl ?_; refine opT 3 rfl ?_; refine opT 4 rfl ?_; refine opT 5 rfl ?_
  refine opD 6 rfl (fun K hK => ?_)
  go_simp
  (go_at_call 175; refine (must_no g E _ 0).mono ?_; rintro e w8 ⟨rfl, rfl⟩; exact bodyPost_pan rfl (HEND.out _ HS7.out.st.kp.drew))
 ·have hd0 : decide (0 < z) = true := decide_eq_true (by omega)
  have hR : R = some ((l.take many, l.drop many), b5) := by rw [HRX.out, if_neg (fun e => by rcases e with e | e | e; exact e HG12.out.1; exact e HG12.out.2; exact hz0 e)]
  subst hR
  clear hz0
  refine wp_region_held_drew (S := (fun w' => w'.cell? ⟨gA, oA + 256, none⟩ = some (.int .i64 (z : Nat)) ∧ w'.cell? ⟨0, 0, none⟩ = some (.iface 290 (.pointer (some (E 0)))))) (by kernel_rfl) ?_ (fun hHeld => ?_)
  ·exact ⟨hcz, dE⟩
  refine opT 0 rfl ?_; refine opT 1 rfl ?_; refine opT 2 rfl ?_; refine opT 3 rfl ?_; refine opT 4 rfl ?_; refine opT 5 rfl ?_
  refine opD 6 rfl (fun K hK => ?_)
  go_simp
  (go_at_call 175; refine (must_yes g _ _).mono ?_; rintro e w8 ⟨rfl, rfl⟩)
  refine hK.out _ _ ?_ (fun hHeld => ?_)
  ·exact ⟨hcz, dE⟩
  clear hK K
  (try simp only [Act.put, nz1, nz2, nz3, nz4, nz5, nz6])
  refine wpAnyH_done (by kernel_rfl) ?_ _
  go_wp2_with fail
  go_ret2
  have hb1 := hBB.out
  have hb2 := HS67.out
  exact ⟨HS7.out.st.kp.drew, t1, t2, v1, v2, rfl, HS7.out.st.rd.drew, (HTR.out.1.mono (show w.heap.size ≤ wc.heap.size from hb1)).below (Below.here _), (HTR.out.2.mono (show w.heap.size ≤ w6.heap.size by omega)).below (Below.here _)⟩
end
end Go.Proofs.YtkegkelaffohjaaGreatDoor
