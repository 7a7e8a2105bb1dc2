/- InfMem, InfOut, Packer: put together. -/
import Derived.Test.YtkegkelaffohjaaGreatDoorKCFilmTwice7
import Derived.Test.YtkegkelaffohjaaGreatDoorQCFilmTwiceHufCodes
import Derived.Deep.RegionWith
import Derived.Deep.RegionLaw
import Derived.RegionCalls
/- inflate.reader in memory; must, get, next, tree: the walks; what is thrown. -/
namespace Go.Proofs.YtkegkelaffohjaaGreatDoor
open Go Go.RowKit
theorem bodyPost_pan {P : Program} {fn : Func} {R : Ending → World → Prop} {ch : List PanicEntry} {a : Act} {w : World} (hd : a.defers = []) (h : R (.panicked ch) w) : bodyPost P fn R (.panic ch) a w := ⟨hd, h⟩
def thrownI (E : Nat → Addr) (k : Nat) : List PanicEntry := [{ v := .iface 182 (.agg #[errV (E k)]), recovered := false }]
def ReadI (w : World) (gb : Nat) (s : ByteArray) (E : Nat → Addr) (R : Option (Nat × List Bool)) (e : Ending) (w' : World) : Prop :=
 Keeps (fun x => x = gb) w w' ∧ match R with
 | none => e = .panicked (thrownI E 0)
 | some q => e = .returned (.int .i64 q.1) ∧ RdB w' gb s q.2
theorem Er4.below2 {w w' : World} {E : Nat → Addr} {B : Nat} (h : Er4 w E) (hb : Below B w w') (hB : 15 ≤ B) : Er4 w' E :=
 ⟨bcell_ hb (show _ < B by simp only; omega) h.text, bcell_ hb (show _ < B by simp only; omega) h.bound, bcell_ hb (show _ < B by simp only; omega) h.shape, bcell_ hb (show _ < B by simp only; omega) h.sum⟩
theorem RdB.drew {w : World} {g : Nat} {s : ByteArray} {bs : List Bool} (h : RdB w g s bs) : RdB w.drew g s bs := ⟨h.ex⟩
section
variable (g gb : Nat) (s : ByteArray) (E : Nat → Addr) (w : World)
theorem must_yes (ev : Value) : Calls Tryz.prog 175 #[.pointer (some ⟨g, 0, none⟩), .bool true, ev] w fun e w' => e = .returned (.tuple #[]) ∧ w' = w := by
 go_enter Tryz.func175, Tryz.ntmps175
 go_wp2_with fail
 go_end0
 exact ⟨rfl, rfl⟩
theorem must_no (k : Nat) : Calls Tryz.prog 175 #[.pointer (some ⟨g, 0, none⟩), .bool false, errV (E k)] w fun e w' => e = .panicked (thrownI E k) ∧ w' = w := by
 go_enter Tryz.func175, Tryz.ntmps175
 unfold errV
 go_wp2_with fail
 exact ⟨rfl, rfl, rfl⟩
theorem iget_any (k : Nat) (bs : List Bool) (c1 c2 : Value) (hE : Er4 w E) (hb : Blk w g 187 #[.pointer (some ⟨gb, 0, none⟩), c1, c2]) (hR : RdB w gb s bs) (hG : 15 ≤ gb) (hs : s.size ≤ 1099511627776) (hk : k ≤ 32) :
  Calls Tryz.prog 150 #[.pointer (some ⟨g, 0, none⟩), .int .i64 k] w fun e w' => ReadI w gb s E (Inf.get k bs) e w' := by
 have d0 : w.cell? ⟨g, 0, none⟩ = some (.pointer (some ⟨gb, 0, none⟩)) := by rw [hb.cell]; rfl
 obtain ⟨R, hRe⟩ : ∃ R, R = Inf.get k bs := ⟨_, rfl⟩
 rw [← hRe]
 unfold Inf.get at hRe
 have dE := hE.text
 go_enter Tryz.func150, Tryz.ntmps150
 go_wp2_with fail
 by_cases hl : bs.length < k
 ·rw [if_pos hl] at hRe
  subst hRe
  refine (rget_no gb k s bs E w hE hR hs hk hl).mono ?_
  rintro e w1 ⟨rfl, q, rfl⟩
  have hve : errV (E 0) = .iface 290 (.pointer (some (E 0))) := rfl
  rw [hve]
  have dE : (w.drewN q).cell? ⟨0, 0, none⟩ = some (.iface 290 (.pointer (some (E 0)))) := dE
  go_wp2_with fail
  refine wp_region_held_drew (S := (fun w' => w'.cell? ⟨0, 0, none⟩ = some (.iface 290 (.pointer (some (E 0)))))) (by kernel_rfl) ?_ (fun hHeld => ?_)
  ·exact dE
  refine opT 0 rfl ?_; refine opT 1 rfl ?_; refine opT 2 rfl ?_; refine opT 3 rfl ?_
  refine opD 4 rfl (fun K hK => ?_)
  go_simp
  (go_at_call 175; refine (must_no g E _ 0).mono ?_; rintro e w2 ⟨rfl, rfl⟩; exact bodyPost_pan rfl ⟨(Keeps.refl _ _).drewN _, rfl⟩)
 ·rw [if_neg hl] at hRe
  subst hRe
  refine (rget_yes gb k s bs w hR hs hk (by omega)).mono ?_
  rintro e w1 ⟨rfl, hR1, hk1⟩
  have dE : w1.cell? ⟨0, 0, none⟩ = some (.iface 290 (.pointer (some (E 0)))) := (hE.keeps hk1 hG (by obtain ⟨p, h1, _⟩ := hR.ex; exact h1.lt)).text
  obtain ⟨x, hx⟩ : ∃ x, x = Bit.val (bs.take k) := ⟨_, rfl⟩
  have hxl : x < 4294967296 := by
   rw [hx]
   have h1 := Bit.val_lt (bs.take k)
   rw [List.length_take, Nat.min_eq_left (by omega)] at h1
   exact Nat.lt_of_lt_of_le h1 (Nat.pow_le_pow_right (by omega) hk)
  rw [← hx]
  have HX := Lib.hid hx
  clear hx
  have hxw : IntKind.i64.wrap (x : Int) = x := IntWalk.i64_in _ (by omega)
  go_wp2_with fail
  go_region_with ((go_at_call 175; refine (must_yes g _ _).mono ?_; rintro e w2 ⟨rfl, rfl⟩))
  go_wp2_with fail
  go_ret
  refine ⟨hk1.drew, ?_, hR1.drew⟩
  rw [HX.out]
  rfl
theorem inext_any (gt B : Nat) (l : List Nat) (v : Value) (bs : List Bool) (c1 c2 : Value) (hE : Er4 w E) (hb : Blk w g 187 #[.pointer (some ⟨gb, 0, none⟩), c1, c2]) (hT : TreeAt w B gt l (Huf.syms l) v) (hR : RdB w gb s bs) (hG : 15 ≤ gb) (hgt : gb ≠ gt) (hvg : v.ownBlock ≠ some gb) (hs : s.size ≤ 1099511627776) (hk : Huf.K l 15 ≤ 2 ^ 15) (hm : l.length ≤ 300) :
  Calls Tryz.prog 157 #[.pointer (some ⟨g, 0, none⟩), .pointer (some ⟨gt, 0, none⟩)] w fun e w' => ReadI w gb s E (Huf.next l 15 0 0 bs) e w' := by
 have d0 : w.cell? ⟨g, 0, none⟩ = some (.pointer (some ⟨gb, 0, none⟩)) := by rw [hb.cell]; rfl
 obtain ⟨R, hRe⟩ : ∃ R, R = Huf.next l 15 0 0 bs := ⟨_, rfl⟩
 have hN := next_any B gb gt l v s bs E w hE hT hR hG hgt hvg hs hk hm
 rw [← hRe] at hN ⊢
 clear hRe
 have hgl : gb < w.heap.size := by obtain ⟨p, h1, _⟩ := hR.ex; exact h1.lt
 go_enter Tryz.func157, Tryz.ntmps157
 go_wp2_with fail
 refine hN.mono ?_
 rintro e w1 ⟨hk1, he⟩
 have dE : w1.cell? ⟨0, 0, none⟩ = some (.iface 290 (.pointer (some (E 0)))) := (hE.keeps hk1 hG hgl).text
 cases R with
 | none =>
  replace he : e = .returned (.tuple #[.int .i64 0, errV (E 0)]) := he
  subst he
  unfold errV
  go_wp2_with fail
  refine wp_region_held_drew (S := (fun w' => w'.cell? ⟨0, 0, none⟩ = some (.iface 290 (.pointer (some (E 0)))))) (by kernel_rfl) ?_ (fun hHeld => ?_)
  ·exact dE
  refine opT 0 rfl ?_; refine opT 1 rfl ?_; refine opT 2 rfl ?_; refine opT 3 rfl ?_
  refine opD 4 rfl (fun K hK => ?_)
  go_simp
  (go_at_call 175; refine (must_no g E _ 0).mono ?_; rintro e w2 ⟨rfl, rfl⟩; exact bodyPost_pan rfl ⟨hk1.drew, rfl⟩)
 | some r =>
  obtain ⟨x, b1⟩ := r
  replace he : e = .returned (.tuple #[.int .i64 x, .nilIface]) ∧ RdB w1 gb s b1 := he
  obtain ⟨rfl, hR1⟩ := he
  go_wp2_with fail
  go_region_with ((go_at_call 175; refine (must_yes g _ _).mono ?_; rintro e w2 ⟨rfl, rfl⟩))
  go_wp2_with fail
  go_ret
  exact ⟨hk1.drew, rfl, hR1.drew⟩
theorem itree_good (B n c : Nat) (A : Option Addr) (l : List Nat) (hE : Er4 w E) (hr : Reads w B 1 A n (nats l)) (hB : B ≤ w.heap.size) (hg : Huf.Good l) (hm : l.length ≤ 300) :
  Calls Tryz.prog 153 #[.pointer (some ⟨g, 0, none⟩), .slice A n c] w fun e w' => ∃ gt v, e = .returned (.pointer (some ⟨gt, 0, none⟩)) ∧ TreeAt w' w.heap.size gt l (Huf.syms l) v ∧ Below w.heap.size w w' := by
 go_enter Tryz.func153, Tryz.ntmps153
 go_wp2_with fail
 refine (hread_good B n c A l E w hE hr hB hg hm).mono ?_
 rintro e w1 ⟨gt, v, rfl, hT, hb1⟩
 have dE := (hE.below hb1).text
 go_wp2_with fail
 go_region_with ((go_at_call 175; refine (must_yes g _ _).mono ?_; rintro e w2 ⟨rfl, rfl⟩))
 go_wp2_with fail
 go_ret
 exact ⟨gt, v, rfl, ⟨hT.blk, hT.own, hT.ne, hT.bg⟩, hb1.drew⟩
theorem itree_bad (B n c : Nat) (A : Option Addr) (l : List Nat) (hE : Er4 w E) (hr : Reads w B 1 A n (nats l)) (hB : B ≤ w.heap.size) (h15 : ∀ x ∈ l, x ≤ 15) (hg : ¬ Huf.Good l) (hm : l.length ≤ 300) :
  Calls Tryz.prog 153 #[.pointer (some ⟨g, 0, none⟩), .slice A n c] w fun e w' => e = .panicked (thrownI E 0) ∧ Below w.heap.size w w' := by
 go_enter Tryz.func153, Tryz.ntmps153
 go_wp2_with fail
 refine (hread_bad B n c A l E w hE hr hB h15 hg hm).mono ?_
 rintro e w1 ⟨rfl, hb1⟩
 have dE := (hE.below hb1).text
 unfold errV
 go_wp2_with fail
 refine wp_region_held_drew (S := (fun w' => w'.cell? ⟨0, 0, none⟩ = some (.iface 290 (.pointer (some (E 0)))))) (by kernel_rfl) ?_ (fun hHeld => ?_)
 ·exact dE
 refine opT 0 rfl ?_; refine opT 1 rfl ?_; refine opT 2 rfl ?_; refine opT 3 rfl ?_
 refine opD 4 rfl (fun K hK => ?_)
 go_simp
 (go_at_call 175; refine (must_no g E _ 0).mono ?_; rintro e w2 ⟨rfl, rfl⟩; exact bodyPost_pan rfl ⟨rfl, hb1.drew⟩)
end
end Go.Proofs.YtkegkelaffohjaaGreatDoor
/- inflate.reader's state: what is left to read, what is written so far; how it moves on. -/
namespace Go.Proofs.YtkegkelaffohjaaGreatDoor
open Go Go.RowKit
structure RdI (w : World) (B g gb : Nat) (s : ByteArray) (most : Nat) (bs : List Bool) (v : Value) (out : List UInt8) : Prop where
 blk : Blk w g 187 #[.pointer (some ⟨gb, 0, none⟩), v, .int .i64 most]
 rd : RdB w gb s bs
 own : Own w B 1 v out.length (bytes out)
 ne : g ≠ gb
 ng : v.ownBlock ≠ some g
 nb : v.ownBlock ≠ some gb
 bg : B ≤ g
 bb : B ≤ gb
structure KF (w w' : World) (g gb : Nat) (v v' : Value) : Prop where
 keeps : Keeps (fun x => x = g ∨ x = gb ∨ v.ownBlock = some x) w w'
 fresh : Fresh w v v'
section
variable {w w' w2 : World} {B g gb most : Nat} {s : ByteArray} {bs b2 : List Bool} {v v' v2 : Value} {out : List UInt8}
theorem KF.refl (w : World) (g gb : Nat) (v : Value) : KF w w g gb v v := ⟨Keeps.refl _ _, Fresh.refl _ _⟩
theorem KF.trans (h : KF w w' g gb v v') (k : KF w' w2 g gb v' v2) : KF w w2 g gb v v2 :=
 ⟨h.keeps.trans k.keeps fun x hx hT => by
  rcases hT with e | e | e
  ·exact .inl e
  ·exact .inr (.inl e)
  ·rcases h.fresh x e with e2 | e2
   ·exact .inr (.inr e2)
   ·omega, fun x hx => by
  rcases k.fresh x hx with e | e
  ·exact h.fresh x e
  ·exact .inr (Nat.le_trans h.keeps.size e)⟩
theorem KF.of_read (k : Keeps (fun x => x = gb) w w') : KF w w' g gb v v := ⟨k.mono fun _ _ e => .inr (.inl e), Fresh.refl _ _⟩
theorem KF.drew (h : KF w w' g gb v v') : KF w w'.drew g gb v v' := ⟨h.keeps.drew, h.fresh⟩
theorem KF.fromDrew (h : KF w.drew w' g gb v v') : KF w w' g gb v v' := ⟨⟨h.keeps.os, h.keeps.tape, h.keeps.output, h.keeps.size, h.keeps.block⟩, h.fresh⟩
theorem KF.of_below (hb : Below w.heap.size w w') : KF w w' g gb v v := ⟨Keeps.of_below hb fun _ hx _ => hx, Fresh.refl _ _⟩
theorem RdI.c0 (h : RdI w B g gb s most bs v out) : w.cell? ⟨g, 0, none⟩ = some (.pointer (some ⟨gb, 0, none⟩)) := by rw [h.blk.cell]; rfl
theorem RdI.c1 (h : RdI w B g gb s most bs v out) : w.cell? ⟨g, 1, none⟩ = some v := by rw [h.blk.cell]; rfl
theorem RdI.c2 (h : RdI w B g gb s most bs v out) : w.cell? ⟨g, 2, none⟩ = some (.int .i64 most) := by rw [h.blk.cell]; rfl
theorem RdI.lb (h : RdI w B g gb s most bs v out) : gb < w.heap.size := by obtain ⟨p, h1, _⟩ := h.rd.ex; exact h1.lt
theorem RdI.lg (h : RdI w B g gb s most bs v out) : g < w.heap.size := h.blk.lt
theorem RdI.read (h : RdI w B g gb s most bs v out) (k : Keeps (fun x => x = gb) w w') (hR : RdB w' gb s b2) : RdI w' B g gb s most b2 v out :=
 ⟨h.blk.keeps k h.ne, hR, h.own.keeps k fun x hx e => h.nb (by rw [hx, e]), h.ne, h.ng, h.nb, h.bg, h.bb⟩
theorem RdI.below (h : RdI w B g gb s most bs v out) (hb : Below w.heap.size w w') : RdI w' B g gb s most bs v out := by
 have k : Keeps (fun _ => False) w w' := Keeps.of_below hb fun g hg _ => hg
 exact ⟨h.blk.keeps k fun e => e, h.rd.keeps k fun e => e, h.own.keeps k fun _ _ e => e, h.ne, h.ng, h.nb, h.bg, h.bb⟩
theorem RdI.drew (h : RdI w B g gb s most bs v out) : RdI w.drew B g gb s most bs v out := h.below (Below.here w)
theorem KF.below (h : RdI w B g gb s most bs v out) (k : KF w w' g gb v v') (hB : B ≤ w.heap.size) : Below B w w' :=
 k.keeps.below (fun x hx => by
  rcases hx with e | e | e
  ·rw [e]; exact h.bg
  ·rw [e]; exact h.bb
  ·exact (h.own.lt x e).1) hB
theorem KF.er4 {E : Nat → Addr} (hE : Er4 w E) (h : RdI w B g gb s most bs v out) (k : KF w w' g gb v v') (hB : B ≤ w.heap.size) (hG : 15 ≤ B) : Er4 w' E := hE.below2 (k.below h hB) hG
theorem RdI.push (h : RdI w B g gb s most bs v out) {xs : List UInt8} {w4 : World} {A' : Option Addr} {n c' : Nat} (hn : n = out.length + xs.length) (ho : Own w4 B 1 (.slice A' n c') n (bytes (out ++ xs))) (hg : w.grownBy w4 v.ownBlock)
  (ha : (Value.slice A' n c').ownBlock = v.ownBlock ∨ (Value.slice A' n c').ownBlock = some w.heap.size) :
  RdI (w4.setCell ⟨g, 1, none⟩ (.slice A' n c')) B g gb s most bs (.slice A' n c') (out ++ xs) ∧ KF w (w4.setCell ⟨g, 1, none⟩ (.slice A' n c')) g gb v (.slice A' n c') := by
 have n1 : ∀ x, x < w.heap.size → v.ownBlock ≠ some x → (Value.slice A' n c').ownBlock ≠ some x := fun x hx hv e => by
  rcases ha with e2 | e2 <;> rw [e2] at e
  ·exact hv e
  ·injection e with e; omega
 have nG := n1 g h.lg h.ng
 have nB := n1 gb h.lb h.nb
 have B4 := h.blk.grown hg (fun e => h.ng e.symm)
 obtain ⟨p, hp, hp2, hp3⟩ := h.rd.ex
 refine ⟨⟨?_, ⟨p, (hp.grown hg (fun e => h.nb e.symm)).far (p := ⟨g, 1, none⟩) (fun e => h.ne e.symm) _, hp2, hp3⟩, ?_, h.ne, nG, nB, h.bg, h.bb⟩, ⟨?_, fun x hx => ?_⟩⟩
 ·have := B4.set_ 1 (.slice A' n c')
  simpa using this
 ·rw [List.length_append, ← hn]
  exact ho.setCell (p := ⟨g, 1, none⟩) nG _
 ·exact ((Keeps.refl _ w).grown hg fun x hx _ => .inr (.inr hx)).setCell (p := ⟨g, 1, none⟩) (fun _ => .inl rfl) _
 ·rcases ha with e | e <;> rw [e] at hx
  ·exact .inl hx
  ·injection hx with hx; exact .inr (by omega)
end
def StepI (w : World) (B g gb : Nat) (s : ByteArray) (most : Nat) (E : Nat → Addr) (v : Value) (R : Except Nat (List Bool × List UInt8)) (e : Ending) (w' : World) : Prop :=
 match R with
 | .error k => e = .panicked (thrownI E k) ∧ Below B w w'
 | .ok q => e = .returned (.tuple #[]) ∧ ∃ v', RdI w' B g gb s most q.1 v' q.2 ∧ KF w w' g gb v v'
namespace Inf
theorem get_some {k : Nat} {bs b1 : List Bool} {x : Nat} (h : get k bs = some (x, b1)) : k ≤ bs.length ∧ b1 = bs.drop k ∧ x < 2 ^ k := by
 unfold get at h
 split at h
 ·cases h
 ·rename_i hl
  injection h with h
  injection h with h1 h2
  have h3 := Bit.val_lt (bs.take k)
  rw [List.length_take, Nat.min_eq_left (by omega)] at h3
  exact ⟨by omega, h2.symm, by rw [← h1]; exact h3⟩
end Inf
end Go.Proofs.YtkegkelaffohjaaGreatDoor
/- lzw.packer: code, clear: the walks. -/
namespace Go.Proofs.YtkegkelaffohjaaGreatDoor
open Go Go.RowKit
end Go.Proofs.YtkegkelaffohjaaGreatDoor
