/- inflate.reader's state: what is left to read, what is written so far; how it moves on. -/
import Derived.Test.YthohmpjoeffckaaGreatDoorInfMem
namespace Go.Proofs.YthohmpjoeffckaaGreatDoor
open Go Go.RowKit

/-- A reader of packed texts: its bits that are left, its text so far. -/
structure RdI (w : World) (B g gb : Nat) (s : ByteArray) (most : Nat) (bs : List Bool) (v : Value) (out : List UInt8) : Prop where
  blk : Blk w g 142 #[.pointer (some ⟨gb, 0, none⟩), v, .int .i64 most]
  rd : RdB w gb s bs
  own : Own w B 1 v out.length (bytes out)
  ne : g ≠ gb
  ng : v.ownBlock ≠ some g
  nb : v.ownBlock ≠ some gb
  bg : B ≤ g
  bb : B ≤ gb
/-- Nothing else is turned. -/
structure KF (w w' : World) (g gb : Nat) (v v' : Value) : Prop where
  keeps : Keeps (fun x => x = g ∨ x = gb ∨ v.ownBlock = some x) w w'
  fresh : Fresh w v v'
section
variable {w w' w2 : World} {B g gb most : Nat} {s : ByteArray} {bs b2 : List Bool} {v v' v2 : Value} {out : List UInt8}
theorem KF.refl (w : World) (g gb : Nat) (v : Value) : KF w w g gb v v := ⟨Keeps.refl _ _, Fresh.refl _ _⟩
theorem KF.trans (h : KF w w' g gb v v') (k : KF w' w2 g gb v' v2) : KF w w2 g gb v v2 :=
  ⟨h.keeps.trans k.keeps fun x hx hT => by
    rcases hT with e | e | e
    · exact .inl e
    · exact .inr (.inl e)
    · rcases h.fresh x e with e2 | e2
      · exact .inr (.inr e2)
      · omega, fun x hx => by
    rcases k.fresh x hx with e | e
    · exact h.fresh x e
    · exact .inr (Nat.le_trans h.keeps.size e)⟩
theorem KF.of_read (k : Keeps (fun x => x = gb) w w') : KF w w' g gb v v := ⟨k.mono fun _ _ e => .inr (.inl e), Fresh.refl _ _⟩
theorem KF.drew (h : KF w w' g gb v v') : KF w w'.drew g gb v v' := ⟨h.keeps.drew, h.fresh⟩
theorem KF.fromDrew (h : KF w.drew w' g gb v v') : KF w w' g gb v v' := ⟨⟨h.keeps.os, h.keeps.tape, h.keeps.output, h.keeps.size, h.keeps.block⟩, h.fresh⟩
theorem KF.of_below (hb : Below w.heap.size w w') : KF w w' g gb v v := ⟨Keeps.of_below hb fun _ hx _ => hx, Fresh.refl _ _⟩
theorem RdI.c0 (h : RdI w B g gb s most bs v out) : w.cell? ⟨g, 0, none⟩ = some (.pointer (some ⟨gb, 0, none⟩)) := by rw [h.blk.cell]; rfl
theorem RdI.c1 (h : RdI w B g gb s most bs v out) : w.cell? ⟨g, 1, none⟩ = some v := by rw [h.blk.cell]; rfl
theorem RdI.c2 (h : RdI w B g gb s most bs v out) : w.cell? ⟨g, 2, none⟩ = some (.int .i64 most) := by rw [h.blk.cell]; rfl
theorem RdI.lb (h : RdI w B g gb s most bs v out) : gb < w.heap.size := by obtain ⟨p, h1, _⟩ := h.rd.ex; exact h1.lt
theorem RdI.lg (h : RdI w B g gb s most bs v out) : g < w.heap.size := h.blk.lt
theorem RdI.read (h : RdI w B g gb s most bs v out) (k : Keeps (fun x => x = gb) w w') (hR : RdB w' gb s b2) : RdI w' B g gb s most b2 v out :=
  ⟨h.blk.keeps k h.ne, hR, h.own.keeps k fun x hx e => h.nb (by rw [hx, e]), h.ne, h.ng, h.nb, h.bg, h.bb⟩
theorem RdI.below (h : RdI w B g gb s most bs v out) (hb : Below w.heap.size w w') : RdI w' B g gb s most bs v out := by
  have k : Keeps (fun _ => False) w w' := Keeps.of_below hb fun g hg _ => hg
  exact ⟨h.blk.keeps k fun e => e, h.rd.keeps k fun e => e, h.own.keeps k fun _ _ e => e, h.ne, h.ng, h.nb, h.bg, h.bb⟩
theorem RdI.drew (h : RdI w B g gb s most bs v out) : RdI w.drew B g gb s most bs v out := h.below (Below.here w)
theorem KF.below (h : RdI w B g gb s most bs v out) (k : KF w w' g gb v v') (hB : B ≤ w.heap.size) : Below B w w' :=
  k.keeps.below (fun x hx => by
    rcases hx with e | e | e
    · rw [e]; exact h.bg
    · rw [e]; exact h.bb
    · exact (h.own.lt x e).1) hB
theorem KF.er4 {E : Nat → Addr} (hE : Er4 w E) (h : RdI w B g gb s most bs v out) (k : KF w w' g gb v v') (hB : B ≤ w.heap.size) (hG : 15 ≤ B) : Er4 w' E := hE.below2 (k.below h hB) hG
/-- Bytes more. -/
theorem RdI.push (h : RdI w B g gb s most bs v out) {xs : List UInt8} {w4 : World} {A' : Option Addr} {n c' : Nat} (hn : n = out.length + xs.length) (ho : Own w4 B 1 (.slice A' n c') n (bytes (out ++ xs))) (hg : w.grownBy w4 v.ownBlock)
    (ha : (Value.slice A' n c').ownBlock = v.ownBlock ∨ (Value.slice A' n c').ownBlock = some w.heap.size) :
    RdI (w4.setCell ⟨g, 1, none⟩ (.slice A' n c')) B g gb s most bs (.slice A' n c') (out ++ xs) ∧ KF w (w4.setCell ⟨g, 1, none⟩ (.slice A' n c')) g gb v (.slice A' n c') := by
  have n1 : ∀ x, x < w.heap.size → v.ownBlock ≠ some x → (Value.slice A' n c').ownBlock ≠ some x := fun x hx hv e => by
    rcases ha with e2 | e2 <;> rw [e2] at e
    · exact hv e
    · injection e with e; omega
  have nG := n1 g h.lg h.ng
  have nB := n1 gb h.lb h.nb
  have B4 := h.blk.grown hg (fun e => h.ng e.symm)
  obtain ⟨p, hp, hp2, hp3⟩ := h.rd.ex
  refine ⟨⟨?_, ⟨p, (hp.grown hg (fun e => h.nb e.symm)).far (p := ⟨g, 1, none⟩) (fun e => h.ne e.symm) _, hp2, hp3⟩, ?_, h.ne, nG, nB, h.bg, h.bb⟩, ⟨?_, fun x hx => ?_⟩⟩
  · have := B4.set_ 1 (.slice A' n c')
    simpa using this
  · rw [List.length_append, ← hn]
    exact ho.setCell (p := ⟨g, 1, none⟩) nG _
  · exact ((Keeps.refl _ w).grown hg fun x hx _ => .inr (.inr hx)).setCell (p := ⟨g, 1, none⟩) (fun _ => .inl rfl) _
  · rcases ha with e | e <;> rw [e] at hx
    · exact .inl hx
    · injection hx with hx; exact .inr (by omega)
end
/-- What a step of the reader leaves. -/
def StepI (w : World) (B g gb : Nat) (s : ByteArray) (most : Nat) (E : Nat → Addr) (v : Value) (R : Except Nat (List Bool × List UInt8)) (e : Ending) (w' : World) : Prop :=
  match R with
  | .error k => e = .panicked (thrownI E k) ∧ Below B w w'
  | .ok q => e = .returned (.tuple #[]) ∧ ∃ v', RdI w' B g gb s most q.1 v' q.2 ∧ KF w w' g gb v v'
namespace Inf
theorem get_some {k : Nat} {bs b1 : List Bool} {x : Nat} (h : get k bs = some (x, b1)) : k ≤ bs.length ∧ b1 = bs.drop k ∧ x < 2 ^ k := by
  unfold get at h
  split at h
  · cases h
  · rename_i hl
    injection h with h
    injection h with h1 h2
    have h3 := Bit.val_lt (bs.take k)
    rw [List.length_take, Nat.min_eq_left (by omega)] at h3
    exact ⟨by omega, h2.symm, by rw [← h1]; exact h3⟩
end Inf
end Go.Proofs.YthohmpjoeffckaaGreatDoor
