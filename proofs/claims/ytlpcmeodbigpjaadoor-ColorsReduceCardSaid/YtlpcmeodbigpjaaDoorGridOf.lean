/- tiles.Of: the walk. -/
import Derived.Test.YtlpcmeodbigpjaaDoorNewTile
import Derived.Test.YtlpcmeodbigpjaaDoorRects
import Derived.Test.YtlpcmeodbigpjaaDoorCode
namespace Go.Proofs.YtlpcmeodbigpjaaDoor
open Go Go.RowKit

section
variable {W H : Nat} {A : Option Addr} {n c : Nat} {w wr w' : World} {gG : Nat} {v v' : Value} {ts : List TM}
end

/-- The list of tiles' places stands through the loop. -/
structure RcK (gG : Nat) (Ar : Option Addr) (N : Nat) (l : List Til.R) (v : Value) (wr : World) : Prop where
  rd : Reads wr wr.heap.size 4 Ar N (rcCells l)
  nv : ∀ b off, Ar = some ⟨b, off, none⟩ → 0 < N → v.ownBlock ≠ some b
  ng : ∀ b off, Ar = some ⟨b, off, none⟩ → gG < b
theorem RcK.step {gG : Nat} {Ar : Option Addr} {N : Nat} {l : List Til.R} {v : Value} {wr w' : World} (h : RcK gG Ar N l v wr) (hb : Below wr.heap.size wr w') : RcK gG Ar N l v w' := ⟨(h.rd.below hb (Nat.le_refl _)).more hb.size, h.nv, h.ng⟩
theorem RcK.push {gG : Nat} {Ar : Option Addr} {N : Nat} {l : List Til.R} {v v' : Value} {wi wA wT : World} {o : Obj} (h : RcK gG Ar N l v wi) (hb : Below wi.heap.size wi wA) (hg : (wA.alloc o).grownBy wT v.ownBlock) (hat : v'.ownBlock = v.ownBlock ∨ v'.ownBlock = some (wA.alloc o).heap.size) :
    RcK gG Ar N l v' (wT.setCell ⟨gG, 2, none⟩ v') := by
  have h1 := (h.step hb).step (Below.alloc (Below.refl _ _) (Nat.le_refl _) o)
  refine ⟨?_, fun b off e hn => ?_, h.ng⟩
  · have h2 := h1.rd.keepAt hg.size fun b off e hb2 hn => hg.block b hb2 (fun e2 => h.nv b off e (by omega) e2.symm)
    exact h2.keepAt (by simp [World.setCell]) fun b off e _ _ => Below.heap_setCell wT ⟨gG, 2, none⟩ v' b (fun e2 => by have := h.ng b off e; simp at e2; omega)
  · rcases hat with e2 | e2
    · rw [e2]; exact h.nv b off e hn
    · rw [e2]
      intro e3
      injection e3 with e3
      obtain ⟨b2, o2, e4, hb2, _⟩ := h1.rd.2 (by omega)
      rw [e] at e4
      injection e4 with e4
      injection e4 with e4
      omega

end Go.Proofs.YtlpcmeodbigpjaaDoor
