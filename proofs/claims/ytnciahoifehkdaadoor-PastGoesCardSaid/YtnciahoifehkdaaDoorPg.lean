/- A past beside two lists: what stands through PastGoes. -/
import Derived.Test.YtnciahoifehkdaaDoorKeeps
import Derived.Test.YtnciahoifehkdaaDoorProg
namespace Go.Proofs.YtnciahoifehkdaaDoor
open Go Go.RowKit

/-- A past lies at block gp. -/
structure Pst (w : World) (B gp : Nat) (now most : Int) (vb : Value) (back : List Int) (vf : Value) (forth : List Int) : Prop where
  blk : Blk w gp 157 #[.int .i64 now, .int .i64 most, vb, vf]
  low : B ≤ gp
  ob : Own w B 1 vb back.length (ints back)
  of_ : Own w B 1 vf forth.length (ints forth)
  sb : vb.ownBlock ≠ some gp
  sf : vf.ownBlock ≠ some gp
  ne : ∀ g, vb.ownBlock = some g → vf.ownBlock ≠ some g

def Apart (v u : Value) : Prop := ∀ g, v.ownBlock = some g → u.ownBlock ≠ some g
/-- The past beside the two lists of the law. -/
structure PG (w0 w : World) (B gp : Nat) (now most : Int) (back forth hs az : List Int) (vb vf vh va : Value) : Prop where
  p : Pst w B gp now most vb back vf forth
  oh : Own w B 1 vh hs.length (ints hs)
  oa : Own w B 1 va az.length (ints az)
  hp : vh.ownBlock ≠ some gp
  ap : va.ownBlock ≠ some gp
  hb : Apart vh vb
  hf : Apart vh vf
  ab : Apart va vb
  af : Apart va vf
  ha : Apart vh va
  bel : Below B w0 w
section
variable {w0 w w1 : World} {B gp : Nat} {now now' most : Int} {back forth hs az back' forth' hs' az' : List Int} {vb vf vh va vb' vf' vh' va' : Value}
theorem Pst.keep (h : Pst w B gp now most vb back vf forth) (hs : w.heap.size ≤ w1.heap.size) (hk : ∀ g, g < w.heap.size → (g = gp ∨ vb.ownBlock = some g ∨ vf.ownBlock = some g) → w1.heap[g]? = w.heap[g]?) : Pst w1 B gp now most vb back vf forth :=
  ⟨h.blk.keep (hk _ h.blk.lt (.inl rfl)), h.low, h.ob.keep hs fun g hg => hk g (h.ob.lt g hg).2 (.inr (.inl hg)), h.of_.keep hs fun g hg => hk g (h.of_.lt g hg).2 (.inr (.inr hg)), h.sb, h.sf, h.ne⟩
/-- New memory alone. -/
theorem PG.new (h : PG w0 w B gp now most back forth hs az vb vf vh va) (hb : Below w.heap.size w w1) (hB : B ≤ w.heap.size) : PG w0 w1 B gp now most back forth hs az vb vf vh va :=
  ⟨h.p.keep hb.size fun g hg _ => hb.block g hg, h.oh.below hb (Nat.le_refl _), h.oa.below hb (Nat.le_refl _), h.hp, h.ap, h.hb, h.hf, h.ab, h.af, h.ha, h.bel.trans (hb.mono hB)⟩
theorem Fresh.apart {u v v' : Value} (hf : Fresh w v v') (h : Apart u v) (hu : ∀ g, u.ownBlock = some g → g < w.heap.size) : Apart u v' := by
  intro g hg hv
  rcases hf g hv with e | e
  · exact h g hg e
  · have := hu g hg; omega
theorem Fresh.apart' {u v v' : Value} (hf : Fresh w v v') (h : Apart v u) (hu : ∀ g, u.ownBlock = some g → g < w.heap.size) : Apart v' u := by
  intro g hg hv
  rcases hf g hg with e | e
  · exact h g e hv
  · have := hu g hv; omega
theorem Fresh.off {v v' : Value} (hf : Fresh w v v') (h : v.ownBlock ≠ some gp) (hg : gp < w.heap.size) : v'.ownBlock ≠ some gp := by
  intro hv
  rcases hf gp hv with e | e
  · exact h e
  · omega
/-- The past has turned. -/
theorem PG.struct {S : Nat → Prop} (h : PG w0 w B gp now most back forth hs az vb vf vh va) (hP : Pst w1 B gp now' most vb' back' vf' forth') (fb : Fresh w vb vb') (ff : Fresh w vf vf') (k : Keeps S w w1)
    (hS : ∀ g, S g → g = gp ∨ vb.ownBlock = some g ∨ vf.ownBlock = some g) (hB : B ≤ w.heap.size) : PG w0 w1 B gp now' most back' forth' hs az vb' vf' vh va := by
  have lh := fun g hg => (h.oh.lt g hg).2
  have la := fun g hg => (h.oa.lt g hg).2
  refine ⟨hP, h.oh.keeps k fun g hg hs' => ?_, h.oa.keeps k fun g hg hs' => ?_, h.hp, h.ap, fb.apart h.hb lh, ff.apart h.hf lh, fb.apart h.ab la, ff.apart h.af la, h.ha, h.bel.trans (k.below (fun g hg => ?_) hB)⟩
  · rcases hS g hs' with e | e | e
    · exact h.hp (e ▸ hg)
    · exact h.hb g hg e
    · exact h.hf g hg e
  · rcases hS g hs' with e | e | e
    · exact h.ap (e ▸ hg)
    · exact h.ab g hg e
    · exact h.af g hg e
  · rcases hS g hg with e | e | e
    · rw [e]; exact h.p.low
    · exact (h.p.ob.lt g e).1
    · exact (h.p.of_.lt g e).1
/-- The first list has turned. -/
theorem PG.seth (h : PG w0 w B gp now most back forth hs az vb vf vh va) (ho : Own w1 B 1 vh' hs'.length (ints hs')) (hg : w.grownBy w1 vh.ownBlock) (fr : Fresh w vh vh') (hB : B ≤ w.heap.size) : PG w0 w1 B gp now most back forth hs' az vb vf vh' va := by
  refine ⟨h.p.keep hg.size fun g hg' hh => hg.block g hg' (fun e => ?_), ho, h.oa.keep hg.size fun g hg' => hg.block g (h.oa.lt g hg').2 (fun e => h.ha g e.symm hg'), fr.off h.hp h.p.blk.lt, h.ap, fr.apart' h.hb fun g hg' => (h.p.ob.lt g hg').2, fr.apart' h.hf fun g hg' => (h.p.of_.lt g hg').2,
    h.ab, h.af, fr.apart' h.ha fun g hg' => (h.oa.lt g hg').2, h.bel.grown hg (by have := h.bel.size; omega) fun g hg' => (h.oh.lt g hg').1⟩
  rcases hh with e2 | e2 | e2
  · subst e2; exact h.hp e.symm
  · exact h.hb g e.symm e2
  · exact h.hf g e.symm e2
/-- The second list has turned. -/
theorem PG.seta (h : PG w0 w B gp now most back forth hs az vb vf vh va) (ho : Own w1 B 1 va' az'.length (ints az')) (hg : w.grownBy w1 va.ownBlock) (fr : Fresh w va va') (hB : B ≤ w.heap.size) : PG w0 w1 B gp now most back forth hs az' vb vf vh va' := by
  refine ⟨h.p.keep hg.size fun g hg' hh => hg.block g hg' (fun e => ?_), h.oh.keep hg.size fun g hg' => hg.block g (h.oh.lt g hg').2 (fun e => h.ha g hg' e.symm), ho, h.hp, fr.off h.ap h.p.blk.lt, h.hb, h.hf,
    fr.apart' h.ab fun g hg' => (h.p.ob.lt g hg').2, fr.apart' h.af fun g hg' => (h.p.of_.lt g hg').2, fr.apart h.ha fun g hg' => (h.oh.lt g hg').2, h.bel.grown hg (by have := h.bel.size; omega) fun g hg' => (h.oa.lt g hg').1⟩
  rcases hh with e2 | e2 | e2
  · subst e2; exact h.ap e.symm
  · exact h.ab g e.symm e2
  · exact h.af g e.symm e2
/-- A list of the law, cut; the world stays. -/
theorem PG.cuth (h : PG w0 w B gp now most back forth hs az vb vf vh va) (ho : Own w B 1 vh' hs'.length (ints hs')) (e : ∀ g, vh'.ownBlock = some g → vh.ownBlock = some g) (hB : B ≤ w.heap.size) : PG w0 w B gp now most back forth hs' az vb vf vh' va :=
  h.seth ho (World.grownBy.refl w _) (fun g hg => .inl (e g hg)) hB
theorem PG.cuta (h : PG w0 w B gp now most back forth hs az vb vf vh va) (ho : Own w B 1 va' az'.length (ints az')) (e : ∀ g, va'.ownBlock = some g → va.ownBlock = some g) (hB : B ≤ w.heap.size) : PG w0 w B gp now most back forth hs az' vb vf vh va' :=
  h.seta ho (World.grownBy.refl w _) (fun g hg => .inl (e g hg)) hB
end
end Go.Proofs.YtnciahoifehkdaaDoor
