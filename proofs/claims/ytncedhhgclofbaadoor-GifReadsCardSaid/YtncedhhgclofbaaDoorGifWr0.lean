/- gif.Write: what stands beside its walk. -/
import Derived.Test.YtncedhhgclofbaaDoorFrBytes
import Derived.Test.YtncedhhgclofbaaDoorGifChk
import Derived.Test.YtncedhhgclofbaaDoorBuilder
import Derived.Test.YtncedhhgclofbaaDoorText
import Derived.Test.YtncedhhgclofbaaDoorErrVal
import Derived.Deep.RegionHeld3
namespace Go.Proofs.YtncedhhgclofbaaDoor
open Go Go.RowKit

abbrev IsB (B b : Nat) (l : List UInt8) (w : World) : Prop := Lib.IsBuilder 58 5 B b (bytes l) w
theorem isB_below {B b : Nat} {l : List UInt8} {w w' : World} (h : IsB B b l w) (hb : Below w.heap.size w w') : IsB B b l w' := by
  have key : ∀ p, Lib.BuilderAt 58 5 B b p (bytes l) w → Lib.BuilderAt 58 5 B b p (bytes l) w' := by
    rintro p ⟨h1, v, h2, h3, h4⟩
    refine ⟨h1, v, ?_, ?_, h4⟩
    · rw [hb.block b (Array.getElem?_eq_some_iff.1 h2).1]
      exact h2
    · refine ⟨h3.1, ?_⟩
      rcases h3.2 with h5 | ⟨g, cap, cur, e, r1, r2, r3⟩
      · exact .inl h5
      · refine .inr ⟨g, cap, cur, e, r1, ?_, r3⟩
        rw [hb.block g (Array.getElem?_eq_some_iff.1 r2).1]
        exact r2
  rcases h with h | h
  · exact .inl (key _ h)
  · exact .inr (key _ h)
/-- What Write gives. -/
def WroteG (E : Nat → Addr) (w : World) (R : List UInt8 ⊕ (Nat × Int)) (e : Ending) (w' : World) : Prop :=
  Below w.heap.size w w' ∧ match R with
  | .inl s => ∃ t, e = .returned (.tuple #[.string t, .nilIface]) ∧ lst t = s
  | .inr f => ∃ v, e = .returned (.tuple #[.string ⟨#[]⟩, v]) ∧ ErrIs E w' v (f.1 + 1, f.2)
theorem frame_length (f : Fr) (h : f.ps.length ≤ 65536) (hc : Gif.colOK f.ps = true) : (Gif.frame f).length ≤ 600000 := by
  have hul : (Col.unl (Gif.clean f.ps)).1.length ≤ 256 := by
    unfold Gif.colOK at hc
    rw [Bool.and_eq_true, decide_eq_true_eq] at hc
    exact hc.2
  have hs := Gif.size_le _ hul
  have hnn := nums_length (Gif.clean f.ps)
  have hcll : (Gif.clean f.ps).length = f.ps.length := by simp [Gif.clean]
  have h2 : 2 ^ (Gif.size (Col.unl (Gif.clean f.ps)).1.length + 1) ≤ 256 := Nat.le_trans (Nat.pow_le_pow_right (show 0 < 2 by omega) (show _ ≤ 8 by omega)) (Nat.le_refl _)
  have hw : Gif.width (Gif.size (Col.unl (Gif.clean f.ps)).1.length) ≤ 8 := by unfold Gif.width; omega
  have hlz : (Lz.lzw (Gif.width (Gif.size (Col.unl (Gif.clean f.ps)).1.length)) (Gif.nums (Col.unl (Gif.clean f.ps)).2)).length ≤ 24 * 65536 + 30 := by
    unfold Lz.lzw
    rw [List.length_append, Bit.low_length]
    have h1 := Lz.enc_most (Gif.width (Gif.size (Col.unl (Gif.clean f.ps)).1.length)) (Gif.nums (Col.unl (Gif.clean f.ps)).2).length (Gif.nums (Col.unl (Gif.clean f.ps)).2) [] (Gif.width (Gif.size (Col.unl (Gif.clean f.ps)).1.length) + 1) (Nat.le_refl _) (by omega) (by omega)
    rw [hnn, hcll] at h1 ⊢
    omega
  have hbl := Blo.blocksF_length _ (Bit.pack (Lz.lzw (Gif.width (Gif.size (Col.unl (Gif.clean f.ps)).1.length)) (Gif.nums (Col.unl (Gif.clean f.ps)).2))) (Nat.le_refl _)
  have hpl := Bit.pack_length (Lz.lzw (Gif.width (Gif.size (Col.unl (Gif.clean f.ps)).1.length)) (Gif.nums (Col.unl (Gif.clean f.ps)).2))
  unfold Gif.frame Gif.front Blo.blocks
  rw [List.length_append, List.length_append, List.length_append, Gif.table_length]
  simp only [List.length_append, List.length_cons, List.length_nil, pair]
  omega
theorem err_of (first f : Fr) : Gif.err first f = match Gif.err0 first f with
    | some c => some c
    | none => if Gif.colOK f.ps = false then some 6 else none := by
  unfold Gif.err Gif.err0
  by_cases h1 : Gif.right f = false ∨ f.wide ≠ first.wide ∨ f.high ≠ first.high
  · rw [if_pos h1, if_pos h1]
  · rw [if_neg h1, if_neg h1]
    by_cases h2 : f.delay < 0 ∨ 65535 < f.delay
    · rw [if_pos h2, if_pos h2]
    · rw [if_neg h2, if_neg h2]
theorem err0_none {first f : Fr} (h : Gif.err0 first f = none) : Gif.right f = true ∧ 0 ≤ f.delay ∧ f.delay ≤ 65535 := by
  unfold Gif.err0 at h
  split at h
  · cases h
  · rename_i h1
    split at h
    · cases h
    · rename_i h2
      refine ⟨?_, by omega, by omega⟩
      cases hr : Gif.right f
      · exact absurd (.inl hr) h1
      · rfl
theorem gif_bad (fs : List Fr) (loops : Int) (h : Gif.bad fs loops = true) : Gif.gif fs loops = .inr (1, -1) := by
  cases fs with
  | nil => rfl
  | cons f r =>
    unfold Gif.gif
    simp only
    rw [if_pos h]
theorem gif_ok (f : Fr) (r : List Fr) (loops : Int) (h : Gif.bad (f :: r) loops = false) : Gif.gif (f :: r) loops = Gif.body f (f :: r) 0 (Gif.head f (r.length + 1) loops) := by
  unfold Gif.gif
  simp only
  rw [if_neg (by rw [h]; decide)]
  rfl
theorem bad_no2 {f : Fr} {r : List Fr} {loops : Int} (h : Gif.bad (f :: r) loops = false) : r.length + 1 ≤ 16 ∧ 0 ≤ loops ∧ loops ≤ 65535 := by
  simp only [Gif.bad, Bool.or_eq_false_iff, decide_eq_false_iff_not, List.length_cons] at h
  omega
/-- What the loop of Write keeps. -/
structure WlR (w : World) (R : List UInt8 ⊕ (Nat × Int)) (first : Fr) (fs : List Fr) (g i : Nat) (acc : List UInt8) (wr : World) : Prop where
  b : IsB w.heap.size g acc wr
  eq : Gif.body first (fs.drop i) i acc = R
  ne : acc ≠ []
  most : acc.length ≤ 1000 + 600000 * i
  bel : Below w.heap.size w wr
end Go.Proofs.YtncedhhgclofbaaDoor
