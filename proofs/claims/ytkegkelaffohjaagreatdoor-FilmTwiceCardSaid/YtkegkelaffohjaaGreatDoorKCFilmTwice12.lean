/- GifLaw, GifChk, FilmWr: put together. -/
import Derived.Test.YtkegkelaffohjaaGreatDoorKCFilmTwice9
import Derived.Test.YtkegkelaffohjaaGreatDoorKCFilmTwice2
import Derived.Test.YtkegkelaffohjaaGreatDoorQCFilmTwiceBitT
import Derived.Test.YtkegkelaffohjaaGreatDoorKCFilmTwice5
import Derived.Test.YtkegkelaffohjaaGreatDoorKCFilmTwice4
import Derived.Test.YtkegkelaffohjaaGreatDoorKCFilmTwice3
import Derived.BigQuiet
import Derived.Deep.QuietTactic
import Derived.Test.YtkegkelaffohjaaGreatDoorKCFilmTwice7
/- A moving picture, plainly: what frames are as bytes; their faults. -/
namespace Go.Proofs.YtkegkelaffohjaaGreatDoor
namespace Gif
def right (f : Fr) : Bool := rightB f.wide f.high f.ps.length
def bad (fs : List Fr) (loops : Int) : Bool :=
 match fs with
 | [] => true
 | f :: _ => decide (16 < fs.length) || decide (loops < 0) || decide (65535 < loops) || (right f && decide (60000 < f.wide * f.high * fs.length))
end Gif
end Go.Proofs.YtkegkelaffohjaaGreatDoor
/- gif.Bounds, Frame.Check; layercakeref3.BoundsOf, frameError: the walks. -/
namespace Go.Proofs.YtkegkelaffohjaaGreatDoor
open Go Go.RowKit
theorem bad_true {m : FM} {r : List FM} {loops : Int} (h : 16 < (m :: r).length ∨ loops < 0 ∨ 65535 < loops ∨ (rightB m.f.wide m.f.high m.f.ps.length = true ∧ 60000 < m.f.wide * m.f.high * (m :: r).length)) : Gif.bad ((m :: r).map (·.f)) loops = true := by
 simp only [Gif.bad, List.map_cons, Bool.or_eq_true, Bool.and_eq_true, decide_eq_true_eq, Gif.right]
 have e : (m.f :: r.map (·.f)).length = (m :: r).length := by simp
 rw [e]
 rcases h with h | h | h | h
 ·exact .inl (.inl (.inl h))
 ·exact .inl (.inl (.inr h))
 ·exact .inl (.inr h)
 ·exact .inr h
theorem bad_false {m : FM} {r : List FM} {loops : Int} (h1 : ¬ 16 < (m :: r).length) (h2 : ¬ loops < 0) (h3 : ¬ 65535 < loops) (h4 : ¬ (rightB m.f.wide m.f.high m.f.ps.length = true ∧ 60000 < m.f.wide * m.f.high * (m :: r).length)) : Gif.bad ((m :: r).map (·.f)) loops = false := by
 rw [← Bool.not_eq_true]
 simp only [Gif.bad, List.map_cons, Bool.or_eq_true, Bool.and_eq_true, decide_eq_true_eq, Gif.right]
 have e : (m.f :: r.map (·.f)).length = (m :: r).length := by simp
 rw [e]
 rintro (((h | h) | h) | h)
 ·exact h1 h
 ·exact h2 h
 ·exact h3 h
 ·exact h4 h
set_option maxHeartbeats 2000000 in
set_option maxRecDepth 100000 in
theorem bounds_any (A : Option Addr) (n c : Nat) (ms : List FM) (loops : Int) (E : Nat → Addr) (w : World) (hE : Er4 w E) (hF : Frs w w.heap.size A n ms) :
  Calls Tryz.prog 35 #[.slice A n c, .int .i64 loops] w fun e w' => e = .returned (if Gif.bad (ms.map (·.f)) loops then errV (E 1) else .nilIface) ∧ Below w.heap.size w w' := by
 have hx := hE.bound
 obtain rfl := hF.len
 match ms, hF with
 | [], hF =>
  go_enter Tryz.func35, Tryz.ntmps35
  go_wp2_with fail
  go_ret
  exact ⟨rfl, Below.refl _ _⟩
 | m :: r, hF =>
  obtain ⟨b, off, rfl, hbl⟩ := hF.1.addr (by simp)
  have c0 : w.cell? ⟨b, off, none⟩ = some (.int .i64 m.f.wide) := by have := hF.at 0 (by simp) 0 (by omega); simpa [frCs] using this
  have c1 : w.cell? ⟨b, off + 1, none⟩ = some (.int .i64 m.f.high) := by have := hF.at 0 (by simp) 1 (by omega); simpa [frCs] using this
  have c2 : w.cell? ⟨b, off + 2, none⟩ = some (.slice m.A m.n m.c) := by have := hF.at 0 (by simp) 2 (by omega); simpa [frCs] using this
  have hpl := (hF.px 0 (by simp)).pxLen
  replace hpl : m.n = m.f.ps.length := hpl
  obtain ⟨N, hN⟩ : ∃ N, N = (m :: r).length := ⟨_, rfl⟩
  have hN1 : 1 ≤ N := by rw [hN]; simp
  by_cases h1 : 16 < N
  ·rw [bad_true (.inl (by omega)), ← hN, if_pos rfl]
   clear hN hF hpl
   go_enter Tryz.func35, Tryz.ntmps35
   go_wp2_with fail
   go_ret
   exact ⟨rfl, Below.refl _ _⟩
  by_cases h2 : loops < 0
  ·rw [bad_true (.inr (.inl h2)), ← hN, if_pos rfl]
   clear hN hF hpl
   go_enter Tryz.func35, Tryz.ntmps35
   go_wp2_with fail
   go_ret
   exact ⟨rfl, Below.refl _ _⟩
  by_cases h3 : 65535 < loops
  ·rw [bad_true (.inr (.inr (.inl h3))), ← hN, if_pos rfl]
   clear hN hF hpl
   go_enter Tryz.func35, Tryz.ntmps35
   go_wp2_with fail
   go_ret
   exact ⟨rfl, Below.refl _ _⟩
  have HPL := Lib.hid hpl
  clear hpl
  cases hr : rightB m.f.wide m.f.high m.f.ps.length with
  | false =>
   rw [bad_false (by omega) h2 h3 (fun h => by rw [hr] at h; exact absurd h.1 (by decide))]
   rw [if_neg (by decide)]
   rw [← hN]
   have HN := Lib.hid hN
   have HF := Lib.hid hF
   have HR := Lib.hid hr
   clear hN hF hr
   go_enter Tryz.func35, Tryz.ntmps35
   go_wp2_with fail
   refine (rright_any _ _ _ _ _ _).mono ?_
   rintro e w1 ⟨rfl, hb1⟩
   rw [HPL.out, HR.out]
   have B1 := (Blk.new w 44 #[.int .i64 m.f.wide, .int .i64 m.f.high, .slice m.A m.n m.c] rfl).below hb1 (by first | omega | (simp; done) | (simp; omega))
   have q0 : w1.cell? ⟨w.heap.size, 0, none⟩ = some (.int .i64 m.f.wide) := by rw [B1.cell]; rfl
   have q1 : w1.cell? ⟨w.heap.size, 1, none⟩ = some (.int .i64 m.f.high) := by rw [B1.cell]; rfl
   have hbw : Below w.heap.size w w1 := Below.trans (by go_grown) (hb1.mono (by first | omega | (simp; done) | (simp; omega)))
   have hx1 := (hE.below hbw).bound
   clear hb1 B1
   go_wp2_with fail
   go_ret
   exact ⟨rfl, hbw⟩
  | true =>
   have hrt := rightB_true hr
   obtain ⟨M, hM⟩ : ∃ M : Nat, (M : Int) = m.f.wide * m.f.high := ⟨m.f.ps.length, hrt.2.2.1⟩
   have hMl : M ≤ 65536 := by have := hrt.2.2; omega
   have hM2 : m.f.wide * m.f.high = (M : Int) := hM.symm
   clear hM
   obtain ⟨K, hK⟩ : ∃ K : Nat, K = M * N := ⟨_, rfl⟩
   have hK2 : (M : Int) * N = K := by rw [hK]; norm_cast
   have hKl : K ≤ 65536 * 16 := by rw [hK]; exact Nat.mul_le_mul hMl (by omega)
   have HK := Lib.hid hK
   clear hK
   by_cases h4 : 60000 < K
   ·rw [bad_true (.inr (.inr (.inr ⟨hr, by rw [← hN, hM2, hK2]; omega⟩)))]
    rw [if_pos rfl]
    rw [← hN]
    have h4i : (60000 : Int) < K := by omega
    have HN := Lib.hid hN
    have HF := Lib.hid hF
    have HR := Lib.hid hr
    clear hN hF hr
    go_enter Tryz.func35, Tryz.ntmps35
    go_wp2_with fail
    refine (rright_any _ _ _ _ _ _).mono ?_
    rintro e w1 ⟨rfl, hb1⟩
    rw [HPL.out, HR.out]
    have B1 := (Blk.new w 44 #[.int .i64 m.f.wide, .int .i64 m.f.high, .slice m.A m.n m.c] rfl).below hb1 (by first | omega | (simp; done) | (simp; omega))
    have q0 : w1.cell? ⟨w.heap.size, 0, none⟩ = some (.int .i64 m.f.wide) := by rw [B1.cell]; rfl
    have q1 : w1.cell? ⟨w.heap.size, 1, none⟩ = some (.int .i64 m.f.high) := by rw [B1.cell]; rfl
    have hbw : Below w.heap.size w w1 := Below.trans (by go_grown) (hb1.mono (by first | omega | (simp; done) | (simp; omega)))
    have hx1 := (hE.below hbw).bound
    clear hb1 B1
    go_wp2_with fail
    go_ret
    exact ⟨rfl, hbw⟩
   ·rw [bad_false (by omega) h2 h3 (fun h => by have h5 := h.2; rw [← hN, hM2, hK2] at h5; omega)]
    rw [if_neg (by decide)]
    rw [← hN]
    have h4i : ¬ (60000 : Int) < K := by omega
    have HN := Lib.hid hN
    have HF := Lib.hid hF
    have HR := Lib.hid hr
    clear hN hF hr
    go_enter Tryz.func35, Tryz.ntmps35
    go_wp2_with fail
    refine (rright_any _ _ _ _ _ _).mono ?_
    rintro e w1 ⟨rfl, hb1⟩
    rw [HPL.out, HR.out]
    have B1 := (Blk.new w 44 #[.int .i64 m.f.wide, .int .i64 m.f.high, .slice m.A m.n m.c] rfl).below hb1 (by first | omega | (simp; done) | (simp; omega))
    have q0 : w1.cell? ⟨w.heap.size, 0, none⟩ = some (.int .i64 m.f.wide) := by rw [B1.cell]; rfl
    have q1 : w1.cell? ⟨w.heap.size, 1, none⟩ = some (.int .i64 m.f.high) := by rw [B1.cell]; rfl
    have hbw : Below w.heap.size w w1 := Below.trans (by go_grown) (hb1.mono (by first | omega | (simp; done) | (simp; omega)))
    have hx1 := (hE.below hbw).bound
    clear hb1 B1
    go_wp2_with fail
    go_ret
    exact ⟨rfl, hbw⟩
def errO (E : Nat → Addr) : Option Nat → Value
 | some i => errV (E i)
 | none => .nilIface
def Gif.err0 (first f : Fr) : Option Nat := if Gif.right f = false ∨ f.wide ≠ first.wide ∨ f.high ≠ first.high then some 2 else if f.delay < 0 ∨ 65535 < f.delay then some 1 else none
set_option maxHeartbeats 2000000 in
set_option maxRecDepth 100000 in
theorem frCheck_any (m m0 : FM) (E : Nat → Addr) (w : World) (hE : Er4 w E) (hn : m.n = m.f.ps.length) :
  Calls Tryz.prog 36 #[.agg #[.int .i64 m.f.wide, .int .i64 m.f.high, .slice m.A m.n m.c, .int .i64 m.f.delay], .agg #[.int .i64 m0.f.wide, .int .i64 m0.f.high, .slice m0.A m0.n m0.c, .int .i64 m0.f.delay]] w fun e w' => e = .returned (errO E (Gif.err0 m0.f m.f)) ∧ Below w.heap.size w w' := by
 have hx2 := hE.shape
 have hx1 := hE.bound
 have l2 := cell_lt hx2
 have l1 := cell_lt hx1
 cases hr : rightB m.f.wide m.f.high m.f.ps.length with
 | false =>
  have he : Gif.err0 m0.f m.f = some 2 := by unfold Gif.err0 Gif.right; rw [if_pos (.inl hr)]
  rw [he]
  have HR := Lib.hid hr
  have HPL := Lib.hid hn
  clear he hr hn
  go_enter Tryz.func36, Tryz.ntmps36
  go_wp2_with fail
  refine (rright_any _ _ _ _ _ _).mono ?_
  rintro e w1 ⟨rfl, hb1⟩
  rw [HPL.out, HR.out]
  have B1 := ((Blk.new w 54 #[.int .i64 m.f.wide, .int .i64 m.f.high, .slice m.A m.n m.c, .int .i64 m.f.delay] rfl).alloc (.cells #[.int .i64 m0.f.wide, .int .i64 m0.f.high, .slice m0.A m0.n m0.c, .int .i64 m0.f.delay] 54)).below hb1 (by first | omega | (simp; done) | (simp; omega))
  have B2 := (Blk.new (w.alloc (.cells #[.int .i64 m.f.wide, .int .i64 m.f.high, .slice m.A m.n m.c, .int .i64 m.f.delay] 54)) 54 #[.int .i64 m0.f.wide, .int .i64 m0.f.high, .slice m0.A m0.n m0.c, .int .i64 m0.f.delay] (g := w.heap.size + 1) (by first | omega | (simp; done) | (simp; omega))).below hb1 (by first | omega | (simp; done) | (simp; omega))
  have q0 : w1.cell? ⟨w.heap.size, 0, none⟩ = some (.int .i64 m.f.wide) := by rw [B1.cell]; rfl
  have q1 : w1.cell? ⟨w.heap.size, 1, none⟩ = some (.int .i64 m.f.high) := by rw [B1.cell]; rfl
  have q3 : w1.cell? ⟨w.heap.size, 3, none⟩ = some (.int .i64 m.f.delay) := by rw [B1.cell]; rfl
  have p0 : w1.cell? ⟨w.heap.size + 1, 0, none⟩ = some (.int .i64 m0.f.wide) := by rw [B2.cell]; rfl
  have p1 : w1.cell? ⟨w.heap.size + 1, 1, none⟩ = some (.int .i64 m0.f.high) := by rw [B2.cell]; rfl
  have hbw : Below w.heap.size w w1 := Below.trans (by go_grown) (hb1.mono (by first | omega | (simp; done) | (simp; omega)))
  have hE1 := hE.below hbw
  have hy2 := hE1.shape
  have hy1 := hE1.bound
  clear hb1 B1 B2 hE1
  go_wp2_with fail
  go_ret
  exact ⟨rfl, hbw⟩
 | true =>
  by_cases h1 : m.f.wide = m0.f.wide
  ·by_cases h2 : m.f.high = m0.f.high
   ·by_cases h3 : m.f.delay < 0
    ·have b1 : (m.f.wide != m0.f.wide) = false := by rw [bne_eq_false_iff_eq]; exact h1
     have b2 : (m.f.high != m0.f.high) = false := by rw [bne_eq_false_iff_eq]; exact h2
     have he : Gif.err0 m0.f m.f = some 1 := by unfold Gif.err0 Gif.right; rw [if_neg (by rw [hr]; rintro (h | h | h); exact absurd h (by decide); exact h h1; exact h h2), if_pos (.inl h3)]
     rw [he]
     have HR := Lib.hid hr
     have HPL := Lib.hid hn
     clear he hr hn h1 h2
     go_enter Tryz.func36, Tryz.ntmps36
     go_wp2_with fail
     refine (rright_any _ _ _ _ _ _).mono ?_
     rintro e w1 ⟨rfl, hb1⟩
     rw [HPL.out, HR.out]
     have B1 := ((Blk.new w 54 #[.int .i64 m.f.wide, .int .i64 m.f.high, .slice m.A m.n m.c, .int .i64 m.f.delay] rfl).alloc (.cells #[.int .i64 m0.f.wide, .int .i64 m0.f.high, .slice m0.A m0.n m0.c, .int .i64 m0.f.delay] 54)).below hb1 (by first | omega | (simp; done) | (simp; omega))
     have B2 := (Blk.new (w.alloc (.cells #[.int .i64 m.f.wide, .int .i64 m.f.high, .slice m.A m.n m.c, .int .i64 m.f.delay] 54)) 54 #[.int .i64 m0.f.wide, .int .i64 m0.f.high, .slice m0.A m0.n m0.c, .int .i64 m0.f.delay] (g := w.heap.size + 1) (by first | omega | (simp; done) | (simp; omega))).below hb1 (by first | omega | (simp; done) | (simp; omega))
     have q0 : w1.cell? ⟨w.heap.size, 0, none⟩ = some (.int .i64 m.f.wide) := by rw [B1.cell]; rfl
     have q1 : w1.cell? ⟨w.heap.size, 1, none⟩ = some (.int .i64 m.f.high) := by rw [B1.cell]; rfl
     have q3 : w1.cell? ⟨w.heap.size, 3, none⟩ = some (.int .i64 m.f.delay) := by rw [B1.cell]; rfl
     have p0 : w1.cell? ⟨w.heap.size + 1, 0, none⟩ = some (.int .i64 m0.f.wide) := by rw [B2.cell]; rfl
     have p1 : w1.cell? ⟨w.heap.size + 1, 1, none⟩ = some (.int .i64 m0.f.high) := by rw [B2.cell]; rfl
     have hbw : Below w.heap.size w w1 := Below.trans (by go_grown) (hb1.mono (by first | omega | (simp; done) | (simp; omega)))
     have hE1 := hE.below hbw
     have hy2 := hE1.shape
     have hy1 := hE1.bound
     clear hb1 B1 B2 hE1
     go_wp2_with fail
     go_ret
     exact ⟨rfl, hbw⟩
    ·by_cases h4 : 65535 < m.f.delay
     ·have b1 : (m.f.wide != m0.f.wide) = false := by rw [bne_eq_false_iff_eq]; exact h1
      have b2 : (m.f.high != m0.f.high) = false := by rw [bne_eq_false_iff_eq]; exact h2
      have he : Gif.err0 m0.f m.f = some 1 := by unfold Gif.err0 Gif.right; rw [if_neg (by rw [hr]; rintro (h | h | h); exact absurd h (by decide); exact h h1; exact h h2), if_pos (.inr h4)]
      rw [he]
      have HR := Lib.hid hr
      have HPL := Lib.hid hn
      clear he hr hn h1 h2
      go_enter Tryz.func36, Tryz.ntmps36
      go_wp2_with fail
      refine (rright_any _ _ _ _ _ _).mono ?_
      rintro e w1 ⟨rfl, hb1⟩
      rw [HPL.out, HR.out]
      have B1 := ((Blk.new w 54 #[.int .i64 m.f.wide, .int .i64 m.f.high, .slice m.A m.n m.c, .int .i64 m.f.delay] rfl).alloc (.cells #[.int .i64 m0.f.wide, .int .i64 m0.f.high, .slice m0.A m0.n m0.c, .int .i64 m0.f.delay] 54)).below hb1 (by first | omega | (simp; done) | (simp; omega))
      have B2 := (Blk.new (w.alloc (.cells #[.int .i64 m.f.wide, .int .i64 m.f.high, .slice m.A m.n m.c, .int .i64 m.f.delay] 54)) 54 #[.int .i64 m0.f.wide, .int .i64 m0.f.high, .slice m0.A m0.n m0.c, .int .i64 m0.f.delay] (g := w.heap.size + 1) (by first | omega | (simp; done) | (simp; omega))).below hb1 (by first | omega | (simp; done) | (simp; omega))
      have q0 : w1.cell? ⟨w.heap.size, 0, none⟩ = some (.int .i64 m.f.wide) := by rw [B1.cell]; rfl
      have q1 : w1.cell? ⟨w.heap.size, 1, none⟩ = some (.int .i64 m.f.high) := by rw [B1.cell]; rfl
      have q3 : w1.cell? ⟨w.heap.size, 3, none⟩ = some (.int .i64 m.f.delay) := by rw [B1.cell]; rfl
      have p0 : w1.cell? ⟨w.heap.size + 1, 0, none⟩ = some (.int .i64 m0.f.wide) := by rw [B2.cell]; rfl
      have p1 : w1.cell? ⟨w.heap.size + 1, 1, none⟩ = some (.int .i64 m0.f.high) := by rw [B2.cell]; rfl
      have hbw : Below w.heap.size w w1 := Below.trans (by go_grown) (hb1.mono (by first | omega | (simp; done) | (simp; omega)))
      have hE1 := hE.below hbw
      have hy2 := hE1.shape
      have hy1 := hE1.bound
      clear hb1 B1 B2 hE1
      go_wp2_with fail
      go_ret
      exact ⟨rfl, hbw⟩
     ·have b1 : (m.f.wide != m0.f.wide) = false := by rw [bne_eq_false_iff_eq]; exact h1
      have b2 : (m.f.high != m0.f.high) = false := by rw [bne_eq_false_iff_eq]; exact h2
      have he : Gif.err0 m0.f m.f = none := by unfold Gif.err0 Gif.right; rw [if_neg (by rw [hr]; rintro (h | h | h); exact absurd h (by decide); exact h h1; exact h h2), if_neg (by rintro (h | h); exact h3 h; exact h4 h)]
      rw [he]
      have HR := Lib.hid hr
      have HPL := Lib.hid hn
      clear he hr hn h1 h2
      go_enter Tryz.func36, Tryz.ntmps36
      go_wp2_with fail
      refine (rright_any _ _ _ _ _ _).mono ?_
      rintro e w1 ⟨rfl, hb1⟩
      rw [HPL.out, HR.out]
      have B1 := ((Blk.new w 54 #[.int .i64 m.f.wide, .int .i64 m.f.high, .slice m.A m.n m.c, .int .i64 m.f.delay] rfl).alloc (.cells #[.int .i64 m0.f.wide, .int .i64 m0.f.high, .slice m0.A m0.n m0.c, .int .i64 m0.f.delay] 54)).below hb1 (by first | omega | (simp; done) | (simp; omega))
      have B2 := (Blk.new (w.alloc (.cells #[.int .i64 m.f.wide, .int .i64 m.f.high, .slice m.A m.n m.c, .int .i64 m.f.delay] 54)) 54 #[.int .i64 m0.f.wide, .int .i64 m0.f.high, .slice m0.A m0.n m0.c, .int .i64 m0.f.delay] (g := w.heap.size + 1) (by first | omega | (simp; done) | (simp; omega))).below hb1 (by first | omega | (simp; done) | (simp; omega))
      have q0 : w1.cell? ⟨w.heap.size, 0, none⟩ = some (.int .i64 m.f.wide) := by rw [B1.cell]; rfl
      have q1 : w1.cell? ⟨w.heap.size, 1, none⟩ = some (.int .i64 m.f.high) := by rw [B1.cell]; rfl
      have q3 : w1.cell? ⟨w.heap.size, 3, none⟩ = some (.int .i64 m.f.delay) := by rw [B1.cell]; rfl
      have p0 : w1.cell? ⟨w.heap.size + 1, 0, none⟩ = some (.int .i64 m0.f.wide) := by rw [B2.cell]; rfl
      have p1 : w1.cell? ⟨w.heap.size + 1, 1, none⟩ = some (.int .i64 m0.f.high) := by rw [B2.cell]; rfl
      have hbw : Below w.heap.size w w1 := Below.trans (by go_grown) (hb1.mono (by first | omega | (simp; done) | (simp; omega)))
      have hE1 := hE.below hbw
      have hy2 := hE1.shape
      have hy1 := hE1.bound
      clear hb1 B1 B2 hE1
      go_wp2_with fail
      go_ret
      exact ⟨rfl, hbw⟩
   ·have b1 : (m.f.wide != m0.f.wide) = false := by rw [bne_eq_false_iff_eq]; exact h1
    have b2 : (m.f.high != m0.f.high) = true := by rw [bne_iff_ne]; exact h2
    have he : Gif.err0 m0.f m.f = some 2 := by unfold Gif.err0 Gif.right; rw [if_pos (.inr (.inr h2))]
    rw [he]
    have HR := Lib.hid hr
    have HPL := Lib.hid hn
    clear he hr hn h1 h2
    go_enter Tryz.func36, Tryz.ntmps36
    go_wp2_with fail
    refine (rright_any _ _ _ _ _ _).mono ?_
    rintro e w1 ⟨rfl, hb1⟩
    rw [HPL.out, HR.out]
    have B1 := ((Blk.new w 54 #[.int .i64 m.f.wide, .int .i64 m.f.high, .slice m.A m.n m.c, .int .i64 m.f.delay] rfl).alloc (.cells #[.int .i64 m0.f.wide, .int .i64 m0.f.high, .slice m0.A m0.n m0.c, .int .i64 m0.f.delay] 54)).below hb1 (by first | omega | (simp; done) | (simp; omega))
    have B2 := (Blk.new (w.alloc (.cells #[.int .i64 m.f.wide, .int .i64 m.f.high, .slice m.A m.n m.c, .int .i64 m.f.delay] 54)) 54 #[.int .i64 m0.f.wide, .int .i64 m0.f.high, .slice m0.A m0.n m0.c, .int .i64 m0.f.delay] (g := w.heap.size + 1) (by first | omega | (simp; done) | (simp; omega))).below hb1 (by first | omega | (simp; done) | (simp; omega))
    have q0 : w1.cell? ⟨w.heap.size, 0, none⟩ = some (.int .i64 m.f.wide) := by rw [B1.cell]; rfl
    have q1 : w1.cell? ⟨w.heap.size, 1, none⟩ = some (.int .i64 m.f.high) := by rw [B1.cell]; rfl
    have q3 : w1.cell? ⟨w.heap.size, 3, none⟩ = some (.int .i64 m.f.delay) := by rw [B1.cell]; rfl
    have p0 : w1.cell? ⟨w.heap.size + 1, 0, none⟩ = some (.int .i64 m0.f.wide) := by rw [B2.cell]; rfl
    have p1 : w1.cell? ⟨w.heap.size + 1, 1, none⟩ = some (.int .i64 m0.f.high) := by rw [B2.cell]; rfl
    have hbw : Below w.heap.size w w1 := Below.trans (by go_grown) (hb1.mono (by first | omega | (simp; done) | (simp; omega)))
    have hE1 := hE.below hbw
    have hy2 := hE1.shape
    have hy1 := hE1.bound
    clear hb1 B1 B2 hE1
    go_wp2_with fail
    go_ret
    exact ⟨rfl, hbw⟩
  ·have b1 : (m.f.wide != m0.f.wide) = true := by rw [bne_iff_ne]; exact h1
   have he : Gif.err0 m0.f m.f = some 2 := by unfold Gif.err0 Gif.right; rw [if_pos (.inr (.inl h1))]
   rw [he]
   have HR := Lib.hid hr
   have HPL := Lib.hid hn
   clear he hr hn h1
   go_enter Tryz.func36, Tryz.ntmps36
   go_wp2_with fail
   refine (rright_any _ _ _ _ _ _).mono ?_
   rintro e w1 ⟨rfl, hb1⟩
   rw [HPL.out, HR.out]
   have B1 := ((Blk.new w 54 #[.int .i64 m.f.wide, .int .i64 m.f.high, .slice m.A m.n m.c, .int .i64 m.f.delay] rfl).alloc (.cells #[.int .i64 m0.f.wide, .int .i64 m0.f.high, .slice m0.A m0.n m0.c, .int .i64 m0.f.delay] 54)).below hb1 (by first | omega | (simp; done) | (simp; omega))
   have B2 := (Blk.new (w.alloc (.cells #[.int .i64 m.f.wide, .int .i64 m.f.high, .slice m.A m.n m.c, .int .i64 m.f.delay] 54)) 54 #[.int .i64 m0.f.wide, .int .i64 m0.f.high, .slice m0.A m0.n m0.c, .int .i64 m0.f.delay] (g := w.heap.size + 1) (by first | omega | (simp; done) | (simp; omega))).below hb1 (by first | omega | (simp; done) | (simp; omega))
   have q0 : w1.cell? ⟨w.heap.size, 0, none⟩ = some (.int .i64 m.f.wide) := by rw [B1.cell]; rfl
   have q1 : w1.cell? ⟨w.heap.size, 1, none⟩ = some (.int .i64 m.f.high) := by rw [B1.cell]; rfl
   have q3 : w1.cell? ⟨w.heap.size, 3, none⟩ = some (.int .i64 m.f.delay) := by rw [B1.cell]; rfl
   have p0 : w1.cell? ⟨w.heap.size + 1, 0, none⟩ = some (.int .i64 m0.f.wide) := by rw [B2.cell]; rfl
   have p1 : w1.cell? ⟨w.heap.size + 1, 1, none⟩ = some (.int .i64 m0.f.high) := by rw [B2.cell]; rfl
   have hbw : Below w.heap.size w w1 := Below.trans (by go_grown) (hb1.mono (by first | omega | (simp; done) | (simp; omega)))
   have hE1 := hE.below hbw
   have hy2 := hE1.shape
   have hy1 := hE1.bound
   clear hb1 B1 B2 hE1
   go_wp2_with fail
   go_ret
   exact ⟨rfl, hbw⟩
end Go.Proofs.YtkegkelaffohjaaGreatDoor
/- Frames as a film: plainly; their faults; what is written is read. -/
namespace Go.Proofs.YtkegkelaffohjaaGreatDoor
namespace Film
def faultAt (first : Fr) : List Fr → Nat → Option (Nat × Int)
 | [], _ => none
 | f :: r, i => match Gif.err0 first f with
  | some c => some (c, i)
  | none => faultAt first r (i + 1)
def frsOf (fs : List Fr) : List F := fs.map fun f => (f.delay.toNat, f.ps)
def write (fs : List Fr) (loops : Int) : List UInt8 ⊕ (Nat × Int) :=
 match fs with
 | [] => .inr (1, -1)
 | f :: r => if Gif.bad (f :: r) loops then .inr (1, -1) else match faultAt f (f :: r) 0 with
  | some e => .inr e
  | none => .inl (film f.wide.toNat f.high.toNat loops.toNat (frsOf (f :: r)))
theorem err0_no {first f : Fr} (h : Gif.err0 first f = none) : Gif.right f = true ∧ f.wide = first.wide ∧ f.high = first.high ∧ 0 ≤ f.delay ∧ f.delay ≤ 65535 := by
 unfold Gif.err0 at h
 split at h
 ·cases h
 ·rename_i h1
  split at h
  ·cases h
  ·rename_i h2
   refine ⟨?_, Decidable.byContradiction fun e => h1 (.inr (.inl e)), Decidable.byContradiction fun e => h1 (.inr (.inr e)), by omega, by omega⟩
   cases hr : Gif.right f with
   | true => rfl
   | false => exact absurd (.inl hr) h1
theorem faultAt_no {first : Fr} : ∀ (fs : List Fr) (i : Nat), faultAt first fs i = none → ∀ f ∈ fs, Gif.err0 first f = none
 | [], _, _, _, hf => by cases hf
 | g :: r, i, h, f, hf => by
  unfold faultAt at h
  cases hx : Gif.err0 first g with
  | some c => rw [hx] at h; cases h
  | none =>
   rw [hx] at h
   rcases List.mem_cons.1 hf with rfl | hf
   ·exact hx
   ·exact faultAt_no r (i + 1) h f hf
theorem bad_no {f : Fr} {r : List Fr} {loops : Int} (h : Gif.bad (f :: r) loops = false) (hr : Gif.right f = true) : (f :: r).length ≤ 16 ∧ 0 ≤ loops ∧ loops ≤ 65535 ∧ f.wide * f.high * (f :: r).length ≤ 60000 := by
 unfold Gif.bad at h
 simp only [hr, Bool.true_and, Bool.or_eq_false_iff, decide_eq_false_iff_not] at h
 obtain ⟨⟨⟨h1, h2⟩, h3⟩, h4⟩ := h
 exact ⟨by omega, by omega, by omega, by omega⟩
def toFr (W H : Nat) (q : F) : Fr := ⟨W, H, q.2, q.1⟩
structure Wrote (fs : List Fr) (loops : Int) (s : List UInt8) (W H lp : Nat) : Prop where
 loops : loops = lp
 ok : Ok W H lp (frsOf fs)
 s : s = film W H lp (frsOf fs)
 back : (frsOf fs).map (toFr W H) = fs
 len : fs.length = (frsOf fs).length
theorem write_ok {fs : List Fr} {loops : Int} {s : List UInt8} (h : write fs loops = .inl s) : ∃ W H lp : Nat, Wrote fs loops s W H lp := by
 cases fs with
 | nil => cases h
 | cons f r =>
  unfold write at h
  simp only at h
  cases hb : Gif.bad (f :: r) loops with
  | true => rw [hb, if_pos rfl] at h; cases h
  | false =>
   rw [hb, if_neg (by simp)] at h
   cases hx : faultAt f (f :: r) 0 with
   | some e => rw [hx] at h; cases h
   | none =>
    rw [hx] at h
    injection h with h
    have hn := faultAt_no (f :: r) 0 hx
    have h0 := err0_no (hn f (by simp))
    obtain ⟨b1, b2, b3, b4⟩ := bad_no hb h0.1
    have hr := h0.1
    unfold Gif.right at hr
    obtain ⟨⟨a1, a2⟩, ⟨a3, a4⟩, hWH, _⟩ := rightB_true hr
    obtain ⟨W, hW⟩ : ∃ W : Nat, f.wide = W := ⟨f.wide.toNat, by omega⟩
    obtain ⟨H, hH⟩ : ∃ H : Nat, f.high = H := ⟨f.high.toNat, by omega⟩
    obtain ⟨lp, hlp⟩ : ∃ lp : Nat, loops = lp := ⟨loops.toNat, by omega⟩
    have hlen : (frsOf (f :: r)).length = (f :: r).length := by unfold frsOf; rw [List.length_map]
    have hall : (f :: r).length * W * H ≤ 60000 := by
     rw [hW, hH] at b4
     have e : (W : Int) * H * ((f :: r).length : Nat) = (((f :: r).length * W * H : Nat) : Int) := by
      rw [Int.natCast_mul, Int.natCast_mul]
      rw [Int.mul_comm ((W : Int) * H), Int.mul_assoc]
     rw [e] at b4
     omega
    refine ⟨W, H, lp, hlp, ⟨by omega, by omega, by rw [hlen]; exact ⟨by simp, b1⟩, by omega, by rw [hlen]; exact hall, ?_⟩, ?_, ?_, hlen.symm⟩
    ·intro q hq
     unfold frsOf at hq
     obtain ⟨g, hg, rfl⟩ := List.mem_map.1 hq
     have hg0 := err0_no (hn g hg)
     have hgr := hg0.1
     unfold Gif.right at hgr
     obtain ⟨_, _, hgWH, _⟩ := rightB_true hgr
     refine ⟨by show g.delay.toNat ≤ 65535; omega, ?_⟩
     rw [hg0.2.1, hg0.2.2.1, hW, hH] at hgWH
     have e : (W : Int) * (H : Int) = ((W * H : Nat) : Int) := by rw [Int.natCast_mul]
     rw [e] at hgWH
     show g.ps.length = H * W
     rw [Nat.mul_comm]
     omega
    ·rw [← h, hW, hH, hlp]
     rfl
    ·unfold frsOf
     rw [List.map_map]
     refine (List.map_congr_left fun g hg => ?_).trans (List.map_id _)
     have hg0 := err0_no (hn g hg)
     obtain ⟨gw, gh, gp, gd⟩ := g
     show (⟨(W : Int), (H : Int), gp, ((gd.toNat : Nat) : Int)⟩ : Fr) = ⟨gw, gh, gp, gd⟩
     simp only at hg0
     rw [← hW, ← hH, ← hg0.2.1, ← hg0.2.2.1, Int.toNat_of_nonneg hg0.2.2.2.1]
theorem Wrote.read {fs : List Fr} {loops : Int} {s : List UInt8} {W H lp : Nat} (h : Wrote fs loops s W H lp) (hs : (fs.map (·.ps.length)).sum ≤ 3000) : s.length ≤ 20000 ∧ Film.read s = .ok (W, H, lp, frsOf fs) := by
 have hsum : ∀ l : List F, (∀ q ∈ l, q.2.length = H * W) → (l.map (·.2.length)).sum = l.length * (H * W) := by
  intro l
  induction l with
  | nil => intro _; simp
  | cons q l ih =>
   intro hl
   rw [List.map_cons, List.sum_cons, ih fun p hp => hl p (List.mem_cons_of_mem _ hp), hl q (by simp), List.length_cons, Nat.add_mul, Nat.one_mul]
   omega
 have h1 := hsum (frsOf fs) fun q hq => (h.ok.each q hq).2
 have h2 : (frsOf fs).map (·.2.length) = fs.map (·.ps.length) := by unfold frsOf; rw [List.map_map]; rfl
 rw [h2] at h1
 have h3 := h.ok.many
 have h4 : 1 * (H * W) ≤ (frsOf fs).length * (H * W) := Nat.mul_le_mul_right _ h3.1
 have h5 := film_length W H lp (frsOf fs) (fun q hq => (h.ok.each q hq).2) h.ok.h.2 h3.2 (by omega) (by omega)
 rw [h.s]
 exact ⟨h5, read_film W H lp _ h.ok (by omega)⟩
end Film
end Go.Proofs.YtkegkelaffohjaaGreatDoor
