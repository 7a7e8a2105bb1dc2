/- gif.Bounds, Frame.Check; layercakeref3.BoundsOf, frameError: the walks. -/
import Derived.Test.YtncedhhgclofbaaDoorGifLaw
import Derived.Test.YtncedhhgclofbaaDoorEr4
import Derived.Test.YtncedhhgclofbaaDoorRefBase
import Derived.BigQuiet
import Derived.Deep.QuietTactic
namespace Go.Proofs.YtncedhhgclofbaaDoor
open Go Go.RowKit

theorem bad_true {m : FM} {r : List FM} {loops : Int} (h : 16 < (m :: r).length ∨ loops < 0 ∨ 65535 < loops ∨ (rightB m.f.wide m.f.high m.f.ps.length = true ∧ 60000 < m.f.wide * m.f.high * (m :: r).length)) : Gif.bad ((m :: r).map (·.f)) loops = true := by
  simp only [Gif.bad, List.map_cons, Bool.or_eq_true, Bool.and_eq_true, decide_eq_true_eq, Gif.right]
  have e : (m.f :: r.map (·.f)).length = (m :: r).length := by simp
  rw [e]
  rcases h with h | h | h | h
  · exact .inl (.inl (.inl h))
  · exact .inl (.inl (.inr h))
  · exact .inl (.inr h)
  · exact .inr h
theorem bad_false {m : FM} {r : List FM} {loops : Int} (h1 : ¬ 16 < (m :: r).length) (h2 : ¬ loops < 0) (h3 : ¬ 65535 < loops) (h4 : ¬ (rightB m.f.wide m.f.high m.f.ps.length = true ∧ 60000 < m.f.wide * m.f.high * (m :: r).length)) : Gif.bad ((m :: r).map (·.f)) loops = false := by
  rw [← Bool.not_eq_true]
  simp only [Gif.bad, List.map_cons, Bool.or_eq_true, Bool.and_eq_true, decide_eq_true_eq, Gif.right]
  have e : (m.f :: r.map (·.f)).length = (m :: r).length := by simp
  rw [e]
  rintro (((h | h) | h) | h)
  · exact h1 h
  · exact h2 h
  · exact h3 h
  · exact h4 h
set_option maxHeartbeats 2000000 in
set_option maxRecDepth 100000 in
theorem bounds_any (A : Option Addr) (n c : Nat) (ms : List FM) (loops : Int) (E : Nat → Addr) (w : World) (hE : Er4 w E) (hF : Frs w w.heap.size A n ms) :
    Calls Tryd.prog 19 #[.slice A n c, .int .i64 loops] w fun e w' => e = .returned (if Gif.bad (ms.map (·.f)) loops then errV (E 1) else .nilIface) ∧ Below w.heap.size w w' := by
  have hx := hE.bound
  obtain rfl := hF.len
  match ms, hF with
  | [], hF =>
    go_enter Tryd.func19, Tryd.ntmps19
    go_wp2_with fail
    go_ret
    exact ⟨rfl, Below.refl _ _⟩
  | m :: r, hF =>
    obtain ⟨b, off, rfl, hbl⟩ := hF.1.addr (by simp)
    have c0 : w.cell? ⟨b, off, none⟩ = some (.int .i64 m.f.wide) := by have := hF.at 0 (by simp) 0 (by omega); simpa [frCs] using this
    have c1 : w.cell? ⟨b, off + 1, none⟩ = some (.int .i64 m.f.high) := by have := hF.at 0 (by simp) 1 (by omega); simpa [frCs] using this
    have c2 : w.cell? ⟨b, off + 2, none⟩ = some (.slice m.A m.n m.c) := by have := hF.at 0 (by simp) 2 (by omega); simpa [frCs] using this
    have hpl := (hF.px 0 (by simp)).pxLen
    replace hpl : m.n = m.f.ps.length := hpl
    obtain ⟨N, hN⟩ : ∃ N, N = (m :: r).length := ⟨_, rfl⟩
    have hN1 : 1 ≤ N := by rw [hN]; simp
    by_cases h1 : 16 < N
    · rw [bad_true (.inl (by omega)), ← hN, if_pos rfl]
      clear hN hF hpl
      go_enter Tryd.func19, Tryd.ntmps19
      go_wp2_with fail
      go_ret
      exact ⟨rfl, Below.refl _ _⟩
    by_cases h2 : loops < 0
    · rw [bad_true (.inr (.inl h2)), ← hN, if_pos rfl]
      clear hN hF hpl
      go_enter Tryd.func19, Tryd.ntmps19
      go_wp2_with fail
      go_ret
      exact ⟨rfl, Below.refl _ _⟩
    by_cases h3 : 65535 < loops
    · rw [bad_true (.inr (.inr (.inl h3))), ← hN, if_pos rfl]
      clear hN hF hpl
      go_enter Tryd.func19, Tryd.ntmps19
      go_wp2_with fail
      go_ret
      exact ⟨rfl, Below.refl _ _⟩
    have HPL := Lib.hid hpl
    clear hpl
    cases hr : rightB m.f.wide m.f.high m.f.ps.length with
    | false =>
      rw [bad_false (by omega) h2 h3 (fun h => by rw [hr] at h; exact absurd h.1 (by decide))]
      rw [if_neg (by decide)]
      rw [← hN]
      have HN := Lib.hid hN
      have HF := Lib.hid hF
      have HR := Lib.hid hr
      clear hN hF hr
      go_enter Tryd.func19, Tryd.ntmps19
      go_wp2_with fail
      refine (rright_any _ _ _ _ _ _).mono ?_
      rintro e w1 ⟨rfl, hb1⟩
      rw [HPL.out, HR.out]
      have B1 := (Blk.new w 35 #[.int .i64 m.f.wide, .int .i64 m.f.high, .slice m.A m.n m.c] rfl).below hb1 (by first | omega | (simp; done) | (simp; omega))
      have q0 : w1.cell? ⟨w.heap.size, 0, none⟩ = some (.int .i64 m.f.wide) := by rw [B1.cell]; rfl
      have q1 : w1.cell? ⟨w.heap.size, 1, none⟩ = some (.int .i64 m.f.high) := by rw [B1.cell]; rfl
      have hbw : Below w.heap.size w w1 := Below.trans (by go_grown) (hb1.mono (by first | omega | (simp; done) | (simp; omega)))
      have hx1 := (hE.below hbw).bound
      clear hb1 B1
      go_wp2_with fail
      go_ret
      exact ⟨rfl, hbw⟩
    | true =>
      have hrt := rightB_true hr
      obtain ⟨M, hM⟩ : ∃ M : Nat, (M : Int) = m.f.wide * m.f.high := ⟨m.f.ps.length, hrt.2.2.1⟩
      have hMl : M ≤ 65536 := by have := hrt.2.2; omega
      have hM2 : m.f.wide * m.f.high = (M : Int) := hM.symm
      clear hM
      obtain ⟨K, hK⟩ : ∃ K : Nat, K = M * N := ⟨_, rfl⟩
      have hK2 : (M : Int) * N = K := by rw [hK]; norm_cast
      have hKl : K ≤ 65536 * 16 := by rw [hK]; exact Nat.mul_le_mul hMl (by omega)
      have HK := Lib.hid hK
      clear hK
      by_cases h4 : 60000 < K
      · rw [bad_true (.inr (.inr (.inr ⟨hr, by rw [← hN, hM2, hK2]; omega⟩)))]
        rw [if_pos rfl]
        rw [← hN]
        have h4i : (60000 : Int) < K := by omega
        have HN := Lib.hid hN
        have HF := Lib.hid hF
        have HR := Lib.hid hr
        clear hN hF hr
        go_enter Tryd.func19, Tryd.ntmps19
        go_wp2_with fail
        refine (rright_any _ _ _ _ _ _).mono ?_
        rintro e w1 ⟨rfl, hb1⟩
        rw [HPL.out, HR.out]
        have B1 := (Blk.new w 35 #[.int .i64 m.f.wide, .int .i64 m.f.high, .slice m.A m.n m.c] rfl).below hb1 (by first | omega | (simp; done) | (simp; omega))
        have q0 : w1.cell? ⟨w.heap.size, 0, none⟩ = some (.int .i64 m.f.wide) := by rw [B1.cell]; rfl
        have q1 : w1.cell? ⟨w.heap.size, 1, none⟩ = some (.int .i64 m.f.high) := by rw [B1.cell]; rfl
        have hbw : Below w.heap.size w w1 := Below.trans (by go_grown) (hb1.mono (by first | omega | (simp; done) | (simp; omega)))
        have hx1 := (hE.below hbw).bound
        clear hb1 B1
        go_wp2_with fail
        go_ret
        exact ⟨rfl, hbw⟩
      · rw [bad_false (by omega) h2 h3 (fun h => by have h5 := h.2; rw [← hN, hM2, hK2] at h5; omega)]
        rw [if_neg (by decide)]
        rw [← hN]
        have h4i : ¬ (60000 : Int) < K := by omega
        have HN := Lib.hid hN
        have HF := Lib.hid hF
        have HR := Lib.hid hr
        clear hN hF hr
        go_enter Tryd.func19, Tryd.ntmps19
        go_wp2_with fail
        refine (rright_any _ _ _ _ _ _).mono ?_
        rintro e w1 ⟨rfl, hb1⟩
        rw [HPL.out, HR.out]
        have B1 := (Blk.new w 35 #[.int .i64 m.f.wide, .int .i64 m.f.high, .slice m.A m.n m.c] rfl).below hb1 (by first | omega | (simp; done) | (simp; omega))
        have q0 : w1.cell? ⟨w.heap.size, 0, none⟩ = some (.int .i64 m.f.wide) := by rw [B1.cell]; rfl
        have q1 : w1.cell? ⟨w.heap.size, 1, none⟩ = some (.int .i64 m.f.high) := by rw [B1.cell]; rfl
        have hbw : Below w.heap.size w w1 := Below.trans (by go_grown) (hb1.mono (by first | omega | (simp; done) | (simp; omega)))
        have hx1 := (hE.below hbw).bound
        clear hb1 B1
        go_wp2_with fail
        go_ret
        exact ⟨rfl, hbw⟩
set_option maxHeartbeats 2000000 in
set_option maxRecDepth 100000 in
theorem boundsOf_any (A : Option Addr) (n c : Nat) (ms : List FM) (loops : Int) (w : World) (hF : Frs w w.heap.size A n ms) :
    Calls Tryd.prog 27 #[.slice A n c, .int .i64 loops] w fun e w' => e = .returned (if Gif.bad (ms.map (·.f)) loops then .int .i64 2 else .int .i64 0) ∧ Below w.heap.size w w' := by
  obtain rfl := hF.len
  match ms, hF with
  | [], hF =>
    go_enter Tryd.func27, Tryd.ntmps27
    go_wp2_with fail
    go_ret
    exact ⟨rfl, Below.refl _ _⟩
  | m :: r, hF =>
    obtain ⟨b, off, rfl, hbl⟩ := hF.1.addr (by simp)
    have c0 : w.cell? ⟨b, off, none⟩ = some (.int .i64 m.f.wide) := by have := hF.at 0 (by simp) 0 (by omega); simpa [frCs] using this
    have c1 : w.cell? ⟨b, off + 1, none⟩ = some (.int .i64 m.f.high) := by have := hF.at 0 (by simp) 1 (by omega); simpa [frCs] using this
    have c2 : w.cell? ⟨b, off + 2, none⟩ = some (.slice m.A m.n m.c) := by have := hF.at 0 (by simp) 2 (by omega); simpa [frCs] using this
    have hpl := (hF.px 0 (by simp)).pxLen
    replace hpl : m.n = m.f.ps.length := hpl
    obtain ⟨N, hN⟩ : ∃ N, N = (m :: r).length := ⟨_, rfl⟩
    have hN1 : 1 ≤ N := by rw [hN]; simp
    by_cases h1 : 16 < N
    · rw [bad_true (.inl (by omega)), ← hN, if_pos rfl]
      clear hN hF hpl
      go_enter Tryd.func27, Tryd.ntmps27
      go_wp2_with fail
      go_ret
      exact ⟨rfl, Below.refl _ _⟩
    by_cases h2 : loops < 0
    · rw [bad_true (.inr (.inl h2)), ← hN, if_pos rfl]
      clear hN hF hpl
      go_enter Tryd.func27, Tryd.ntmps27
      go_wp2_with fail
      go_ret
      exact ⟨rfl, Below.refl _ _⟩
    by_cases h3 : 65535 < loops
    · rw [bad_true (.inr (.inr (.inl h3))), ← hN, if_pos rfl]
      clear hN hF hpl
      go_enter Tryd.func27, Tryd.ntmps27
      go_wp2_with fail
      go_ret
      exact ⟨rfl, Below.refl _ _⟩
    have HPL := Lib.hid hpl
    clear hpl
    cases hr : rightB m.f.wide m.f.high m.f.ps.length with
    | false =>
      rw [bad_false (by omega) h2 h3 (fun h => by rw [hr] at h; exact absurd h.1 (by decide))]
      rw [if_neg (by decide)]
      rw [← hN]
      have HN := Lib.hid hN
      have HF := Lib.hid hF
      have HR := Lib.hid hr
      clear hN hF hr
      go_enter Tryd.func27, Tryd.ntmps27
      go_wp2_with fail
      refine (pright_any _ _ _ _ _ _).mono ?_
      rintro e w1 ⟨rfl, hb1⟩
      rw [HPL.out, HR.out]
      have hbw : Below w.heap.size w w1 := hb1
      have d0 := bcell_ (p := ⟨b, off, none⟩) hbw hbl c0
      have d1 := bcell_ (p := ⟨b, off + 1, none⟩) hbw hbl c1
      go_wp2_with fail
      go_quiet (fail)
      go_wp2
      go_ret
      exact ⟨rfl, below_drewN hbw _⟩
    | true =>
      have hrt := rightB_true hr
      obtain ⟨M, hM⟩ : ∃ M : Nat, (M : Int) = m.f.wide * m.f.high := ⟨m.f.ps.length, hrt.2.2.1⟩
      have hMl : M ≤ 65536 := by have := hrt.2.2; omega
      have hM2 : m.f.wide * m.f.high = (M : Int) := hM.symm
      clear hM
      obtain ⟨K, hK⟩ : ∃ K : Nat, K = M * N := ⟨_, rfl⟩
      have hK2 : (M : Int) * N = K := by rw [hK]; norm_cast
      have hKl : K ≤ 65536 * 16 := by rw [hK]; exact Nat.mul_le_mul hMl (by omega)
      have HK := Lib.hid hK
      clear hK
      by_cases h4 : 60000 < K
      · rw [bad_true (.inr (.inr (.inr ⟨hr, by rw [← hN, hM2, hK2]; omega⟩)))]
        rw [if_pos rfl]
        rw [← hN]
        have h4i : (60000 : Int) < K := by omega
        have w1i : IntKind.i64.wrap (m.f.wide * m.f.high) = (M : Int) := by rw [hM2]; exact IntWalk.i64_in _ (by omega)
        have w2i : IntKind.i64.wrap ((M : Int) * N) = (K : Int) := by rw [hK2]; exact IntWalk.i64_in _ (by omega)
        have HN := Lib.hid hN
        have HF := Lib.hid hF
        have HR := Lib.hid hr
        clear hN hF hr
        go_enter Tryd.func27, Tryd.ntmps27
        go_wp2_with fail
        refine (pright_any _ _ _ _ _ _).mono ?_
        rintro e w1 ⟨rfl, hb1⟩
        rw [HPL.out, HR.out]
        have hbw : Below w.heap.size w w1 := hb1
        have d0 := bcell_ (p := ⟨b, off, none⟩) hbw hbl c0
        have d1 := bcell_ (p := ⟨b, off + 1, none⟩) hbw hbl c1
        go_wp2_with fail
        go_quiet (fail)
        go_wp2
        go_ret
        exact ⟨rfl, below_drewN hbw _⟩
      · rw [bad_false (by omega) h2 h3 (fun h => by have h5 := h.2; rw [← hN, hM2, hK2] at h5; omega)]
        rw [if_neg (by decide)]
        rw [← hN]
        have h4i : ¬ (60000 : Int) < K := by omega
        have w1i : IntKind.i64.wrap (m.f.wide * m.f.high) = (M : Int) := by rw [hM2]; exact IntWalk.i64_in _ (by omega)
        have w2i : IntKind.i64.wrap ((M : Int) * N) = (K : Int) := by rw [hK2]; exact IntWalk.i64_in _ (by omega)
        have HN := Lib.hid hN
        have HF := Lib.hid hF
        have HR := Lib.hid hr
        clear hN hF hr
        go_enter Tryd.func27, Tryd.ntmps27
        go_wp2_with fail
        refine (pright_any _ _ _ _ _ _).mono ?_
        rintro e w1 ⟨rfl, hb1⟩
        rw [HPL.out, HR.out]
        have hbw : Below w.heap.size w w1 := hb1
        have d0 := bcell_ (p := ⟨b, off, none⟩) hbw hbl c0
        have d1 := bcell_ (p := ⟨b, off + 1, none⟩) hbw hbl c1
        go_wp2_with fail
        go_quiet (fail)
        go_wp2
        go_ret
        exact ⟨rfl, below_drewN hbw _⟩
/-- An error's number as the program's error. -/
def errO (E : Nat → Addr) : Option Nat → Value
  | some i => errV (E i)
  | none => .nilIface
/-- An error's number as the document has it. -/
def errN : Option Nat → Value
  | some i => .int .i64 (i + 1 : Nat)
  | none => .int .i64 0
/-- A frame's fault, colors aside. -/
def Gif.err0 (first f : Fr) : Option Nat := if Gif.right f = false ∨ f.wide ≠ first.wide ∨ f.high ≠ first.high then some 2 else if f.delay < 0 ∨ 65535 < f.delay then some 1 else none
set_option maxHeartbeats 2000000 in
set_option maxRecDepth 100000 in
theorem frCheck_any (m m0 : FM) (E : Nat → Addr) (w : World) (hE : Er4 w E) (hn : m.n = m.f.ps.length) :
    Calls Tryd.prog 22 #[.agg #[.int .i64 m.f.wide, .int .i64 m.f.high, .slice m.A m.n m.c, .int .i64 m.f.delay], .agg #[.int .i64 m0.f.wide, .int .i64 m0.f.high, .slice m0.A m0.n m0.c, .int .i64 m0.f.delay]] w fun e w' => e = .returned (errO E (Gif.err0 m0.f m.f)) ∧ Below w.heap.size w w' := by
  have hx2 := hE.shape
  have hx1 := hE.bound
  have l2 := cell_lt hx2
  have l1 := cell_lt hx1
  cases hr : rightB m.f.wide m.f.high m.f.ps.length with
  | false =>
    have he : Gif.err0 m0.f m.f = some 2 := by unfold Gif.err0 Gif.right; rw [if_pos (.inl hr)]
    rw [he]
    have HR := Lib.hid hr
    have HPL := Lib.hid hn
    clear he hr hn
    go_enter Tryd.func22, Tryd.ntmps22
    go_wp2_with fail
    refine (rright_any _ _ _ _ _ _).mono ?_
    rintro e w1 ⟨rfl, hb1⟩
    rw [HPL.out, HR.out]
    have B1 := ((Blk.new w 37 #[.int .i64 m.f.wide, .int .i64 m.f.high, .slice m.A m.n m.c, .int .i64 m.f.delay] rfl).alloc (.cells #[.int .i64 m0.f.wide, .int .i64 m0.f.high, .slice m0.A m0.n m0.c, .int .i64 m0.f.delay] 37)).below hb1 (by first | omega | (simp; done) | (simp; omega))
    have B2 := (Blk.new (w.alloc (.cells #[.int .i64 m.f.wide, .int .i64 m.f.high, .slice m.A m.n m.c, .int .i64 m.f.delay] 37)) 37 #[.int .i64 m0.f.wide, .int .i64 m0.f.high, .slice m0.A m0.n m0.c, .int .i64 m0.f.delay] (g := w.heap.size + 1) (by first | omega | (simp; done) | (simp; omega))).below hb1 (by first | omega | (simp; done) | (simp; omega))
    have q0 : w1.cell? ⟨w.heap.size, 0, none⟩ = some (.int .i64 m.f.wide) := by rw [B1.cell]; rfl
    have q1 : w1.cell? ⟨w.heap.size, 1, none⟩ = some (.int .i64 m.f.high) := by rw [B1.cell]; rfl
    have q3 : w1.cell? ⟨w.heap.size, 3, none⟩ = some (.int .i64 m.f.delay) := by rw [B1.cell]; rfl
    have p0 : w1.cell? ⟨w.heap.size + 1, 0, none⟩ = some (.int .i64 m0.f.wide) := by rw [B2.cell]; rfl
    have p1 : w1.cell? ⟨w.heap.size + 1, 1, none⟩ = some (.int .i64 m0.f.high) := by rw [B2.cell]; rfl
    have hbw : Below w.heap.size w w1 := Below.trans (by go_grown) (hb1.mono (by first | omega | (simp; done) | (simp; omega)))
    have hE1 := hE.below hbw
    have hy2 := hE1.shape
    have hy1 := hE1.bound
    clear hb1 B1 B2 hE1
    go_wp2_with fail
    go_ret
    exact ⟨rfl, hbw⟩
  | true =>
    by_cases h1 : m.f.wide = m0.f.wide
    · by_cases h2 : m.f.high = m0.f.high
      · by_cases h3 : m.f.delay < 0
        · have b1 : (m.f.wide != m0.f.wide) = false := by rw [bne_eq_false_iff_eq]; exact h1
          have b2 : (m.f.high != m0.f.high) = false := by rw [bne_eq_false_iff_eq]; exact h2
          have he : Gif.err0 m0.f m.f = some 1 := by unfold Gif.err0 Gif.right; rw [if_neg (by rw [hr]; rintro (h | h | h); exact absurd h (by decide); exact h h1; exact h h2), if_pos (.inl h3)]
          rw [he]
          have HR := Lib.hid hr
          have HPL := Lib.hid hn
          clear he hr hn h1 h2
          go_enter Tryd.func22, Tryd.ntmps22
          go_wp2_with fail
          refine (rright_any _ _ _ _ _ _).mono ?_
          rintro e w1 ⟨rfl, hb1⟩
          rw [HPL.out, HR.out]
          have B1 := ((Blk.new w 37 #[.int .i64 m.f.wide, .int .i64 m.f.high, .slice m.A m.n m.c, .int .i64 m.f.delay] rfl).alloc (.cells #[.int .i64 m0.f.wide, .int .i64 m0.f.high, .slice m0.A m0.n m0.c, .int .i64 m0.f.delay] 37)).below hb1 (by first | omega | (simp; done) | (simp; omega))
          have B2 := (Blk.new (w.alloc (.cells #[.int .i64 m.f.wide, .int .i64 m.f.high, .slice m.A m.n m.c, .int .i64 m.f.delay] 37)) 37 #[.int .i64 m0.f.wide, .int .i64 m0.f.high, .slice m0.A m0.n m0.c, .int .i64 m0.f.delay] (g := w.heap.size + 1) (by first | omega | (simp; done) | (simp; omega))).below hb1 (by first | omega | (simp; done) | (simp; omega))
          have q0 : w1.cell? ⟨w.heap.size, 0, none⟩ = some (.int .i64 m.f.wide) := by rw [B1.cell]; rfl
          have q1 : w1.cell? ⟨w.heap.size, 1, none⟩ = some (.int .i64 m.f.high) := by rw [B1.cell]; rfl
          have q3 : w1.cell? ⟨w.heap.size, 3, none⟩ = some (.int .i64 m.f.delay) := by rw [B1.cell]; rfl
          have p0 : w1.cell? ⟨w.heap.size + 1, 0, none⟩ = some (.int .i64 m0.f.wide) := by rw [B2.cell]; rfl
          have p1 : w1.cell? ⟨w.heap.size + 1, 1, none⟩ = some (.int .i64 m0.f.high) := by rw [B2.cell]; rfl
          have hbw : Below w.heap.size w w1 := Below.trans (by go_grown) (hb1.mono (by first | omega | (simp; done) | (simp; omega)))
          have hE1 := hE.below hbw
          have hy2 := hE1.shape
          have hy1 := hE1.bound
          clear hb1 B1 B2 hE1
          go_wp2_with fail
          go_ret
          exact ⟨rfl, hbw⟩
        · by_cases h4 : 65535 < m.f.delay
          · have b1 : (m.f.wide != m0.f.wide) = false := by rw [bne_eq_false_iff_eq]; exact h1
            have b2 : (m.f.high != m0.f.high) = false := by rw [bne_eq_false_iff_eq]; exact h2
            have he : Gif.err0 m0.f m.f = some 1 := by unfold Gif.err0 Gif.right; rw [if_neg (by rw [hr]; rintro (h | h | h); exact absurd h (by decide); exact h h1; exact h h2), if_pos (.inr h4)]
            rw [he]
            have HR := Lib.hid hr
            have HPL := Lib.hid hn
            clear he hr hn h1 h2
            go_enter Tryd.func22, Tryd.ntmps22
            go_wp2_with fail
            refine (rright_any _ _ _ _ _ _).mono ?_
            rintro e w1 ⟨rfl, hb1⟩
            rw [HPL.out, HR.out]
            have B1 := ((Blk.new w 37 #[.int .i64 m.f.wide, .int .i64 m.f.high, .slice m.A m.n m.c, .int .i64 m.f.delay] rfl).alloc (.cells #[.int .i64 m0.f.wide, .int .i64 m0.f.high, .slice m0.A m0.n m0.c, .int .i64 m0.f.delay] 37)).below hb1 (by first | omega | (simp; done) | (simp; omega))
            have B2 := (Blk.new (w.alloc (.cells #[.int .i64 m.f.wide, .int .i64 m.f.high, .slice m.A m.n m.c, .int .i64 m.f.delay] 37)) 37 #[.int .i64 m0.f.wide, .int .i64 m0.f.high, .slice m0.A m0.n m0.c, .int .i64 m0.f.delay] (g := w.heap.size + 1) (by first | omega | (simp; done) | (simp; omega))).below hb1 (by first | omega | (simp; done) | (simp; omega))
            have q0 : w1.cell? ⟨w.heap.size, 0, none⟩ = some (.int .i64 m.f.wide) := by rw [B1.cell]; rfl
            have q1 : w1.cell? ⟨w.heap.size, 1, none⟩ = some (.int .i64 m.f.high) := by rw [B1.cell]; rfl
            have q3 : w1.cell? ⟨w.heap.size, 3, none⟩ = some (.int .i64 m.f.delay) := by rw [B1.cell]; rfl
            have p0 : w1.cell? ⟨w.heap.size + 1, 0, none⟩ = some (.int .i64 m0.f.wide) := by rw [B2.cell]; rfl
            have p1 : w1.cell? ⟨w.heap.size + 1, 1, none⟩ = some (.int .i64 m0.f.high) := by rw [B2.cell]; rfl
            have hbw : Below w.heap.size w w1 := Below.trans (by go_grown) (hb1.mono (by first | omega | (simp; done) | (simp; omega)))
            have hE1 := hE.below hbw
            have hy2 := hE1.shape
            have hy1 := hE1.bound
            clear hb1 B1 B2 hE1
            go_wp2_with fail
            go_ret
            exact ⟨rfl, hbw⟩
          · have b1 : (m.f.wide != m0.f.wide) = false := by rw [bne_eq_false_iff_eq]; exact h1
            have b2 : (m.f.high != m0.f.high) = false := by rw [bne_eq_false_iff_eq]; exact h2
            have he : Gif.err0 m0.f m.f = none := by unfold Gif.err0 Gif.right; rw [if_neg (by rw [hr]; rintro (h | h | h); exact absurd h (by decide); exact h h1; exact h h2), if_neg (by rintro (h | h); exact h3 h; exact h4 h)]
            rw [he]
            have HR := Lib.hid hr
            have HPL := Lib.hid hn
            clear he hr hn h1 h2
            go_enter Tryd.func22, Tryd.ntmps22
            go_wp2_with fail
            refine (rright_any _ _ _ _ _ _).mono ?_
            rintro e w1 ⟨rfl, hb1⟩
            rw [HPL.out, HR.out]
            have B1 := ((Blk.new w 37 #[.int .i64 m.f.wide, .int .i64 m.f.high, .slice m.A m.n m.c, .int .i64 m.f.delay] rfl).alloc (.cells #[.int .i64 m0.f.wide, .int .i64 m0.f.high, .slice m0.A m0.n m0.c, .int .i64 m0.f.delay] 37)).below hb1 (by first | omega | (simp; done) | (simp; omega))
            have B2 := (Blk.new (w.alloc (.cells #[.int .i64 m.f.wide, .int .i64 m.f.high, .slice m.A m.n m.c, .int .i64 m.f.delay] 37)) 37 #[.int .i64 m0.f.wide, .int .i64 m0.f.high, .slice m0.A m0.n m0.c, .int .i64 m0.f.delay] (g := w.heap.size + 1) (by first | omega | (simp; done) | (simp; omega))).below hb1 (by first | omega | (simp; done) | (simp; omega))
            have q0 : w1.cell? ⟨w.heap.size, 0, none⟩ = some (.int .i64 m.f.wide) := by rw [B1.cell]; rfl
            have q1 : w1.cell? ⟨w.heap.size, 1, none⟩ = some (.int .i64 m.f.high) := by rw [B1.cell]; rfl
            have q3 : w1.cell? ⟨w.heap.size, 3, none⟩ = some (.int .i64 m.f.delay) := by rw [B1.cell]; rfl
            have p0 : w1.cell? ⟨w.heap.size + 1, 0, none⟩ = some (.int .i64 m0.f.wide) := by rw [B2.cell]; rfl
            have p1 : w1.cell? ⟨w.heap.size + 1, 1, none⟩ = some (.int .i64 m0.f.high) := by rw [B2.cell]; rfl
            have hbw : Below w.heap.size w w1 := Below.trans (by go_grown) (hb1.mono (by first | omega | (simp; done) | (simp; omega)))
            have hE1 := hE.below hbw
            have hy2 := hE1.shape
            have hy1 := hE1.bound
            clear hb1 B1 B2 hE1
            go_wp2_with fail
            go_ret
            exact ⟨rfl, hbw⟩
      · have b1 : (m.f.wide != m0.f.wide) = false := by rw [bne_eq_false_iff_eq]; exact h1
        have b2 : (m.f.high != m0.f.high) = true := by rw [bne_iff_ne]; exact h2
        have he : Gif.err0 m0.f m.f = some 2 := by unfold Gif.err0 Gif.right; rw [if_pos (.inr (.inr h2))]
        rw [he]
        have HR := Lib.hid hr
        have HPL := Lib.hid hn
        clear he hr hn h1 h2
        go_enter Tryd.func22, Tryd.ntmps22
        go_wp2_with fail
        refine (rright_any _ _ _ _ _ _).mono ?_
        rintro e w1 ⟨rfl, hb1⟩
        rw [HPL.out, HR.out]
        have B1 := ((Blk.new w 37 #[.int .i64 m.f.wide, .int .i64 m.f.high, .slice m.A m.n m.c, .int .i64 m.f.delay] rfl).alloc (.cells #[.int .i64 m0.f.wide, .int .i64 m0.f.high, .slice m0.A m0.n m0.c, .int .i64 m0.f.delay] 37)).below hb1 (by first | omega | (simp; done) | (simp; omega))
        have B2 := (Blk.new (w.alloc (.cells #[.int .i64 m.f.wide, .int .i64 m.f.high, .slice m.A m.n m.c, .int .i64 m.f.delay] 37)) 37 #[.int .i64 m0.f.wide, .int .i64 m0.f.high, .slice m0.A m0.n m0.c, .int .i64 m0.f.delay] (g := w.heap.size + 1) (by first | omega | (simp; done) | (simp; omega))).below hb1 (by first | omega | (simp; done) | (simp; omega))
        have q0 : w1.cell? ⟨w.heap.size, 0, none⟩ = some (.int .i64 m.f.wide) := by rw [B1.cell]; rfl
        have q1 : w1.cell? ⟨w.heap.size, 1, none⟩ = some (.int .i64 m.f.high) := by rw [B1.cell]; rfl
        have q3 : w1.cell? ⟨w.heap.size, 3, none⟩ = some (.int .i64 m.f.delay) := by rw [B1.cell]; rfl
        have p0 : w1.cell? ⟨w.heap.size + 1, 0, none⟩ = some (.int .i64 m0.f.wide) := by rw [B2.cell]; rfl
        have p1 : w1.cell? ⟨w.heap.size + 1, 1, none⟩ = some (.int .i64 m0.f.high) := by rw [B2.cell]; rfl
        have hbw : Below w.heap.size w w1 := Below.trans (by go_grown) (hb1.mono (by first | omega | (simp; done) | (simp; omega)))
        have hE1 := hE.below hbw
        have hy2 := hE1.shape
        have hy1 := hE1.bound
        clear hb1 B1 B2 hE1
        go_wp2_with fail
        go_ret
        exact ⟨rfl, hbw⟩
    · have b1 : (m.f.wide != m0.f.wide) = true := by rw [bne_iff_ne]; exact h1
      have he : Gif.err0 m0.f m.f = some 2 := by unfold Gif.err0 Gif.right; rw [if_pos (.inr (.inl h1))]
      rw [he]
      have HR := Lib.hid hr
      have HPL := Lib.hid hn
      clear he hr hn h1
      go_enter Tryd.func22, Tryd.ntmps22
      go_wp2_with fail
      refine (rright_any _ _ _ _ _ _).mono ?_
      rintro e w1 ⟨rfl, hb1⟩
      rw [HPL.out, HR.out]
      have B1 := ((Blk.new w 37 #[.int .i64 m.f.wide, .int .i64 m.f.high, .slice m.A m.n m.c, .int .i64 m.f.delay] rfl).alloc (.cells #[.int .i64 m0.f.wide, .int .i64 m0.f.high, .slice m0.A m0.n m0.c, .int .i64 m0.f.delay] 37)).below hb1 (by first | omega | (simp; done) | (simp; omega))
      have B2 := (Blk.new (w.alloc (.cells #[.int .i64 m.f.wide, .int .i64 m.f.high, .slice m.A m.n m.c, .int .i64 m.f.delay] 37)) 37 #[.int .i64 m0.f.wide, .int .i64 m0.f.high, .slice m0.A m0.n m0.c, .int .i64 m0.f.delay] (g := w.heap.size + 1) (by first | omega | (simp; done) | (simp; omega))).below hb1 (by first | omega | (simp; done) | (simp; omega))
      have q0 : w1.cell? ⟨w.heap.size, 0, none⟩ = some (.int .i64 m.f.wide) := by rw [B1.cell]; rfl
      have q1 : w1.cell? ⟨w.heap.size, 1, none⟩ = some (.int .i64 m.f.high) := by rw [B1.cell]; rfl
      have q3 : w1.cell? ⟨w.heap.size, 3, none⟩ = some (.int .i64 m.f.delay) := by rw [B1.cell]; rfl
      have p0 : w1.cell? ⟨w.heap.size + 1, 0, none⟩ = some (.int .i64 m0.f.wide) := by rw [B2.cell]; rfl
      have p1 : w1.cell? ⟨w.heap.size + 1, 1, none⟩ = some (.int .i64 m0.f.high) := by rw [B2.cell]; rfl
      have hbw : Below w.heap.size w w1 := Below.trans (by go_grown) (hb1.mono (by first | omega | (simp; done) | (simp; omega)))
      have hE1 := hE.below hbw
      have hy2 := hE1.shape
      have hy1 := hE1.bound
      clear hb1 B1 B2 hE1
      go_wp2_with fail
      go_ret
      exact ⟨rfl, hbw⟩
end Go.Proofs.YtncedhhgclofbaaDoor
