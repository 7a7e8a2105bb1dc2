/- past.Past[int].swap: the walk. -/
import Derived.Test.YtnciahoifehkdaaDoorKeeps
import Derived.Test.YtnciahoifehkdaaDoorColMapped
import Derived.Deep.RegionHeld3
import Derived.BigRegion
import Derived.Deep.RegionLaw
import Derived.Deep.AppendLies
namespace Go.Proofs.YtnciahoifehkdaaDoor
open Go Go.RowKit

set_option maxRecDepth 100000 in
theorem swap_no (gp i j : Nat) (cs : Array Value) (vF : Value) (B : Nat) (w : World) (hb : Blk w gp 157 cs) (hi : cs[i]? = some vF) (hF : Own w B 1 vF 0 []) :
    Calls Tryd.prog 100 #[.pointer (some ⟨gp, 0, none⟩), .pointer (some ⟨gp, i, none⟩), .pointer (some ⟨gp, j, none⟩)] w fun e w' => e = .returned (.bool false) ∧ w' = w := by
  obtain ⟨A, c, rfl, hc, _⟩ := hF.form
  have d0 : w.cell? ⟨gp, i, none⟩ = some (.slice A 0 c) := by rw [hb.cell]; exact hi
  go_enter Tryd.func100, Tryd.ntmps100
  go_wp2_with fail
  go_ret
  exact ⟨rfl, rfl⟩

set_option maxRecDepth 100000 in
set_option maxHeartbeats 2000000 in
theorem swap_yes (gp i j : Nat) (cs : Array Value) (vF vT : Value) (now x : Int) (fs ts : List Int) (n m B : Nat) (w : World) (hb : Blk w gp 157 cs) (h0 : cs[0]? = some (.int .i64 now)) (hi : cs[i]? = some vF) (hj : cs[j]? = some vT)
    (hij : i ≠ j) (hi0 : i ≠ 0) (hj0 : j ≠ 0) (hF : Own w B 1 vF (n + 1) (ints (fs ++ [x]))) (hT : Own w B 1 vT m (ints ts)) (sF : vF.ownBlock ≠ some gp) (sT : vT.ownBlock ≠ some gp) (ne : ∀ g, vF.ownBlock = some g → vT.ownBlock ≠ some g)
    (hn : n ≤ 1048576) (hm : m ≤ 1048576) (hB : B ≤ w.heap.size) :
    Calls Tryd.prog 100 #[.pointer (some ⟨gp, 0, none⟩), .pointer (some ⟨gp, i, none⟩), .pointer (some ⟨gp, j, none⟩)] w
      fun e w' => e = .returned (.bool true) ∧ ∃ vF' vT', Blk w' gp 157 (((cs.setIfInBounds j vT').setIfInBounds 0 (.int .i64 x)).setIfInBounds i vF') ∧
        Own w' B 1 vF' n (ints fs) ∧ Own w' B 1 vT' (m + 1) (ints (ts ++ [now])) ∧ Fresh w vF vF' ∧ Fresh w vT vT' ∧ vF'.ownBlock ≠ some gp ∧ vT'.ownBlock ≠ some gp ∧ (∀ g, vF'.ownBlock = some g → vT'.ownBlock ≠ some g) ∧
        Keeps (fun g => g = gp ∨ vT.ownBlock = some g) w w' := by
  obtain ⟨i0, hi', hz0, hz1, hz2⟩ := info_parts intInfo
  obtain ⟨AF, cF, rfl, hcF, hrF⟩ := hF.form
  obtain ⟨AT, cT, rfl, hcT, hrT⟩ := hT.form
  obtain ⟨gF, oF, rfl, hgF1, hgF2⟩ := hF.addr (by omega)
  have hlF : (fs ++ [x]).length = n + 1 := by have := hF.1; rw [ints_length] at this; omega
  have hnl : fs.length = n := by simpa using hlF
  have d0 : w.cell? ⟨gp, i, none⟩ = some (.slice (some ⟨gF, oF, none⟩) (n + 1) cF) := by rw [hb.cell]; exact hi
  have d1 : w.cell? ⟨gp, j, none⟩ = some (.slice AT m cT) := by rw [hb.cell]; exact hj
  have d2 : w.cell? ⟨gp, 0, none⟩ = some (.int .i64 now) := by rw [hb.cell]; exact h0
  have dl := hb.lt
  go_enter Tryd.func100, Tryd.ntmps100
  go_wp2_with fail
  have f1 := hb.free j
  have fnew : ∀ o, (w.alloc o).drew.frozen? ⟨gp, j, none⟩ = false := fun o => free_past (w := w) o dl f1
  have nT : some gp ≠ (Value.slice AT m cT).ownBlock := fun e => sT e.symm
  go_region_law
    ((refine step_append_Own _ rfl (.tmp 17) (.tmp 22) 63 63 rfl B 3 i0 (.int .i64 0) 1 8 Tryd.underlying63 hi' hz0 hz1 hz2 rfl (by decide) (.slice AT m cT) m (ints ts) rfl ((hT.alloc _).drew) (ints_one _) 1 [.int .i64 now] (Src.blk Tryd.underlying63 ((Blk.new _ _ _ rfl).drew) rfl (by intro u hu; cases List.mem_singleton.1 hu; rfl)) (by unfold maxLen; omega) (by omega) (by simp; omega) ?_; intro vT' wT hownT hgT hatT; obtain ⟨Ap, cp, rfl, hcp, _⟩ := hownT.form; have d5 : wT.cell? ⟨gp, j, none⟩ = some (.slice AT m cT) := (hgT.cell_far ⟨gp, j, none⟩ (by simp; omega) nT).trans ((World.cell?_alloc_lt w _ ⟨gp, j, none⟩ dl).trans d1); have f5 : wT.frozen? ⟨gp, j, none⟩ = false := (hgT.frozen_far ⟨gp, j, none⟩ (by simp; omega) nT).trans (fnew _)))
  all_goals
    have BT : Blk wT gp 157 cs := ((hb.alloc _).drew).grown hgT nT
    have B5 := BT.set_ j (.slice Ap (m + 1) cp)
    have nF : (Value.slice (some ⟨gF, oF, none⟩) (n + 1) cF).ownBlock = none ∨ (Value.slice (some ⟨gF, oF, none⟩) (n + 1) cF).ownBlock ≠ (Value.slice AT m cT).ownBlock := .inr (fun e => ne gF rfl e.symm)
    have gne : gF ≠ gp := fun e => sF (by rw [e]; rfl)
    have gne' : gp ≠ gF := fun e => gne e.symm
    have F5 := ((((hF.alloc (.cells #[.int .i64 now] 3)).drew).kept hgT nF).setCell (p := ⟨gp, j, none⟩) sF (.slice Ap (m + 1) cp))
    have T5 := hownT.setCell (p := ⟨gp, j, none⟩) (by
      intro e
      rcases hatT with e2 | e2 <;> rw [e2] at e
      · exact sT e
      · have e3 : w.heap.size + 1 = gp := by simpa using e
        omega) (.slice Ap (m + 1) cp)
    have K5 : Keeps (fun g => g = gp ∨ (Value.slice AT m cT).ownBlock = some g) w (wT.setCell ⟨gp, j, none⟩ (.slice Ap (m + 1) cp)) :=
      Keeps.setCell (Keeps.grown (Keeps.drew ((Keeps.refl _ w).alloc (.cells #[.int .i64 now] 3))) hgT (fun g hg _ => .inr hg)) (fun _ => .inl rfl) _
    have fr5 : Fresh w (.slice AT m cT) (.slice Ap (m + 1) cp) := fun g hg => by
      rcases hatT with e | e <;> rw [e] at hg
      · exact .inl hg
      · have : w.heap.size + 1 = g := by simpa using hg
        exact .inr (by omega)
    have aT5 : (Value.slice Ap (m + 1) cp).ownBlock ≠ some gp := by
      intro e
      rcases fr5 gp e with h | h
      · exact sT h
      · omega
    have nT5 : ∀ g, (Value.slice (some ⟨gF, oF, none⟩) n cF).ownBlock = some g → (Value.slice Ap (m + 1) cp).ownBlock ≠ some g := by
      intro g hg e
      have hg' : gF = g := by simpa [Value.ownBlock] using hg
      subst hg'
      rcases fr5 gF e with h | h
      · exact ne gF rfl h
      · omega
    generalize wT.setCell ⟨gp, j, none⟩ (.slice Ap (m + 1) cp) = w5 at *
    have e_i : w5.cell? ⟨gp, i, none⟩ = some (.slice (some ⟨gF, oF, none⟩) (n + 1) cF) := by
      rw [B5.cell, Array.getElem?_setIfInBounds_ne (fun e => hij e.symm)]; exact hi
    have e_0 : w5.cell? ⟨gp, 0, none⟩ = some (.int .i64 now) := by
      rw [B5.cell, Array.getElem?_setIfInBounds_ne hj0]; exact h0
    have f_i := B5.free i
    have f_0 := B5.free 0
    have e_x : w5.cell? ⟨gF, oF + n, none⟩ = some (.int .i64 x) := by
      rw [F5.reads.2.cell rfl n (by omega), ints_at _ n (by omega)]
      simp [hnl]
    have B7 := (B5.set_ 0 (.int .i64 x)).set_ i (.slice (some ⟨gF, oF, none⟩) n cF)
    have F7 := ((F5.setCell (p := ⟨gp, 0, none⟩) sF (.int .i64 x)).setCell (p := ⟨gp, i, none⟩) sF (.slice (some ⟨gF, oF, none⟩) n cF)).take (k := n) (by omega)
    have T7 := (T5.setCell (p := ⟨gp, 0, none⟩) aT5 (.int .i64 x)).setCell (p := ⟨gp, i, none⟩) aT5 (.slice (some ⟨gF, oF, none⟩) n cF)
    have K7 := (K5.setCell (p := ⟨gp, 0, none⟩) (fun _ => .inl rfl) (.int .i64 x)).setCell (p := ⟨gp, i, none⟩) (fun _ => .inl rfl) (.slice (some ⟨gF, oF, none⟩) n cF)
    have HB7 := Lib.hid B7
    have HF7 := Lib.hid F7
    have HT7 := Lib.hid T7
    have HK7 := Lib.hid K7
    have Hfr := Lib.hid fr5
    have HnT := Lib.hid nT5
    have HaT := Lib.hid aT5
    clear B5 F5 T5 K5 B7 F7 T7 K7 fr5 nT5 aT5 BT hownT hgT hatT d0 d1 d2 f1 fnew
    go_wp2_with fail
    go_ret
    refine ⟨rfl, _, _, HB7.out, ?_, ?_, ?_, Hfr.out, ?_, HaT.out, HnT.out, HK7.out⟩
    · have := HF7.out
      rw [show (ints (fs ++ [x])).take (n * 1) = ints fs by simp [ints, hnl]] at this
      exact this
    · rw [← ints_snoc]; exact HT7.out
    · exact fun g hg => .inl hg
    · exact sF
end Go.Proofs.YtnciahoifehkdaaDoor
