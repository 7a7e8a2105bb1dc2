/- past.Past[int].Do: the walk. -/
import Derived.Test.YtnciahoifehkdaaDoorPast
import Derived.WalkLawsBesides
namespace Go.Proofs.YtnciahoifehkdaaDoor
open Go Go.RowKit

/-- What is kept behind after a step. -/
def pushed (most : Int) (back : List Int) (now : Int) : List Int := if (back.length : Int) < most then back ++ [now] else (back ++ [now]).drop 1
set_option maxRecDepth 100000 in
set_option maxHeartbeats 2000000 in
theorem do_any (B gp : Nat) (now most x : Int) (vb vf : Value) (back forth : List Int) (w : World) (hP : Pst w B gp now most vb back vf forth) (hl : (back.length : Int) ≤ most) (h20 : most ≤ 20) (hB : B ≤ w.heap.size) :
    Calls Tryd.prog 34 #[.pointer (some ⟨gp, 0, none⟩), .int .i64 x] w fun e w' => e = .returned (.tuple #[]) ∧ ∃ vb', Pst w' B gp x most vb' (pushed most back now) (.slice none 0 0) [] ∧ Fresh w vb vb' ∧
      Keeps (fun g => g = gp ∨ vb.ownBlock = some g) w w' := by
  obtain ⟨i0, hi', hz0, hz1, hz2⟩ := info_parts intInfo
  obtain ⟨hb, hlow, hT, hF, sT, sF, ne⟩ := hP
  obtain ⟨AT, cT, rfl, hcT, hrT⟩ := hT.form
  have d1 : w.cell? ⟨gp, 2, none⟩ = some (.slice AT back.length cT) := by rw [hb.cell]; rfl
  have d2 : w.cell? ⟨gp, 0, none⟩ = some (.int .i64 now) := by rw [hb.cell]; rfl
  have d3 : w.cell? ⟨gp, 3, none⟩ = some vf := by rw [hb.cell]; rfl
  have dl := hb.lt
  have f1 := hb.free 2
  have f3 := hb.free 3
  have fnew : ∀ o k, w.frozen? ⟨gp, k, none⟩ = false → (w.alloc o).drew.frozen? ⟨gp, k, none⟩ = false := fun o k h => free_past (w := w) o dl h
  have nT : some gp ≠ (Value.slice AT back.length cT).ownBlock := fun e => sT e.symm
  go_enter Tryd.func34, Tryd.ntmps34
  go_wp2_with fail
  go_region_law
    ((refine step_append_Own _ rfl (.tmp 10) (.tmp 15) 63 63 rfl B 3 i0 (.int .i64 0) 1 8 Tryd.underlying63 hi' hz0 hz1 hz2 rfl (by decide) (.slice AT back.length cT) back.length (ints back) rfl ((hT.alloc _).drew) (ints_one _) 1 [.int .i64 now] (Src.blk Tryd.underlying63 ((Blk.new _ _ _ rfl).drew) rfl (by intro u hu; cases List.mem_singleton.1 hu; rfl)) (by unfold maxLen; omega) (by omega) (by simp; omega) ?_; intro vT' wT hownT hgT hatT; obtain ⟨Ap, cp, rfl, hcp, _⟩ := hownT.form; have d5 : wT.cell? ⟨gp, 2, none⟩ = some (.slice AT back.length cT) := (hgT.cell_far ⟨gp, 2, none⟩ (by simp; omega) nT).trans ((World.cell?_alloc_lt w _ ⟨gp, 2, none⟩ dl).trans d1); have f5 : wT.frozen? ⟨gp, 2, none⟩ = false := (hgT.frozen_far ⟨gp, 2, none⟩ (by simp; omega) nT).trans (fnew _ 2 f1); have d6 : wT.cell? ⟨gp, 3, none⟩ = some vf := (hgT.cell_far ⟨gp, 3, none⟩ (by simp; omega) nT).trans ((World.cell?_alloc_lt w _ ⟨gp, 3, none⟩ dl).trans d3); have f6 : wT.frozen? ⟨gp, 3, none⟩ = false := (hgT.frozen_far ⟨gp, 3, none⟩ (by simp; omega) nT).trans (fnew _ 3 f3)))
  all_goals
    have BT : Blk wT gp 157 #[.int .i64 now, .int .i64 most, .slice AT back.length cT, vf] := ((hb.alloc _).drew).grown hgT nT
    have B5 := (BT.set_ 2 (.slice Ap (back.length + 1) cp)).set_ 3 (.slice none 0 0)
    have fr5 : Fresh w (.slice AT back.length cT) (.slice Ap (back.length + 1) cp) := fun g hg => by
      rcases hatT with e | e <;> rw [e] at hg
      · exact .inl hg
      · have : w.heap.size + 1 = g := by simpa using hg
        exact .inr (by omega)
    have aT5 : (Value.slice Ap (back.length + 1) cp).ownBlock ≠ some gp := by
      intro e
      rcases fr5 gp e with h | h
      · exact sT h
      · omega
    have T5 := (hownT.setCell (p := ⟨gp, 2, none⟩) aT5 (.slice Ap (back.length + 1) cp)).setCell (p := ⟨gp, 3, none⟩) aT5 (.slice none 0 0)
    have K5 : Keeps (fun g => g = gp ∨ (Value.slice AT back.length cT).ownBlock = some g) w ((wT.setCell ⟨gp, 2, none⟩ (.slice Ap (back.length + 1) cp)).setCell ⟨gp, 3, none⟩ (.slice none 0 0)) :=
      Keeps.setCell (Keeps.setCell (Keeps.grown (Keeps.drew ((Keeps.refl _ w).alloc (.cells #[.int .i64 now] 3))) hgT (fun g hg _ => .inr hg)) (fun _ => .inl rfl) _) (fun _ => .inl rfl) _
    generalize (wT.setCell ⟨gp, 2, none⟩ (.slice Ap (back.length + 1) cp)).setCell ⟨gp, 3, none⟩ (.slice none 0 0) = w5 at *
    have e_2 : w5.cell? ⟨gp, 2, none⟩ = some (.slice Ap (back.length + 1) cp) := by rw [B5.cell]; rfl
    have e_1 : w5.cell? ⟨gp, 1, none⟩ = some (.int .i64 most) := by rw [B5.cell]; rfl
    have e_0 : w5.cell? ⟨gp, 0, none⟩ = some (.int .i64 now) := by rw [B5.cell]; rfl
    have f_2 := B5.free 2
    have f_0 := B5.free 0
    clear d1 d2 d3 f1 f3 d5 d6 f5 f6 fnew hgT hatT hownT BT
    have h5l := K5.size
    have b5l := B5.lt
    have T5r := T5.reads.2
    have HB5 := Lib.hid B5
    have HK5 := Lib.hid K5
    have Hfr := Lib.hid fr5
    have HaT := Lib.hid aT5
    clear B5 K5 fr5 aT5
    by_cases hlt : (back.length : Int) < most
    · have hp : pushed most back now = back ++ [now] := by rw [pushed, if_pos hlt]
      have HP := Lib.hid hp
      clear hp
      go_wp2_with fail
      go_quiet (fail)
      go_wp2_with fail
      go_end0
      refine ⟨rfl, .slice Ap (back.length + 1) cp, ⟨((HB5.out.drewN _).set_ 0 (.int .i64 x)), hlow, ?_, Own.nil _ _ _, HaT.out, by simp [Value.ownBlock], fun g _ h => by simp [Value.ownBlock] at h⟩, Hfr.out, (HK5.out.drewN _).setCell (fun _ => .inl rfl) _⟩
      rw [HP.out, List.length_append, ← ints_snoc]
      exact (T5.drewN _).setCell HaT.out _
    · obtain rfl : most = (back.length : Int) := by omega
      have hp : pushed (back.length : Int) back now = (back ++ [now]).drop 1 := by rw [pushed, if_neg (by omega)]
      have HP := Lib.hid hp
      clear hp
      have hone : IntKind.i64.wrap ((back.length : Int) + 1 - back.length) = 1 := by rw [show (back.length : Int) + 1 - back.length = 1 by omega]; rfl
      have hone2 : (back.length : Int) + 1 - back.length = 1 := by omega
      obtain ⟨gA, oA, rfl, hgA1, hgA2⟩ := T5.addr (by omega)
      have hdl : ((back ++ [now]).drop 1).length = back.length := by simp
      by_cases hc : cp = 1
      · subst hc
        have h0 : back.length = 0 := by omega
        have hn : back = [] := List.eq_nil_of_length_eq_zero h0
        subst hn
        have HD : Hid (Own w5 B 1 (.slice (some ⟨gA, oA, none⟩) 0 0) 0 []) := by
          have := T5.drop (k := 1) (by omega)
          rw [if_pos rfl] at this
          exact this
        go_wp2_with fail
        go_quiet (fail)
        go_wp2_with (at_builtin; refine wpList_append_S rfl (.const (.slice none 0 0)) (.tmp 39) 63 63 rfl w5.heap.size 3 i0 (.int .i64 0) 1 8 Tryd.underlying63 hi' hz0 hz1 hz2 rfl (by decide) (.slice none 0 0) 0 [] rfl (Own.nil _ _ _) (by intro u hu; cases hu) 0 [] ((HD.out.reads.2.drewN _).src Tryd.underlying63 (by decide) (by intro u hu; cases hu) _) 0 rfl [] rfl (by unfold maxLen; omega) (by omega) (Nat.le_refl _) ?_; intro A' c' w4 hown4 hg4 hat4; have g2 := (hg4.cell_far ⟨gp, 2, none⟩ b5l (by simp [Value.ownBlock])).trans e_2; have g0 := (hg4.cell_far ⟨gp, 0, none⟩ b5l (by simp [Value.ownBlock])).trans e_0; have q2 := (hg4.frozen_far ⟨gp, 2, none⟩ b5l (by simp [Value.ownBlock])).trans f_2; have q0 := (hg4.frozen_far ⟨gp, 0, none⟩ b5l (by simp [Value.ownBlock])).trans f_0)
        go_end0
        have sb' : (Value.slice A' 0 c').ownBlock ≠ some gp := by
          intro e
          rcases hat4 with h | h <;> rw [h] at e
          · simp [Value.ownBlock] at e
          · have : w5.heap.size = gp := by simpa using e
            omega
        refine ⟨rfl, .slice A' 0 c', ⟨((((HB5.out.drewN _).grown hg4 (by simp [Value.ownBlock])).set_ 2 _).set_ 0 _), hlow, ?_, Own.nil _ _ _, sb', by simp [Value.ownBlock], fun g _ h => by simp [Value.ownBlock] at h⟩, fun g hg => ?_,
          (((HK5.out.drewN _).grown hg4 (fun g hg _ => by simp [Value.ownBlock] at hg)).setCell (fun _ => .inl rfl) _).setCell (fun _ => .inl rfl) _⟩
        · rw [HP.out]
          exact ((hown4.mono (by omega)).setCell sb' _).setCell sb' _
        · rcases hat4 with h | h <;> rw [h] at hg
          · simp [Value.ownBlock] at hg
          · have : w5.heap.size = g := by simpa using hg
            exact .inr (by omega)
      · have HD : Hid (Own w5 B 1 (.slice (some ⟨gA, oA + 1, none⟩) back.length (cp - 1)) back.length (ints ((back ++ [now]).drop 1))) := by
          have := T5.drop (k := 1) (by omega)
          rw [if_neg hc, Nat.add_sub_cancel, ints_snoc] at this
          have e : (ints (back ++ [now])).drop (1 * 1) = ints ((back ++ [now]).drop 1) := by simp [ints]
          rw [e] at this
          have e2 : (some (⟨gA, oA, none⟩ : Addr)).map (·.add (1 * 1)) = some ⟨gA, oA + 1, none⟩ := by simp [add_lit]
          rw [e2] at this
          exact this
        go_wp2_with fail
        go_quiet (fail)
        go_wp2_with (at_builtin; refine wpList_append_S rfl (.const (.slice none 0 0)) (.tmp 39) 63 63 rfl w5.heap.size 3 i0 (.int .i64 0) 1 8 Tryd.underlying63 hi' hz0 hz1 hz2 rfl (by decide) (.slice none 0 0) 0 [] rfl (Own.nil _ _ _) (by intro u hu; cases hu) back.length (ints ((back ++ [now]).drop 1)) ((HD.out.reads.2.drewN _).src Tryd.underlying63 (by decide) (ints_one _) _) back.length (by omega) (ints ((back ++ [now]).drop 1)) rfl (by unfold maxLen; omega) (by omega) (Nat.le_refl _) ?_; intro A' c' w4 hown4 hg4 hat4; have g2 := (hg4.cell_far ⟨gp, 2, none⟩ b5l (by simp [Value.ownBlock])).trans e_2; have g0 := (hg4.cell_far ⟨gp, 0, none⟩ b5l (by simp [Value.ownBlock])).trans e_0; have q2 := (hg4.frozen_far ⟨gp, 2, none⟩ b5l (by simp [Value.ownBlock])).trans f_2; have q0 := (hg4.frozen_far ⟨gp, 0, none⟩ b5l (by simp [Value.ownBlock])).trans f_0)
        go_end0
        have sb' : (Value.slice A' back.length c').ownBlock ≠ some gp := by
          intro e
          rcases hat4 with h | h <;> rw [h] at e
          · simp [Value.ownBlock] at e
          · have : w5.heap.size = gp := by simpa using e
            omega
        refine ⟨rfl, .slice A' back.length c', ⟨((((HB5.out.drewN _).grown hg4 (by simp [Value.ownBlock])).set_ 2 _).set_ 0 _), hlow, ?_, Own.nil _ _ _, sb', by simp [Value.ownBlock], fun g _ h => by simp [Value.ownBlock] at h⟩, fun g hg => ?_,
          (((HK5.out.drewN _).grown hg4 (fun g hg _ => by simp [Value.ownBlock] at hg)).setCell (fun _ => .inl rfl) _).setCell (fun _ => .inl rfl) _⟩
        · rw [HP.out, hdl]
          exact ((hown4.mono (by omega)).setCell sb' _).setCell sb' _
        · rcases hat4 with h | h <;> rw [h] at hg
          · simp [Value.ownBlock] at hg
          · have : w5.heap.size = g := by simpa using hg
            exact .inr (by omega)
end Go.Proofs.YtnciahoifehkdaaDoor
