/- Small functions on pictures: the walks. -/
import Derived.Test.YtcdbhcjiimdhhaaDoorProg
import Derived.Test.YtcdbhcjiimdhhaaDoorMem2
import Derived.WalkSpells
import Derived.WalkLawsBesides
import Derived.Handy
import Derived.Lib.Hide
namespace Go.Proofs.YtcdbhcjiimdhhaaDoor
open Go Go.RowKit

def sideB (n : Int) : Bool := decide (1 ≤ n) && decide (n ≤ 256)
def rightB (W H : Int) (n : Nat) : Bool := sideB W && sideB H && ((n : Int) == W * H)
theorem sideB_true {n : Int} (h : sideB n = true) : 1 ≤ n ∧ n ≤ 256 := by simpa [sideB] using h
theorem mul_side {W H : Int} (hW : sideB W = true) (hH : sideB H = true) : 1 ≤ W * H ∧ W * H ≤ 65536 := by
  obtain ⟨a, b⟩ := sideB_true hW
  obtain ⟨c, d⟩ := sideB_true hH
  have h1 : 1 * 1 ≤ W * H := Int.mul_le_mul a c (by omega) (by omega)
  have h2 : W * H ≤ 256 * 256 := Int.mul_le_mul b d (by omega) (by omega)
  omega
theorem rightB_true {W H : Int} {n : Nat} (h : rightB W H n = true) : (1 ≤ W ∧ W ≤ 256) ∧ (1 ≤ H ∧ H ≤ 256) ∧ (n : Int) = W * H ∧ n ≤ 65536 := by
  simp only [rightB, Bool.and_eq_true, beq_iff_eq] at h
  obtain ⟨⟨h1, h2⟩, h3⟩ := h
  have := mul_side h1 h2
  exact ⟨sideB_true h1, sideB_true h2, h3, by omega⟩

theorem rside_any (n : Int) (w : World) : Calls Tryd.prog 43 #[.int .i64 n] w fun e w' => e = .returned (.bool (sideB n)) ∧ w = w' := by
  go_enter Tryd.func43, Tryd.ntmps43
  go_wp2
  all_goals go_ret
  all_goals exact ⟨by first | (simp [sideB, *]; done) | (simp [sideB, *]; omega), rfl⟩
theorem pside_any (n : Int) (w : World) : Calls Tryd.prog 31 #[.int .i64 n] w fun e w' => e = .returned (.bool (sideB n)) ∧ w = w' := by
  go_enter Tryd.func31, Tryd.ntmps31
  go_wp2
  all_goals go_ret
  all_goals exact ⟨by first | (simp [sideB, *]; done) | (simp [sideB, *]; omega), rfl⟩

theorem rright_any (W H : Int) (A : Option Addr) (n c : Nat) (w : World) :
    Calls Tryd.prog 28 #[.agg #[.int .i64 W, .int .i64 H, .slice A n c]] w fun e w' => e = .returned (.bool (rightB W H n)) ∧ Below w.heap.size w w' := by
  cases hW : sideB W with
  | false =>
    have hr : rightB W H n = false := by simp [rightB, hW]
    go_enter Tryd.func28, Tryd.ntmps28
    go_wp2_with (go_at_call 43; refine (rside_any _ _).mono ?_; rintro e w' ⟨rfl, rfl⟩)
    go_ret
    exact ⟨by rw [hr]; rfl, by go_grown⟩
  | true =>
    cases hH : sideB H with
    | false =>
      have hr : rightB W H n = false := by simp [rightB, hW, hH]
      go_enter Tryd.func28, Tryd.ntmps28
      go_wp2_with (go_at_call 43; refine (rside_any _ _).mono ?_; rintro e w' ⟨rfl, rfl⟩)
      go_ret
      exact ⟨by rw [hr]; rfl, by go_grown⟩
    | true =>
      have hm := mul_side hW hH
      have hr := Lib.hid (show rightB W H n = ((n : Int) == W * H) by simp [rightB, hW, hH])
      go_enter Tryd.func28, Tryd.ntmps28
      go_wp2_with (go_at_call 43; refine (rside_any _ _).mono ?_; rintro e w' ⟨rfl, rfl⟩)
      go_ret
      exact ⟨by rw [hr.out]; rfl, by go_grown⟩
theorem pright_any (W H : Int) (A : Option Addr) (n c : Nat) (w : World) :
    Calls Tryd.prog 9 #[.agg #[.int .i64 W, .int .i64 H, .slice A n c]] w fun e w' => e = .returned (.bool (rightB W H n)) ∧ Below w.heap.size w w' := by
  cases hW : sideB W with
  | false =>
    have hr : rightB W H n = false := by simp [rightB, hW]
    go_enter Tryd.func9, Tryd.ntmps9
    go_wp2_with (go_at_call 31; refine (pside_any _ _).mono ?_; rintro e w' ⟨rfl, rfl⟩)
    go_ret
    exact ⟨by rw [hr]; rfl, by go_grown⟩
  | true =>
    cases hH : sideB H with
    | false =>
      have hr : rightB W H n = false := by simp [rightB, hW, hH]
      go_enter Tryd.func9, Tryd.ntmps9
      go_wp2_with (go_at_call 31; refine (pside_any _ _).mono ?_; rintro e w' ⟨rfl, rfl⟩)
      go_ret
      exact ⟨by rw [hr]; rfl, by go_grown⟩
    | true =>
      have hm := mul_side hW hH
      have hr := Lib.hid (show rightB W H n = ((n : Int) == W * H) by simp [rightB, hW, hH])
      go_enter Tryd.func9, Tryd.ntmps9
      go_wp2_with (go_at_call 31; refine (pside_any _ _).mono ?_; rintro e w' ⟨rfl, rfl⟩)
      go_ret
      exact ⟨by rw [hr.out]; rfl, by go_grown⟩

theorem small_any (W H : Int) (A : Option Addr) (n c : Nat) (w : World) :
    Calls Tryd.prog 6 #[.agg #[.int .i64 W, .int .i64 H, .slice A n c]] w fun e w' => e = .returned (.bool (decide (n ≤ 3000))) ∧ Below w.heap.size w w' := by
  go_enter Tryd.func6, Tryd.ntmps6
  go_wp2
  all_goals go_ret
  all_goals exact ⟨by first | rfl | (simp; omega), by go_grown⟩

theorem pxInfo : (Tryd.prog.info? 41).map (fun i => (i.zero, i.size, i.bytes)) = some (some (.agg #[.int .u8 0, .int .u8 0, .int .u8 0, .int .u8 0]), 4, 4) := by kernel_rfl

set_option maxRecDepth 100000 in
theorem own_any (W H : Int) (A : Option Addr) (n c : Nat) (l : List Px) (w : World) (h : Reads w w.heap.size 4 A n (pxCells l)) (hn : n ≤ 1048576) :
    Calls Tryd.prog 8 #[.agg #[.int .i64 W, .int .i64 H, .slice A n c]] w fun e w' => ∃ A' c', e = .returned (.agg #[.int .i64 W, .int .i64 H, .slice A' n c']) ∧ Own w' w.heap.size 4 (.slice A' n c') n (pxCells l) ∧ Below w.heap.size w w' := by
  obtain ⟨i0, hi, hz0, hz1, hz2⟩ := info_parts pxInfo
  go_enter Tryd.func8, Tryd.ntmps8
  go_wp2_with (at_builtin; refine wpList_append_S rfl (.tmp 10) (.tmp 12) 22 22 rfl (w.heap.size) 41 i0 _ 4 4 Tryd.underlying22 hi hz0 hz1 hz2 rfl (by decide) (.slice none 0 0) (0) (pxCells ([])) rfl (Own.nil _ _ _) (pxCells_one _) (n) (pxCells l) (Reads.src Tryd.underlying22 (((h.alloc (by first | omega | (simp; done) | (simp; omega)) _).alloc (by first | omega | (simp; done) | (simp; omega)) _).alloc (by first | omega | (simp; done) | (simp; omega)) _) (by decide) (pxCells_one _) _) (n) (by omega) (pxCells (l)) (rfl) (by unfold maxLen; omega) (by omega) (by first | omega | (simp; done) | (simp; omega)) ?_; intro A' c' w1 hown1 hg1 hat1; have B1 : Blk w1 (w.heap.size + 1) 24 _ := Blk.grown (((Blk.new _ _ _ (by first | omega | (simp; done) | (simp; omega))).alloc _)) hg1 (by simp [Value.ownBlock]); have B2 : Blk w1 (w.heap.size + 1 + 1) 24 _ := Blk.grown (Blk.new _ _ _ (by first | omega | (simp; done) | (simp; omega))) hg1 (by simp [Value.ownBlock]); have c1 := B1.cell; have c2 := B2.cell; have f1 := B1.free; have f2 := B2.free; have hs1 := hg1.size)
  have hob : ∀ g, (Value.slice A' n c').ownBlock = some g → w.heap.size + 3 ≤ g := by
    intro g hg
    rcases hat1 with e | e <;> rw [e] at hg
    · simp [Value.ownBlock] at hg
    · simp at hg; omega
  have hb1 : Below w.heap.size w w1 := Below.grown (by go_grown) hg1 (by first | omega | (simp; done) | (simp; omega)) (fun g hg => by simp [Value.ownBlock] at hg)
  refine bodyPost_ret (v := .agg #[.int .i64 W, .int .i64 H, .slice A' n c']) (by simp [results, Tryd.results8, go_sem, c1]) rfl ⟨A', c', rfl, ?_, ?_⟩
  · exact (((hown1.setCell (fun e => by have h9 : w.heap.size + 3 ≤ w.heap.size + 1 + 1 := hob _ e; omega) _).setCell (fun e => by have h9 : w.heap.size + 3 ≤ w.heap.size + 1 := hob _ e; omega) _).setCell (fun e => by have h9 : w.heap.size + 3 ≤ w.heap.size + 1 := hob _ e; omega) _).setCell (fun e => by have h9 : w.heap.size + 3 ≤ w.heap.size + 1 := hob _ e; omega) _
  · exact (((hb1.setCell (by first | omega | (simp; done) | (simp; omega)) _).setCell (by first | omega | (simp; done) | (simp; omega)) _).setCell (by first | omega | (simp; done) | (simp; omega)) _).setCell (by first | omega | (simp; done) | (simp; omega)) _
end Go.Proofs.YtcdbhcjiimdhhaaDoor
