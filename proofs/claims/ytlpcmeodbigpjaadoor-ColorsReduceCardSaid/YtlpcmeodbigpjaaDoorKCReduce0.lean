/- MostUsed, StableThere, LReduce: put together. -/
import Derived.Test.YtlpcmeodbigpjaaDoorCountOf
import Derived.Test.YtlpcmeodbigpjaaDoorReduceLaw
import Derived.Test.YtlpcmeodbigpjaaDoorSwapRange
import Derived.Deep.RegionHeld3
import Derived.Test.YtlpcmeodbigpjaaDoorStableLaw
import Derived.Test.YtlpcmeodbigpjaaDoorRefBase
import Derived.Test.YtlpcmeodbigpjaaDoorBetterOf
import Derived.Test.YtlpcmeodbigpjaaDoorReduceB
import Derived.Test.YtlpcmeodbigpjaaDoorCoded
import Derived.Test.YtlpcmeodbigpjaaDoorGrey
/- layercakeref3.MostUsed: the walk. Printed by mkmost.py. -/
namespace Go.Proofs.YtlpcmeodbigpjaaDoor
open Go Go.RowKit
open Stab Col

/-- The most used of the first i. -/
def BestIs (L : List (Px × Nat)) (i : Nat) (z : Int) : Prop :=
  (z = -1 ∧ ∀ j, (hj : j < L.length) → j < i → L[j].2 = 0) ∨ (∃ b, ∃ hb : b < L.length, z = (b : Int) ∧ b < i ∧ 0 < L[b].2 ∧ (∀ j, (hj : j < L.length) → j < i → L[j].2 ≤ L[b].2) ∧ ∀ j, (hj : j < L.length) → j < b → L[j].2 < L[b].2)
theorem best_start (L : List (Px × Nat)) : BestIs L 0 (-1) := .inl ⟨rfl, fun j _ h => absurd h (by omega)⟩
theorem best_zero {L : List (Px × Nat)} {i : Nat} {z : Int} (h : BestIs L i z) (hi : i < L.length) (h0 : L[i].2 = 0) : BestIs L (i + 1) z := by
  rcases h with ⟨rfl, h⟩ | ⟨b, hb, rfl, hbi, h1, h2, h3⟩
  · exact .inl ⟨rfl, fun j hj hji => by
      rcases Nat.lt_or_ge j i with h4 | h4
      · exact h j hj h4
      · obtain rfl : j = i := by omega
        exact h0⟩
  · exact .inr ⟨b, hb, rfl, by omega, h1, fun j hj hji => by
      rcases Nat.lt_or_ge j i with h4 | h4
      · exact h2 j hj h4
      · obtain rfl : j = i := by omega
        omega, h3⟩
theorem best_new {L : List (Px × Nat)} {i : Nat} (h : BestIs L i (-1)) (hi : i < L.length) (h0 : 0 < L[i].2) : BestIs L (i + 1) i := by
  rcases h with ⟨_, h⟩ | ⟨b, hb, e, _⟩
  · exact .inr ⟨i, hi, rfl, by omega, h0, fun j hj hji => by
      rcases Nat.lt_or_ge j i with h4 | h4
      · have := h j hj h4; omega
      · obtain rfl : j = i := by omega
        omega, fun j hj hji => by have := h j hj hji; omega⟩
  · omega
theorem best_more {L : List (Px × Nat)} {i b : Nat} (h : BestIs L i (b : Int)) (hi : i < L.length) (hb : b < L.length) (h0 : L[b].2 < L[i].2) : BestIs L (i + 1) i := by
  rcases h with ⟨e, _⟩ | ⟨b', hb', e, hbi, h1, h2, h3⟩
  · omega
  · obtain rfl : b' = b := by omega
    exact .inr ⟨i, hi, rfl, by omega, by omega, fun j hj hji => by
      rcases Nat.lt_or_ge j i with h4 | h4
      · have := h2 j hj h4; omega
      · obtain rfl : j = i := by omega
        omega, fun j hj hji => by have := h2 j hj hji; omega⟩
theorem best_keep {L : List (Px × Nat)} {i b : Nat} (h : BestIs L i (b : Int)) (hi : i < L.length) (hb : b < L.length) (h0 : L[i].2 ≤ L[b].2) : BestIs L (i + 1) (b : Int) := by
  rcases h with ⟨e, _⟩ | ⟨b', hb', e, hbi, h1, h2, h3⟩
  · omega
  · obtain rfl : b' = b := by omega
    exact .inr ⟨b', hb', rfl, by omega, h1, fun j hj hji => by
      rcases Nat.lt_or_ge j i with h4 | h4
      · exact h2 j hj h4
      · obtain rfl : j = i := by omega
        exact h0, h3⟩
/-- The length of a slice. -/
def sLen : Value → Nat
  | .slice _ n _ => n
  | _ => 0
/-- What stands through the choosing. -/
structure MuR (w w1 : World) (W H : Int) (A : Option Addr) (n c : Nat) (S : List (Px × Nat)) (g off cu N m : Nat) (v : Value) (wr : World) (j : Nat) (L : List (Px × Nat)) : Prop where
  hj : j ≤ m
  own : Own wr w1.heap.size 4 v j (pxCells ((S.take j).map (·.1)))
  use : Own wr (w.heap.size + 1) 5 (.slice (some ⟨g, off, none⟩) N cu) N (L.flatMap useCs)
  len : L.length = N
  same : Same useKey (live L) (S.drop j)
  bel : Below (w.heap.size + 1) w1 wr
section
variable {w w1 wr : World} {W H : Int} {A : Option Addr} {n c : Nat} {S : List (Px × Nat)} {g off cu N m : Nat} {v : Value} {j : Nat} {L : List (Px × Nat)}
theorem MuR.drew (h : MuR w w1 W H A n c S g off cu N m v wr j L) : MuR w w1 W H A n c S g off cu N m v wr.drew j L := ⟨h.hj, h.own.drew, h.use.drew, h.len, h.same, h.bel.drew⟩
theorem MuR.cnt (h : MuR w w1 W H A n c S g off cu N m v wr j L) (i : Nat) (hi : i < L.length) (k : Nat) (hk : k < 5) : wr.cell? ⟨g, off + i * 5 + k, none⟩ = (useCs L[i])[k]? := by
  have hl := h.len
  rw [Nat.add_assoc, h.use.reads.2.cell rfl (i * 5 + k) (by omega)]
  exact flatCells_at useCs 5 (fun _ => rfl) L i hi k hk
end
set_option maxRecDepth 100000 in
set_option maxHeartbeats 2000000 in
theorem mostUsed_any (W H : Int) (A : Option Addr) (n c : Nat) (ps : List Px) (S : List (Px × Nat)) (m : Nat) (w : World) (hp : Reads w w.heap.size 4 A n (pxCells ps)) (hn : n ≤ 65536) (hmany : m < (Col.uses ps).length) (hS : Same useKey (Col.uses ps) S) (hT : Srt useKey S) (hSl : S.length = (Col.uses ps).length) (hm0 : 0 < m) :
    Calls Tryd.prog 13 #[.agg #[.int .i64 W, .int .i64 H, .slice A n c], .int .i64 m] w
      fun e w' => ∃ A1 c1, e = .returned (.slice A1 m c1) ∧ Own w' w.heap.size 4 (.slice A1 m c1) m (pxCells ((S.take m).map (·.1))) ∧ Below w.heap.size w w' := by
  have hpl := hp.pxLen
  have hub := Col.uses_take_bounds ps ps.length (Nat.le_refl _)
  have hup := Col.uses_pos ps ps.length (Nat.le_refl _)
  rw [List.take_length] at hub hup
  obtain ⟨us, hus⟩ : ∃ us, us = Col.uses ps := ⟨_, rfl⟩
  rw [← hus] at hmany hS hub hSl hup
  have HUS := Lib.hid hus
  have HS := Lib.hid hS
  have HT := Lib.hid hT
  have HSL := Lib.hid hSl
  have HUP := Lib.hid hup
  have hul : us.length ≤ 65536 := by omega
  have HP := Lib.hid hp
  clear hus hS hT hub hpl hp hSl hup
  go_enter Tryd.func13, Tryd.ntmps13
  go_wp2_with fail
  refine (countof_any W H A n c ps _ ((HP.out.alloc (Nat.le_refl _) _).more (by first | omega | (simp; done) | (simp; omega))) (by omega)).mono ?_
  rw [← HUS.out]
  rintro e w1 ⟨A1, c1, rfl, ho1, hb1⟩
  have hbw := Lib.hid (show Below w.heap.size w w1 from Below.trans (by go_grown) (hb1.mono (by first | omega | (simp; done) | (simp; omega))))
  obtain ⟨g, off, rfl, hg1, hg2⟩ := ho1.addr (by omega)
  have hg3 : w.heap.size < g := by simp at hg1; omega
  obtain ⟨N, hN⟩ : ∃ N, N = us.length := ⟨_, rfl⟩
  have H0 := Lib.hid (show MuR w w1 W H A n c S g off c1 N m (.slice none 0 0) w1 0 us from ⟨Nat.zero_le _, Own.nil _ _ _, by have h := ho1; rw [← hN] at h; simp at h; exact h, hN.symm, by rw [live_all HUP.out]; exact HS.out, Below.refl _ _⟩)
  rw [← hN] at hmany hul ⊢
  have hSN : S.length = N := by rw [HSL.out, hN]
  have HSN := Lib.hid hSN
  have HBL := Lib.hid hb1
  clear ho1 hg1 hN hSN hb1
  go_wp2_with fail
  go_loopw [6] (fun v wr => ∃ j L, MuR w w1 W H A n c S g off c1 N m v wr j L) (fun v _ => m - sLen v)
  case atStart => exact ⟨0, us, H0.out⟩
  case round =>
    clear H0
    obtain ⟨j, L, hF⟩ := hrel
    obtain ⟨Ao, co, rfl, hco, hro⟩ := hF.own.form
    have HF := Lib.hid hF
    have hjm := hF.hj
    clear hF hro
    by_cases hlt : j < m
    · have hjN : j < N := by omega
      have d1 : decide (j < m) = true := decide_eq_true hlt
      have d2 : decide (j < N) = true := decide_eq_true hjN
      obtain ⟨wo, rfl⟩ : ∃ wo : World, wo = wr := ⟨_, rfl⟩
      go_wp2_with fail
      go_loopw [7, 8] (fun zv iv wr => ∃ (z : Int) (i : Nat), zv = .int .i64 z ∧ iv = .int .i64 i ∧ i ≤ N ∧ BestIs L i z ∧ MuR w w1 W H A n c S g off c1 N m (.slice Ao j co) wr j L) (fun _ iv _ => N - (intOf iv).toNat)
      case atStart => exact ⟨-1, 0, rfl, rfl, Nat.zero_le _, best_start L, HF.out⟩
      case round =>
        clear HF
        obtain ⟨z, i, rfl, rfl, hiN, hbest, hF⟩ := hrel
        have HF := Lib.hid hF
        have HBE := Lib.hid hbest
        have HLN := Lib.hid hF.len
        clear hF hbest
        by_cases hli : i < N
        · have hiL : i < L.length := by rw [HLN.out]; exact hli
          obtain ⟨x, hx⟩ : ∃ x, x = L[i].2 := ⟨_, rfl⟩
          have HX := Lib.hid hx
          have cx : wr.cell? ⟨g, off + i * 5 + 4, none⟩ = some (.int .i64 x) := by rw [hx]; exact HF.out.cnt i hiL 4 (by omega)
          have p0 : (0 : Int) ≤ (i : Int) := by omega
          have p1 : (i : Int) < (N : Int) := by omega
          clear hx
          rcases Nat.eq_zero_or_pos x with hx00 | hx0
          · have HX0 := Lib.hid hx00
            have dx2 : ¬ 0 < x := by omega
            have dx : decide (0 < x) = false := decide_eq_false dx2
            clear hx00
            go_wp2_with fail
            refine wp_region_held_drew (S := (fun w' => w'.cell? ⟨g, off + i * 5 + 4, none⟩ = some (.int .i64 x))) (by kernel_rfl) ?_ (fun hHeld => ?_)
            · exact cx
            refine wpAnyH_take (i := 0) (v := ?_) rfl (by kernel_rfl) (by kernel_rfl) (by kernel_rfl) (fun _ _ _ h => h) (Or.inl ⟨by rfl, ?_⟩) (by assumption) ?_
            rotate_left
            · intro w hSw; (try dsimp only at hSw); go_simp <;> with_reducible rfl
            (try simp only [Act.put, List.getElem_toArray, List.getElem_cons_zero, List.setIfInBounds_toArray, List.set_cons_zero, List.set_cons_succ])
            refine wpAnyH_take (i := 1) (v := ?_) rfl (by kernel_rfl) (by kernel_rfl) (by kernel_rfl) (fun _ _ _ h => h) (Or.inl ⟨by rfl, ?_⟩) (by assumption) ?_
            rotate_left
            · intro w hSw; (try dsimp only at hSw); go_simp <;> with_reducible rfl
            (try simp only [Act.put, List.getElem_toArray, List.getElem_cons_zero, List.getElem_cons_succ, List.setIfInBounds_toArray, List.set_cons_zero, List.set_cons_succ])
            refine wpAnyH_take (i := 2) (v := ?_) rfl (by kernel_rfl) (by kernel_rfl) (by kernel_rfl) (fun _ _ _ h => h) (Or.inl ⟨by rfl, ?_⟩) (by assumption) ?_
            rotate_left
            · intro w hSw; (try dsimp only at hSw); go_simp <;> with_reducible rfl
            (try simp only [Act.put, List.getElem_toArray, List.getElem_cons_zero, List.getElem_cons_succ, List.setIfInBounds_toArray, List.set_cons_zero, List.set_cons_succ])
            refine wpAnyH_take (i := 3) (v := ?_) rfl (by kernel_rfl) (by kernel_rfl) (by kernel_rfl) (fun _ _ _ h => h) (Or.inl ⟨by rfl, ?_⟩) (by assumption) ?_
            rotate_left
            · intro w hSw; (try dsimp only at hSw); go_simp <;> with_reducible rfl
            (try simp only [Act.put, List.getElem_toArray, List.getElem_cons_zero, List.getElem_cons_succ, List.setIfInBounds_toArray, List.set_cons_zero, List.set_cons_succ])
            refine wpAnyH_take (i := 4) (v := ?_) rfl (by kernel_rfl) (by kernel_rfl) (by kernel_rfl) (fun _ _ _ h => h) (Or.inl ⟨by rfl, ?_⟩) (by assumption) ?_
            rotate_left
            · intro w hSw; (try dsimp only at hSw); go_simp <;> with_reducible rfl
            (try simp only [Act.put, List.getElem_toArray, List.getElem_cons_zero, List.getElem_cons_succ, List.setIfInBounds_toArray, List.set_cons_zero, List.set_cons_succ])
            refine wpAnyH_take (i := 5) (v := ?_) rfl (by kernel_rfl) (by kernel_rfl) (by kernel_rfl) (fun _ _ _ h => h) (Or.inl ⟨by rfl, ?_⟩) (by assumption) ?_
            rotate_left
            · intro w hSw; (try dsimp only at hSw); go_simp <;> with_reducible rfl
            (try simp only [Act.put, List.getElem_toArray, List.getElem_cons_zero, List.getElem_cons_succ, List.setIfInBounds_toArray, List.set_cons_zero, List.set_cons_succ])
            refine wpAnyH_take (i := 6) (v := ?_) rfl (by kernel_rfl) (by kernel_rfl) (by kernel_rfl) (fun _ _ _ h => h) (Or.inl ⟨by rfl, ?_⟩) (by assumption) ?_
            rotate_left
            · intro w hSw; (try dsimp only at hSw); go_simp <;> with_reducible rfl
            (try simp only [Act.put, List.getElem_toArray, List.getElem_cons_zero, List.getElem_cons_succ, List.setIfInBounds_toArray, List.set_cons_zero, List.set_cons_succ])
            refine wpAnyH_take (i := 7) (v := undef) rfl (by kernel_rfl) (by kernel_rfl) (by kernel_rfl) (fun _ _ _ h => h) (Or.inr ⟨by rfl, rfl⟩) (by assumption) ?_
            (try simp only [Act.put, List.getElem_toArray, List.getElem_cons_zero, List.getElem_cons_succ, List.setIfInBounds_toArray, List.set_cons_zero, List.set_cons_succ])
            refine wpAnyH_take (i := 8) (v := undef) rfl (by kernel_rfl) (by kernel_rfl) (by kernel_rfl) (fun _ _ _ h => h) (Or.inr ⟨by rfl, rfl⟩) (by assumption) ?_
            (try simp only [Act.put, List.getElem_toArray, List.getElem_cons_zero, List.getElem_cons_succ, List.setIfInBounds_toArray, List.set_cons_zero, List.set_cons_succ])
            refine wpAnyH_take (i := 9) (v := undef) rfl (by kernel_rfl) (by kernel_rfl) (by kernel_rfl) (fun _ _ _ h => h) (Or.inr ⟨by rfl, rfl⟩) (by assumption) ?_
            (try simp only [Act.put, List.getElem_toArray, List.getElem_cons_zero, List.getElem_cons_succ, List.setIfInBounds_toArray, List.set_cons_zero, List.set_cons_succ])
            refine wpAnyH_take (i := 10) (v := undef) rfl (by kernel_rfl) (by kernel_rfl) (by kernel_rfl) (fun _ _ _ h => h) (Or.inr ⟨by rfl, rfl⟩) (by assumption) ?_
            (try simp only [Act.put, List.getElem_toArray, List.getElem_cons_zero, List.getElem_cons_succ, List.setIfInBounds_toArray, List.set_cons_zero, List.set_cons_succ])
            refine wpAnyH_take (i := 11) (v := undef) rfl (by kernel_rfl) (by kernel_rfl) (by kernel_rfl) (fun _ _ _ h => h) (Or.inr ⟨by rfl, rfl⟩) (by assumption) ?_
            (try simp only [Act.put, List.getElem_toArray, List.getElem_cons_zero, List.getElem_cons_succ, List.setIfInBounds_toArray, List.set_cons_zero, List.set_cons_succ])
            refine wpAnyH_take (i := 12) (v := undef) rfl (by kernel_rfl) (by kernel_rfl) (by kernel_rfl) (fun _ _ _ h => h) (Or.inr ⟨by rfl, rfl⟩) (by assumption) ?_
            (try simp only [Act.put, List.getElem_toArray, List.getElem_cons_zero, List.getElem_cons_succ, List.setIfInBounds_toArray, List.set_cons_zero, List.set_cons_succ])
            refine wpAnyH_take (i := 13) (v := undef) rfl (by kernel_rfl) (by kernel_rfl) (by kernel_rfl) (fun _ _ _ h => h) (Or.inr ⟨by rfl, rfl⟩) (by assumption) ?_
            (try simp only [Act.put, List.getElem_toArray, List.getElem_cons_zero, List.getElem_cons_succ, List.setIfInBounds_toArray, List.set_cons_zero, List.set_cons_succ])
            refine wpAnyH_take (i := 14) (v := undef) rfl (by kernel_rfl) (by kernel_rfl) (by kernel_rfl) (fun _ _ _ h => h) (Or.inr ⟨by rfl, rfl⟩) (by assumption) ?_
            (try simp only [Act.put, List.getElem_toArray, List.getElem_cons_zero, List.getElem_cons_succ, List.setIfInBounds_toArray, List.set_cons_zero, List.set_cons_succ])
            refine wpAnyH_take (i := 15) (v := undef) rfl (by kernel_rfl) (by kernel_rfl) (by kernel_rfl) (fun _ _ _ h => h) (Or.inr ⟨by rfl, rfl⟩) (by assumption) ?_
            (try simp only [Act.put, List.getElem_toArray, List.getElem_cons_zero, List.getElem_cons_succ, List.setIfInBounds_toArray, List.set_cons_zero, List.set_cons_succ])
            refine wpAnyH_take (i := 16) (v := undef) rfl (by kernel_rfl) (by kernel_rfl) (by kernel_rfl) (fun _ _ _ h => h) (Or.inr ⟨by rfl, rfl⟩) (by assumption) ?_
            (try simp only [Act.put, List.getElem_toArray, List.getElem_cons_zero, List.getElem_cons_succ, List.setIfInBounds_toArray, List.set_cons_zero, List.set_cons_succ])
            refine wpAnyH_take (i := 17) (v := undef) rfl (by kernel_rfl) (by kernel_rfl) (by kernel_rfl) (fun _ _ _ h => h) (Or.inr ⟨by rfl, rfl⟩) (by assumption) ?_
            (try simp only [Act.put, List.getElem_toArray, List.getElem_cons_zero, List.getElem_cons_succ, List.setIfInBounds_toArray, List.set_cons_zero, List.set_cons_succ])
            refine wpAnyH_take (i := 18) (v := undef) rfl (by kernel_rfl) (by kernel_rfl) (by kernel_rfl) (fun _ _ _ h => h) (Or.inr ⟨by rfl, rfl⟩) (by assumption) ?_
            (try simp only [Act.put, List.getElem_toArray, List.getElem_cons_zero, List.getElem_cons_succ, List.setIfInBounds_toArray, List.set_cons_zero, List.set_cons_succ])
            refine wpAnyH_take (i := 19) (v := undef) rfl (by kernel_rfl) (by kernel_rfl) (by kernel_rfl) (fun _ _ _ h => h) (Or.inr ⟨by rfl, rfl⟩) (by assumption) ?_
            (try simp only [Act.put, List.getElem_toArray, List.getElem_cons_zero, List.getElem_cons_succ, List.setIfInBounds_toArray, List.set_cons_zero, List.set_cons_succ])
            refine wpAnyH_take (i := 20) (v := undef) rfl (by kernel_rfl) (by kernel_rfl) (by kernel_rfl) (fun _ _ _ h => h) (Or.inr ⟨by rfl, rfl⟩) (by assumption) ?_
            (try simp only [Act.put, List.getElem_toArray, List.getElem_cons_zero, List.getElem_cons_succ, List.setIfInBounds_toArray, List.set_cons_zero, List.set_cons_succ])
            refine wpAnyH_take (i := 21) (v := undef) rfl (by kernel_rfl) (by kernel_rfl) (by kernel_rfl) (fun _ _ _ h => h) (Or.inr ⟨by rfl, rfl⟩) (by assumption) ?_
            (try simp only [Act.put, List.getElem_toArray, List.getElem_cons_zero, List.getElem_cons_succ, List.setIfInBounds_toArray, List.set_cons_zero, List.set_cons_succ])
            refine wpAnyH_take (i := 22) (v := ?_) rfl (by kernel_rfl) (by kernel_rfl) (by kernel_rfl) (fun _ _ _ h => h) (Or.inl ⟨by rfl, ?_⟩) (by assumption) ?_
            rotate_left
            · intro w hSw; (try dsimp only at hSw); go_simp <;> with_reducible rfl
            (try simp only [Act.put, List.getElem_toArray, List.getElem_cons_zero, List.getElem_cons_succ, List.setIfInBounds_toArray, List.set_cons_zero, List.set_cons_succ])
            refine wpAnyH_done (by kernel_rfl) ?_ _
            go_wp2
            go_roundw
            case rel => exact ⟨z, i + 1, rfl, by go_num, by omega, best_zero HBE.out hiL (by rw [← HX.out]; exact HX0.out), HF.out.drew⟩
            case measure => simp [intOf] <;> omega
          · have dx : decide (0 < x) = true := decide_eq_true hx0
            have dx2 : (0 : Int) < (x : Int) := by omega
            have dx3 : decide ((0 : Int) < (x : Int)) = true := decide_eq_true dx2
            have hz : z = -1 ∨ ∃ b : Nat, z = b ∧ b < L.length := by
              rcases HBE.out with ⟨h, _⟩ | ⟨b, hb, h, _⟩
              · exact .inl h
              · exact .inr ⟨b, h, hb⟩
            rcases hz with rfl | ⟨b, rfl, hbL⟩
            · go_wp2_with fail
              refine wp_region_held_drew (S := (fun w' => w'.cell? ⟨g, off + i * 5 + 4, none⟩ = some (.int .i64 x))) (by kernel_rfl) ?_ (fun hHeld => ?_)
              · exact cx
              refine wpAnyH_take (i := 0) (v := ?_) rfl (by kernel_rfl) (by kernel_rfl) (by kernel_rfl) (fun _ _ _ h => h) (Or.inl ⟨by rfl, ?_⟩) (by assumption) ?_
              rotate_left
              · intro w hSw; (try dsimp only at hSw); go_simp <;> with_reducible rfl
              (try simp only [Act.put, List.getElem_toArray, List.getElem_cons_zero, List.setIfInBounds_toArray, List.set_cons_zero, List.set_cons_succ])
              refine wpAnyH_take (i := 1) (v := ?_) rfl (by kernel_rfl) (by kernel_rfl) (by kernel_rfl) (fun _ _ _ h => h) (Or.inl ⟨by rfl, ?_⟩) (by assumption) ?_
              rotate_left
              · intro w hSw; (try dsimp only at hSw); go_simp <;> with_reducible rfl
              (try simp only [Act.put, List.getElem_toArray, List.getElem_cons_zero, List.getElem_cons_succ, List.setIfInBounds_toArray, List.set_cons_zero, List.set_cons_succ])
              refine wpAnyH_take (i := 2) (v := ?_) rfl (by kernel_rfl) (by kernel_rfl) (by kernel_rfl) (fun _ _ _ h => h) (Or.inl ⟨by rfl, ?_⟩) (by assumption) ?_
              rotate_left
              · intro w hSw; (try dsimp only at hSw); go_simp <;> with_reducible rfl
              (try simp only [Act.put, List.getElem_toArray, List.getElem_cons_zero, List.getElem_cons_succ, List.setIfInBounds_toArray, List.set_cons_zero, List.set_cons_succ])
              refine wpAnyH_take (i := 3) (v := ?_) rfl (by kernel_rfl) (by kernel_rfl) (by kernel_rfl) (fun _ _ _ h => h) (Or.inl ⟨by rfl, ?_⟩) (by assumption) ?_
              rotate_left
              · intro w hSw; (try dsimp only at hSw); go_simp <;> with_reducible rfl
              (try simp only [Act.put, List.getElem_toArray, List.getElem_cons_zero, List.getElem_cons_succ, List.setIfInBounds_toArray, List.set_cons_zero, List.set_cons_succ])
              refine wpAnyH_take (i := 4) (v := ?_) rfl (by kernel_rfl) (by kernel_rfl) (by kernel_rfl) (fun _ _ _ h => h) (Or.inl ⟨by rfl, ?_⟩) (by assumption) ?_
              rotate_left
              · intro w hSw; (try dsimp only at hSw); go_simp <;> with_reducible rfl
              (try simp only [Act.put, List.getElem_toArray, List.getElem_cons_zero, List.getElem_cons_succ, List.setIfInBounds_toArray, List.set_cons_zero, List.set_cons_succ])
              refine wpAnyH_take (i := 5) (v := ?_) rfl (by kernel_rfl) (by kernel_rfl) (by kernel_rfl) (fun _ _ _ h => h) (Or.inl ⟨by rfl, ?_⟩) (by assumption) ?_
              rotate_left
              · intro w hSw; (try dsimp only at hSw); go_simp <;> with_reducible rfl
              (try simp only [Act.put, List.getElem_toArray, List.getElem_cons_zero, List.getElem_cons_succ, List.setIfInBounds_toArray, List.set_cons_zero, List.set_cons_succ])
              refine wpAnyH_take (i := 6) (v := ?_) rfl (by kernel_rfl) (by kernel_rfl) (by kernel_rfl) (fun _ _ _ h => h) (Or.inl ⟨by rfl, ?_⟩) (by assumption) ?_
              rotate_left
              · intro w hSw; (try dsimp only at hSw); go_simp <;> with_reducible rfl
              (try simp only [Act.put, List.getElem_toArray, List.getElem_cons_zero, List.getElem_cons_succ, List.setIfInBounds_toArray, List.set_cons_zero, List.set_cons_succ])
              refine wpAnyH_take (i := 7) (v := ?_) rfl (by kernel_rfl) (by kernel_rfl) (by kernel_rfl) (fun _ _ _ h => h) (Or.inl ⟨by rfl, ?_⟩) (by assumption) ?_
              rotate_left
              · intro w hSw; (try dsimp only at hSw); go_simp <;> with_reducible rfl
              (try simp only [Act.put, List.getElem_toArray, List.getElem_cons_zero, List.getElem_cons_succ, List.setIfInBounds_toArray, List.set_cons_zero, List.set_cons_succ])
              refine wpAnyH_take (i := 8) (v := ?_) rfl (by kernel_rfl) (by kernel_rfl) (by kernel_rfl) (fun _ _ _ h => h) (Or.inl ⟨by rfl, ?_⟩) (by assumption) ?_
              rotate_left
              · intro w hSw; (try dsimp only at hSw); go_simp <;> with_reducible rfl
              (try simp only [Act.put, List.getElem_toArray, List.getElem_cons_zero, List.getElem_cons_succ, List.setIfInBounds_toArray, List.set_cons_zero, List.set_cons_succ])
              refine wpAnyH_take (i := 9) (v := ?_) rfl (by kernel_rfl) (by kernel_rfl) (by kernel_rfl) (fun _ _ _ h => h) (Or.inl ⟨by rfl, ?_⟩) (by assumption) ?_
              rotate_left
              · intro w hSw; (try dsimp only at hSw); go_simp <;> with_reducible rfl
              (try simp only [Act.put, List.getElem_toArray, List.getElem_cons_zero, List.getElem_cons_succ, List.setIfInBounds_toArray, List.set_cons_zero, List.set_cons_succ])
              refine wpAnyH_take (i := 10) (v := undef) rfl (by kernel_rfl) (by kernel_rfl) (by kernel_rfl) (fun _ _ _ h => h) (Or.inr ⟨by rfl, rfl⟩) (by assumption) ?_
              (try simp only [Act.put, List.getElem_toArray, List.getElem_cons_zero, List.getElem_cons_succ, List.setIfInBounds_toArray, List.set_cons_zero, List.set_cons_succ])
              refine wpAnyH_take (i := 11) (v := undef) rfl (by kernel_rfl) (by kernel_rfl) (by kernel_rfl) (fun _ _ _ h => h) (Or.inr ⟨by rfl, rfl⟩) (by assumption) ?_
              (try simp only [Act.put, List.getElem_toArray, List.getElem_cons_zero, List.getElem_cons_succ, List.setIfInBounds_toArray, List.set_cons_zero, List.set_cons_succ])
              refine wpAnyH_take (i := 12) (v := undef) rfl (by kernel_rfl) (by kernel_rfl) (by kernel_rfl) (fun _ _ _ h => h) (Or.inr ⟨by rfl, rfl⟩) (by assumption) ?_
              (try simp only [Act.put, List.getElem_toArray, List.getElem_cons_zero, List.getElem_cons_succ, List.setIfInBounds_toArray, List.set_cons_zero, List.set_cons_succ])
              refine wpAnyH_take (i := 13) (v := undef) rfl (by kernel_rfl) (by kernel_rfl) (by kernel_rfl) (fun _ _ _ h => h) (Or.inr ⟨by rfl, rfl⟩) (by assumption) ?_
              (try simp only [Act.put, List.getElem_toArray, List.getElem_cons_zero, List.getElem_cons_succ, List.setIfInBounds_toArray, List.set_cons_zero, List.set_cons_succ])
              refine wpAnyH_take (i := 14) (v := undef) rfl (by kernel_rfl) (by kernel_rfl) (by kernel_rfl) (fun _ _ _ h => h) (Or.inr ⟨by rfl, rfl⟩) (by assumption) ?_
              (try simp only [Act.put, List.getElem_toArray, List.getElem_cons_zero, List.getElem_cons_succ, List.setIfInBounds_toArray, List.set_cons_zero, List.set_cons_succ])
              refine wpAnyH_take (i := 15) (v := undef) rfl (by kernel_rfl) (by kernel_rfl) (by kernel_rfl) (fun _ _ _ h => h) (Or.inr ⟨by rfl, rfl⟩) (by assumption) ?_
              (try simp only [Act.put, List.getElem_toArray, List.getElem_cons_zero, List.getElem_cons_succ, List.setIfInBounds_toArray, List.set_cons_zero, List.set_cons_succ])
              refine wpAnyH_take (i := 16) (v := undef) rfl (by kernel_rfl) (by kernel_rfl) (by kernel_rfl) (fun _ _ _ h => h) (Or.inr ⟨by rfl, rfl⟩) (by assumption) ?_
              (try simp only [Act.put, List.getElem_toArray, List.getElem_cons_zero, List.getElem_cons_succ, List.setIfInBounds_toArray, List.set_cons_zero, List.set_cons_succ])
              refine wpAnyH_take (i := 17) (v := undef) rfl (by kernel_rfl) (by kernel_rfl) (by kernel_rfl) (fun _ _ _ h => h) (Or.inr ⟨by rfl, rfl⟩) (by assumption) ?_
              (try simp only [Act.put, List.getElem_toArray, List.getElem_cons_zero, List.getElem_cons_succ, List.setIfInBounds_toArray, List.set_cons_zero, List.set_cons_succ])
              refine wpAnyH_take (i := 18) (v := undef) rfl (by kernel_rfl) (by kernel_rfl) (by kernel_rfl) (fun _ _ _ h => h) (Or.inr ⟨by rfl, rfl⟩) (by assumption) ?_
              (try simp only [Act.put, List.getElem_toArray, List.getElem_cons_zero, List.getElem_cons_succ, List.setIfInBounds_toArray, List.set_cons_zero, List.set_cons_succ])
              refine wpAnyH_take (i := 19) (v := undef) rfl (by kernel_rfl) (by kernel_rfl) (by kernel_rfl) (fun _ _ _ h => h) (Or.inr ⟨by rfl, rfl⟩) (by assumption) ?_
              (try simp only [Act.put, List.getElem_toArray, List.getElem_cons_zero, List.getElem_cons_succ, List.setIfInBounds_toArray, List.set_cons_zero, List.set_cons_succ])
              refine wpAnyH_take (i := 20) (v := undef) rfl (by kernel_rfl) (by kernel_rfl) (by kernel_rfl) (fun _ _ _ h => h) (Or.inr ⟨by rfl, rfl⟩) (by assumption) ?_
              (try simp only [Act.put, List.getElem_toArray, List.getElem_cons_zero, List.getElem_cons_succ, List.setIfInBounds_toArray, List.set_cons_zero, List.set_cons_succ])
              refine wpAnyH_take (i := 21) (v := ?_) rfl (by kernel_rfl) (by kernel_rfl) (by kernel_rfl) (fun _ _ _ h => h) (Or.inl ⟨by rfl, ?_⟩) (by assumption) ?_
              rotate_left
              · intro w hSw; (try dsimp only at hSw); go_simp <;> with_reducible rfl
              (try simp only [Act.put, List.getElem_toArray, List.getElem_cons_zero, List.getElem_cons_succ, List.setIfInBounds_toArray, List.set_cons_zero, List.set_cons_succ])
              refine wpAnyH_take (i := 22) (v := ?_) rfl (by kernel_rfl) (by kernel_rfl) (by kernel_rfl) (fun _ _ _ h => h) (Or.inl ⟨by rfl, ?_⟩) (by assumption) ?_
              rotate_left
              · intro w hSw; (try dsimp only at hSw); go_simp <;> with_reducible rfl
              (try simp only [Act.put, List.getElem_toArray, List.getElem_cons_zero, List.getElem_cons_succ, List.setIfInBounds_toArray, List.set_cons_zero, List.set_cons_succ])
              refine wpAnyH_done (by kernel_rfl) ?_ _
              go_wp2
              go_roundw
              case rel => exact ⟨i, i + 1, rfl, by go_num, by omega, best_new HBE.out hiL (by rw [← HX.out]; exact hx0), HF.out.drew⟩
              case measure => simp [intOf] <;> omega
            · obtain ⟨y, hy⟩ : ∃ y, y = L[b].2 := ⟨_, rfl⟩
              have HY := Lib.hid hy
              have cy : wr.cell? ⟨g, off + b * 5 + 4, none⟩ = some (.int .i64 y) := by rw [hy]; exact HF.out.cnt b hbL 4 (by omega)
              have p2 : (0 : Int) ≤ (b : Int) := by omega
              have p3 : (b : Int) < (N : Int) := by have := HLN.out; omega
              have p4 : ¬ (b : Int) < 0 := by omega
              clear hy
              by_cases hyx : y < x
              · have dy : decide (y < x) = true := decide_eq_true hyx
                go_wp2_with fail
                refine wp_region_held_drew (S := (fun w' => w'.cell? ⟨g, off + i * 5 + 4, none⟩ = some (.int .i64 x) ∧ w'.cell? ⟨g, off + b * 5 + 4, none⟩ = some (.int .i64 y))) (by kernel_rfl) ?_ (fun hHeld => ?_)
                · exact ⟨cx, cy⟩
                refine wpAnyH_take (i := 0) (v := ?_) rfl (by kernel_rfl) (by kernel_rfl) (by kernel_rfl) (fun _ _ _ h => h) (Or.inl ⟨by rfl, ?_⟩) (by assumption) ?_
                rotate_left
                · intro w hSw; (try dsimp only at hSw); go_simp <;> with_reducible rfl
                (try simp only [Act.put, List.getElem_toArray, List.getElem_cons_zero, List.setIfInBounds_toArray, List.set_cons_zero, List.set_cons_succ])
                refine wpAnyH_take (i := 1) (v := ?_) rfl (by kernel_rfl) (by kernel_rfl) (by kernel_rfl) (fun _ _ _ h => h) (Or.inl ⟨by rfl, ?_⟩) (by assumption) ?_
                rotate_left
                · intro w hSw; (try dsimp only at hSw); go_simp <;> with_reducible rfl
                (try simp only [Act.put, List.getElem_toArray, List.getElem_cons_zero, List.getElem_cons_succ, List.setIfInBounds_toArray, List.set_cons_zero, List.set_cons_succ])
                refine wpAnyH_take (i := 2) (v := ?_) rfl (by kernel_rfl) (by kernel_rfl) (by kernel_rfl) (fun _ _ _ h => h) (Or.inl ⟨by rfl, ?_⟩) (by assumption) ?_
                rotate_left
                · intro w hSw; (try dsimp only at hSw); go_simp <;> with_reducible rfl
                (try simp only [Act.put, List.getElem_toArray, List.getElem_cons_zero, List.getElem_cons_succ, List.setIfInBounds_toArray, List.set_cons_zero, List.set_cons_succ])
                refine wpAnyH_take (i := 3) (v := ?_) rfl (by kernel_rfl) (by kernel_rfl) (by kernel_rfl) (fun _ _ _ h => h) (Or.inl ⟨by rfl, ?_⟩) (by assumption) ?_
                rotate_left
                · intro w hSw; (try dsimp only at hSw); go_simp <;> with_reducible rfl
                (try simp only [Act.put, List.getElem_toArray, List.getElem_cons_zero, List.getElem_cons_succ, List.setIfInBounds_toArray, List.set_cons_zero, List.set_cons_succ])
                refine wpAnyH_take (i := 4) (v := ?_) rfl (by kernel_rfl) (by kernel_rfl) (by kernel_rfl) (fun _ _ _ h => h) (Or.inl ⟨by rfl, ?_⟩) (by assumption) ?_
                rotate_left
                · intro w hSw; (try dsimp only at hSw); go_simp <;> with_reducible rfl
                (try simp only [Act.put, List.getElem_toArray, List.getElem_cons_zero, List.getElem_cons_succ, List.setIfInBounds_toArray, List.set_cons_zero, List.set_cons_succ])
                refine wpAnyH_take (i := 5) (v := ?_) rfl (by kernel_rfl) (by kernel_rfl) (by kernel_rfl) (fun _ _ _ h => h) (Or.inl ⟨by rfl, ?_⟩) (by assumption) ?_
                rotate_left
                · intro w hSw; (try dsimp only at hSw); go_simp <;> with_reducible rfl
                (try simp only [Act.put, List.getElem_toArray, List.getElem_cons_zero, List.getElem_cons_succ, List.setIfInBounds_toArray, List.set_cons_zero, List.set_cons_succ])
                refine wpAnyH_take (i := 6) (v := ?_) rfl (by kernel_rfl) (by kernel_rfl) (by kernel_rfl) (fun _ _ _ h => h) (Or.inl ⟨by rfl, ?_⟩) (by assumption) ?_
                rotate_left
                · intro w hSw; (try dsimp only at hSw); go_simp <;> with_reducible rfl
                (try simp only [Act.put, List.getElem_toArray, List.getElem_cons_zero, List.getElem_cons_succ, List.setIfInBounds_toArray, List.set_cons_zero, List.set_cons_succ])
                refine wpAnyH_take (i := 7) (v := ?_) rfl (by kernel_rfl) (by kernel_rfl) (by kernel_rfl) (fun _ _ _ h => h) (Or.inl ⟨by rfl, ?_⟩) (by assumption) ?_
                rotate_left
                · intro w hSw; (try dsimp only at hSw); go_simp <;> with_reducible rfl
                (try simp only [Act.put, List.getElem_toArray, List.getElem_cons_zero, List.getElem_cons_succ, List.setIfInBounds_toArray, List.set_cons_zero, List.set_cons_succ])
                refine wpAnyH_take (i := 8) (v := ?_) rfl (by kernel_rfl) (by kernel_rfl) (by kernel_rfl) (fun _ _ _ h => h) (Or.inl ⟨by rfl, ?_⟩) (by assumption) ?_
                rotate_left
                · intro w hSw; (try dsimp only at hSw); go_simp <;> with_reducible rfl
                (try simp only [Act.put, List.getElem_toArray, List.getElem_cons_zero, List.getElem_cons_succ, List.setIfInBounds_toArray, List.set_cons_zero, List.set_cons_succ])
                refine wpAnyH_take (i := 9) (v := ?_) rfl (by kernel_rfl) (by kernel_rfl) (by kernel_rfl) (fun _ _ _ h => h) (Or.inl ⟨by rfl, ?_⟩) (by assumption) ?_
                rotate_left
                · intro w hSw; (try dsimp only at hSw); go_simp <;> with_reducible rfl
                (try simp only [Act.put, List.getElem_toArray, List.getElem_cons_zero, List.getElem_cons_succ, List.setIfInBounds_toArray, List.set_cons_zero, List.set_cons_succ])
                refine wpAnyH_take (i := 10) (v := ?_) rfl (by kernel_rfl) (by kernel_rfl) (by kernel_rfl) (fun _ _ _ h => h) (Or.inl ⟨by rfl, ?_⟩) (by assumption) ?_
                rotate_left
                · intro w hSw; (try dsimp only at hSw); go_simp <;> with_reducible rfl
                (try simp only [Act.put, List.getElem_toArray, List.getElem_cons_zero, List.getElem_cons_succ, List.setIfInBounds_toArray, List.set_cons_zero, List.set_cons_succ])
                refine wpAnyH_take (i := 11) (v := ?_) rfl (by kernel_rfl) (by kernel_rfl) (by kernel_rfl) (fun _ _ _ h => h) (Or.inl ⟨by rfl, ?_⟩) (by assumption) ?_
                rotate_left
                · intro w hSw; (try dsimp only at hSw); go_simp <;> with_reducible rfl
                (try simp only [Act.put, List.getElem_toArray, List.getElem_cons_zero, List.getElem_cons_succ, List.setIfInBounds_toArray, List.set_cons_zero, List.set_cons_succ])
                refine wpAnyH_take (i := 12) (v := ?_) rfl (by kernel_rfl) (by kernel_rfl) (by kernel_rfl) (fun _ _ _ h => h) (Or.inl ⟨by rfl, ?_⟩) (by assumption) ?_
                rotate_left
                · intro w hSw; (try dsimp only at hSw); go_simp <;> with_reducible rfl
                (try simp only [Act.put, List.getElem_toArray, List.getElem_cons_zero, List.getElem_cons_succ, List.setIfInBounds_toArray, List.set_cons_zero, List.set_cons_succ])
                refine wpAnyH_take (i := 13) (v := ?_) rfl (by kernel_rfl) (by kernel_rfl) (by kernel_rfl) (fun _ _ _ h => h) (Or.inl ⟨by rfl, ?_⟩) (by assumption) ?_
                rotate_left
                · intro w hSw; (try dsimp only at hSw); go_simp <;> with_reducible rfl
                (try simp only [Act.put, List.getElem_toArray, List.getElem_cons_zero, List.getElem_cons_succ, List.setIfInBounds_toArray, List.set_cons_zero, List.set_cons_succ])
                refine wpAnyH_take (i := 14) (v := ?_) rfl (by kernel_rfl) (by kernel_rfl) (by kernel_rfl) (fun _ _ _ h => h) (Or.inl ⟨by rfl, ?_⟩) (by assumption) ?_
                rotate_left
                · intro w hSw; (try dsimp only at hSw); go_simp <;> with_reducible rfl
                (try simp only [Act.put, List.getElem_toArray, List.getElem_cons_zero, List.getElem_cons_succ, List.setIfInBounds_toArray, List.set_cons_zero, List.set_cons_succ])
                refine wpAnyH_take (i := 15) (v := ?_) rfl (by kernel_rfl) (by kernel_rfl) (by kernel_rfl) (fun _ _ _ h => h) (Or.inl ⟨by rfl, ?_⟩) (by assumption) ?_
                rotate_left
                · intro w hSw; (try dsimp only at hSw); go_simp <;> with_reducible rfl
                (try simp only [Act.put, List.getElem_toArray, List.getElem_cons_zero, List.getElem_cons_succ, List.setIfInBounds_toArray, List.set_cons_zero, List.set_cons_succ])
                refine wpAnyH_take (i := 16) (v := ?_) rfl (by kernel_rfl) (by kernel_rfl) (by kernel_rfl) (fun _ _ _ h => h) (Or.inl ⟨by rfl, ?_⟩) (by assumption) ?_
                rotate_left
                · intro w hSw; (try dsimp only at hSw); go_simp <;> with_reducible rfl
                (try simp only [Act.put, List.getElem_toArray, List.getElem_cons_zero, List.getElem_cons_succ, List.setIfInBounds_toArray, List.set_cons_zero, List.set_cons_succ])
                refine wpAnyH_take (i := 17) (v := ?_) rfl (by kernel_rfl) (by kernel_rfl) (by kernel_rfl) (fun _ _ _ h => h) (Or.inl ⟨by rfl, ?_⟩) (by assumption) ?_
                rotate_left
                · intro w hSw; (try dsimp only at hSw); go_simp <;> with_reducible rfl
                (try simp only [Act.put, List.getElem_toArray, List.getElem_cons_zero, List.getElem_cons_succ, List.setIfInBounds_toArray, List.set_cons_zero, List.set_cons_succ])
                refine wpAnyH_take (i := 18) (v := ?_) rfl (by kernel_rfl) (by kernel_rfl) (by kernel_rfl) (fun _ _ _ h => h) (Or.inl ⟨by rfl, ?_⟩) (by assumption) ?_
                rotate_left
                · intro w hSw; (try dsimp only at hSw); go_simp <;> with_reducible rfl
                (try simp only [Act.put, List.getElem_toArray, List.getElem_cons_zero, List.getElem_cons_succ, List.setIfInBounds_toArray, List.set_cons_zero, List.set_cons_succ])
                refine wpAnyH_take (i := 19) (v := ?_) rfl (by kernel_rfl) (by kernel_rfl) (by kernel_rfl) (fun _ _ _ h => h) (Or.inl ⟨by rfl, ?_⟩) (by assumption) ?_
                rotate_left
                · intro w hSw; (try dsimp only at hSw); go_simp <;> with_reducible rfl
                (try simp only [Act.put, List.getElem_toArray, List.getElem_cons_zero, List.getElem_cons_succ, List.setIfInBounds_toArray, List.set_cons_zero, List.set_cons_succ])
                refine wpAnyH_take (i := 20) (v := ?_) rfl (by kernel_rfl) (by kernel_rfl) (by kernel_rfl) (fun _ _ _ h => h) (Or.inl ⟨by rfl, ?_⟩) (by assumption) ?_
                rotate_left
                · intro w hSw; (try dsimp only at hSw); go_simp <;> with_reducible rfl
                (try simp only [Act.put, List.getElem_toArray, List.getElem_cons_zero, List.getElem_cons_succ, List.setIfInBounds_toArray, List.set_cons_zero, List.set_cons_succ])
                refine wpAnyH_take (i := 21) (v := ?_) rfl (by kernel_rfl) (by kernel_rfl) (by kernel_rfl) (fun _ _ _ h => h) (Or.inl ⟨by rfl, ?_⟩) (by assumption) ?_
                rotate_left
                · intro w hSw; (try dsimp only at hSw); go_simp <;> with_reducible rfl
                (try simp only [Act.put, List.getElem_toArray, List.getElem_cons_zero, List.getElem_cons_succ, List.setIfInBounds_toArray, List.set_cons_zero, List.set_cons_succ])
                refine wpAnyH_take (i := 22) (v := ?_) rfl (by kernel_rfl) (by kernel_rfl) (by kernel_rfl) (fun _ _ _ h => h) (Or.inl ⟨by rfl, ?_⟩) (by assumption) ?_
                rotate_left
                · intro w hSw; (try dsimp only at hSw); go_simp <;> with_reducible rfl
                (try simp only [Act.put, List.getElem_toArray, List.getElem_cons_zero, List.getElem_cons_succ, List.setIfInBounds_toArray, List.set_cons_zero, List.set_cons_succ])
                refine wpAnyH_done (by kernel_rfl) ?_ _
                go_wp2
                go_roundw
                case rel => exact ⟨i, i + 1, rfl, by go_num, by omega, best_more HBE.out hiL hbL (by rw [← HX.out, ← HY.out]; exact hyx), HF.out.drew⟩
                case measure => simp [intOf] <;> omega
              · have dy : decide (y < x) = false := decide_eq_false hyx
                go_wp2_with fail
                refine wp_region_held_drew (S := (fun w' => w'.cell? ⟨g, off + i * 5 + 4, none⟩ = some (.int .i64 x) ∧ w'.cell? ⟨g, off + b * 5 + 4, none⟩ = some (.int .i64 y))) (by kernel_rfl) ?_ (fun hHeld => ?_)
                · exact ⟨cx, cy⟩
                refine wpAnyH_take (i := 0) (v := ?_) rfl (by kernel_rfl) (by kernel_rfl) (by kernel_rfl) (fun _ _ _ h => h) (Or.inl ⟨by rfl, ?_⟩) (by assumption) ?_
                rotate_left
                · intro w hSw; (try dsimp only at hSw); go_simp <;> with_reducible rfl
                (try simp only [Act.put, List.getElem_toArray, List.getElem_cons_zero, List.setIfInBounds_toArray, List.set_cons_zero, List.set_cons_succ])
                refine wpAnyH_take (i := 1) (v := ?_) rfl (by kernel_rfl) (by kernel_rfl) (by kernel_rfl) (fun _ _ _ h => h) (Or.inl ⟨by rfl, ?_⟩) (by assumption) ?_
                rotate_left
                · intro w hSw; (try dsimp only at hSw); go_simp <;> with_reducible rfl
                (try simp only [Act.put, List.getElem_toArray, List.getElem_cons_zero, List.getElem_cons_succ, List.setIfInBounds_toArray, List.set_cons_zero, List.set_cons_succ])
                refine wpAnyH_take (i := 2) (v := ?_) rfl (by kernel_rfl) (by kernel_rfl) (by kernel_rfl) (fun _ _ _ h => h) (Or.inl ⟨by rfl, ?_⟩) (by assumption) ?_
                rotate_left
                · intro w hSw; (try dsimp only at hSw); go_simp <;> with_reducible rfl
                (try simp only [Act.put, List.getElem_toArray, List.getElem_cons_zero, List.getElem_cons_succ, List.setIfInBounds_toArray, List.set_cons_zero, List.set_cons_succ])
                refine wpAnyH_take (i := 3) (v := ?_) rfl (by kernel_rfl) (by kernel_rfl) (by kernel_rfl) (fun _ _ _ h => h) (Or.inl ⟨by rfl, ?_⟩) (by assumption) ?_
                rotate_left
                · intro w hSw; (try dsimp only at hSw); go_simp <;> with_reducible rfl
                (try simp only [Act.put, List.getElem_toArray, List.getElem_cons_zero, List.getElem_cons_succ, List.setIfInBounds_toArray, List.set_cons_zero, List.set_cons_succ])
                refine wpAnyH_take (i := 4) (v := ?_) rfl (by kernel_rfl) (by kernel_rfl) (by kernel_rfl) (fun _ _ _ h => h) (Or.inl ⟨by rfl, ?_⟩) (by assumption) ?_
                rotate_left
                · intro w hSw; (try dsimp only at hSw); go_simp <;> with_reducible rfl
                (try simp only [Act.put, List.getElem_toArray, List.getElem_cons_zero, List.getElem_cons_succ, List.setIfInBounds_toArray, List.set_cons_zero, List.set_cons_succ])
                refine wpAnyH_take (i := 5) (v := ?_) rfl (by kernel_rfl) (by kernel_rfl) (by kernel_rfl) (fun _ _ _ h => h) (Or.inl ⟨by rfl, ?_⟩) (by assumption) ?_
                rotate_left
                · intro w hSw; (try dsimp only at hSw); go_simp <;> with_reducible rfl
                (try simp only [Act.put, List.getElem_toArray, List.getElem_cons_zero, List.getElem_cons_succ, List.setIfInBounds_toArray, List.set_cons_zero, List.set_cons_succ])
                refine wpAnyH_take (i := 6) (v := ?_) rfl (by kernel_rfl) (by kernel_rfl) (by kernel_rfl) (fun _ _ _ h => h) (Or.inl ⟨by rfl, ?_⟩) (by assumption) ?_
                rotate_left
                · intro w hSw; (try dsimp only at hSw); go_simp <;> with_reducible rfl
                (try simp only [Act.put, List.getElem_toArray, List.getElem_cons_zero, List.getElem_cons_succ, List.setIfInBounds_toArray, List.set_cons_zero, List.set_cons_succ])
                refine wpAnyH_take (i := 7) (v := ?_) rfl (by kernel_rfl) (by kernel_rfl) (by kernel_rfl) (fun _ _ _ h => h) (Or.inl ⟨by rfl, ?_⟩) (by assumption) ?_
                rotate_left
                · intro w hSw; (try dsimp only at hSw); go_simp <;> with_reducible rfl
                (try simp only [Act.put, List.getElem_toArray, List.getElem_cons_zero, List.getElem_cons_succ, List.setIfInBounds_toArray, List.set_cons_zero, List.set_cons_succ])
                refine wpAnyH_take (i := 8) (v := ?_) rfl (by kernel_rfl) (by kernel_rfl) (by kernel_rfl) (fun _ _ _ h => h) (Or.inl ⟨by rfl, ?_⟩) (by assumption) ?_
                rotate_left
                · intro w hSw; (try dsimp only at hSw); go_simp <;> with_reducible rfl
                (try simp only [Act.put, List.getElem_toArray, List.getElem_cons_zero, List.getElem_cons_succ, List.setIfInBounds_toArray, List.set_cons_zero, List.set_cons_succ])
                refine wpAnyH_take (i := 9) (v := ?_) rfl (by kernel_rfl) (by kernel_rfl) (by kernel_rfl) (fun _ _ _ h => h) (Or.inl ⟨by rfl, ?_⟩) (by assumption) ?_
                rotate_left
                · intro w hSw; (try dsimp only at hSw); go_simp <;> with_reducible rfl
                (try simp only [Act.put, List.getElem_toArray, List.getElem_cons_zero, List.getElem_cons_succ, List.setIfInBounds_toArray, List.set_cons_zero, List.set_cons_succ])
                refine wpAnyH_take (i := 10) (v := ?_) rfl (by kernel_rfl) (by kernel_rfl) (by kernel_rfl) (fun _ _ _ h => h) (Or.inl ⟨by rfl, ?_⟩) (by assumption) ?_
                rotate_left
                · intro w hSw; (try dsimp only at hSw); go_simp <;> with_reducible rfl
                (try simp only [Act.put, List.getElem_toArray, List.getElem_cons_zero, List.getElem_cons_succ, List.setIfInBounds_toArray, List.set_cons_zero, List.set_cons_succ])
                refine wpAnyH_take (i := 11) (v := ?_) rfl (by kernel_rfl) (by kernel_rfl) (by kernel_rfl) (fun _ _ _ h => h) (Or.inl ⟨by rfl, ?_⟩) (by assumption) ?_
                rotate_left
                · intro w hSw; (try dsimp only at hSw); go_simp <;> with_reducible rfl
                (try simp only [Act.put, List.getElem_toArray, List.getElem_cons_zero, List.getElem_cons_succ, List.setIfInBounds_toArray, List.set_cons_zero, List.set_cons_succ])
                refine wpAnyH_take (i := 12) (v := ?_) rfl (by kernel_rfl) (by kernel_rfl) (by kernel_rfl) (fun _ _ _ h => h) (Or.inl ⟨by rfl, ?_⟩) (by assumption) ?_
                rotate_left
                · intro w hSw; (try dsimp only at hSw); go_simp <;> with_reducible rfl
                (try simp only [Act.put, List.getElem_toArray, List.getElem_cons_zero, List.getElem_cons_succ, List.setIfInBounds_toArray, List.set_cons_zero, List.set_cons_succ])
                refine wpAnyH_take (i := 13) (v := ?_) rfl (by kernel_rfl) (by kernel_rfl) (by kernel_rfl) (fun _ _ _ h => h) (Or.inl ⟨by rfl, ?_⟩) (by assumption) ?_
                rotate_left
                · intro w hSw; (try dsimp only at hSw); go_simp <;> with_reducible rfl
                (try simp only [Act.put, List.getElem_toArray, List.getElem_cons_zero, List.getElem_cons_succ, List.setIfInBounds_toArray, List.set_cons_zero, List.set_cons_succ])
                refine wpAnyH_take (i := 14) (v := ?_) rfl (by kernel_rfl) (by kernel_rfl) (by kernel_rfl) (fun _ _ _ h => h) (Or.inl ⟨by rfl, ?_⟩) (by assumption) ?_
                rotate_left
                · intro w hSw; (try dsimp only at hSw); go_simp <;> with_reducible rfl
                (try simp only [Act.put, List.getElem_toArray, List.getElem_cons_zero, List.getElem_cons_succ, List.setIfInBounds_toArray, List.set_cons_zero, List.set_cons_succ])
                refine wpAnyH_take (i := 15) (v := ?_) rfl (by kernel_rfl) (by kernel_rfl) (by kernel_rfl) (fun _ _ _ h => h) (Or.inl ⟨by rfl, ?_⟩) (by assumption) ?_
                rotate_left
                · intro w hSw; (try dsimp only at hSw); go_simp <;> with_reducible rfl
                (try simp only [Act.put, List.getElem_toArray, List.getElem_cons_zero, List.getElem_cons_succ, List.setIfInBounds_toArray, List.set_cons_zero, List.set_cons_succ])
                refine wpAnyH_take (i := 16) (v := ?_) rfl (by kernel_rfl) (by kernel_rfl) (by kernel_rfl) (fun _ _ _ h => h) (Or.inl ⟨by rfl, ?_⟩) (by assumption) ?_
                rotate_left
                · intro w hSw; (try dsimp only at hSw); go_simp <;> with_reducible rfl
                (try simp only [Act.put, List.getElem_toArray, List.getElem_cons_zero, List.getElem_cons_succ, List.setIfInBounds_toArray, List.set_cons_zero, List.set_cons_succ])
                refine wpAnyH_take (i := 17) (v := ?_) rfl (by kernel_rfl) (by kernel_rfl) (by kernel_rfl) (fun _ _ _ h => h) (Or.inl ⟨by rfl, ?_⟩) (by assumption) ?_
                rotate_left
                · intro w hSw; (try dsimp only at hSw); go_simp <;> with_reducible rfl
                (try simp only [Act.put, List.getElem_toArray, List.getElem_cons_zero, List.getElem_cons_succ, List.setIfInBounds_toArray, List.set_cons_zero, List.set_cons_succ])
                refine wpAnyH_take (i := 18) (v := ?_) rfl (by kernel_rfl) (by kernel_rfl) (by kernel_rfl) (fun _ _ _ h => h) (Or.inl ⟨by rfl, ?_⟩) (by assumption) ?_
                rotate_left
                · intro w hSw; (try dsimp only at hSw); go_simp <;> with_reducible rfl
                (try simp only [Act.put, List.getElem_toArray, List.getElem_cons_zero, List.getElem_cons_succ, List.setIfInBounds_toArray, List.set_cons_zero, List.set_cons_succ])
                refine wpAnyH_take (i := 19) (v := ?_) rfl (by kernel_rfl) (by kernel_rfl) (by kernel_rfl) (fun _ _ _ h => h) (Or.inl ⟨by rfl, ?_⟩) (by assumption) ?_
                rotate_left
                · intro w hSw; (try dsimp only at hSw); go_simp <;> with_reducible rfl
                (try simp only [Act.put, List.getElem_toArray, List.getElem_cons_zero, List.getElem_cons_succ, List.setIfInBounds_toArray, List.set_cons_zero, List.set_cons_succ])
                refine wpAnyH_take (i := 20) (v := ?_) rfl (by kernel_rfl) (by kernel_rfl) (by kernel_rfl) (fun _ _ _ h => h) (Or.inl ⟨by rfl, ?_⟩) (by assumption) ?_
                rotate_left
                · intro w hSw; (try dsimp only at hSw); go_simp <;> with_reducible rfl
                (try simp only [Act.put, List.getElem_toArray, List.getElem_cons_zero, List.getElem_cons_succ, List.setIfInBounds_toArray, List.set_cons_zero, List.set_cons_succ])
                refine wpAnyH_take (i := 21) (v := ?_) rfl (by kernel_rfl) (by kernel_rfl) (by kernel_rfl) (fun _ _ _ h => h) (Or.inl ⟨by rfl, ?_⟩) (by assumption) ?_
                rotate_left
                · intro w hSw; (try dsimp only at hSw); go_simp <;> with_reducible rfl
                (try simp only [Act.put, List.getElem_toArray, List.getElem_cons_zero, List.getElem_cons_succ, List.setIfInBounds_toArray, List.set_cons_zero, List.set_cons_succ])
                refine wpAnyH_take (i := 22) (v := ?_) rfl (by kernel_rfl) (by kernel_rfl) (by kernel_rfl) (fun _ _ _ h => h) (Or.inl ⟨by rfl, ?_⟩) (by assumption) ?_
                rotate_left
                · intro w hSw; (try dsimp only at hSw); go_simp <;> with_reducible rfl
                (try simp only [Act.put, List.getElem_toArray, List.getElem_cons_zero, List.getElem_cons_succ, List.setIfInBounds_toArray, List.set_cons_zero, List.set_cons_succ])
                refine wpAnyH_done (by kernel_rfl) ?_ _
                go_wp2
                go_roundw
                case rel => exact ⟨b, i + 1, rfl, by go_num, by omega, best_keep HBE.out hiL hbL (by rw [← HX.out, ← HY.out]; omega), HF.out.drew⟩
                case measure => simp [intOf] <;> omega
        · obtain rfl : i = N := by omega
          have hlv : ∃ b : Nat, ∃ hb : b < L.length, z = b ∧ 0 < L[b].2 ∧ (∀ j, (hj : j < L.length) → L[j].2 ≤ L[b].2) ∧ ∀ j, (hj : j < b) → L[j].2 < L[b].2 := by
            have hl := HLN.out
            rcases HBE.out with ⟨_, h⟩ | ⟨b, hb, h1, h2, h3, h4, h5⟩
            · have hnil : live L = [] := List.filter_eq_nil_iff.2 fun q hq => by
                obtain ⟨k, hk, rfl⟩ := List.getElem_of_mem hq
                have := h k hk (by omega)
                simp [this]
              have h6 := HF.out.same
              rw [hnil, List.drop_eq_getElem_cons (by rw [HSN.out]; exact hjN)] at h6
              exact absurd (h6.symm.mem (List.mem_cons_self)) (by simp)
            · exact ⟨b, hb, h1, h3, fun k hk => h4 k hk (by omega), fun k hk => h5 k (by omega) hk⟩
          obtain ⟨b, hbL, rfl, k1, k2, k3⟩ := hlv
          obtain ⟨s1, s2⟩ := sel_step (x := S[j]'(by rw [HSN.out]; exact hjN)) (rest := S.drop (j + 1)) (by rw [← List.drop_eq_getElem_cons (by rw [HSN.out]; exact hjN)]; exact HT.out.drop j) (by have h := HF.out.same; rw [List.drop_eq_getElem_cons (by rw [HSN.out]; exact hjN)] at h; exact h) b hbL k1 k2 k3
          have HS2 := Lib.hid s2
          obtain ⟨q, hq⟩ : ∃ q, q = L[b] := ⟨_, rfl⟩
          have HQ := Lib.hid hq
          have HTK := Lib.hid (show pxCells ((S.take (j + 1)).map (·.1)) = pxCells ((S.take j).map (·.1)) ++ pxCs q.1 by
            rw [List.take_succ_eq_append_getElem (by rw [HSN.out]; exact hjN), List.map_append, pxCells_append, ← s1, ← hq]; simp [pxCells])
          have q0 : wr.cell? ⟨g, off + b * 5, none⟩ = some (.int .u8 q.1.r.toNat) := by rw [hq]; exact HF.out.cnt b hbL 0 (by omega)
          have q1 : wr.cell? ⟨g, off + b * 5 + 1, none⟩ = some (.int .u8 q.1.g.toNat) := by rw [hq]; exact HF.out.cnt b hbL 1 (by omega)
          have q2 : wr.cell? ⟨g, off + b * 5 + 2, none⟩ = some (.int .u8 q.1.b.toNat) := by rw [hq]; exact HF.out.cnt b hbL 2 (by omega)
          have q3 : wr.cell? ⟨g, off + b * 5 + 3, none⟩ = some (.int .u8 q.1.a.toNat) := by rw [hq]; exact HF.out.cnt b hbL 3 (by omega)
          have p0 : (0 : Int) ≤ (b : Int) := by omega
          have p1 : (b : Int) < (i : Int) := by have := HLN.out; omega
          have hown := HF.out.own
          have hblk : ∀ G, (Value.slice Ao j co).ownBlock = some G → w1.heap.size ≤ G ∧ G < wr.heap.size := fun G hG => hown.lt G hG
          have hzB := HF.out.bel.size
          obtain ⟨i0, hi, hz0, hz1, hz2⟩ := info_parts pxInfo
          clear hq s1 s2 k1 k2 k3
          go_wp2_with (at_builtin; refine wpList_append_S rfl (.tmp 52) (.tmp 58) 22 22 rfl (w1.heap.size) 46 i0 _ 4 4 Tryd.underlying22 hi hz0 hz1 hz2 rfl (by decide) (.slice Ao j co) (j) (pxCells ((S.take j).map (·.1))) rfl (hown.alloc _) (pxCells_one _) (1) ([.int .u8 q.1.r.toNat, .int .u8 q.1.g.toNat, .int .u8 q.1.b.toNat, .int .u8 q.1.a.toNat]) (Src.made Tryd.underlying22 (by first | rfl | simp) rfl (by intro u hu; exact pxCells_one [q.1] u hu)) (j + 1) (by omega) (pxCells ((S.take (j + 1)).map (·.1))) (by rw [HTK.out]; rfl) (by unfold maxLen; omega) (by omega) (by first | omega | (simp; done) | (simp; omega)) ?_; intro A' c' w4 hown4 hg4 hat4; have HU4 := Lib.hid ((HF.out.use.alloc (.cells #[.int .u8 q.1.r.toNat, .int .u8 q.1.g.toNat, .int .u8 q.1.b.toNat, .int .u8 q.1.a.toNat] 46)).kept hg4 (.inr (fun e => by have := (hblk g e.symm).1; omega))); obtain ⟨u4, hu4⟩ := Option.isSome_iff_exists.1 (HU4.out.there b (by omega) 4 (by omega)).1; have f4 := (HU4.out.there b (by omega) 4 (by omega)).2)
          go_roundw
          case rel =>
            refine ⟨j + 1, L.set b (L[b].1, 0), ⟨by omega, hown4.setCell (fun e => by have := (hown4.lt _ e).1; simp at this; omega) _, ?_, by rw [List.length_set]; exact HLN.out, HS2.out, ?_⟩⟩
            · have h := HU4.out.setAt (b * 5 + 4) (by have := HLN.out; omega) (.int .i64 ((0 : Nat) : Int))
              rw [← Nat.add_assoc] at h
              have e := useCells_set L b hbL 0
              unfold useCells at e
              rw [e]
              exact h
            · exact ((HF.out.bel.alloc (by omega) _).grown hg4 (by simp; omega) (fun G hG => by have := (hblk G hG).1; omega)).setCell (by show w.heap.size + 1 ≤ g; omega) _
          case measure => simp [sLen] <;> omega
    · have e : j = m := by omega
      subst e
      have hbl := HF.out.bel
      go_wp2
      go_ret
      exact ⟨Ao, co, rfl, HF.out.own.mono hbw.out.size, hbw.out.trans (hbl.mono (by omega))⟩
end Go.Proofs.YtlpcmeodbigpjaaDoor
/- A sorted list of the same elements is there. -/
namespace Go.Proofs.YtlpcmeodbigpjaaDoor
namespace Stab
variable {α : Type} {k : α → Int}
/-- There is a sorted list of the same elements. -/
theorem put_in (x : α) : ∀ {S : List α}, Srt k S → ∃ T, Same k (x :: S) T ∧ Srt k T ∧ T.length = S.length + 1 ∧ ∀ y ∈ T, y = x ∨ y ∈ S
  | [], _ => ⟨[x], Same.refl _, srt_one x, rfl, fun y hy => .inl (List.mem_singleton.1 hy)⟩
  | y :: r, h => by
    obtain ⟨h1, h2⟩ := List.pairwise_cons.1 h
    by_cases hxy : k x ≤ k y
    · refine ⟨x :: y :: r, Same.refl _, List.pairwise_cons.2 ⟨fun z hz => ?_, h⟩, rfl, fun z hz => (List.mem_cons.1 hz).imp id id⟩
      rcases List.mem_cons.1 hz with e | e
      · rw [e]; exact hxy
      · have := h1 z e; omega
    · obtain ⟨T, t1, t2, t3, t4⟩ := put_in x (S := r) h2
      refine ⟨y :: T, ?_, List.pairwise_cons.2 ⟨fun z hz => ?_, t2⟩, by rw [List.length_cons, t3, List.length_cons], fun z hz => ?_⟩
      · have e : Same k ([x] ++ [y]) ([y] ++ [x]) := Same.swap fun a ha b hb e => by
          rw [List.mem_singleton.1 ha, List.mem_singleton.1 hb] at e
          omega
        have e2 := e.append (Same.refl r)
        exact e2.trans ((Same.refl [y]).append t1)
      · rcases t4 z hz with e | e
        · rw [e]; omega
        · exact h1 z e
      · rcases List.mem_cons.1 hz with e | e
        · exact .inr (e ▸ List.mem_cons_self)
        · rcases t4 z e with e | e
          · exact .inl e
          · exact .inr (List.mem_cons_of_mem _ e)
theorem stable_there : ∀ l : List α, ∃ S, Same k l S ∧ Srt k S ∧ S.length = l.length
  | [] => ⟨[], Same.refl _, List.Pairwise.nil, rfl⟩
  | x :: l => by
    obtain ⟨S, s1, s2, s3⟩ := stable_there l
    obtain ⟨T, t1, t2, t3, _⟩ := put_in (k := k) x s2
    exact ⟨T, ((Same.refl [x]).append s1).trans t1, t2, by rw [t3, s3, List.length_cons]⟩
end Stab
end Go.Proofs.YtlpcmeodbigpjaaDoor
/- ColorsReduce: the law's walk. Printed by mklred.py. -/
namespace Go.Proofs.YtlpcmeodbigpjaaDoor
open Go Go.RowKit
open Stab Col

/-- What stands through the law. -/
structure QR (w : World) (W H : Int) (A : Option Addr) (n c : Nat) (ps : List Px) (E : Nat → Addr) (wi : World) : Prop where
  b1 : Blk wi w.heap.size 24 #[.int .i64 W, .int .i64 H, .slice A n c]
  hp : Reads wi wi.heap.size 4 A n (pxCells ps)
  hE : ErrsAt wi E
  bel : Below w.heap.size w wi
theorem QR.step {w : World} {W H : Int} {A : Option Addr} {n c : Nat} {ps : List Px} {E : Nat → Addr} {wi wj : World} (h : QR w W H A n c ps E wi) (hb : Below wi.heap.size wi wj) : QR w W H A n c ps E wj :=
  ⟨h.b1.below hb h.b1.lt, (h.hp.below hb (Nat.le_refl _)).more hb.size, h.hE.below hb, h.bel.trans (hb.mono h.bel.size)⟩
set_option maxRecDepth 100000 in
set_option maxHeartbeats 2000000 in
theorem colorsReduce_any (W H : Int) (A : Option Addr) (n c : Nat) (ps : List Px) (most : Int) (E : Nat → Addr) (w : World) (hp : Reads w w.heap.size 4 A n (pxCells ps)) (hE : ErrsAt w E) :
    Calls Tryd.prog 3 #[.agg #[.int .i64 W, .int .i64 H, .slice A n c], .int .i64 most] w fun e w' => e = .returned (.bool true) ∧ Below w.heap.size w w' := by
  go_enter Tryd.func3, Tryd.ntmps3
  have N0 : QR w W H A n c ps E (w.alloc (.cells #[.int .i64 W, .int .i64 H, .slice A n c] 24)) :=
    ⟨Blk.new _ _ _ rfl, (hp.alloc (Nat.le_refl _) _).more (by first | omega | (simp; done) | (simp; omega)), hE.below (by go_grown), by go_grown⟩
  go_wp2_with fail
  refine (grey_any _).mono ?_
  rintro e w1 ⟨rfl, hb1⟩
  have N1 := N0.step hb1
  clear N0 hb1
  have cB := N1.b1.cell
  go_wp2_with fail
  refine (small_any W H A n c _).mono ?_
  rintro e w2 ⟨rfl, hb2⟩
  have N2 := N1.step hb2
  clear N1 hb2 cB
  have cB := N2.b1.cell
  by_cases hsm : n ≤ 3000
  · rw [decide_eq_true hsm]
    by_cases h60 : 60 < most
    · by_cases h256 : most ≤ 256
      · go_wp2
        go_ret
        exact ⟨rfl, N2.bel⟩
      · have h256' : 256 < most := by omega
        have hm : sideB most = false := by simp [sideB]; omega
        have h1 : ¬ most < 1 := by omega
        cases hr : rightB W H n with
        | false =>
          go_wp2_with fail
          refine (own_any W H A n c ps _ N2.hp (by omega)).mono ?_
          rintro e w3 ⟨A3, c3, rfl, hown3, hb3⟩
          have N3 := N2.step hb3
          have r3 := hown3.reads.2
          clear N2 hb3 hown3 cB
          go_wp2_with fail
          refine (reduce_shape W H A3 n c3 most E _ N3.hE hr).mono ?_
          rintro e w4 ⟨rfl, hb4⟩
          have N4 := N3.step hb4
          
          clear N3
          have cB := N4.b1.cell
          go_wp2_with fail
          refine (pright_any W H A n c _).mono ?_
          rw [hr]
          rintro e w5 ⟨rfl, hb5⟩
          have N5 := N4.step hb5
          
          clear N4
          have cB := N5.b1.cell
          go_wp2_with fail
          refine (coded_sent E 2 (by omega) 3 _ N5.hE).mono ?_
          rintro e w6 ⟨rfl, hb6⟩
          have N6 := N5.step hb6
          
          clear N5
          have cB := N6.b1.cell
          go_wp2
          go_ret
          exact ⟨rfl, N6.bel⟩
        | true =>
          go_wp2_with fail
          refine (own_any W H A n c ps _ N2.hp (by omega)).mono ?_
          rintro e w3 ⟨A3, c3, rfl, hown3, hb3⟩
          have N3 := N2.step hb3
          have r3 := hown3.reads.2
          clear N2 hb3 hown3 cB
          go_wp2_with fail
          refine (reduce_bound W H A3 n c3 ps most E _ r3 N3.hE hr hm).mono ?_
          rintro e w4 ⟨rfl, hb4⟩
          have N4 := N3.step hb4
          
          clear N3
          have cB := N4.b1.cell
          go_wp2_with fail
          refine (pright_any W H A n c _).mono ?_
          rw [hr]
          rintro e w5 ⟨rfl, hb5⟩
          have N5 := N4.step hb5
          
          clear N4
          have cB := N5.b1.cell
          go_wp2_with fail
          refine (coded_sent E 1 (by omega) 2 _ N5.hE).mono ?_
          rintro e w6 ⟨rfl, hb6⟩
          have N6 := N5.step hb6
          
          clear N5
          have cB := N6.b1.cell
          go_wp2
          go_ret
          exact ⟨rfl, N6.bel⟩
    · have h60' : ¬ 60 < most := h60
      by_cases h1 : most < 1
      · have hm : sideB most = false := by simp [sideB]; omega
        cases hr : rightB W H n with
        | false =>
          go_wp2_with fail
          refine (own_any W H A n c ps _ N2.hp (by omega)).mono ?_
          rintro e w3 ⟨A3, c3, rfl, hown3, hb3⟩
          have N3 := N2.step hb3
          have r3 := hown3.reads.2
          clear N2 hb3 hown3 cB
          go_wp2_with fail
          refine (reduce_shape W H A3 n c3 most E _ N3.hE hr).mono ?_
          rintro e w4 ⟨rfl, hb4⟩
          have N4 := N3.step hb4
          
          clear N3
          have cB := N4.b1.cell
          go_wp2_with fail
          refine (pright_any W H A n c _).mono ?_
          rw [hr]
          rintro e w5 ⟨rfl, hb5⟩
          have N5 := N4.step hb5
          
          clear N4
          have cB := N5.b1.cell
          go_wp2_with fail
          refine (coded_sent E 2 (by omega) 3 _ N5.hE).mono ?_
          rintro e w6 ⟨rfl, hb6⟩
          have N6 := N5.step hb6
          
          clear N5
          have cB := N6.b1.cell
          go_wp2
          go_ret
          exact ⟨rfl, N6.bel⟩
        | true =>
          go_wp2_with fail
          refine (own_any W H A n c ps _ N2.hp (by omega)).mono ?_
          rintro e w3 ⟨A3, c3, rfl, hown3, hb3⟩
          have N3 := N2.step hb3
          have r3 := hown3.reads.2
          clear N2 hb3 hown3 cB
          go_wp2_with fail
          refine (reduce_bound W H A3 n c3 ps most E _ r3 N3.hE hr hm).mono ?_
          rintro e w4 ⟨rfl, hb4⟩
          have N4 := N3.step hb4
          
          clear N3
          have cB := N4.b1.cell
          go_wp2_with fail
          refine (pright_any W H A n c _).mono ?_
          rw [hr]
          rintro e w5 ⟨rfl, hb5⟩
          have N5 := N4.step hb5
          
          clear N4
          have cB := N5.b1.cell
          go_wp2_with fail
          refine (coded_sent E 1 (by omega) 2 _ N5.hE).mono ?_
          rintro e w6 ⟨rfl, hb6⟩
          have N6 := N5.step hb6
          
          clear N5
          have cB := N6.b1.cell
          go_wp2
          go_ret
          exact ⟨rfl, N6.bel⟩
      · have h256' : ¬ 256 < most := by omega
        have hm : sideB most = true := by simp [sideB]; omega
        cases hr : rightB W H n with
        | false =>
          go_wp2_with fail
          refine (own_any W H A n c ps _ N2.hp (by omega)).mono ?_
          rintro e w3 ⟨A3, c3, rfl, hown3, hb3⟩
          have N3 := N2.step hb3
          have r3 := hown3.reads.2
          clear N2 hb3 hown3 cB
          go_wp2_with fail
          refine (reduce_shape W H A3 n c3 most E _ N3.hE hr).mono ?_
          rintro e w4 ⟨rfl, hb4⟩
          have N4 := N3.step hb4
          
          clear N3
          have cB := N4.b1.cell
          go_wp2_with fail
          refine (pright_any W H A n c _).mono ?_
          rw [hr]
          rintro e w5 ⟨rfl, hb5⟩
          have N5 := N4.step hb5
          
          clear N4
          have cB := N5.b1.cell
          go_wp2_with fail
          refine (coded_sent E 2 (by omega) 3 _ N5.hE).mono ?_
          rintro e w6 ⟨rfl, hb6⟩
          have N6 := N5.step hb6
          
          clear N5
          have cB := N6.b1.cell
          go_wp2
          go_ret
          exact ⟨rfl, N6.bel⟩
        | true =>
          obtain ⟨m, rfl⟩ : ∃ m : Nat, most = m := ⟨most.toNat, by omega⟩
          have hpl := N2.hp.pxLen
          have hub := Col.uses_take_bounds ps ps.length (Nat.le_refl _)
          rw [List.take_length] at hub
          have hul : (Col.uses ps).length ≤ 3000 := by omega
          have hmm : 1 ≤ m ∧ m ≤ 60 := by omega
          have hul1 : 0 < (Col.uses ps).length := by
            obtain ⟨z1, z2, z3, z4⟩ := rightB_true hr
            have h0 : 0 < ps.length := by have := mul_side (W := W) (H := H) (by simp [sideB]; omega) (by simp [sideB]; omega); omega
            have := Col.uses_mem ps ps.length (Nat.le_refl _) ps[0] (by rw [List.take_length]; exact List.getElem_mem h0)
            rw [List.take_length] at this
            have h2 := List.length_pos_of_mem this
            rwa [List.length_map] at h2
          clear hpl hub
          by_cases hle : ((Col.uses ps).length : Int) ≤ (m : Int)
          · have HZ := Lib.hid (show Col.farSum ps ((Col.uses ps).map (·.1)) = 0 from Col.farSum_zero _ _ fun x hx => by
              have := Col.uses_mem ps ps.length (Nat.le_refl _) x (by rw [List.take_length]; exact hx)
              rwa [List.take_length] at this)
            go_wp2_with fail
            refine (own_any W H A n c ps _ N2.hp (by omega)).mono ?_
            rintro e w3 ⟨A3, c3, rfl, hown3, hb3⟩
            have N3 := N2.step hb3
            have r3 := hown3.reads.2
            clear N2 hb3 hown3 cB
            go_wp2_with fail
            refine (reduce_few W H A3 n c3 ps m _ r3 hr hm hle).mono ?_
            rintro e w4 ⟨Ar, cr, rfl, hor, hb4⟩
            have N4 := N3.step hb4
            have rr4 := hor.reads.2
            clear N3
            have cB := N4.b1.cell
            go_wp2_with fail
            refine (pright_any W H A n c _).mono ?_
            rw [hr]
            rintro e w5 ⟨rfl, hb5⟩
            have N5 := N4.step hb5
            have rr5 := (rr4.below hb5 (Nat.le_refl _)).more hb5.size
            clear N4
            have cB := N5.b1.cell
            go_wp2_with fail
            refine (mapOf_any W H A n c ps Ar (Col.uses ps).length cr _ _ N5.hp rr5 (by omega) (by omega) (by omega)).mono ?_
            rw [HZ.out]
            rintro e w6 ⟨Am, cm, rfl, _, hb6⟩
            have N6 := N5.step hb6
            
            clear N5
            have cB := N6.b1.cell
            go_wp2_with fail
            refine (countof_any W H A n c ps _ N6.hp (by omega)).mono ?_
            rintro e w7 ⟨Ac, cc, rfl, _, hb7⟩
            have N7 := N6.step hb7
            
            clear N6
            have cB := N7.b1.cell
            go_wp2
            go_ret
            exact ⟨rfl, N7.bel⟩
          · have hgt : m < (Col.uses ps).length := by omega
            obtain ⟨S, hS, hT, hSl⟩ := stable_there (k := useKey) (Col.uses ps)
            have HS := Lib.hid hS
            have HT := Lib.hid hT
            have HSL := Lib.hid hSl
            obtain ⟨f1, hf1⟩ : ∃ f, Col.farSum ps (red ps 8 ((S.take m).map (·.1))) = f := ⟨_, rfl⟩
            obtain ⟨f2, hf2⟩ : ∃ f, Col.farSum ps (Col.better ps ((S.take m).map (·.1))) = f := ⟨_, rfl⟩
            have hgt2 : ¬ (Col.uses ps).length ≤ m := by omega
            have hgd : decide ((Col.uses ps).length ≤ m) = false := decide_eq_false hgt2
            have hff : f1 ≤ f2 := by rw [← hf1, ← hf2]; exact red_better ps 7 _
            have HF1 := Lib.hid hf1
            have HF2 := Lib.hid hf2
            clear hS hT hSl hf1 hf2
            go_wp2_with fail
            refine (own_any W H A n c ps _ N2.hp (by omega)).mono ?_
            rintro e w3 ⟨A3, c3, rfl, hown3, hb3⟩
            have N3 := N2.step hb3
            have r3 := hown3.reads.2
            clear N2 hb3 hown3 cB
            go_wp2_with fail
            refine (reduce_many W H A3 n c3 ps m S m _ r3 hr hm rfl hgt HS.out HT.out).mono ?_
            rintro e w4 ⟨Ar, cr, rfl, hor, hb4⟩
            have N4 := N3.step hb4
            have rr4 := hor.reads.2
            clear N3
            have cB := N4.b1.cell
            go_wp2_with fail
            refine (pright_any W H A n c _).mono ?_
            rw [hr]
            rintro e w5 ⟨rfl, hb5⟩
            have N5 := N4.step hb5
            have rr5 := (rr4.below hb5 (Nat.le_refl _)).more hb5.size
            clear N4
            have cB := N5.b1.cell
            go_wp2_with fail
            refine (mapOf_any W H A n c ps Ar m cr _ _ N5.hp rr5 (by omega) (by omega) (by omega)).mono ?_
            rw [HF1.out]
            rintro e w6 ⟨Am, cm, rfl, _, hb6⟩
            have N6 := N5.step hb6
            
            clear N5
            have cB := N6.b1.cell
            go_wp2_with fail
            refine (countof_any W H A n c ps _ N6.hp (by omega)).mono ?_
            rintro e w7 ⟨Ac, cc, rfl, _, hb7⟩
            have N7 := N6.step hb7
            
            clear N6
            have cB := N7.b1.cell
            go_wp2_with fail
            have s0 : w7.cell? ⟨w.heap.size, 0, none⟩ = some (.int .i64 W) := (N7.b1.cell 0).trans rfl
            have s1 : w7.cell? ⟨w.heap.size, 1, none⟩ = some (.int .i64 H) := (N7.b1.cell 1).trans rfl
            have s2 : w7.cell? ⟨w.heap.size, 2, none⟩ = some (.slice A n c) := (N7.b1.cell 2).trans rfl
            have HN := Lib.hid N7
            clear N7 cB
            refine wp_region_held_drew (S := (fun w' => w'.cell? ⟨w.heap.size, 0, none⟩ = some (.int .i64 W) ∧ w'.cell? ⟨w.heap.size, 1, none⟩ = some (.int .i64 H) ∧ w'.cell? ⟨w.heap.size, 2, none⟩ = some (.slice A n c))) (by kernel_rfl) ?_ (fun hHeld => ?_)
            · exact ⟨s0, s1, s2⟩
            refine wpAnyH_take (i := 0) (v := ?_) rfl (by kernel_rfl) (by kernel_rfl) (by kernel_rfl) (fun _ _ _ h => h) (Or.inl ⟨by rfl, ?_⟩) (by assumption) ?_
            rotate_left
            · intro w hSw; (try dsimp only at hSw); go_simp <;> with_reducible rfl
            (try simp only [Act.put, List.getElem_toArray, List.getElem_cons_zero, List.setIfInBounds_toArray, List.set_cons_zero, List.set_cons_succ])
            refine wpAnyH_take (i := 1) (v := ?_) rfl (by kernel_rfl) (by kernel_rfl) (by kernel_rfl) (fun _ _ _ h => h) (Or.inl ⟨by rfl, ?_⟩) (by assumption) ?_
            rotate_left
            · intro w hSw; (try dsimp only at hSw); go_simp <;> with_reducible rfl
            (try simp only [Act.put, List.getElem_toArray, List.getElem_cons_zero, List.getElem_cons_succ, List.setIfInBounds_toArray, List.set_cons_zero, List.set_cons_succ])
            refine wpAnyH_take (i := 2) (v := ?_) rfl (by kernel_rfl) (by kernel_rfl) (by kernel_rfl) (fun _ _ _ h => h) (Or.inl ⟨by rfl, ?_⟩) (by assumption) ?_
            rotate_left
            · intro w hSw; (try dsimp only at hSw); go_simp <;> with_reducible rfl
            (try simp only [Act.put, List.getElem_toArray, List.getElem_cons_zero, List.getElem_cons_succ, List.setIfInBounds_toArray, List.set_cons_zero, List.set_cons_succ])
            refine wpAnyH_take (i := 3) (v := ?_) rfl (by kernel_rfl) (by kernel_rfl) (by kernel_rfl) (fun _ _ _ h => h) (Or.inl ⟨by rfl, ?_⟩) (by assumption) ?_
            rotate_left
            · intro w hSw; (try dsimp only at hSw); go_simp <;> with_reducible rfl
            (try simp only [Act.put, List.getElem_toArray, List.getElem_cons_zero, List.getElem_cons_succ, List.setIfInBounds_toArray, List.set_cons_zero, List.set_cons_succ])
            refine wpAnyH_ready (rs := [4]) (by kernel_rfl) (by simp) ?_
            refine AllReadyH.cons rfl (fun K hK => ?_) AllReadyH.nil
            go_simp
            (go_at_call 13; refine (mostUsed_any W H A n c ps S m w7.drew HN.out.hp (by omega) hgt HS.out HT.out HSL.out (by omega)).mono ?_; rintro e wA ⟨Au, cu, rfl, hou, hbA⟩; have hA := Below.fromDrew hbA)
            refine hK.out _ _ ?_ (fun hHeld => ?_)
            · exact ⟨bkeep hA s0, bkeep hA s1, bkeep hA s2⟩
            clear hK K
            (try simp only [Act.put, List.getElem_toArray, List.getElem_cons_zero, List.getElem_cons_succ, List.setIfInBounds_toArray, List.set_cons_zero, List.set_cons_succ])
            refine wpAnyH_ready (rs := [5]) (by kernel_rfl) (by simp) ?_
            refine AllReadyH.cons rfl (fun K hK => ?_) AllReadyH.nil
            go_simp
            (go_at_call 12; refine (betterOf_any W H A n c ps Au m cu _ wA (HN.out.step hA).hp hou.reads.2 (by omega) (by omega) (by omega)).mono ?_; rintro e wB ⟨Ab, cb, rfl, hob, hbB⟩; have hB := hA.trans (hbB.mono hA.size))
            refine hK.out _ _ ?_ (fun hHeld => ?_)
            · exact ⟨bkeep hB s0, bkeep hB s1, bkeep hB s2⟩
            clear hK K
            (try simp only [Act.put, List.getElem_toArray, List.getElem_cons_zero, List.getElem_cons_succ, List.setIfInBounds_toArray, List.set_cons_zero, List.set_cons_succ])
            refine wpAnyH_ready (rs := [6]) (by kernel_rfl) (by simp) ?_
            refine AllReadyH.cons rfl (fun K hK => ?_) AllReadyH.nil
            go_simp
            (go_at_call 10; refine (mapOf_any W H A n c ps Ab m cb _ wB (HN.out.step hB).hp hob.reads.2 (by omega) (by omega) (by omega)).mono ?_; rw [HF2.out]; rintro e wC ⟨Am2, cm2, rfl, _, hbC⟩; have hC := hB.trans (hbC.mono hB.size))
            refine hK.out _ _ ?_ (fun hHeld => ?_)
            · exact ⟨bkeep hC s0, bkeep hC s1, bkeep hC s2⟩
            clear hK K
            (try simp only [Act.put, List.getElem_toArray, List.getElem_cons_zero, List.getElem_cons_succ, List.setIfInBounds_toArray, List.set_cons_zero, List.set_cons_succ])
            refine wpAnyH_take (i := 7) (v := ?_) rfl (by kernel_rfl) (by kernel_rfl) (by kernel_rfl) (fun _ _ _ h => h) (Or.inl ⟨by rfl, ?_⟩) (by assumption) ?_
            rotate_left
            · intro w hSw; (try dsimp only at hSw); go_simp <;> with_reducible rfl
            (try simp only [Act.put, List.getElem_toArray, List.getElem_cons_zero, List.getElem_cons_succ, List.setIfInBounds_toArray, List.set_cons_zero, List.set_cons_succ])
            refine wpAnyH_take (i := 8) (v := ?_) rfl (by kernel_rfl) (by kernel_rfl) (by kernel_rfl) (fun _ _ _ h => h) (Or.inl ⟨by rfl, ?_⟩) (by assumption) ?_
            rotate_left
            · intro w hSw; (try dsimp only at hSw); go_simp <;> with_reducible rfl
            (try simp only [Act.put, List.getElem_toArray, List.getElem_cons_zero, List.getElem_cons_succ, List.setIfInBounds_toArray, List.set_cons_zero, List.set_cons_succ])
            refine wpAnyH_take (i := 9) (v := ?_) rfl (by kernel_rfl) (by kernel_rfl) (by kernel_rfl) (fun _ _ _ h => h) (Or.inl ⟨by rfl, ?_⟩) (by assumption) ?_
            rotate_left
            · intro w hSw; (try dsimp only at hSw); go_simp <;> with_reducible rfl
            (try simp only [Act.put, List.getElem_toArray, List.getElem_cons_zero, List.getElem_cons_succ, List.setIfInBounds_toArray, List.set_cons_zero, List.set_cons_succ])
            refine wpAnyH_take (i := 10) (v := ?_) rfl (by kernel_rfl) (by kernel_rfl) (by kernel_rfl) (fun _ _ _ h => h) (Or.inl ⟨by rfl, ?_⟩) (by assumption) ?_
            rotate_left
            · intro w hSw; (try dsimp only at hSw); go_simp <;> with_reducible rfl
            (try simp only [Act.put, List.getElem_toArray, List.getElem_cons_zero, List.getElem_cons_succ, List.setIfInBounds_toArray, List.set_cons_zero, List.set_cons_succ])
            refine wpAnyH_take (i := 11) (v := ?_) rfl (by kernel_rfl) (by kernel_rfl) (by kernel_rfl) (fun _ _ _ h => h) (Or.inl ⟨by rfl, ?_⟩) (by assumption) ?_
            rotate_left
            · intro w hSw; (try dsimp only at hSw); go_simp <;> with_reducible rfl
            (try simp only [Act.put, List.getElem_toArray, List.getElem_cons_zero, List.getElem_cons_succ, List.setIfInBounds_toArray, List.set_cons_zero, List.set_cons_succ])
            refine wpAnyH_done (by kernel_rfl) ?_ _
            go_wp2
            go_ret
            exact ⟨rfl, HN.out.bel.trans (hC.mono HN.out.bel.size)⟩
  · rw [decide_eq_false hsm]
    go_wp2
    go_ret
    exact ⟨rfl, N2.bel⟩
end Go.Proofs.YtlpcmeodbigpjaaDoor
