/- layer.Flatten at a document with a fault; faulted: the walks. -/
import Derived.Test.YtmknacnmdlcieaaGreatDoorCheckBad
import Derived.Test.YtmknacnmdlcieaaGreatDoorCodeF
import Derived.Test.YtmknacnmdlcieaaGreatDoorCode
import Derived.Test.YtmknacnmdlcieaaGreatDoorFlatten
import Derived.Test.YtmknacnmdlcieaaGreatDoorPixLaw
namespace Go.Proofs.YtmknacnmdlcieaaGreatDoor
open Go Go.RowKit

/-- An error that is one. -/
theorem ErrIs.iface {E : Nat → Addr} {w : World} {v : Value} {f : Nat × Int} (h : ErrIs E w v f) (h0 : f.1 ≠ 0) : (∃ a : Addr, v = .iface 143 (.pointer (some a))) ∨ ∃ b : Nat, v = .iface 78 (.pointer (some ⟨b, 0, none⟩)) := by
  unfold ErrIs at h
  rw [if_neg h0] at h
  split at h
  · exact .inl ⟨_, h⟩
  · obtain ⟨b, e, _⟩ := h
    exact .inr ⟨b, e⟩

/-- A store into a block that is no fault. -/
theorem ErrIs.far {E : Nat → Addr} {w : World} {v : Value} {f : Nat × Int} {g t : Nat} {cs : Array Value} (h : ErrIs E w v f) (hb : Blk w g t cs) (hs : cs.size ≠ 2) (i : Nat) (u : Value) : ErrIs E (w.setCell ⟨g, i, none⟩ u) v f := by
  unfold ErrIs at h ⊢
  split
  · rename_i h0; rw [if_pos h0] at h; exact h
  · rename_i h0
    rw [if_neg h0] at h
    split
    · rename_i h1; rw [if_pos h1] at h; exact h
    · rename_i h1
      rw [if_neg h1] at h
      obtain ⟨b, e, hB⟩ := h
      refine ⟨b, e, hB.far (fun e2 => ?_) _⟩
      simp only at e2
      subst e2
      unfold Blk at hB hb
      rw [hB] at hb
      injection hb with hb
      injection hb with hb
      exact hs (by rw [← hb]; rfl)
theorem size_set (cs : Array Value) (i : Nat) (u : Value) {n : Nat} (h : cs.size ≠ n) : (cs.setIfInBounds i u).size ≠ n := by rw [Array.size_setIfInBounds]; exact h

set_option maxRecDepth 100000 in
set_option maxHeartbeats 2000000 in
theorem flatten_bad (W H : Int) (A : Option Addr) (n c : Nat) (ms : List LM) (E : Nat → Addr) (f : Nat × Int) (w : World) (hE : ErrsAt w E) (hL : Lays w w.heap.size A n ms) (hf : Lay.check W H (lsOf ms) = f) (h0 : f.1 ≠ 0) :
    Calls Tryz.prog 21 #[.agg #[.int .i64 W, .int .i64 H, .slice A n c]] w
      fun e w' => ∃ v, e = .returned (.tuple #[.agg #[.int .i64 0, .int .i64 0, .slice none 0 0], v]) ∧ ErrIs E w' v f ∧ Below w.heap.size w w' := by
  have HF := Lib.hid hf
  have H0 := Lib.hid h0
  have HE := Lib.hid hE
  have hL1 := fun o o2 => (hL.step (Below.alloc (Below.refl _ _) (Nat.le_refl _) o)).step (Below.alloc (Below.refl _ _) (Nat.le_refl _) o2)
  have HL1 := Lib.hid hL1
  have hb0 : ∀ o o2, Below w.heap.size w ((w.alloc o).alloc o2) := fun o o2 => by go_grown
  have HB0 := Lib.hid hb0
  clear hf h0 hE hL1 hb0
  go_enter Tryz.func21, Tryz.ntmps21
  go_wp2_with fail
  refine (check_any W H A n c ms E _ (HE.out.below (HB0.out _ _)) (HL1.out _ _)).mono ?_
  rw [HF.out]
  rintro e w1 ⟨v, rfl, hv, hb1⟩
  have B2 := (Blk.new (w.alloc (.cells #[.int .i64 W, .int .i64 H, .slice A n c] 39)) 27 #[.int .i64 0, .int .i64 0, .slice none 0 0] rfl).below hb1 (by simp)
  simp at B2
  have c2 := B2.cell
  have f2 := B2.free
  have hbw : Below w.heap.size w w1 := Below.trans (by go_grown) (hb1.mono (by simp; omega))
  have HV := Lib.hid hv
  have l2 := B2.lt
  clear hv hb1
  rcases HV.out.iface H0.out with ⟨a, rfl⟩ | ⟨b, rfl⟩
  · go_wp2_with fail
    refine bodyPost_ret (v := .tuple #[.agg #[.int .i64 0, .int .i64 0, .slice none 0 0], .iface 143 (.pointer (some a))]) (by simp [results, Tryz.results21, go_sem, c2]) rfl ⟨_, rfl, ?_, ?_⟩
    · exact (((HV.out.far B2 (by simp) 0 (.int .i64 0)).far (B2.set_ 0 (.int .i64 0)) (size_set _ _ _ (by simp)) 1 (.int .i64 0)).far ((B2.set_ 0 (.int .i64 0)).set_ 1 (.int .i64 0)) (size_set _ _ _ (size_set _ _ _ (by simp))) 2 (.slice none 0 0))
    · have hz2 : w.heap.size ≤ w.heap.size + 1 := by omega
      exact (((hbw.setCell hz2 _).setCell hz2 _).setCell hz2 _)
  · go_wp2_with fail
    refine bodyPost_ret (v := .tuple #[.agg #[.int .i64 0, .int .i64 0, .slice none 0 0], .iface 78 (.pointer (some ⟨b, 0, none⟩))]) (by simp [results, Tryz.results21, go_sem, c2]) rfl ⟨_, rfl, ?_, ?_⟩
    · exact (((HV.out.far B2 (by simp) 0 (.int .i64 0)).far (B2.set_ 0 (.int .i64 0)) (size_set _ _ _ (by simp)) 1 (.int .i64 0)).far ((B2.set_ 0 (.int .i64 0)).set_ 1 (.int .i64 0)) (size_set _ _ _ (size_set _ _ _ (by simp))) 2 (.slice none 0 0))
    · have hz2 : w.heap.size ≤ w.heap.size + 1 := by omega
      exact (((hbw.setCell hz2 _).setCell hz2 _).setCell hz2 _)

set_option maxRecDepth 100000 in
set_option maxHeartbeats 1000000 in
/-- faulted: an error of that number and that place. -/
theorem faulted_any (E : Nat → Addr) (v : Value) (c : Nat) (at_ : Int) (w : World) (hE : ErrsAt w E) (hv : ErrIs E w v (c, at_)) (hc : c ≤ 9) (hat : c = 0 ∨ -1 ≤ at_) :
    Calls Tryz.prog 34 #[v, .agg #[.int .i64 c, .int .i64 at_]] w fun e w' => e = .returned (.bool true) ∧ Below w.heap.size w w' := by
  have hb0 : Below w.heap.size w (w.alloc (.cells #[.int .i64 c, .int .i64 at_] 34)) := by go_grown
  have hE1 := hE.below hb0
  have B0 := Blk.new w 34 #[.int .i64 c, .int .i64 at_] rfl
  have hv1 := hv.below hb0
  have HE1 := Lib.hid hE1
  unfold ErrIs at hv1
  simp only at hv1
  by_cases h0 : c = 0
  · subst h0
    rw [if_pos rfl] at hv1
    subst hv1
    clear hE1 hE hv
    go_enter Tryz.func34, Tryz.ntmps34
    go_wp2_with fail
    refine (code_nil _).mono ?_
    rintro e w1 ⟨rfl, rfl⟩
    go_wp2_with fail
    go_ret
    exact ⟨rfl, hb0⟩
  · rw [if_neg h0] at hv1
    obtain ⟨i, rfl⟩ : ∃ i, c = i + 1 := ⟨c - 1, by omega⟩
    rw [show i + 1 - 1 = i by omega] at hv1
    by_cases h1 : at_ < 0
    · rw [if_pos h1] at hv1
      have e : at_ = -1 := by omega
      subst e
      unfold errV at hv1
      subst hv1
      clear hE1 hE hv hat h1
      go_enter Tryz.func34, Tryz.ntmps34
      go_wp2_with fail
      refine (code_sent E i (by omega) _ HE1.out).mono ?_
      rintro e w1 ⟨rfl, hb1⟩
      have B1 := B0.below hb1 (by simp)
      have c1 := B1.cell
      have hbw := hb0.trans (hb1.mono hb0.size)
      clear B0 hb1
      go_wp2_with fail
      go_ret
      exact ⟨rfl, hbw⟩
    · rw [if_neg h1] at hv1
      obtain ⟨b, rfl, hB⟩ := hv1
      have hz := hB.lt
      have hn : (w.alloc (.cells #[.int .i64 ((i + 1 : Nat) : Int), .int .i64 at_] 34)).cell? ⟨b, 0, none⟩ = some (.int .i64 at_) := (hB.cell 0).trans rfl
      have he : (w.alloc (.cells #[.int .i64 ((i + 1 : Nat) : Int), .int .i64 at_] 34)).cell? ⟨b, 0 + 1, none⟩ = some (.iface 143 (.pointer (some (E i)))) := (hB.cell 1).trans rfl
      have HN := Lib.hid hn
      have HEE := Lib.hid he
      clear hE1 hE hv hat hn he hB
      go_enter Tryz.func34, Tryz.ntmps34
      go_wp2_with fail
      refine (code_fault E i (by omega) b 0 at_ _ HE1.out HN.out HEE.out).mono ?_
      rintro e w1 ⟨rfl, hb1⟩
      have B1 := B0.below hb1 (by simp)
      have c1 := B1.cell
      have hbw := hb0.trans (hb1.mono hb0.size)
      clear B0 hb1
      go_wp2_with fail
      go_ret
      exact ⟨rfl, hbw⟩
end Go.Proofs.YtmknacnmdlcieaaGreatDoor
