/- CodeF, FaultedE: put together. -/
import Derived.Test.YtncedhhgclofbaaDoorCode
import Derived.Test.YtncedhhgclofbaaDoorErrVal
/- plain.Code at a fault. -/
namespace Go.Proofs.YtncedhhgclofbaaDoor
open Go Go.RowKit

set_option maxRecDepth 100000 in
set_option maxHeartbeats 1000000 in
theorem code_fault (E : Nat → Addr) (i : Nat) (hi9 : i < 9) (pb po : Nat) (n : Int) (w : World) (hE : ErrsAt w E) (hn : w.cell? ⟨pb, po, none⟩ = some (.int .i64 n)) (he : w.cell? ⟨pb, po + 1, none⟩ = some (.iface 167 (.pointer (some (E i))))) :
    Calls Tryd.prog 37 #[.iface 65 (.pointer (some ⟨pb, po, none⟩))] w fun e w' => e = .returned (.tuple #[.int .i64 (i + 1 : Nat), .int .i64 n]) ∧ Below w.heap.size w w' := by
  go_enter Tryd.func37, Tryd.ntmps37
  go_wp2_with fail
  have lt := cell_lt hE.typ
  refine (as_hit ⟨pb, po, none⟩ ⟨w.heap.size, 0, none⟩ (.pointer none) _ (cell_past _ hE.typ) (cell_made _ _ _ rfl rfl) (free_made _ _ _ rfl)).mono ?_
  rintro e w1 ⟨rfl, hw1⟩
  have hb1 : Below w.heap.size w w1 := by rw [hw1]; go_grown
  have dt : w1.cell? ⟨w.heap.size, 0, none⟩ = some (.pointer (some ⟨pb, po, none⟩)) := by
    rw [hw1]
    exact cell_set_same _ (cell_past _ (cell_past _ (cell_past _ (cell_past _ (cell_made _ _ _ rfl rfl)))))
  have dn := bcell_ hb1 (cell_lt hn) hn
  clear hw1
  have hE1 := hE.below hb1
  have d0 := hE1.text
  have d1 := hE1.bound
  have d2 := hE1.shape
  have d3 := hE1.sum
  have d4 := hE1.name
  have d5 := hE1.none_
  have d6 := hE1.colors
  have d7 := hE1.full
  have d8 := hE1.power
  go_wp2_with fail
  go_loopw [3, 27] (fun a v wr => ∃ k, CoR w E i w1.heap.size n a v wr k) (fun _ v _ => 9 - (intOf v).toNat)
  case atStart => exact ⟨0, Nat.zero_le _, rfl, rfl, Blk.new _ _ _ rfl, Below.alloc hb1 hb1.size _⟩
  case round =>
    obtain ⟨k, hk, rfl, rfl, hlist, hb⟩ := hrel
    obtain ⟨wo, rfl⟩ : ∃ wo : World, wo = wr := ⟨_, rfl⟩
    have hEo := hE.below hb
    have hen := bcell_ hb (cell_lt he) he
    have dk : wo.cell? ⟨w1.heap.size, k, none⟩ = some (.iface 167 (.pointer (some (E k)))) := by
      rw [hlist.cell]
      have hk9 : k < 9 := by omega
      match k, hk9 with
      | 0, _ => rfl
      | 1, _ => rfl
      | 2, _ => rfl
      | 3, _ => rfl
      | 4, _ => rfl
      | 5, _ => rfl
      | 6, _ => rfl
      | 7, _ => rfl
      | 8, _ => rfl
    by_cases hki : k = i
    · subst hki
      go_wp2_with fail
      refine (is_fault_same pb po (E k) wo hen).mono ?_
      rintro e w3 ⟨rfl, rfl⟩
      go_wp2_with fail
      go_ret2
      exact ⟨rfl, hb⟩
    · obtain ⟨ci, ti, hbi⟩ := hEo.blk i hi9
      obtain ⟨ck, tk, hbk⟩ := hEo.blk k (by omega)
      have hne := hEo.ne i k hi9 (by omega) (fun e => hki e.symm)
      go_wp2_with fail
      refine (is_fault_other pb po (E k) (E i) ci ck ti tk wo hen hne hbi hbk).mono ?_
      rintro e w3 ⟨rfl, rfl⟩
      go_wp2_with fail
      go_roundw
      case rel => exact ⟨k + 1, by omega, rfl, by go_num, hlist, hb⟩
      case measure => simp [intOf]; omega
end Go.Proofs.YtncedhhgclofbaaDoor
/- layercakelaw3.faulted: the walk. -/
namespace Go.Proofs.YtncedhhgclofbaaDoor
open Go Go.RowKit

set_option maxRecDepth 100000 in
set_option maxHeartbeats 1000000 in
/-- faulted: an error of that number and that place. -/
theorem faulted_any (E : Nat → Addr) (v : Value) (c : Nat) (at_ : Int) (w : World) (hE : ErrsAt w E) (hv : ErrIs E w v (c, at_)) (hc : c ≤ 9) (hat : c = 0 ∨ -1 ≤ at_) :
    Calls Tryd.prog 14 #[v, .agg #[.int .i64 c, .int .i64 at_]] w fun e w' => e = .returned (.bool true) ∧ Below w.heap.size w w' := by
  have hb0 : Below w.heap.size w (w.alloc (.cells #[.int .i64 c, .int .i64 at_] 43)) := by go_grown
  have hE1 := hE.below hb0
  have B0 := Blk.new w 43 #[.int .i64 c, .int .i64 at_] rfl
  have hv1 := hv.below hb0
  have HE1 := Lib.hid hE1
  unfold ErrIs at hv1
  simp only at hv1
  by_cases h0 : c = 0
  · subst h0
    rw [if_pos rfl] at hv1
    subst hv1
    clear hE1 hE hv
    go_enter Tryd.func14, Tryd.ntmps14
    go_wp2_with fail
    refine (code_nil _).mono ?_
    rintro e w1 ⟨rfl, rfl⟩
    go_wp2_with fail
    go_ret
    exact ⟨rfl, hb0⟩
  · rw [if_neg h0] at hv1
    obtain ⟨i, rfl⟩ : ∃ i, c = i + 1 := ⟨c - 1, by omega⟩
    rw [show i + 1 - 1 = i by omega] at hv1
    by_cases h1 : at_ < 0
    · rw [if_pos h1] at hv1
      have e : at_ = -1 := by omega
      subst e
      unfold errV at hv1
      subst hv1
      clear hE1 hE hv hat h1
      go_enter Tryd.func14, Tryd.ntmps14
      go_wp2_with fail
      refine (code_sent E i (by omega) _ HE1.out).mono ?_
      rintro e w1 ⟨rfl, hb1⟩
      have B1 := B0.below hb1 (by simp)
      have c1 := B1.cell
      have hbw := hb0.trans (hb1.mono hb0.size)
      clear B0 hb1
      go_wp2_with fail
      go_ret
      exact ⟨rfl, hbw⟩
    · rw [if_neg h1] at hv1
      obtain ⟨b, rfl, hB⟩ := hv1
      have hz := hB.lt
      have hn : (w.alloc (.cells #[.int .i64 ((i + 1 : Nat) : Int), .int .i64 at_] 43)).cell? ⟨b, 0, none⟩ = some (.int .i64 at_) := (hB.cell 0).trans rfl
      have he : (w.alloc (.cells #[.int .i64 ((i + 1 : Nat) : Int), .int .i64 at_] 43)).cell? ⟨b, 0 + 1, none⟩ = some (.iface 167 (.pointer (some (E i)))) := (hB.cell 1).trans rfl
      have HN := Lib.hid hn
      have HEE := Lib.hid he
      clear hE1 hE hv hat hn he hB
      go_enter Tryd.func14, Tryd.ntmps14
      go_wp2_with fail
      refine (code_fault E i (by omega) b 0 at_ _ HE1.out HN.out HEE.out).mono ?_
      rintro e w1 ⟨rfl, hb1⟩
      have B1 := B0.below hb1 (by simp)
      have c1 := B1.cell
      have hbw := hb0.trans (hb1.mono hb0.size)
      clear B0 hb1
      go_wp2_with fail
      go_ret
      exact ⟨rfl, hbw⟩
end Go.Proofs.YtncedhhgclofbaaDoor
