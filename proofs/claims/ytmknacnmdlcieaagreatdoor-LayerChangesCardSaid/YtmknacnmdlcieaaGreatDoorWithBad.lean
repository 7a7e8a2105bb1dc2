/- with, Remove, Move, Merge at a document with a fault, or at a name that is not there: the walks. -/
import Derived.Test.YtmknacnmdlcieaaGreatDoorFaulted
import Derived.Test.YtmknacnmdlcieaaGreatDoorFind
import Derived.Deep.QuietTactic
import Derived.BigQuiet
namespace Go.Proofs.YtmknacnmdlcieaaGreatDoor
open Go Go.RowKit

def zeroDoc : Value := .agg #[.int .i64 0, .int .i64 0, .slice none 0 0]
/-- A change that is not made, and why. -/
def WithBad (W H : Int) (ls : List Lay.Layer) (s : ByteArray) (f : Nat × Int) : Prop := (Lay.check W H ls = f ∧ f.1 ≠ 0) ∨ (Lay.Good W H ls ∧ Lay.find ls s = -1 ∧ f = (6, -1))
theorem WithBad.ne {W H : Int} {ls : List Lay.Layer} {s : ByteArray} {f : Nat × Int} (h : WithBad W H ls s f) : f.1 ≠ 0 := by
  rcases h with ⟨_, h⟩ | ⟨_, _, rfl⟩
  · exact h
  · simp
def BadPost (E : Nat → Addr) (f : Nat × Int) (w : World) (e : Ending) (w' : World) : Prop := ∃ v, e = .returned (.tuple #[.agg #[.int .i64 0, .int .i64 0, .slice none 0 0], v]) ∧ ErrIs E w' v f ∧ Below w.heap.size w w'
/-- Three stores of nothing into a block of three cells. -/
theorem ErrIs.zero3 {E : Nat → Addr} {w : World} {v : Value} {f : Nat × Int} {g t : Nat} {cs : Array Value} (h : ErrIs E w v f) (hb : Blk w g t cs) (hs : cs.size = 3) (a b c : Value) : ErrIs E (((w.setCell ⟨g, 0, none⟩ a).setCell ⟨g, 1, none⟩ b).setCell ⟨g, 2, none⟩ c) v f :=
  (((h.far hb (by omega) 0 a).far (hb.set_ 0 a) (size_set _ _ _ (by omega)) 1 b).far ((hb.set_ 0 a).set_ 1 b) (size_set _ _ _ (size_set _ _ _ (by omega))) 2 c)

set_option maxRecDepth 100000 in
set_option maxHeartbeats 2000000 in
theorem with_fault (W H : Int) (A : Option Addr) (n c : Nat) (s : ByteArray) (how : Value) (ms : List LM) (E : Nat → Addr) (f : Nat × Int) (w : World) (hE : ErrsAt w E) (hL : Lays w w.heap.size A n ms) (hf : Lay.check W H (lsOf ms) = f) (h0 : f.1 ≠ 0) :
    Calls Tryz.prog 37 #[.agg #[.int .i64 W, .int .i64 H, .slice A n c], .string s, how] w (BadPost E f w) := by
  have HF := Lib.hid hf
  have H0 := Lib.hid h0
  have HE := Lib.hid hE
  have hL1 := fun o o2 => (hL.step (Below.alloc (Below.refl _ _) (Nat.le_refl _) o)).step (Below.alloc (Below.refl _ _) (Nat.le_refl _) o2)
  have HL1 := Lib.hid hL1
  have hb0 : ∀ o o2, Below w.heap.size w ((w.alloc o).alloc o2) := fun o o2 => by go_grown
  have HB0 := Lib.hid hb0
  clear hf h0 hE hL1 hb0
  go_enter Tryz.func37, Tryz.ntmps37
  go_wp2_with fail
  refine (check_any W H A n c ms E _ (HE.out.below (HB0.out _ _)) (HL1.out _ _)).mono ?_
  rw [HF.out]
  rintro e w1 ⟨v, rfl, hv, hb1⟩
  have B2 := (Blk.new (w.alloc (.cells #[.int .i64 W, .int .i64 H, .slice A n c] 39)) 39 #[.int .i64 0, .int .i64 0, .slice none 0 0] rfl).below hb1 (by simp)
  simp at B2
  have c2 := B2.cell
  have f2 := B2.free
  have hbw : Below w.heap.size w w1 := Below.trans (by go_grown) (hb1.mono (by simp; omega))
  have HV := Lib.hid hv
  have l2 := B2.lt
  have hz2 : w.heap.size ≤ w.heap.size + 1 := by omega
  clear hv hb1
  rcases HV.out.iface H0.out with ⟨a, rfl⟩ | ⟨b, rfl⟩
  · go_wp2_with fail
    exact bodyPost_ret (v := .tuple #[.agg #[.int .i64 0, .int .i64 0, .slice none 0 0], .iface 143 (.pointer (some a))]) (by simp [results, Tryz.results37, go_sem, c2]) rfl ⟨_, rfl, HV.out.zero3 B2 rfl _ _ _, ((hbw.setCell hz2 _).setCell hz2 _).setCell hz2 _⟩
  · go_wp2_with fail
    exact bodyPost_ret (v := .tuple #[.agg #[.int .i64 0, .int .i64 0, .slice none 0 0], .iface 78 (.pointer (some ⟨b, 0, none⟩))]) (by simp [results, Tryz.results37, go_sem, c2]) rfl ⟨_, rfl, HV.out.zero3 B2 rfl _ _ _, ((hbw.setCell hz2 _).setCell hz2 _).setCell hz2 _⟩

set_option maxRecDepth 100000 in
set_option maxHeartbeats 2000000 in
theorem with_none (W H : Int) (A : Option Addr) (n c : Nat) (s : ByteArray) (how : Value) (ms : List LM) (E : Nat → Addr) (w : World) (hE : ErrsAt w E) (hL : Lays w w.heap.size A n ms) (hG : Lay.Good W H (lsOf ms)) (hf : Lay.find (lsOf ms) s = -1) :
    Calls Tryz.prog 37 #[.agg #[.int .i64 W, .int .i64 H, .slice A n c], .string s, how] w (BadPost E (6, -1) w) := by
  have HF := Lib.hid hf
  have HG := Lib.hid hG
  have HE := Lib.hid hE
  have hn8 : n ≤ 8 := by have := hG.n; rw [lsOf_len] at this; rw [hL.len]; exact this
  have hL1 := fun o o2 => (hL.step (Below.alloc (Below.refl _ _) (Nat.le_refl _) o)).step (Below.alloc (Below.refl _ _) (Nat.le_refl _) o2)
  have HL1 := Lib.hid hL1
  have HL0 := Lib.hid hL
  clear hf hG hE hL1 hL
  go_enter Tryz.func37, Tryz.ntmps37
  go_wp2_with fail
  refine (check_good W H A n c ms _ (HL1.out _ _) HG.out).mono ?_
  rintro e w1 ⟨rfl, hb1⟩
  have K1 : B2 w.heap.size w w1 w.heap.size 39 #[.int .i64 W, .int .i64 H, .slice A n c] (w.heap.size + 1) 39 #[.int .i64 0, .int .i64 0, .slice none 0 0] :=
    B2.step ⟨(Blk.new _ _ _ rfl).alloc _, Blk.new _ _ _ (by simp), by go_grown, by simp; omega⟩ hb1
  have c1 := K1.b1.cell
  have L1 := Lib.hid (HL0.out.here K1.bel (Nat.le_refl _) K1.hB)
  clear hb1
  go_wp2_with fail
  refine (find_any W H A n c ms s _ L1.out (by omega)).mono ?_
  rintro e w2 ⟨rfl, hb2⟩
  have K2 := K1.step hb2
  have hbw := K2.bel
  have c2 := K2.b2.cell
  have f2 := K2.b2.free
  have l2 := K2.b2.lt
  have dN := (HE.out.below hbw).none_
  have lN := cell_lt HE.out.none_
  simp only at lN
  have hne : ¬ w.heap.size + 1 = 3 := by omega
  have hne' : ¬ 3 = w.heap.size + 1 := by omega
  have hz2 : w.heap.size ≤ w.heap.size + 1 := by omega
  rw [HF.out]
  clear c1 hb2
  go_wp2_with fail
  go_region
  all_goals
    go_wp2_with fail
    refine bodyPost_ret (v := .tuple #[.agg #[.int .i64 0, .int .i64 0, .slice none 0 0], errV (E 5)]) (by simp [results, Tryz.results37, go_sem, c2, errV]) rfl ⟨_, rfl, errIs_bare E _ 5, ?_⟩
    exact (((hbw.setCell hz2 _).setCell hz2 _).setCell hz2 _).drew
theorem with_bad (W H : Int) (A : Option Addr) (n c : Nat) (s : ByteArray) (how : Value) (ms : List LM) (E : Nat → Addr) (f : Nat × Int) (w : World) (hE : ErrsAt w E) (hL : Lays w w.heap.size A n ms) (hf : WithBad W H (lsOf ms) s f) :
    Calls Tryz.prog 37 #[.agg #[.int .i64 W, .int .i64 H, .slice A n c], .string s, how] w (BadPost E f w) := by
  rcases hf with ⟨h, h0⟩ | ⟨hG, h, rfl⟩
  · exact with_fault W H A n c s how ms E f w hE hL h h0
  · exact with_none W H A n c s how ms E w hE hL hG h

set_option maxRecDepth 100000 in
set_option maxHeartbeats 2000000 in
theorem remove_bad (W H : Int) (A : Option Addr) (n c : Nat) (s : ByteArray) (ms : List LM) (E : Nat → Addr) (f : Nat × Int) (w : World) (hE : ErrsAt w E) (hL : Lays w w.heap.size A n ms) (hf : WithBad W H (lsOf ms) s f) :
    Calls Tryz.prog 15 #[.agg #[.int .i64 W, .int .i64 H, .slice A n c], .string s] w (BadPost E f w) := by
  have HF := Lib.hid hf
  have H0 := Lib.hid hf.ne
  have HE := Lib.hid hE
  have hb0 : ∀ o o2, Below w.heap.size w ((w.alloc o).alloc o2) := fun o o2 => by go_grown
  have HL := Lib.hid hL
  have HB0 := Lib.hid hb0
  clear hf hE hL hb0
  go_enter Tryz.func15, Tryz.ntmps15
  go_wp2_with fail
  refine (with_bad W H A n c s _ ms E f _ (HE.out.below (HB0.out _ _)) (HL.out.step (HB0.out _ _)) HF.out).mono ?_
  rintro e w1 ⟨v, rfl, hv, hb1⟩
  have B2 := (Blk.new (w.alloc (.cells #[.int .i64 W, .int .i64 H, .slice A n c] 39)) 39 #[.int .i64 0, .int .i64 0, .slice none 0 0] rfl).below hb1 (by simp)
  simp at B2
  have c2 := B2.cell
  have f2 := B2.free
  have hbw : Below w.heap.size w w1 := Below.trans (by go_grown) (hb1.mono (by simp; omega))
  have HV := Lib.hid hv
  have l2 := B2.lt
  have hz2 : w.heap.size ≤ w.heap.size + 1 := by omega
  clear hv hb1
  go_wp2_with fail
  exact bodyPost_ret (v := .tuple #[.agg #[.int .i64 0, .int .i64 0, .slice none 0 0], v]) (by simp [results, Tryz.results15, go_sem, c2]) rfl ⟨_, rfl, HV.out.zero3 B2 rfl _ _ _, ((hbw.setCell hz2 _).setCell hz2 _).setCell hz2 _⟩
set_option maxRecDepth 100000 in
set_option maxHeartbeats 2000000 in
theorem merge_bad (W H : Int) (A : Option Addr) (n c : Nat) (s : ByteArray) (ms : List LM) (E : Nat → Addr) (f : Nat × Int) (w : World) (hE : ErrsAt w E) (hL : Lays w w.heap.size A n ms) (hf : WithBad W H (lsOf ms) s f) :
    Calls Tryz.prog 17 #[.agg #[.int .i64 W, .int .i64 H, .slice A n c], .string s] w (BadPost E f w) := by
  have HF := Lib.hid hf
  have H0 := Lib.hid hf.ne
  have HE := Lib.hid hE
  have hb0 : ∀ o o2 o3, Below w.heap.size w (((w.alloc o).alloc o2).alloc o3) := fun o o2 o3 => by go_grown
  have HL := Lib.hid hL
  have HB0 := Lib.hid hb0
  clear hf hE hL hb0
  go_enter Tryz.func17, Tryz.ntmps17
  go_wp2_with fail
  refine (with_bad W H A n c s _ ms E f _ (HE.out.below (HB0.out _ _ _)) (HL.out.step (HB0.out _ _ _)) HF.out).mono ?_
  rintro e w1 ⟨v, rfl, hv, hb1⟩
  have B2 := (Blk.new ((w.alloc (.cells #[.int .i64 W, .int .i64 H, .slice A n c] 39)).alloc (.cells #[.string s] 9)) 39 #[.int .i64 0, .int .i64 0, .slice none 0 0] rfl).below hb1 (by simp)
  simp at B2
  have c2 := B2.cell
  have f2 := B2.free
  have hbw : Below w.heap.size w w1 := Below.trans (by go_grown) (hb1.mono (by simp; omega))
  have HV := Lib.hid hv
  have l2 := B2.lt
  have hz2 : w.heap.size ≤ w.heap.size + 1 + 1 := by omega
  clear hv hb1
  go_wp2_with fail
  exact bodyPost_ret (v := .tuple #[.agg #[.int .i64 0, .int .i64 0, .slice none 0 0], v]) (by simp [results, Tryz.results17, go_sem, c2]) rfl ⟨_, rfl, HV.out.zero3 B2 rfl _ _ _, ((hbw.setCell hz2 _).setCell hz2 _).setCell hz2 _⟩
set_option maxRecDepth 100000 in
set_option maxHeartbeats 2000000 in
theorem move_bad (W H : Int) (A : Option Addr) (n c : Nat) (s : ByteArray) (to : Int) (ms : List LM) (E : Nat → Addr) (f : Nat × Int) (w : World) (hE : ErrsAt w E) (hL : Lays w w.heap.size A n ms) (hf : WithBad W H (lsOf ms) s f) :
    Calls Tryz.prog 16 #[.agg #[.int .i64 W, .int .i64 H, .slice A n c], .string s, .int .i64 to] w (BadPost E f w) := by
  have HF := Lib.hid hf
  have H0 := Lib.hid hf.ne
  have HE := Lib.hid hE
  have hb0 : ∀ o o2 o3, Below w.heap.size w (((w.alloc o).alloc o2).alloc o3) := fun o o2 o3 => by go_grown
  have HL := Lib.hid hL
  have HB0 := Lib.hid hb0
  clear hf hE hL hb0
  go_enter Tryz.func16, Tryz.ntmps16
  go_wp2_with fail
  refine (with_bad W H A n c s _ ms E f _ (HE.out.below (HB0.out _ _ _)) (HL.out.step (HB0.out _ _ _)) HF.out).mono ?_
  rintro e w1 ⟨v, rfl, hv, hb1⟩
  have B2 := (Blk.new ((w.alloc (.cells #[.int .i64 W, .int .i64 H, .slice A n c] 39)).alloc (.cells #[.int .i64 to] 3)) 39 #[.int .i64 0, .int .i64 0, .slice none 0 0] rfl).below hb1 (by simp)
  simp at B2
  have c2 := B2.cell
  have f2 := B2.free
  have hbw : Below w.heap.size w w1 := Below.trans (by go_grown) (hb1.mono (by simp; omega))
  have HV := Lib.hid hv
  have l2 := B2.lt
  have hz2 : w.heap.size ≤ w.heap.size + 1 + 1 := by omega
  clear hv hb1
  go_wp2_with fail
  exact bodyPost_ret (v := .tuple #[.agg #[.int .i64 0, .int .i64 0, .slice none 0 0], v]) (by simp [results, Tryz.results16, go_sem, c2]) rfl ⟨_, rfl, HV.out.zero3 B2 rfl _ _ _, ((hbw.setCell hz2 _).setCell hz2 _).setCell hz2 _⟩
end Go.Proofs.YtmknacnmdlcieaaGreatDoor
