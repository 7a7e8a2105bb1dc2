/- SameDoc of two documents of the same layers; isDoc where it says yes: the walks. -/
import Derived.Test.YtmknacnmdlcieaaGreatDoorBack
import Derived.Test.YtmknacnmdlcieaaGreatDoorBase
import Derived.Test.YtmknacnmdlcieaaGreatDoorFaulted
namespace Go.Proofs.YtmknacnmdlcieaaGreatDoor
open Go Go.RowKit

set_option maxRecDepth 100000 in
set_option maxHeartbeats 4000000 in
theorem sameDoc_same (W H : Int) (A1 : Option Addr) (n1 c1 : Nat) (ms : List LM) (A2 : Option Addr) (n2 c2 : Nat) (ns : List LM) (w : World) (h1 : Lays w w.heap.size A1 n1 ms) (h2 : Lays w w.heap.size A2 n2 ns) (he : lsOf ms = lsOf ns) (hn : n1 ≤ 4096) (hp : ∀ m ∈ ms, m.n ≤ 1048576) :
    Calls Tryz.prog 35 #[.agg #[.int .i64 W, .int .i64 H, .slice A1 n1 c1], .agg #[.int .i64 W, .int .i64 H, .slice A2 n2 c2]] w fun e w' => e = .returned (.bool true) ∧ Below w.heap.size w w' := by
  obtain rfl := h1.len
  obtain rfl : n2 = ms.length := by rw [h2.len, ← lsOf_len, ← he, lsOf_len]
  have hnl : ns.length = ms.length := by rw [← lsOf_len, ← he, lsOf_len]
  have HE := Lib.hid he
  have HP := Lib.hid hp
  have HL1 := Lib.hid h1
  have HL2 := Lib.hid h2
  clear he hp h1 h2
  go_enter Tryz.func35, Tryz.ntmps35
  go_wp2_with fail
  go_loopw [5] (fun i wr => ∃ k : Nat, k ≤ ms.length ∧ i = .int .i64 k ∧ Blk wr w.heap.size 24 #[.int .i64 W, .int .i64 H, .slice A1 ms.length c1] ∧ Blk wr (w.heap.size + 1) 24 #[.int .i64 W, .int .i64 H, .slice A2 ms.length c2] ∧ Below w.heap.size w wr) (fun i _ => ms.length - (intOf i).toNat)
  case atStart => exact ⟨0, Nat.zero_le _, rfl, (Blk.new _ _ _ rfl).alloc _, Blk.new _ _ _ (by simp), by go_grown⟩
  case round =>
    obtain ⟨k, hk, rfl, B1, B2, hb⟩ := hrel
    obtain ⟨wi, rfl⟩ : ∃ wi : World, wi = wr := ⟨_, rfl⟩
    have b1 := B1.cell
    have b2 := B2.cell
    have l1 := B1.lt
    have l2 := B2.lt
    by_cases hlt : k < ms.length
    · have hlt2 : k < ns.length := by omega
      obtain ⟨a1, o1, rfl, _⟩ := HL1.out.1.addr (by omega)
      obtain ⟨a2, o2, rfl, ha2⟩ := HL2.out.1.addr (by omega)
      have L1 := HL1.out.below hb (Nat.le_refl _)
      have L2 := HL2.out.below hb (Nat.le_refl _)
      have hsz : w.heap.size ≤ wi.heap.size := hb.size
      have la2 : a2 < wi.heap.size := by omega
      have q0 := L1.at k hlt 0 (by omega)
      have q1 := L1.at k hlt 1 (by omega)
      have q2 := L1.at k hlt 2 (by omega)
      have q3 := L1.at k hlt 3 (by omega)
      have q4 := L1.at k hlt 4 (by omega)
      have q5 := L1.at k hlt 5 (by omega)
      have q6 := L1.at k hlt 6 (by omega)
      have q7 := L1.at k hlt 7 (by omega)
      have q8 := L1.at k hlt 8 (by omega)
      have z0 := L2.at k hlt2 0 (by omega)
      have z1 := L2.at k hlt2 1 (by omega)
      have z2 := L2.at k hlt2 2 (by omega)
      have z3 := L2.at k hlt2 3 (by omega)
      have z4 := L2.at k hlt2 4 (by omega)
      have z5 := L2.at k hlt2 5 (by omega)
      have z6 := L2.at k hlt2 6 (by omega)
      have z7 := L2.at k hlt2 7 (by omega)
      have z8 := L2.at k hlt2 8 (by omega)
      have px1 := (L1.px k hlt).more hsz
      have px2 := (L2.px k hlt2).more hsz
      have hpn := HP.out ms[k] (List.getElem_mem hlt)
      have hll : ns[k].l = ms[k].l := by
        have h1 := lsOf_get ms k hlt
        have h2 := lsOf_get ns k hlt2
        rw [← h1, ← h2]
        congr 1
        exact HE.out.symm
      obtain ⟨m, hm⟩ : ∃ m, m = ms[k] := ⟨_, rfl⟩
      obtain ⟨x, hx⟩ : ∃ x, x = ns[k] := ⟨_, rfl⟩
      rw [← hm] at q0 q1 q2 q3 q4 q5 q6 q7 q8 px1 hpn hll
      rw [← hx] at z0 z1 z2 z3 z4 z5 z6 z7 z8 px2 hll
      clear hm hx
      obtain ⟨l, xA, xn, xc⟩ := x
      simp only at hll
      subst hll
      have hxn : xn = m.n := by have h1 := px2.pxLen; have h2 := px1.pxLen; simp only at h1; omega
      subst hxn
      simp only [layCs, List.getElem?_cons_zero, List.getElem?_cons_succ] at q0 q1 q2 q3 q4 q5 q6 q7 q8 z0 z1 z2 z3 z4 z5 z6 z7 z8 px2
      rw [Nat.add_zero] at q0 z0
      have j0 : (0 : Int) ≤ (k : Int) := by omega
      have j1 : (k : Int) < (ms.length : Int) := by omega
      have z0 := fun o => cell_past (w := wi) o z0
      have z1 := fun o => cell_past (w := wi) o z1
      have z2 := fun o => cell_past (w := wi) o z2
      have z3 := fun o => cell_past (w := wi) o z3
      have z4 := fun o => cell_past (w := wi) o z4
      have z5 := fun o => cell_past (w := wi) o z5
      have z6 := fun o => cell_past (w := wi) o z6
      have z7 := fun o => cell_past (w := wi) o z7
      have z8 := fun o => cell_past (w := wi) o z8
      have HB := Lib.hid hb
      have HB1 := Lib.hid B1
      have HB2 := Lib.hid B2
      have HX1 := Lib.hid px1
      have HX2 := Lib.hid px2
      clear hb B1 B2 px1 px2 L1 L2
      go_wp2_with fail
      obtain ⟨W2, hW2⟩ : ∃ W2, W2 = (wi.alloc (.cells #[.string m.l.name, .int .i64 m.l.x, .int .i64 m.l.y, .bool m.l.hidden, .int .i64 m.l.opacity, .int .i64 m.l.mode, .int .i64 m.l.wide, .int .i64 m.l.high, .slice m.A m.n m.c] 29)).alloc (.cells #[.string m.l.name, .int .i64 m.l.x, .int .i64 m.l.y, .bool m.l.hidden, .int .i64 m.l.opacity, .int .i64 m.l.mode, .int .i64 m.l.wide, .int .i64 m.l.high, .slice xA m.n xc] 29) := ⟨_, rfl⟩
      have b02 : Below wi.heap.size wi W2 := by rw [hW2]; go_grown
      rw [← hW2]
      clear hW2
      refine (samePicture_same m.l.wide m.l.high m.A m.n m.c xA xc m.l.ps W2 ((HX1.out.below b02 (Nat.le_refl _)).more b02.size) ((HX2.out.below b02 (Nat.le_refl _)).more b02.size) hpn).mono ?_
      rintro e wA ⟨rfl, hbA⟩
      have b0A := b02.trans (hbA.mono b02.size)
      clear hbA b02
      go_wp2_with fail
      go_roundw
      case rel => exact ⟨k + 1, by omega, by go_num, HB1.out.below b0A HB1.out.lt, HB2.out.below b0A HB2.out.lt, HB.out.trans (b0A.mono HB.out.size)⟩
      case measure => simp [intOf]; omega
    · have e : k = ms.length := by omega
      subst e
      go_wp2_with fail
      go_ret
      exact ⟨rfl, hb⟩

/-- A document without a fault. -/
theorem isDoc_good (W H : Int) (A1 : Option Addr) (n1 c1 : Nat) (ms : List LM) (A2 : Option Addr) (n2 c2 : Nat) (ns : List LM) (f2 : Int) (w : World) (h1 : Lays w w.heap.size A1 n1 ms) (h2 : Lays w w.heap.size A2 n2 ns) (he : lsOf ms = lsOf ns) (hn : n1 ≤ 4096) (hp : ∀ m ∈ ms, m.n ≤ 1048576) :
    Calls Tryz.prog 12 #[.agg #[.int .i64 W, .int .i64 H, .slice A1 n1 c1], .nilIface, .agg #[.int .i64 W, .int .i64 H, .slice A2 n2 c2], .agg #[.int .i64 0, .int .i64 f2]] w fun e w' => e = .returned (.bool true) ∧ Below w.heap.size w w' := by
  have HE := Lib.hid he
  have HP := Lib.hid hp
  have HL1 := Lib.hid h1
  have HL2 := Lib.hid h2
  clear he hp h1 h2
  go_enter Tryz.func12, Tryz.ntmps12
  go_wp2_with fail
  obtain ⟨W0, hW0⟩ : ∃ W0, W0 = ((w.alloc (.cells #[.int .i64 W, .int .i64 H, .slice A1 n1 c1] 39)).alloc (.cells #[.int .i64 W, .int .i64 H, .slice A2 n2 c2] 24)).alloc (.cells #[.int .i64 0, .int .i64 f2] 34) := ⟨_, rfl⟩
  have b0 : Below w.heap.size w W0 := by rw [hW0]; go_grown
  have B1 : Blk W0 w.heap.size 39 #[.int .i64 W, .int .i64 H, .slice A1 n1 c1] := by rw [hW0]; exact ((Blk.new _ _ _ rfl).alloc _).alloc _
  have B2 : Blk W0 (w.heap.size + 1) 24 #[.int .i64 W, .int .i64 H, .slice A2 n2 c2] := by rw [hW0]; exact (Blk.new _ _ _ (by simp)).alloc _
  have s0 : W0.cell? ⟨w.heap.size, 0, none⟩ = some (.int .i64 W) := (B1.cell 0).trans rfl
  have s1 : W0.cell? ⟨w.heap.size, 1, none⟩ = some (.int .i64 H) := (B1.cell 1).trans rfl
  have s2 : W0.cell? ⟨w.heap.size, 2, none⟩ = some (.slice A1 n1 c1) := (B1.cell 2).trans rfl
  have u0 : W0.cell? ⟨w.heap.size + 1, 0, none⟩ = some (.int .i64 W) := (B2.cell 0).trans rfl
  have u1 : W0.cell? ⟨w.heap.size + 1, 1, none⟩ = some (.int .i64 H) := (B2.cell 1).trans rfl
  have u2 : W0.cell? ⟨w.heap.size + 1, 2, none⟩ = some (.slice A2 n2 c2) := (B2.cell 2).trans rfl
  have l1 := B1.lt
  have l2 := B2.lt
  rw [← hW0]
  clear hW0 B1 B2
  go_region_held3 (fun w' => w'.cell? ⟨w.heap.size, 0, none⟩ = some (.int .i64 W) ∧ w'.cell? ⟨w.heap.size, 1, none⟩ = some (.int .i64 H) ∧ w'.cell? ⟨w.heap.size, 2, none⟩ = some (.slice A1 n1 c1) ∧ w'.cell? ⟨w.heap.size + 1, 0, none⟩ = some (.int .i64 W) ∧ w'.cell? ⟨w.heap.size + 1, 1, none⟩ = some (.int .i64 H) ∧ w'.cell? ⟨w.heap.size + 1, 2, none⟩ = some (.slice A2 n2 c2))
    ((go_split_ands
      refine ⟨?_, ?_, ?_, ?_, ?_, ?_⟩
      · ((repeat' (first | (with_reducible exact s0) | (with_reducible refine bkeep hbB ?_) | (with_reducible refine bkeep hbA ?_))) <;> exact s0)
      · ((repeat' (first | (with_reducible exact s1) | (with_reducible refine bkeep hbB ?_) | (with_reducible refine bkeep hbA ?_))) <;> exact s1)
      · ((repeat' (first | (with_reducible exact s2) | (with_reducible refine bkeep hbB ?_) | (with_reducible refine bkeep hbA ?_))) <;> exact s2)
      · ((repeat' (first | (with_reducible exact u0) | (with_reducible refine bkeep hbB ?_) | (with_reducible refine bkeep hbA ?_))) <;> exact u0)
      · ((repeat' (first | (with_reducible exact u1) | (with_reducible refine bkeep hbB ?_) | (with_reducible refine bkeep hbA ?_))) <;> exact u1)
      · ((repeat' (first | (with_reducible exact u2) | (with_reducible refine bkeep hbB ?_) | (with_reducible refine bkeep hbA ?_))) <;> exact u2)))
    (first
      | (go_at_call 36; refine (back_any W H A1 n1 c1 ms W0.drew ((HL1.out.below b0 (Nat.le_refl _)).more b0.size) hn).mono ?_; rintro e wA ⟨A', c', rfl, hOA, hbA⟩; have hbI := b0.trans ((Below.fromDrew hbA).mono b0.size))
      | (go_at_call 35; refine (sameDoc_same W H A' n1 c' ms A2 n2 c2 ns wA hOA.lays ((HL2.out.below hbI (Nat.le_refl _)).more hbI.size) HE.out hn HP.out).mono ?_; rintro e wB ⟨rfl, hbB⟩))
  go_wp2_with fail
  go_ret
  exact ⟨rfl, hbI.trans (hbB.mono hbI.size)⟩
/-- A document with a fault. -/
theorem isDoc_fault (E : Nat → Addr) (v : Value) (W2 H2 : Int) (A2 : Option Addr) (n2 c2 : Nat) (f : Nat × Int) (w : World) (hE : ErrsAt w E) (hv : ErrIs E w v f) (h0 : f.1 ≠ 0) (h9 : f.1 ≤ 9) (hat : -1 ≤ f.2) :
    Calls Tryz.prog 12 #[.agg #[.int .i64 0, .int .i64 0, .slice none 0 0], v, .agg #[.int .i64 W2, .int .i64 H2, .slice A2 n2 c2], faultV f] w fun e w' => e = .returned (.bool true) ∧ Below w.heap.size w w' := by
  obtain ⟨fc, fat⟩ := f
  unfold faultV
  simp only at h0 h9 hat ⊢
  have hpos : (0 : Int) < (fc : Int) := by omega
  have HE := Lib.hid hE
  have HV := Lib.hid hv
  clear hE hv
  go_enter Tryz.func12, Tryz.ntmps12
  go_wp2_with fail
  obtain ⟨W0, hW0⟩ : ∃ W0, W0 = ((w.alloc (.cells #[.int .i64 0, .int .i64 0, .slice none 0 0] 39)).alloc (.cells #[.int .i64 W2, .int .i64 H2, .slice A2 n2 c2] 24)).alloc (.cells #[.int .i64 fc, .int .i64 fat] 34) := ⟨_, rfl⟩
  have b0 : Below w.heap.size w W0 := by rw [hW0]; go_grown
  have B1 : Blk W0 w.heap.size 39 #[.int .i64 0, .int .i64 0, .slice none 0 0] := by rw [hW0]; exact ((Blk.new _ _ _ rfl).alloc _).alloc _
  rw [← hW0]
  clear hW0
  refine (faulted_any E v fc fat W0 (HE.out.below b0) (HV.out.below b0) h9 (.inr hat)).mono ?_
  rintro e wA ⟨rfl, hbA⟩
  have B1A := B1.below hbA B1.lt
  have b0A := b0.trans (hbA.mono b0.size)
  have k1 := B1A.cell
  have kl := B1A.lt
  clear hbA b0 B1
  go_wp2_with fail
  refine (back_any 0 0 none 0 0 [] _ ⟨⟨by simp [layCells], fun h => absurd h (by omega)⟩, fun m hm => by cases hm⟩ (by omega)).mono ?_
  rintro e wB ⟨A', c', rfl, hOB, hbB⟩
  have b0B := b0A.trans (hbB.mono b0A.size)
  clear hbB
  go_wp2_with fail
  refine (sameDoc_same 0 0 A' 0 c' [] none 0 0 [] _ hOB.lays ⟨⟨by simp [layCells], fun h => absurd h (by omega)⟩, fun m hm => by cases hm⟩ rfl (by omega) (fun m hm => by cases hm)).mono ?_
  rintro e wC ⟨rfl, hbC⟩
  have b0C := b0B.trans (hbC.mono b0B.size)
  go_wp2_with fail
  go_ret
  exact ⟨rfl, b0C⟩
end Go.Proofs.YtmknacnmdlcieaaGreatDoor
