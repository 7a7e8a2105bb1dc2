/- Remove: its closure, with, itself. -/
import Derived.Test.YtfadnkfceggjaaaDoorDelete
namespace Go.Proofs.YtfadnkfceggjaaaDoor
open Go Go.RowKit

theorem lsOf_erase (ms : List LM) (k : Nat) : lsOf (ms.eraseIdx k) = (lsOf ms).eraseIdx k := by
  simp [lsOf, List.eraseIdx_eq_take_drop_succ, List.map_take, List.map_drop]

set_option maxRecDepth 100000 in
set_option maxHeartbeats 2000000 in
theorem remove1_any (W H : Int) (base g off n c k m : Nat) (ms : List LM) (w : World) (hO : LaysO w base (.slice (some ⟨g, off, none⟩) n c) ms) (hkm : n = k + 1 + m) (hn : n ≤ 4096) (hB : base ≤ w.heap.size) :
    Calls Tryd.prog 40 #[.agg #[.int .i64 W, .int .i64 H, .slice (some ⟨g, off, none⟩) n c], .int .i64 k] w
      fun e w' => e = .returned (.tuple #[.agg #[.int .i64 W, .int .i64 H, .slice (some ⟨g, off, none⟩) (k + m) c], .nilIface]) ∧ LaysO w' base (.slice (some ⟨g, off, none⟩) (k + m) c) (ms.eraseIdx k) ∧ Below base w w' := by
  have hg := hO.own.lt g rfl
  have hO1 := (hO.alloc (.cells #[.int .i64 W, .int .i64 H, .slice (some ⟨g, off, none⟩) n c] 33)).alloc (.cells #[.int .i64 0, .int .i64 0, .slice none 0 0] 33)
  have HO1 := Lib.hid hO1
  have hoff : ∀ G, w.heap.size ≤ G → ∀ x ∈ ms.eraseIdx k, OffB G x := fun G hG x hx => OffB.lt (hO.px x (List.mem_of_mem_eraseIdx hx)) hG
  have HOFF := Lib.hid hoff
  have HKM := Lib.hid hkm
  clear hO hO1 hoff hkm
  have k1 : (k : Int) + 1 ≤ 9223372036854775807 := by have := HKM.out; omega
  go_enter Tryd.func40, Tryd.ntmps40
  go_wp2_with fail
  refine (delete_any base g off n c k m ms _ HO1.out HKM.out hn).mono ?_
  rintro e w1 ⟨rfl, hO2, hgr⟩
  have B1 := ((Blk.new w 33 #[.int .i64 W, .int .i64 H, .slice (some ⟨g, off, none⟩) n c] rfl).alloc (.cells #[.int .i64 0, .int .i64 0, .slice none 0 0] 33)).grown hgr (by simp; omega)
  have B2 := (Blk.new (w.alloc (.cells #[.int .i64 W, .int .i64 H, .slice (some ⟨g, off, none⟩) n c] 33)) 33 #[.int .i64 0, .int .i64 0, .slice none 0 0] rfl).grown hgr (by simp; omega)
  simp at B2
  have hz := hgr.size
  simp at hz
  have hb1 : Below base w w1 := Below.grown (((Below.refl base w).alloc hB _).alloc (by simp; omega) _) hgr (by simp; omega) (fun g' e => by injection e with e; omega)
  have c1 := B1.cell
  have f1 := B1.free
  have c2 := B2.cell
  have f2 := B2.free
  have HO2 := Lib.hid hO2
  have hne : ¬ w.heap.size + 1 = w.heap.size := by omega
  clear hO2 hgr
  go_wp2_with fail
  refine bodyPost_ret (v := .tuple #[.agg #[.int .i64 W, .int .i64 H, .slice (some ⟨g, off, none⟩) (k + m) c], .nilIface]) (by simp [results, Tryd.results40, go_sem, c2]) rfl ⟨rfl, ?_, ?_⟩
  · have n1 : ∀ G, w.heap.size ≤ G → (Value.slice (some ⟨g, off, none⟩) (k + m) c).ownBlock ≠ some G := fun G hG => by simp [Value.ownBlock]; omega
    exact ((((HO2.out.farB (p := ⟨w.heap.size, 2, none⟩) (n1 _ (Nat.le_refl _)) (HOFF.out _ (Nat.le_refl _)) _).farB (p := ⟨w.heap.size + 1, 0, none⟩) (n1 _ (by simp)) (HOFF.out _ (by simp)) _).farB (p := ⟨w.heap.size + 1, 1, none⟩) (n1 _ (by simp)) (HOFF.out _ (by simp)) _).farB (p := ⟨w.heap.size + 1, 2, none⟩) (n1 _ (by simp)) (HOFF.out _ (by simp)) _)
  · exact (((hb1.setCell (by show base ≤ w.heap.size; omega) _).setCell (by show base ≤ w.heap.size + 1; omega) _).setCell (by show base ≤ w.heap.size + 1; omega) _).setCell (by show base ≤ w.heap.size + 1; omega) _

/-- No pixels lie in a block that holds two numbers and a slice. -/
theorem OffB.blk {w : World} {B g T : Nat} {m : LM} {a b : Int} {C : Option Addr} {n' c' : Nat} (h : Reads w B 4 m.A m.n (pxCells m.l.ps)) (hb : Blk w g T #[.int .i64 a, .int .i64 b, .slice C n' c']) : OffB g m := by
  intro b' off' e hn e2
  subst e2
  rw [e] at h
  have hpl := h.pxLen
  have h0 := (h.px 0 (by omega)).1
  rw [Nat.zero_mul, Nat.add_zero, hb.cell] at h0
  match off', h0 with
  | 0, h0 => simp at h0
  | 1, h0 => simp at h0
  | 2, h0 => simp at h0
  | k + 3, h0 => simp at h0
set_option maxRecDepth 100000 in
set_option maxHeartbeats 2000000 in
theorem withRemove_any (W H : Int) (A : Option Addr) (n c k : Nat) (s : ByteArray) (ms : List LM) (w : World) (hL : Lays w w.heap.size A n ms) (hG : Lay.Good W H (lsOf ms)) (hf : Lay.find (lsOf ms) s = k) (hk : k < n) :
    Calls Tryd.prog 39 #[.agg #[.int .i64 W, .int .i64 H, .slice A n c], .string s, .func (.func 40) #[] #[]] w
      fun e w' => ∃ g off c' ns, e = .returned (.tuple #[.agg #[.int .i64 W, .int .i64 H, .slice (some ⟨g, off, none⟩) ns.length c'], .nilIface]) ∧ LaysO w' w.heap.size (.slice (some ⟨g, off, none⟩) ns.length c') ns ∧ lsOf ns = (lsOf ms).eraseIdx k ∧ Below w.heap.size w w' := by
  obtain rfl := hL.len
  have hok := layOK_of hG hL
  have hn8 : ms.length ≤ 8 := by have := hG.n; rw [lsOf_len] at this; exact this
  have hp : ∀ m ∈ ms, 0 < m.n ∧ m.n ≤ 1048576 := by
    intro m hm
    have h := hok m hm
    obtain ⟨h1, h2⟩ := h.wd
    obtain ⟨h3, h4⟩ := h.hg
    have h5 := h.n
    obtain ⟨z1, z2⟩ := mul_bounds (show 0 ≤ m.l.wide by omega) h2 (show 0 ≤ m.l.high by omega) h4
    have z3 := Int.mul_le_mul h1 h3 (by omega) (by omega)
    omega
  obtain ⟨b0, off0, rfl, hb0⟩ := hL.1.addr (by omega)
  have HF := Lib.hid hf
  have HG := Lib.hid hG
  have HP := Lib.hid hp
  clear hf hG hp hok
  have hL1 := fun o o2 => (hL.step (Below.alloc (Below.refl _ _) (Nat.le_refl _) o)).step (Below.alloc (Below.refl _ _) (Nat.le_refl _) o2)
  have HL1 := Lib.hid hL1
  clear hL1
  go_enter Tryd.func39, Tryd.ntmps39
  go_wp2_with fail
  refine (check_good W H _ ms.length c ms _ (HL1.out _ _) HG.out).mono ?_
  rintro e w1 ⟨rfl, hb1⟩
  have K1 : B2 w.heap.size w w1 w.heap.size 33 #[.int .i64 W, .int .i64 H, .slice (some ⟨b0, off0, none⟩) ms.length c] (w.heap.size + 1) 33 #[.int .i64 0, .int .i64 0, .slice none 0 0] :=
    B2.step ⟨(Blk.new _ _ _ rfl).alloc _, Blk.new _ _ _ (by simp), by go_grown, by simp; omega⟩ hb1
  have c1 := K1.b1.cell
  have L1 := Lib.hid (hL.here K1.bel (Nat.le_refl _) K1.hB)
  clear hb1
  go_wp2_with fail
  refine (find_any W H _ ms.length c ms s _ L1.out (by omega)).mono ?_
  rintro e w2 ⟨rfl, hb2⟩
  have K2 := K1.step hb2
  have e1 := K2.b1.cell
  have L2 := Lib.hid (hL.here K2.bel (Nat.le_refl _) K2.hB)
  rw [HF.out]
  clear c1 hb2
  have k0 : (0 : Int) ≤ (k : Int) := by omega
  go_wp2_with fail
  refine (ownDoc_any W H b0 off0 ms.length c ms _ L2.out (by omega) HP.out (by omega)).mono ?_
  rintro e w3 ⟨g, off, c', ns, rfl, hO, hns, hb3⟩
  have K3 := K2.step hb3
  have c3 := K3.b1.cell
  have HNS := Lib.hid hns
  have hnl := same_lays hns
  have hge := (hO.own.lt g rfl).1
  obtain ⟨m, hm⟩ : ∃ m, ns.length = k + 1 + m := ⟨ns.length - (k + 1), by omega⟩
  have HM := Lib.hid hm
  have hns8 : ns.length ≤ 4096 := by omega
  have HO := Lib.hid hO
  have hz3 := hb3.size
  clear hO hns hnl hm hb3 e1
  go_wp2_with fail
  refine (remove1_any W H w2.heap.size g off ns.length c' k m ns _ HO.out HM.out hns8 hz3).mono ?_
  rintro e w4 ⟨rfl, hO4, hb4⟩
  have b24 := K3.b2.below hb4 K2.b2.lt
  have c4 := b24.cell
  have f4 := b24.free
  have h2l := K2.b2.lt
  have hbw : Below w.heap.size w w4 := K3.bel.trans (hb4.mono K2.hB)
  have hoff : ∀ x ∈ ns.eraseIdx k, OffB (w.heap.size + 1) x := fun x hx => OffB.blk (hO4.px x hx) b24
  have HOFF := Lib.hid hoff
  have HO4 := Lib.hid hO4
  clear hO4 hoff c3
  have hlen : (ns.eraseIdx k).length = k + m := by rw [List.length_eraseIdx_of_lt (by have := HM.out; omega)]; have := HM.out; omega
  have HLEN := Lib.hid hlen
  clear hlen
  go_wp2_with fail
  refine bodyPost_ret (v := .tuple #[.agg #[.int .i64 W, .int .i64 H, .slice (some ⟨g, off, none⟩) (k + m) c'], .nilIface]) (by simp [results, Tryd.results39, go_sem, c4]) rfl ⟨g, off, c', ns.eraseIdx k, by rw [HLEN.out], ?_, by rw [lsOf_erase, HNS.out], ?_⟩
  · rw [HLEN.out]
    have n1 : (Value.slice (some ⟨g, off, none⟩) (k + m) c').ownBlock ≠ some (w.heap.size + 1) := by simp [Value.ownBlock]; omega
    exact (((HO4.out.farB n1 HOFF.out _).farB n1 HOFF.out _).farB n1 HOFF.out _).mono K2.hB
  · exact ((hbw.setCell (by simp) _).setCell (by simp) _).setCell (by simp) _

set_option maxRecDepth 100000 in
theorem remove_any (W H : Int) (A : Option Addr) (n c k : Nat) (s : ByteArray) (ms : List LM) (w : World) (hL : Lays w w.heap.size A n ms) (hG : Lay.Good W H (lsOf ms)) (hf : Lay.find (lsOf ms) s = k) (hk : k < n) :
    Calls Tryd.prog 12 #[.agg #[.int .i64 W, .int .i64 H, .slice A n c], .string s]
      w fun e w' => ∃ g off c' ns, e = .returned (.tuple #[.agg #[.int .i64 W, .int .i64 H, .slice (some ⟨g, off, none⟩) ns.length c'], .nilIface]) ∧ LaysO w' w.heap.size (.slice (some ⟨g, off, none⟩) ns.length c') ns ∧ lsOf ns = (lsOf ms).eraseIdx k ∧ Below w.heap.size w w' := by
  have HF := Lib.hid hf
  have HG := Lib.hid hG
  clear hf hG
  have hL1 := fun o o2 => (hL.step (Below.alloc (Below.refl _ _) (Nat.le_refl _) o)).step (Below.alloc (Below.refl _ _) (Nat.le_refl _) o2)
  have HL1 := Lib.hid hL1
  clear hL1
  go_enter Tryd.func12, Tryd.ntmps12
  go_wp2_with fail
  refine (withRemove_any W H A n c k s ms _ (HL1.out _ _) HG.out HF.out hk).mono ?_
  rintro e w4 ⟨g, off, c', ns, rfl, hO4, hns, hb4⟩
  have b24 := (Blk.new (w.alloc (.cells #[.int .i64 W, .int .i64 H, .slice A n c] 33)) 33 #[.int .i64 0, .int .i64 0, .slice none 0 0] rfl).below hb4 (by simp)
  simp at b24
  have c4 := b24.cell
  have f4 := b24.free
  have hge := (hO4.own.lt g rfl).1
  simp at hge
  have hbw : Below w.heap.size w w4 := Below.trans (by go_grown) (hb4.mono (by simp; omega))
  have hoff : ∀ x ∈ ns, OffB (w.heap.size + 1) x := fun x hx => OffB.blk (hO4.px x hx) b24
  have HOFF := Lib.hid hoff
  have HO4 := Lib.hid hO4
  have HNS := Lib.hid hns
  clear hO4 hoff hns hb4
  go_wp2_with fail
  refine bodyPost_ret (v := .tuple #[.agg #[.int .i64 W, .int .i64 H, .slice (some ⟨g, off, none⟩) ns.length c'], .nilIface]) (by simp [results, Tryd.results12, go_sem, c4]) rfl ⟨g, off, c', ns, rfl, ?_, HNS.out, ?_⟩
  · have n1 : (Value.slice (some ⟨g, off, none⟩) ns.length c').ownBlock ≠ some (w.heap.size + 1) := by simp [Value.ownBlock]; omega
    exact (((HO4.out.farB n1 HOFF.out _).farB n1 HOFF.out _).farB n1 HOFF.out _).mono (by simp; omega)
  · exact ((hbw.setCell (by simp) _).setCell (by simp) _).setCell (by simp) _
end Go.Proofs.YtfadnkfceggjaaaDoor
