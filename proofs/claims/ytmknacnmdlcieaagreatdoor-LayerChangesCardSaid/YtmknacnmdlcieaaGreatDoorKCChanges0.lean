/- Remove, WithDo, RemoveOf, Piece, Add, AddDo: put together. -/
import Derived.Test.YtmknacnmdlcieaaGreatDoorDelete
import Derived.Test.YtmknacnmdlcieaaGreatDoorWithBad
import Derived.Test.YtmknacnmdlcieaaGreatDoorOwnRef
import Derived.Deep.Cut
/- Remove: its closure, with, itself. -/
namespace Go.Proofs.YtmknacnmdlcieaaGreatDoor
open Go Go.RowKit

theorem lsOf_erase (ms : List LM) (k : Nat) : lsOf (ms.eraseIdx k) = (lsOf ms).eraseIdx k := by
  simp [lsOf, List.eraseIdx_eq_take_drop_succ, List.map_take, List.map_drop]

set_option maxRecDepth 100000 in
set_option maxHeartbeats 2000000 in
theorem remove1_any (W H : Int) (base g off n c k m : Nat) (ms : List LM) (w : World) (hO : LaysO w base (.slice (some ⟨g, off, none⟩) n c) ms) (hkm : n = k + 1 + m) (hn : n ≤ 4096) (hB : base ≤ w.heap.size) :
    Calls Tryz.prog 38 #[.agg #[.int .i64 W, .int .i64 H, .slice (some ⟨g, off, none⟩) n c], .int .i64 k] w
      fun e w' => e = .returned (.tuple #[.agg #[.int .i64 W, .int .i64 H, .slice (some ⟨g, off, none⟩) (k + m) c], .nilIface]) ∧ LaysO w' base (.slice (some ⟨g, off, none⟩) (k + m) c) (ms.eraseIdx k) ∧ Below base w w' := by
  have hg := hO.own.lt g rfl
  have hO1 := (hO.alloc (.cells #[.int .i64 W, .int .i64 H, .slice (some ⟨g, off, none⟩) n c] 39)).alloc (.cells #[.int .i64 0, .int .i64 0, .slice none 0 0] 39)
  have HO1 := Lib.hid hO1
  have hoff : ∀ G, w.heap.size ≤ G → ∀ x ∈ ms.eraseIdx k, OffB G x := fun G hG x hx => OffB.lt (hO.px x (List.mem_of_mem_eraseIdx hx)) hG
  have HOFF := Lib.hid hoff
  have HKM := Lib.hid hkm
  clear hO hO1 hoff hkm
  have k1 : (k : Int) + 1 ≤ 9223372036854775807 := by have := HKM.out; omega
  go_enter Tryz.func38, Tryz.ntmps38
  go_wp2_with fail
  refine (delete_any base g off n c k m ms _ HO1.out HKM.out hn).mono ?_
  rintro e w1 ⟨rfl, hO2, hgr⟩
  have B1 := ((Blk.new w 39 #[.int .i64 W, .int .i64 H, .slice (some ⟨g, off, none⟩) n c] rfl).alloc (.cells #[.int .i64 0, .int .i64 0, .slice none 0 0] 39)).grown hgr (by simp; omega)
  have B2 := (Blk.new (w.alloc (.cells #[.int .i64 W, .int .i64 H, .slice (some ⟨g, off, none⟩) n c] 39)) 39 #[.int .i64 0, .int .i64 0, .slice none 0 0] rfl).grown hgr (by simp; omega)
  simp at B2
  have hz := hgr.size
  simp at hz
  have hb1 : Below base w w1 := Below.grown (((Below.refl base w).alloc hB _).alloc (by simp; omega) _) hgr (by simp; omega) (fun g' e => by injection e with e; omega)
  have c1 := B1.cell
  have f1 := B1.free
  have c2 := B2.cell
  have f2 := B2.free
  have HO2 := Lib.hid hO2
  have hne : ¬ w.heap.size + 1 = w.heap.size := by omega
  clear hO2 hgr
  go_wp2_with fail
  refine bodyPost_ret (v := .tuple #[.agg #[.int .i64 W, .int .i64 H, .slice (some ⟨g, off, none⟩) (k + m) c], .nilIface]) (by simp [results, Tryz.results38, go_sem, c2]) rfl ⟨rfl, ?_, ?_⟩
  · have n1 : ∀ G, w.heap.size ≤ G → (Value.slice (some ⟨g, off, none⟩) (k + m) c).ownBlock ≠ some G := fun G hG => by simp [Value.ownBlock]; omega
    exact ((((HO2.out.farB (p := ⟨w.heap.size, 2, none⟩) (n1 _ (Nat.le_refl _)) (HOFF.out _ (Nat.le_refl _)) _).farB (p := ⟨w.heap.size + 1, 0, none⟩) (n1 _ (by simp)) (HOFF.out _ (by simp)) _).farB (p := ⟨w.heap.size + 1, 1, none⟩) (n1 _ (by simp)) (HOFF.out _ (by simp)) _).farB (p := ⟨w.heap.size + 1, 2, none⟩) (n1 _ (by simp)) (HOFF.out _ (by simp)) _)
  · exact (((hb1.setCell (by show base ≤ w.heap.size; omega) _).setCell (by show base ≤ w.heap.size + 1; omega) _).setCell (by show base ≤ w.heap.size + 1; omega) _).setCell (by show base ≤ w.heap.size + 1; omega) _

/-- No pixels lie in a block that holds two numbers and a slice. -/
theorem OffB.blk {w : World} {B g T : Nat} {m : LM} {a b : Int} {C : Option Addr} {n' c' : Nat} (h : Reads w B 4 m.A m.n (pxCells m.l.ps)) (hb : Blk w g T #[.int .i64 a, .int .i64 b, .slice C n' c']) : OffB g m := by
  intro b' off' e hn e2
  subst e2
  rw [e] at h
  have hpl := h.pxLen
  have h0 := (h.px 0 (by omega)).1
  rw [Nat.zero_mul, Nat.add_zero, hb.cell] at h0
  match off', h0 with
  | 0, h0 => simp at h0
  | 1, h0 => simp at h0
  | 2, h0 => simp at h0
  | k + 3, h0 => simp at h0
set_option maxRecDepth 100000 in
set_option maxHeartbeats 2000000 in
theorem withRemove_any (W H : Int) (A : Option Addr) (n c k : Nat) (s : ByteArray) (ms : List LM) (w : World) (hL : Lays w w.heap.size A n ms) (hG : Lay.Good W H (lsOf ms)) (hf : Lay.find (lsOf ms) s = k) (hk : k < n) :
    Calls Tryz.prog 37 #[.agg #[.int .i64 W, .int .i64 H, .slice A n c], .string s, .func (.func 38) #[] #[]] w
      fun e w' => ∃ g off c' ns, e = .returned (.tuple #[.agg #[.int .i64 W, .int .i64 H, .slice (some ⟨g, off, none⟩) ns.length c'], .nilIface]) ∧ LaysO w' w.heap.size (.slice (some ⟨g, off, none⟩) ns.length c') ns ∧ lsOf ns = (lsOf ms).eraseIdx k ∧ Below w.heap.size w w' := by
  obtain rfl := hL.len
  have hok := layOK_of hG hL
  have hn8 : ms.length ≤ 8 := by have := hG.n; rw [lsOf_len] at this; exact this
  have hp : ∀ m ∈ ms, 0 < m.n ∧ m.n ≤ 1048576 := by
    intro m hm
    have h := hok m hm
    obtain ⟨h1, h2⟩ := h.wd
    obtain ⟨h3, h4⟩ := h.hg
    have h5 := h.n
    obtain ⟨z1, z2⟩ := mul_bounds (show 0 ≤ m.l.wide by omega) h2 (show 0 ≤ m.l.high by omega) h4
    have z3 := Int.mul_le_mul h1 h3 (by omega) (by omega)
    omega
  obtain ⟨b0, off0, rfl, hb0⟩ := hL.1.addr (by omega)
  have HF := Lib.hid hf
  have HG := Lib.hid hG
  have HP := Lib.hid hp
  clear hf hG hp hok
  have hL1 := fun o o2 => (hL.step (Below.alloc (Below.refl _ _) (Nat.le_refl _) o)).step (Below.alloc (Below.refl _ _) (Nat.le_refl _) o2)
  have HL1 := Lib.hid hL1
  clear hL1
  go_enter Tryz.func37, Tryz.ntmps37
  go_wp2_with fail
  refine (check_good W H _ ms.length c ms _ (HL1.out _ _) HG.out).mono ?_
  rintro e w1 ⟨rfl, hb1⟩
  have K1 : B2 w.heap.size w w1 w.heap.size 39 #[.int .i64 W, .int .i64 H, .slice (some ⟨b0, off0, none⟩) ms.length c] (w.heap.size + 1) 39 #[.int .i64 0, .int .i64 0, .slice none 0 0] :=
    B2.step ⟨(Blk.new _ _ _ rfl).alloc _, Blk.new _ _ _ (by simp), by go_grown, by simp; omega⟩ hb1
  have c1 := K1.b1.cell
  have L1 := Lib.hid (hL.here K1.bel (Nat.le_refl _) K1.hB)
  clear hb1
  go_wp2_with fail
  refine (find_any W H _ ms.length c ms s _ L1.out (by omega)).mono ?_
  rintro e w2 ⟨rfl, hb2⟩
  have K2 := K1.step hb2
  have e1 := K2.b1.cell
  have L2 := Lib.hid (hL.here K2.bel (Nat.le_refl _) K2.hB)
  rw [HF.out]
  clear c1 hb2
  have k0 : (0 : Int) ≤ (k : Int) := by omega
  go_wp2_with fail
  refine (ownDoc_any W H b0 off0 ms.length c ms _ L2.out (by omega) HP.out (by omega)).mono ?_
  rintro e w3 ⟨g, off, c', ns, rfl, hO, hns, hb3⟩
  have K3 := K2.step hb3
  have c3 := K3.b1.cell
  have HNS := Lib.hid hns
  have hnl := same_lays hns
  have hge := (hO.own.lt g rfl).1
  obtain ⟨m, hm⟩ : ∃ m, ns.length = k + 1 + m := ⟨ns.length - (k + 1), by omega⟩
  have HM := Lib.hid hm
  have hns8 : ns.length ≤ 4096 := by omega
  have HO := Lib.hid hO
  have hz3 := hb3.size
  clear hO hns hnl hm hb3 e1
  go_wp2_with fail
  refine (remove1_any W H w2.heap.size g off ns.length c' k m ns _ HO.out HM.out hns8 hz3).mono ?_
  rintro e w4 ⟨rfl, hO4, hb4⟩
  have b24 := K3.b2.below hb4 K2.b2.lt
  have c4 := b24.cell
  have f4 := b24.free
  have h2l := K2.b2.lt
  have hbw : Below w.heap.size w w4 := K3.bel.trans (hb4.mono K2.hB)
  have hoff : ∀ x ∈ ns.eraseIdx k, OffB (w.heap.size + 1) x := fun x hx => OffB.blk (hO4.px x hx) b24
  have HOFF := Lib.hid hoff
  have HO4 := Lib.hid hO4
  clear hO4 hoff c3
  have hlen : (ns.eraseIdx k).length = k + m := by rw [List.length_eraseIdx_of_lt (by have := HM.out; omega)]; have := HM.out; omega
  have HLEN := Lib.hid hlen
  clear hlen
  go_wp2_with fail
  refine bodyPost_ret (v := .tuple #[.agg #[.int .i64 W, .int .i64 H, .slice (some ⟨g, off, none⟩) (k + m) c'], .nilIface]) (by simp [results, Tryz.results37, go_sem, c4]) rfl ⟨g, off, c', ns.eraseIdx k, by rw [HLEN.out], ?_, by rw [lsOf_erase, HNS.out], ?_⟩
  · rw [HLEN.out]
    have n1 : (Value.slice (some ⟨g, off, none⟩) (k + m) c').ownBlock ≠ some (w.heap.size + 1) := by simp [Value.ownBlock]; omega
    exact (((HO4.out.farB n1 HOFF.out _).farB n1 HOFF.out _).farB n1 HOFF.out _).mono K2.hB
  · exact ((hbw.setCell (by simp) _).setCell (by simp) _).setCell (by simp) _

set_option maxRecDepth 100000 in
theorem remove_any (W H : Int) (A : Option Addr) (n c k : Nat) (s : ByteArray) (ms : List LM) (w : World) (hL : Lays w w.heap.size A n ms) (hG : Lay.Good W H (lsOf ms)) (hf : Lay.find (lsOf ms) s = k) (hk : k < n) :
    Calls Tryz.prog 15 #[.agg #[.int .i64 W, .int .i64 H, .slice A n c], .string s]
      w fun e w' => ∃ g off c' ns, e = .returned (.tuple #[.agg #[.int .i64 W, .int .i64 H, .slice (some ⟨g, off, none⟩) ns.length c'], .nilIface]) ∧ LaysO w' w.heap.size (.slice (some ⟨g, off, none⟩) ns.length c') ns ∧ lsOf ns = (lsOf ms).eraseIdx k ∧ Below w.heap.size w w' := by
  have HF := Lib.hid hf
  have HG := Lib.hid hG
  clear hf hG
  have hL1 := fun o o2 => (hL.step (Below.alloc (Below.refl _ _) (Nat.le_refl _) o)).step (Below.alloc (Below.refl _ _) (Nat.le_refl _) o2)
  have HL1 := Lib.hid hL1
  clear hL1
  go_enter Tryz.func15, Tryz.ntmps15
  go_wp2_with fail
  refine (withRemove_any W H A n c k s ms _ (HL1.out _ _) HG.out HF.out hk).mono ?_
  rintro e w4 ⟨g, off, c', ns, rfl, hO4, hns, hb4⟩
  have b24 := (Blk.new (w.alloc (.cells #[.int .i64 W, .int .i64 H, .slice A n c] 39)) 39 #[.int .i64 0, .int .i64 0, .slice none 0 0] rfl).below hb4 (by simp)
  simp at b24
  have c4 := b24.cell
  have f4 := b24.free
  have hge := (hO4.own.lt g rfl).1
  simp at hge
  have hbw : Below w.heap.size w w4 := Below.trans (by go_grown) (hb4.mono (by simp; omega))
  have hoff : ∀ x ∈ ns, OffB (w.heap.size + 1) x := fun x hx => OffB.blk (hO4.px x hx) b24
  have HOFF := Lib.hid hoff
  have HO4 := Lib.hid hO4
  have HNS := Lib.hid hns
  clear hO4 hoff hns hb4
  go_wp2_with fail
  refine bodyPost_ret (v := .tuple #[.agg #[.int .i64 W, .int .i64 H, .slice (some ⟨g, off, none⟩) ns.length c'], .nilIface]) (by simp [results, Tryz.results15, go_sem, c4]) rfl ⟨g, off, c', ns, rfl, ?_, HNS.out, ?_⟩
  · have n1 : (Value.slice (some ⟨g, off, none⟩) ns.length c').ownBlock ≠ some (w.heap.size + 1) := by simp [Value.ownBlock]; omega
    exact (((HO4.out.farB n1 HOFF.out _).farB n1 HOFF.out _).farB n1 HOFF.out _).mono (by simp; omega)
  · exact ((hbw.setCell (by simp) _).setCell (by simp) _).setCell (by simp) _
end Go.Proofs.YtmknacnmdlcieaaGreatDoor
/- with, at a document without a fault and a name that is there: whatever the change is. -/
namespace Go.Proofs.YtmknacnmdlcieaaGreatDoor
open Go Go.RowKit

/-- What with hands its change. -/
def HowAt (W H : Int) (ls : List Lay.Layer) (base k : Nat) (K : FuncId) (pb : Nat) (w3 : World) (R : World → Ending → World → Prop) : Prop :=
  ∀ g off c' ns, LaysO w3 base (.slice (some ⟨g, off, none⟩) ns.length c') ns → lsOf ns = ls → Calls Tryz.prog K #[.agg #[.int .i64 W, .int .i64 H, .slice (some ⟨g, off, none⟩) ns.length c'], .int .i64 k, .pointer (some ⟨pb, 0, none⟩)] w3 (R w3)
/-- A change that is not made. -/
def HowBad (E : Nat → Addr) (f : Nat × Int) (base : Nat) (w : World) (e : Ending) (w' : World) : Prop := ∃ v, e = .returned (.tuple #[.agg #[.int .i64 0, .int .i64 0, .slice none 0 0], v]) ∧ ErrIs E w' v f ∧ Below base w w'
/-- A document of new layers. -/
def DocNew (W H : Int) (base : Nat) (ls : List Lay.Layer) (w : World) (e : Ending) (w' : World) : Prop :=
  ∃ A c ns, e = .returned (.tuple #[.agg #[.int .i64 W, .int .i64 H, .slice A ns.length c], .nilIface]) ∧ LaysO w' base (.slice A ns.length c) ns ∧ lsOf ns = ls ∧ Below base w w'

set_option maxRecDepth 100000 in
set_option maxHeartbeats 2000000 in
theorem with_move (W H : Int) (A : Option Addr) (n c k : Nat) (s : ByteArray) (ms : List LM) (pb : Nat) (out : List Lay.Layer) (w : World) (hL : Lays w w.heap.size A n ms) (hG : Lay.Good W H (lsOf ms)) (hf : Lay.find (lsOf ms) s = k) (hk : k < n)
    (how : ∀ w3 base, Below w.heap.size w w3 → w.heap.size ≤ base → base ≤ w3.heap.size → HowAt W H (lsOf ms) base k 40 pb w3 (fun w3 => DocNew W H base out w3)) :
    Calls Tryz.prog 37 #[.agg #[.int .i64 W, .int .i64 H, .slice A n c], .string s, .func (.func 40) #[] #[.pointer (some ⟨pb, 0, none⟩)]] w (DocNew W H w.heap.size out w) := by
  obtain rfl := hL.len
  have hok := layOK_of hG hL
  have hn8 : ms.length ≤ 8 := by have := hG.n; rw [lsOf_len] at this; exact this
  have hp : ∀ m ∈ ms, 0 < m.n ∧ m.n ≤ 1048576 := by
    intro m hm
    have h := hok m hm
    obtain ⟨h1, h2⟩ := h.wd
    obtain ⟨h3, h4⟩ := h.hg
    have h5 := h.n
    obtain ⟨z1, z2⟩ := mul_bounds (show 0 ≤ m.l.wide by omega) h2 (show 0 ≤ m.l.high by omega) h4
    have z3 := Int.mul_le_mul h1 h3 (by omega) (by omega)
    omega
  obtain ⟨b0, off0, rfl, hb0⟩ := hL.1.addr (by omega)
  have HF := Lib.hid hf
  have HG := Lib.hid hG
  have HP := Lib.hid hp
  have HH := Lib.hid how
  clear hf hG hp hok how
  have hL1 := fun o o2 => (hL.step (Below.alloc (Below.refl _ _) (Nat.le_refl _) o)).step (Below.alloc (Below.refl _ _) (Nat.le_refl _) o2)
  have HL1 := Lib.hid hL1
  clear hL1
  go_enter Tryz.func37, Tryz.ntmps37
  go_wp2_with fail
  refine (check_good W H _ ms.length c ms _ (HL1.out _ _) HG.out).mono ?_
  rintro e w1 ⟨rfl, hb1⟩
  have K1 : B2 w.heap.size w w1 w.heap.size 39 #[.int .i64 W, .int .i64 H, .slice (some ⟨b0, off0, none⟩) ms.length c] (w.heap.size + 1) 39 #[.int .i64 0, .int .i64 0, .slice none 0 0] :=
    B2.step ⟨(Blk.new _ _ _ rfl).alloc _, Blk.new _ _ _ (by simp), by go_grown, by simp; omega⟩ hb1
  have c1 := K1.b1.cell
  have L1 := Lib.hid (hL.here K1.bel (Nat.le_refl _) K1.hB)
  clear hb1
  go_wp2_with fail
  refine (find_any W H _ ms.length c ms s _ L1.out (by omega)).mono ?_
  rintro e w2 ⟨rfl, hb2⟩
  have K2 := K1.step hb2
  have e1 := K2.b1.cell
  have L2 := Lib.hid (hL.here K2.bel (Nat.le_refl _) K2.hB)
  rw [HF.out]
  clear c1 hb2
  have k0 : (0 : Int) ≤ (k : Int) := by omega
  go_wp2_with fail
  refine (ownDoc_any W H b0 off0 ms.length c ms _ L2.out (by omega) HP.out (by omega)).mono ?_
  rintro e w3 ⟨g, off, c', ns, rfl, hO, hns, hb3⟩
  have K3 := K2.step hb3
  have HNS := Lib.hid hns
  have hz3 := hb3.size
  have HO := Lib.hid hO
  clear hO hns hb3 e1
  go_wp2_with fail
  refine (HH.out w3 w2.heap.size K3.bel K2.hB hz3 g off c' ns HO.out HNS.out).mono ?_
  rintro e w4 ⟨A4, cc4, ns4, rfl, hO4, hs4, hb4⟩
  have b24 := K3.b2.below hb4 K2.b2.lt
  have c4 := b24.cell
  have f4 := b24.free
  have h2l := K2.b2.lt
  have hbw : Below w.heap.size w w4 := K3.bel.trans (hb4.mono K2.hB)
  have hoff : ∀ x ∈ ns4, OffB (w.heap.size + 1) x := fun x hx => OffB.blk (hO4.px x hx) b24
  have HOFF := Lib.hid hoff
  have HO4 := Lib.hid hO4
  have HS4 := Lib.hid hs4
  clear hO4 hoff hs4
  go_wp2_with fail
  refine bodyPost_ret (v := .tuple #[.agg #[.int .i64 W, .int .i64 H, .slice A4 ns4.length cc4], .nilIface]) (by simp [results, Tryz.results37, go_sem, c4]) rfl ⟨A4, cc4, ns4, rfl, ?_, HS4.out, ?_⟩
  · have n1 : (Value.slice A4 ns4.length cc4).ownBlock ≠ some (w.heap.size + 1) := fun e => by have := (HO4.out.own.lt _ e).1; omega
    exact (((HO4.out.farB n1 HOFF.out _).farB n1 HOFF.out _).farB n1 HOFF.out _).mono K2.hB
  · exact ((hbw.setCell (by simp) _).setCell (by simp) _).setCell (by simp) _

set_option maxRecDepth 100000 in
set_option maxHeartbeats 2000000 in
theorem with_move_bad (W H : Int) (A : Option Addr) (n c k : Nat) (s : ByteArray) (ms : List LM) (pb : Nat) (E : Nat → Addr) (f : Nat × Int) (w : World) (hL : Lays w w.heap.size A n ms) (hG : Lay.Good W H (lsOf ms)) (hf : Lay.find (lsOf ms) s = k) (hk : k < n)
    (how : ∀ w3 base, Below w.heap.size w w3 → w.heap.size ≤ base → base ≤ w3.heap.size → HowAt W H (lsOf ms) base k 40 pb w3 (fun w3 => HowBad E f base w3)) :
    Calls Tryz.prog 37 #[.agg #[.int .i64 W, .int .i64 H, .slice A n c], .string s, .func (.func 40) #[] #[.pointer (some ⟨pb, 0, none⟩)]] w (BadPost E f w) := by
  obtain rfl := hL.len
  have hok := layOK_of hG hL
  have hn8 : ms.length ≤ 8 := by have := hG.n; rw [lsOf_len] at this; exact this
  have hp : ∀ m ∈ ms, 0 < m.n ∧ m.n ≤ 1048576 := by
    intro m hm
    have h := hok m hm
    obtain ⟨h1, h2⟩ := h.wd
    obtain ⟨h3, h4⟩ := h.hg
    have h5 := h.n
    obtain ⟨z1, z2⟩ := mul_bounds (show 0 ≤ m.l.wide by omega) h2 (show 0 ≤ m.l.high by omega) h4
    have z3 := Int.mul_le_mul h1 h3 (by omega) (by omega)
    omega
  obtain ⟨b0, off0, rfl, hb0⟩ := hL.1.addr (by omega)
  have HF := Lib.hid hf
  have HG := Lib.hid hG
  have HP := Lib.hid hp
  have HH := Lib.hid how
  clear hf hG hp hok how
  have hL1 := fun o o2 => (hL.step (Below.alloc (Below.refl _ _) (Nat.le_refl _) o)).step (Below.alloc (Below.refl _ _) (Nat.le_refl _) o2)
  have HL1 := Lib.hid hL1
  clear hL1
  go_enter Tryz.func37, Tryz.ntmps37
  go_wp2_with fail
  refine (check_good W H _ ms.length c ms _ (HL1.out _ _) HG.out).mono ?_
  rintro e w1 ⟨rfl, hb1⟩
  have K1 : B2 w.heap.size w w1 w.heap.size 39 #[.int .i64 W, .int .i64 H, .slice (some ⟨b0, off0, none⟩) ms.length c] (w.heap.size + 1) 39 #[.int .i64 0, .int .i64 0, .slice none 0 0] :=
    B2.step ⟨(Blk.new _ _ _ rfl).alloc _, Blk.new _ _ _ (by simp), by go_grown, by simp; omega⟩ hb1
  have c1 := K1.b1.cell
  have L1 := Lib.hid (hL.here K1.bel (Nat.le_refl _) K1.hB)
  clear hb1
  go_wp2_with fail
  refine (find_any W H _ ms.length c ms s _ L1.out (by omega)).mono ?_
  rintro e w2 ⟨rfl, hb2⟩
  have K2 := K1.step hb2
  have e1 := K2.b1.cell
  have L2 := Lib.hid (hL.here K2.bel (Nat.le_refl _) K2.hB)
  rw [HF.out]
  clear c1 hb2
  have k0 : (0 : Int) ≤ (k : Int) := by omega
  go_wp2_with fail
  refine (ownDoc_any W H b0 off0 ms.length c ms _ L2.out (by omega) HP.out (by omega)).mono ?_
  rintro e w3 ⟨g, off, c', ns, rfl, hO, hns, hb3⟩
  have K3 := K2.step hb3
  have HNS := Lib.hid hns
  have hz3 := hb3.size
  have HO := Lib.hid hO
  clear hO hns hb3 e1
  go_wp2_with fail
  refine (HH.out w3 w2.heap.size K3.bel K2.hB hz3 g off c' ns HO.out HNS.out).mono ?_
  rintro e w4 ⟨v, rfl, hv, hb4⟩
  have b24 := K3.b2.below hb4 K2.b2.lt
  have c4 := b24.cell
  have f4 := b24.free
  have h2l := b24.lt
  have hbw : Below w.heap.size w w4 := K3.bel.trans (hb4.mono K2.hB)
  have HV := Lib.hid hv
  have hz2 : w.heap.size ≤ w.heap.size + 1 := by omega
  clear hv
  go_wp2_with fail
  exact bodyPost_ret (v := .tuple #[.agg #[.int .i64 0, .int .i64 0, .slice none 0 0], v]) (by simp [results, Tryz.results37, go_sem, c4]) rfl ⟨_, rfl, HV.out.zero3 b24 rfl _ _ _, ((hbw.setCell hz2 _).setCell hz2 _).setCell hz2 _⟩

set_option maxRecDepth 100000 in
set_option maxHeartbeats 2000000 in
theorem with_merge (W H : Int) (A : Option Addr) (n c k : Nat) (s : ByteArray) (ms : List LM) (pb : Nat) (out : List Lay.Layer) (w : World) (hL : Lays w w.heap.size A n ms) (hG : Lay.Good W H (lsOf ms)) (hf : Lay.find (lsOf ms) s = k) (hk : k < n)
    (how : ∀ w3 base, Below w.heap.size w w3 → w.heap.size ≤ base → base ≤ w3.heap.size → HowAt W H (lsOf ms) base k 42 pb w3 (fun w3 => DocNew W H base out w3)) :
    Calls Tryz.prog 37 #[.agg #[.int .i64 W, .int .i64 H, .slice A n c], .string s, .func (.func 42) #[] #[.pointer (some ⟨pb, 0, none⟩)]] w (DocNew W H w.heap.size out w) := by
  obtain rfl := hL.len
  have hok := layOK_of hG hL
  have hn8 : ms.length ≤ 8 := by have := hG.n; rw [lsOf_len] at this; exact this
  have hp : ∀ m ∈ ms, 0 < m.n ∧ m.n ≤ 1048576 := by
    intro m hm
    have h := hok m hm
    obtain ⟨h1, h2⟩ := h.wd
    obtain ⟨h3, h4⟩ := h.hg
    have h5 := h.n
    obtain ⟨z1, z2⟩ := mul_bounds (show 0 ≤ m.l.wide by omega) h2 (show 0 ≤ m.l.high by omega) h4
    have z3 := Int.mul_le_mul h1 h3 (by omega) (by omega)
    omega
  obtain ⟨b0, off0, rfl, hb0⟩ := hL.1.addr (by omega)
  have HF := Lib.hid hf
  have HG := Lib.hid hG
  have HP := Lib.hid hp
  have HH := Lib.hid how
  clear hf hG hp hok how
  have hL1 := fun o o2 => (hL.step (Below.alloc (Below.refl _ _) (Nat.le_refl _) o)).step (Below.alloc (Below.refl _ _) (Nat.le_refl _) o2)
  have HL1 := Lib.hid hL1
  clear hL1
  go_enter Tryz.func37, Tryz.ntmps37
  go_wp2_with fail
  refine (check_good W H _ ms.length c ms _ (HL1.out _ _) HG.out).mono ?_
  rintro e w1 ⟨rfl, hb1⟩
  have K1 : B2 w.heap.size w w1 w.heap.size 39 #[.int .i64 W, .int .i64 H, .slice (some ⟨b0, off0, none⟩) ms.length c] (w.heap.size + 1) 39 #[.int .i64 0, .int .i64 0, .slice none 0 0] :=
    B2.step ⟨(Blk.new _ _ _ rfl).alloc _, Blk.new _ _ _ (by simp), by go_grown, by simp; omega⟩ hb1
  have c1 := K1.b1.cell
  have L1 := Lib.hid (hL.here K1.bel (Nat.le_refl _) K1.hB)
  clear hb1
  go_wp2_with fail
  refine (find_any W H _ ms.length c ms s _ L1.out (by omega)).mono ?_
  rintro e w2 ⟨rfl, hb2⟩
  have K2 := K1.step hb2
  have e1 := K2.b1.cell
  have L2 := Lib.hid (hL.here K2.bel (Nat.le_refl _) K2.hB)
  rw [HF.out]
  clear c1 hb2
  have k0 : (0 : Int) ≤ (k : Int) := by omega
  go_wp2_with fail
  refine (ownDoc_any W H b0 off0 ms.length c ms _ L2.out (by omega) HP.out (by omega)).mono ?_
  rintro e w3 ⟨g, off, c', ns, rfl, hO, hns, hb3⟩
  have K3 := K2.step hb3
  have HNS := Lib.hid hns
  have hz3 := hb3.size
  have HO := Lib.hid hO
  clear hO hns hb3 e1
  go_wp2_with fail
  refine (HH.out w3 w2.heap.size K3.bel K2.hB hz3 g off c' ns HO.out HNS.out).mono ?_
  rintro e w4 ⟨A4, cc4, ns4, rfl, hO4, hs4, hb4⟩
  have b24 := K3.b2.below hb4 K2.b2.lt
  have c4 := b24.cell
  have f4 := b24.free
  have h2l := K2.b2.lt
  have hbw : Below w.heap.size w w4 := K3.bel.trans (hb4.mono K2.hB)
  have hoff : ∀ x ∈ ns4, OffB (w.heap.size + 1) x := fun x hx => OffB.blk (hO4.px x hx) b24
  have HOFF := Lib.hid hoff
  have HO4 := Lib.hid hO4
  have HS4 := Lib.hid hs4
  clear hO4 hoff hs4
  go_wp2_with fail
  refine bodyPost_ret (v := .tuple #[.agg #[.int .i64 W, .int .i64 H, .slice A4 ns4.length cc4], .nilIface]) (by simp [results, Tryz.results37, go_sem, c4]) rfl ⟨A4, cc4, ns4, rfl, ?_, HS4.out, ?_⟩
  · have n1 : (Value.slice A4 ns4.length cc4).ownBlock ≠ some (w.heap.size + 1) := fun e => by have := (HO4.out.own.lt _ e).1; omega
    exact (((HO4.out.farB n1 HOFF.out _).farB n1 HOFF.out _).farB n1 HOFF.out _).mono K2.hB
  · exact ((hbw.setCell (by simp) _).setCell (by simp) _).setCell (by simp) _
end Go.Proofs.YtmknacnmdlcieaaGreatDoor
/- RemoveOf of the reference: the walk. Printed by mkremof.py. -/
namespace Go.Proofs.YtmknacnmdlcieaaGreatDoor
open Go Go.RowKit

/-- Some of the layers, in a slice made since. -/
theorem LaysO.piece {w w' : World} {base base' : Nat} {v v' : Value} {ns xs : List LM} (h : LaysO w base v ns) (ho : Own w' base' 9 v' xs.length (layCells xs)) (hs : ∀ m ∈ xs, m ∈ ns) (hb : Below w.heap.size w w') (hB : w.heap.size ≤ base') : LaysO w' base' v' xs :=
  ⟨ho, fun m hm => ((h.px m (hs m hm)).below hb (Nat.le_refl _)).more hb.size, fun m hm b off e hn e2 => by
    obtain ⟨b', o', e', hb', _⟩ := (h.px m (hs m hm)).2 (by omega)
    rw [e] at e'
    injection e' with e'
    injection e' with e' _
    have := (ho.lt _ e2).1
    omega⟩
theorem Reads.tail {w : World} {B g off n : Nat} {ns : List LM} (h : Reads w B 9 (some ⟨g, off, none⟩) n (layCells ns)) (k m : Nat) (hk : k + m = ns.length) : Reads w B 9 (some ⟨g, off + k * 9, none⟩) m (layCells (ns.drop k)) := by
  have hn : n = ns.length := by have := h.1; rw [layCells_length] at this; omega
  subst hn
  refine ⟨by rw [layCells_length, List.length_drop]; omega, fun h0 => ?_⟩
  obtain ⟨b, o, e, hb, hc⟩ := h.2 (by omega)
  injection e with e
  injection e with e1 e2
  subst e1; subst e2
  refine ⟨g, off + k * 9, rfl, hb, fun j u hu => ?_⟩
  rw [← layCells_drop ns k (by omega), List.getElem?_drop] at hu
  rw [Nat.add_assoc]
  exact hc _ _ hu
theorem Reads.none9 {w : World} {B : Nat} {A : Option Addr} {ns : List LM} {k : Nat} (hk : ns.length ≤ k) : Reads w B 9 A 0 (layCells (ns.drop k)) := by
  rw [List.drop_eq_nil_of_le hk]
  exact Reads.none_
theorem Reads.head {w : World} {B n : Nat} {A : Option Addr} {ns : List LM} (h : Reads w B 9 A n (layCells ns)) (k : Nat) (hk : k ≤ ns.length) : Reads w B 9 A k (layCells (ns.take k)) := by
  have hn : n = ns.length := by have := h.1; rw [layCells_length] at this; omega
  rw [← layCells_take ns k hk]
  exact h.take (by omega)

set_option maxRecDepth 100000 in
set_option maxHeartbeats 4000000 in
theorem removeOf_any (W H : Int) (A : Option Addr) (n c k : Nat) (ms : List LM) (w : World) (hL : Lays w w.heap.size A n ms) (hn : n ≤ 4096) (hp : ∀ m ∈ ms, m.n ≤ 1048576) (hk : k < n) :
    Calls Tryz.prog 18 #[.agg #[.int .i64 W, .int .i64 H, .slice A n c], .int .i64 k] w
      fun e w' => ∃ A' c' ns, e = .returned (.agg #[.int .i64 W, .int .i64 H, .slice A' ns.length c']) ∧ LaysO w' w.heap.size (.slice A' ns.length c') ns ∧ lsOf ns = (lsOf ms).eraseIdx k ∧ Below w.heap.size w w' := by
  obtain ⟨i0, hi, hz0, hz1, hz2⟩ := info_parts layInfo3
  have hL1 := fun o o2 => (hL.step (Below.alloc (Below.refl _ _) (Nat.le_refl _) o)).step (Below.alloc (Below.refl _ _) (Nat.le_refl _) o2)
  have HL1 := Lib.hid hL1
  have HLN := Lib.hid hL.len
  clear hL1 hL
  go_enter Tryz.func18, Tryz.ntmps18
  go_wp2_with fail
  refine (refOwn_any W H A n c ms _ (HL1.out _ _) hn hp).mono ?_
  rintro e w1 ⟨A1, c1, ns, rfl, hO, hns, hhi, hb1⟩
  have B4 := (Blk.new (w.alloc (.cells #[.int .i64 W, .int .i64 H, .slice A n c] 24)) 24 #[.int .i64 0, .int .i64 0, .slice none 0 0] rfl).below hb1 (by simp)
  simp at B4
  have hbw : Below w.heap.size w w1 := Below.trans (by go_grown) (hb1.mono (by simp; omega))
  have hnl := same_lays hns
  have hlen := HLN.out
  obtain ⟨g, off, rfl, hg1, hg2⟩ := hO.own.addr (by omega)
  have hnc : ns.length ≤ c1 ∧ c1 ≤ 9223372036854775807 := by
    rcases hO.own.2 with ⟨e, _⟩ | ⟨_, _, _, e, _, _, h1, h, _⟩
    · cases e
    · injection e with _ _ e3
      unfold maxLen at h
      omega
  have HO := Lib.hid hO
  have HNS := Lib.hid hns
  have HBW := Lib.hid hbw
  have hkn : k < ns.length := by omega
  have hnn : ns.length ≤ 4096 := by omega
  clear hO hns hbw hb1 hg1 hg2 hnl hlen
  go_upto_region 3 with fail
  obtain ⟨gD, hgD⟩ : ∃ gD, gD = w1.heap.size := ⟨_, rfl⟩
  obtain ⟨W2, hW2⟩ : ∃ W2, W2 = w1.alloc (.cells #[.int .i64 W, .int .i64 H, .slice (some ⟨g, off, none⟩) ns.length c1] 24) := ⟨_, rfl⟩
  have HD := Lib.hid (show Blk W2 gD 24 #[.int .i64 W, .int .i64 H, .slice (some ⟨g, off, none⟩) ns.length c1] by rw [hW2, hgD]; exact Blk.new _ _ _ rfl)
  have HB2 := Lib.hid (show Below w1.heap.size w1 W2 by rw [hW2]; exact Below.alloc (Below.refl _ _) (Nat.le_refl _) _)
  have hgD1 : w1.heap.size ≤ gD := by omega
  have hne4 : ¬ gD = w.heap.size + 1 := by have := B4.lt; omega
  have hne4' : ¬ w.heap.size + 1 = gD := by have := B4.lt; omega
  rw [← hW2, ← hgD]
  clear hW2 hgD
  have cD2 := HD.out.cell
  have hzW : w1.heap.size ≤ W2.heap.size := HB2.out.size
  have HR1 := Lib.hid (((HO.out.lays.1.below HB2.out (Nat.le_refl _)).more HB2.out.size).head k (by omega))
  have z1 : (0 : Int) ≤ (k : Int) := by omega
  have z2 : (k : Int) ≤ c1 := by omega
  have z3 : (k : Int) + 1 ≤ ns.length := by omega
  have z5 : (0 : Int) ≤ (k : Int) + 1 := by omega
  have z6 : (ns.length : Int) ≤ c1 := by omega
  by_cases hck : c1 = k + 1
  · subst hck
    have hn1 : ns.length = k + 1 := by omega
    go_upto_region 4 with (at_builtin; refine wpList_append_S rfl (.tmp 9) (.tmp 13) 22 22 rfl (w1.heap.size) 29 i0 _ 9 96 Tryz.underlying22 hi hz0 hz1 hz2 rfl (by decide) (.slice none 0 0) (0) ([]) rfl (Own.nil _ _ _) (by intro u hu; cases hu) (k) (layCells (ns.take k)) (Reads.src Tryz.underlying22 HR1.out (by decide) (layCells_one _) _) (k) (by omega) (layCells (ns.take k)) (rfl) (by unfold maxLen; omega) (by omega) (by first | omega | (simp; omega)) ?_; intro A2 c2 wa howna hga hata)
    have bWa : Below W2.heap.size W2 wa := (Below.refl W2.heap.size W2).grown hga (Nat.le_refl _) (fun g' e => by cases e)
    have HDA := Lib.hid (HD.out.below bWa HD.out.lt)
    have HDN := Lib.hid (show some gD ≠ (Value.slice A2 k c2).ownBlock from fun e => by
      rcases hata with h | h
      · rw [h] at e; cases e
      · rw [h] at e; injection e with e; have := HD.out.lt; omega)
    have HOA := Lib.hid howna
    have HBA := Lib.hid (HB2.out.trans (bWa.mono HB2.out.size))
    have cD := (HD.out.below bWa HD.out.lt).cell
    have HR2 := Lib.hid (show Reads wa wa.heap.size 9 (some ⟨g, off, none⟩) (0) (layCells (ns.drop (k + 1))) from Reads.none9 (by omega))
    have hzA : w1.heap.size ≤ wa.heap.size := HBA.out.size
    clear howna hga hata bWa cD2
    go_wp2_with (at_builtin; refine wpList_append_S rfl (.tmp 15) (.tmp 20) 22 22 rfl (w1.heap.size) 29 i0 _ 9 96 Tryz.underlying22 hi hz0 hz1 hz2 rfl (by decide) (.slice A2 k c2) (k) (layCells (ns.take k)) rfl (HOA.out) (layCells_one _) (0) (layCells (ns.drop (k + 1))) (Reads.src Tryz.underlying22 HR2.out (by decide) (layCells_one _) _) (k + 0) (by omega) (layCells (ns.take k) ++ layCells (ns.drop (k + 1))) (rfl) (by unfold maxLen; omega) (by omega) (by first | omega | (simp; omega)) ?_; intro A3 c3 wn hownn hgn hatn; have HDm := HDA.out.grown hgn HDN.out; have cDm := HDm.cell; have fDm := HDm.free; have lDm := HDm.lt; have b1m : Below w1.heap.size w1 wn := HBA.out.grown hgn hzA (fun g' e => (HOA.out.lt g' e).1); have B4m := B4.below b1m B4.lt; have c4m := B4m.cell; have f4m := B4m.free; have l4m := B4m.lt)
    have b1n : Below w1.heap.size w1 wn := HBA.out.grown hgn hzA (fun g' e => (HOA.out.lt g' e).1)
    have hxs : (ns.take k ++ ns.drop (k + 1)).length = k + 0 := by rw [List.length_append, List.length_take, List.length_drop]; omega
    have HX := Lib.hid hxs
    have HON := Lib.hid hownn
    have HB1N := Lib.hid b1n
    have b4n := B4.below b1n B4.lt
    have HDn := Lib.hid (HDA.out.grown hgn HDN.out)
    have HN3 := Lib.hid (show (Value.slice A3 (k + 0) c3).ownBlock ≠ some gD from fun e => by
      rcases hatn with h | h
      · exact HDN.out (e.symm.trans h)
      · rw [h] at e; injection e with e; have := HDA.out.lt; omega)
    clear hownn hgn hatn b1n
    refine bodyPost_ret (v := .agg #[.int .i64 W, .int .i64 H, .slice A3 (k + 0) c3]) (by simp [results, Tryz.results18, go_sem, b4n.cell]) rfl ?_
    have hmem : ∀ x ∈ ns.take k ++ ns.drop (k + 1), x ∈ ns := fun x hx => by
      rcases List.mem_append.1 hx with h | h
      · exact List.mem_of_mem_take h
      · exact List.mem_of_mem_drop h
    have hoff : ∀ x ∈ ns.take k ++ ns.drop (k + 1), OffB (w.heap.size + 1) x := fun x hx => OffB.blk (HO.out.px x (hmem x hx)) B4
    have b1s := HB1N.out.setCell (p := ⟨gD, 2, none⟩) hgD1 (.slice A3 (k + 0) c3)
    have F := HO.out.piece (xs := ns.take k ++ ns.drop (k + 1)) (by rw [layCells_append, HX.out]; exact HON.out.setCell HN3.out _) hmem b1s (Nat.le_refl _)
    have n1 : (Value.slice A3 (k + 0) c3).ownBlock ≠ some (w.heap.size + 1) := fun e => by have := (HON.out.lt _ e).1; have := B4.lt; omega
    have hbn := HBW.out.trans (b1s.mono HBW.out.size)
    have hz2 : w.heap.size ≤ w.heap.size + 1 := by omega
    refine ⟨A3, c3, ns.take k ++ ns.drop (k + 1), by rw [HX.out], ?_, by rw [← List.eraseIdx_eq_take_drop_succ, lsOf_erase, HNS.out], ((hbn.setCell hz2 _).setCell hz2 _).setCell hz2 _⟩
    rw [HX.out]
    exact (((F.farB n1 hoff _).farB n1 hoff _).farB n1 hoff _).mono HBW.out.size
  · obtain ⟨m, hm⟩ : ∃ m, ns.length = k + 1 + m := ⟨ns.length - (k + 1), by omega⟩
    go_upto_region 4 with (at_builtin; refine wpList_append_S rfl (.tmp 9) (.tmp 13) 22 22 rfl (w1.heap.size) 29 i0 _ 9 96 Tryz.underlying22 hi hz0 hz1 hz2 rfl (by decide) (.slice none 0 0) (0) ([]) rfl (Own.nil _ _ _) (by intro u hu; cases hu) (k) (layCells (ns.take k)) (Reads.src Tryz.underlying22 HR1.out (by decide) (layCells_one _) _) (k) (by omega) (layCells (ns.take k)) (rfl) (by unfold maxLen; omega) (by omega) (by first | omega | (simp; omega)) ?_; intro A2 c2 wa howna hga hata)
    have bWa : Below W2.heap.size W2 wa := (Below.refl W2.heap.size W2).grown hga (Nat.le_refl _) (fun g' e => by cases e)
    have HDA := Lib.hid (HD.out.below bWa HD.out.lt)
    have HDN := Lib.hid (show some gD ≠ (Value.slice A2 k c2).ownBlock from fun e => by
      rcases hata with h | h
      · rw [h] at e; cases e
      · rw [h] at e; injection e with e; have := HD.out.lt; omega)
    have HOA := Lib.hid howna
    have HBA := Lib.hid (HB2.out.trans (bWa.mono HB2.out.size))
    have cD := (HD.out.below bWa HD.out.lt).cell
    have HR2 := Lib.hid (show Reads wa wa.heap.size 9 (some ⟨g, off + (k + 1) * 9, none⟩) (m) (layCells (ns.drop (k + 1))) from ((HO.out.lays.1.below HBA.out (Nat.le_refl _)).more HBA.out.size).tail (k + 1) m (by omega))
    have hzA : w1.heap.size ≤ wa.heap.size := HBA.out.size
    clear howna hga hata bWa cD2
    go_wp2_with (at_builtin; refine wpList_append_S rfl (.tmp 15) (.tmp 20) 22 22 rfl (w1.heap.size) 29 i0 _ 9 96 Tryz.underlying22 hi hz0 hz1 hz2 rfl (by decide) (.slice A2 k c2) (k) (layCells (ns.take k)) rfl (HOA.out) (layCells_one _) (m) (layCells (ns.drop (k + 1))) (Reads.src Tryz.underlying22 HR2.out (by decide) (layCells_one _) _) (k + m) (by omega) (layCells (ns.take k) ++ layCells (ns.drop (k + 1))) (rfl) (by unfold maxLen; omega) (by omega) (by first | omega | (simp; omega)) ?_; intro A3 c3 wn hownn hgn hatn; have HDm := HDA.out.grown hgn HDN.out; have cDm := HDm.cell; have fDm := HDm.free; have lDm := HDm.lt; have b1m : Below w1.heap.size w1 wn := HBA.out.grown hgn hzA (fun g' e => (HOA.out.lt g' e).1); have B4m := B4.below b1m B4.lt; have c4m := B4m.cell; have f4m := B4m.free; have l4m := B4m.lt)
    have b1n : Below w1.heap.size w1 wn := HBA.out.grown hgn hzA (fun g' e => (HOA.out.lt g' e).1)
    have hxs : (ns.take k ++ ns.drop (k + 1)).length = k + m := by rw [List.length_append, List.length_take, List.length_drop]; omega
    have HX := Lib.hid hxs
    have HON := Lib.hid hownn
    have HB1N := Lib.hid b1n
    have b4n := B4.below b1n B4.lt
    have HDn := Lib.hid (HDA.out.grown hgn HDN.out)
    have HN3 := Lib.hid (show (Value.slice A3 (k + m) c3).ownBlock ≠ some gD from fun e => by
      rcases hatn with h | h
      · exact HDN.out (e.symm.trans h)
      · rw [h] at e; injection e with e; have := HDA.out.lt; omega)
    clear hownn hgn hatn b1n
    refine bodyPost_ret (v := .agg #[.int .i64 W, .int .i64 H, .slice A3 (k + m) c3]) (by simp [results, Tryz.results18, go_sem, b4n.cell]) rfl ?_
    have hmem : ∀ x ∈ ns.take k ++ ns.drop (k + 1), x ∈ ns := fun x hx => by
      rcases List.mem_append.1 hx with h | h
      · exact List.mem_of_mem_take h
      · exact List.mem_of_mem_drop h
    have hoff : ∀ x ∈ ns.take k ++ ns.drop (k + 1), OffB (w.heap.size + 1) x := fun x hx => OffB.blk (HO.out.px x (hmem x hx)) B4
    have b1s := HB1N.out.setCell (p := ⟨gD, 2, none⟩) hgD1 (.slice A3 (k + m) c3)
    have F := HO.out.piece (xs := ns.take k ++ ns.drop (k + 1)) (by rw [layCells_append, HX.out]; exact HON.out.setCell HN3.out _) hmem b1s (Nat.le_refl _)
    have n1 : (Value.slice A3 (k + m) c3).ownBlock ≠ some (w.heap.size + 1) := fun e => by have := (HON.out.lt _ e).1; have := B4.lt; omega
    have hbn := HBW.out.trans (b1s.mono HBW.out.size)
    have hz2 : w.heap.size ≤ w.heap.size + 1 := by omega
    refine ⟨A3, c3, ns.take k ++ ns.drop (k + 1), by rw [HX.out], ?_, by rw [← List.eraseIdx_eq_take_drop_succ, lsOf_erase, HNS.out], ((hbn.setCell hz2 _).setCell hz2 _).setCell hz2 _⟩
    rw [HX.out]
    exact (((F.farB n1 hoff _).farB n1 hoff _).farB n1 hoff _).mono HBW.out.size
end Go.Proofs.YtmknacnmdlcieaaGreatDoor
/- Layers that are put together anew: what a slice made since holds. -/
namespace Go.Proofs.YtmknacnmdlcieaaGreatDoor
open Go Go.RowKit

/-- Layers in a slice made since; their pixels were there before. -/
theorem LaysO.ofPx {w w' : World} {base' : Nat} {v' : Value} {xs : List LM} (hp : ∀ m ∈ xs, Reads w w.heap.size 4 m.A m.n (pxCells m.l.ps)) (ho : Own w' base' 9 v' xs.length (layCells xs)) (hb : Below w.heap.size w w') (hB : w.heap.size ≤ base') : LaysO w' base' v' xs :=
  ⟨ho, fun m hm => ((hp m hm).below hb (Nat.le_refl _)).more hb.size, fun m hm b off e hn e2 => by
    obtain ⟨b', o', e', hb', _⟩ := (hp m hm).2 (by omega)
    rw [e] at e'
    injection e' with e'
    injection e' with e' _
    have := (ho.lt _ e2).1
    omega⟩
/-- A layer moved. -/
def movedL {α : Type} (l : List α) (at_ to : Nat) (x : α) : List α := (l.eraseIdx at_).take to ++ [x] ++ (l.eraseIdx at_).drop to
theorem lsOf_moved (es : List LM) (x : LM) (ls : List Lay.Layer) (k to : Nat) (h : lsOf es = ls.eraseIdx k) : lsOf (es.take to ++ [x] ++ es.drop to) = movedL ls k to x.l := by
  unfold movedL
  rw [← h]
  simp [lsOf, List.map_take, List.map_drop]
end Go.Proofs.YtmknacnmdlcieaaGreatDoor
/- layer.own of a document that may have no layers; a picture's clone that may be none. -/
namespace Go.Proofs.YtmknacnmdlcieaaGreatDoor
open Go Go.RowKit

/-- Nothing, or a whole address. -/
def AddrOk (A : Option Addr) : Prop := A = none ∨ ∃ b off, A = some ⟨b, off, none⟩
theorem Own.addrOk {w : World} {base size n m c : Nat} {A : Option Addr} {xs : List Value} (h : Own w base size (.slice A m c) n xs) : AddrOk A := by
  rcases h.2 with ⟨e, _⟩ | ⟨g, off, cap, e, _⟩
  · injection e with e
    exact .inl e
  · injection e with e
    exact .inr ⟨g, off, e⟩
/-- Clone of no layers. -/
theorem cloneLay_none (A : Option Addr) (c : Nat) (w : World) (hA : AddrOk A) :
    Calls Tryz.prog 52 #[.slice A 0 c] w fun e w' => ∃ A' c', e = .returned (.slice A' 0 c') ∧ LaysO w' w.heap.size (.slice A' 0 c') [] ∧ Below w.heap.size w w' := by
  rcases hA with rfl | ⟨b, off, rfl⟩
  · have hnil := @Lib.run_eql_slice_nil Tryz.prog
    go_enter Tryz.func52, Tryz.ntmps52
    go_wp2_with fail
    go_ret
    exact ⟨none, 0, rfl, LaysO.nil _ _, Below.refl _ _⟩
  · exact cloneLay_any b off 0 c [] w ⟨⟨by simp [layCells], fun h => absurd h (by omega)⟩, fun m hm => by cases hm⟩ (by omega)
/-- Clone of pixels, or of none. -/
theorem clonePx_all (A : Option Addr) (n c : Nat) (l : List Px) (w : World) (hA : AddrOk A) (h : Reads w w.heap.size 4 A n (pxCells l)) (hn : n ≤ 1048576) :
    Calls Tryz.prog 33 #[.slice A n c] w fun e w' => ∃ A' c', e = .returned (.slice A' n c') ∧ Own w' w.heap.size 4 (.slice A' n c') n (pxCells l) ∧ Below w.heap.size w w' := by
  rcases hA with rfl | ⟨b, off, rfl⟩
  · have hl : n = 0 := by
      rcases Nat.eq_zero_or_pos n with h0 | h0
      · exact h0
      · obtain ⟨_, _, e, _⟩ := h.2 (by omega)
        cases e
    subst hl
    have hl : l = [] := List.eq_nil_of_length_eq_zero h.pxLen.symm
    subst hl
    have hnil := @Lib.run_eql_slice_nil Tryz.prog
    go_enter Tryz.func33, Tryz.ntmps33
    go_wp2_with fail
    go_ret
    exact ⟨none, 0, rfl, Own.nil _ _ _, Below.refl _ _⟩
  · exact clonePx_any b off n c l w h hn

set_option maxRecDepth 100000 in
set_option maxHeartbeats 4000000 in
theorem ownDoc_none (W H : Int) (A : Option Addr) (c : Nat) (w : World) (hA : AddrOk A) :
    Calls Tryz.prog 32 #[.agg #[.int .i64 W, .int .i64 H, .slice A 0 c]] w
      fun e w' => ∃ A' c', e = .returned (.agg #[.int .i64 W, .int .i64 H, .slice A' 0 c']) ∧ LaysO w' w.heap.size (.slice A' 0 c') [] ∧ Below w.heap.size w w' := by
  have HA := Lib.hid hA
  clear hA
  go_enter Tryz.func32, Tryz.ntmps32
  go_wp2_with fail
  refine (cloneLay_none A c _ HA.out).mono ?_
  rintro e w1 ⟨A', c', rfl, hO, hb1⟩
  have B1 := ((Blk.new w 39 #[.int .i64 W, .int .i64 H, .slice A 0 c] rfl).alloc (.cells #[.int .i64 0, .int .i64 0, .slice none 0 0] 39)).below hb1 (by simp; omega)
  have B2 := (Blk.new (w.alloc (.cells #[.int .i64 W, .int .i64 H, .slice A 0 c] 39)) 39 #[.int .i64 0, .int .i64 0, .slice none 0 0] rfl).below hb1 (by simp)
  have hbw : Below w.heap.size w w1 := Below.trans (by go_grown) (hb1.mono (by simp; omega))
  simp at B2
  have c1 := B1.cell
  have f1 := B1.free
  have c2 := B2.cell
  have f2 := B2.free
  have l1 := B1.lt
  have l2 := B2.lt
  have hne : ¬ w.heap.size + 1 = w.heap.size := by omega
  have HO := Lib.hid hO
  have HN := Lib.hid (show ∀ p : Addr, p.block = w.heap.size ∨ p.block = w.heap.size + 1 → (Value.slice A' 0 c').ownBlock ≠ some p.block from fun p hp e => by have := (hO.own.lt _ e).1; simp at this; omega)
  clear hO hb1
  go_wp2_with fail
  go_loopw [11] (fun i wr => i = .int .i64 0 ∧ wr = w1.setCell ⟨w.heap.size, 2, none⟩ (.slice A' 0 c')) (fun _ _ => 0)
  case atStart => exact ⟨rfl, rfl⟩
  case round =>
    obtain ⟨rfl, rfl⟩ := hrel
    have d1 := B1.set_ 2 (.slice A' 0 c')
    have d2 := (B2.far (p := ⟨w.heap.size, 2, none⟩) (by simp) (.slice A' 0 c'))
    go_wp2_with fail
    refine bodyPost_ret (v := .agg #[.int .i64 W, .int .i64 H, .slice A' 0 c']) (by simp [results, Tryz.results32, go_sem, c2]) rfl ⟨A', c', rfl, ?_, ?_⟩
    · have hm : ∀ (p : Addr), ∀ m ∈ ([] : List LM), OffB p.block m := fun p m hm => by cases hm
      exact ((((HO.out.farB (p := ⟨w.heap.size, 2, none⟩) (HN.out _ (.inl rfl)) (hm _) _).farB (p := ⟨w.heap.size + 1, 0, none⟩) (HN.out _ (.inr rfl)) (hm _) _).farB (p := ⟨w.heap.size + 1, 1, none⟩) (HN.out _ (.inr rfl)) (hm _) _).farB (p := ⟨w.heap.size + 1, 2, none⟩) (HN.out _ (.inr rfl)) (hm _) _).mono (by simp; omega)
    · exact (((hbw.setCell (by show w.heap.size ≤ w.heap.size; omega) _).setCell (by show w.heap.size ≤ w.heap.size + 1; omega) _).setCell (by show w.heap.size ≤ w.heap.size + 1; omega) _).setCell (by show w.heap.size ≤ w.heap.size + 1; omega) _
theorem ownDoc_all (W H : Int) (A : Option Addr) (n c : Nat) (ms : List LM) (w : World) (hA : AddrOk A) (hL : Lays w w.heap.size A n ms) (hn : n ≤ 4096) (hp : ∀ m ∈ ms, 0 < m.n ∧ m.n ≤ 1048576) :
    Calls Tryz.prog 32 #[.agg #[.int .i64 W, .int .i64 H, .slice A n c]] w
      fun e w' => ∃ A' c' ns, e = .returned (.agg #[.int .i64 W, .int .i64 H, .slice A' ns.length c']) ∧ LaysO w' w.heap.size (.slice A' ns.length c') ns ∧ lsOf ns = lsOf ms ∧ Below w.heap.size w w' := by
  rcases Nat.eq_zero_or_pos n with rfl | h0
  · have hms : ms = [] := List.eq_nil_of_length_eq_zero hL.len.symm
    subst hms
    exact (ownDoc_none W H A c w hA).mono fun e w' ⟨A', c', he, hO, hb⟩ => ⟨A', c', [], he, hO, rfl, hb⟩
  · obtain ⟨b, off, rfl, _⟩ := hL.1.addr (by omega)
    exact (ownDoc_any W H b off n c ms w hL hn hp h0).mono fun e w' ⟨g, o, c', ns, he, hO, hs, hb⟩ => ⟨_, c', ns, he, hO, hs, hb⟩
end Go.Proofs.YtmknacnmdlcieaaGreatDoor
/- layer.Add: the walk. -/
namespace Go.Proofs.YtmknacnmdlcieaaGreatDoor
open Go Go.RowKit

/-- No pixels lie in a block that holds a layer. -/
theorem OffB.lay {w : World} {B g T : Nat} {m m' : LM} (h : Reads w B 4 m.A m.n (pxCells m.l.ps)) (hb : Blk w g T (layCs m').toArray) : OffB g m := by
  intro b' off' e hn e2
  subst e2
  rw [e] at h
  have hpl := h.pxLen
  have h0 := (h.px 0 (by omega)).1
  rw [Nat.zero_mul, Nat.add_zero, hb.cell] at h0
  match off', h0 with
  | 0, h0 | 1, h0 | 2, h0 | 3, h0 | 4, h0 | 5, h0 | 6, h0 | 7, h0 | 8, h0 => simp [layCs] at h0
  | k + 9, h0 => simp [layCs] at h0
def layV (m : LM) : Value := .agg (layCs m).toArray
set_option maxRecDepth 100000 in
set_option maxHeartbeats 2000000 in
theorem add_bad (W H : Int) (A : Option Addr) (n c : Nat) (m : LM) (ms : List LM) (E : Nat → Addr) (f : Nat × Int) (w : World) (hE : ErrsAt w E) (hL : Lays w w.heap.size A n ms) (hf : Lay.check W H (lsOf ms) = f) (h0 : f.1 ≠ 0) :
    Calls Tryz.prog 9 #[.agg #[.int .i64 W, .int .i64 H, .slice A n c], layV m] w (BadPost E f w) := by
  have HF := Lib.hid hf
  have H0 := Lib.hid h0
  have HE := Lib.hid hE
  have hb0 : ∀ o o2 o3, Below w.heap.size w (((w.alloc o).alloc o2).alloc o3) := fun o o2 o3 => by go_grown
  have HL := Lib.hid hL
  have HB0 := Lib.hid hb0
  clear hf h0 hE hL hb0
  unfold layV layCs
  go_enter Tryz.func9, Tryz.ntmps9
  go_wp2_with fail
  refine (check_any W H A n c ms E _ (HE.out.below (HB0.out _ _ _)) (HL.out.step (HB0.out _ _ _))).mono ?_
  rw [HF.out]
  rintro e w1 ⟨v, rfl, hv, hb1⟩
  have B2 := (Blk.new ((w.alloc (.cells #[.int .i64 W, .int .i64 H, .slice A n c] 39)).alloc (.cells (layCs m).toArray 45)) 39 #[.int .i64 0, .int .i64 0, .slice none 0 0] rfl).below hb1 (by simp [layCs])
  simp at B2
  have c2 := B2.cell
  have f2 := B2.free
  have hbw : Below w.heap.size w w1 := Below.trans (HB0.out _ _ _) (hb1.mono (by simp; omega))
  have HV := Lib.hid hv
  have l2 := B2.lt
  have hz2 : w.heap.size ≤ w.heap.size + 1 + 1 := by omega
  clear hv hb1
  rcases HV.out.iface H0.out with ⟨a, rfl⟩ | ⟨b, rfl⟩
  · go_wp2_with fail
    exact bodyPost_ret (v := .tuple #[.agg #[.int .i64 0, .int .i64 0, .slice none 0 0], .iface 143 (.pointer (some a))]) (by simp [results, Tryz.results9, go_sem, c2]) rfl ⟨_, rfl, HV.out.zero3 B2 rfl _ _ _, ((hbw.setCell hz2 _).setCell hz2 _).setCell hz2 _⟩
  · go_wp2_with fail
    exact bodyPost_ret (v := .tuple #[.agg #[.int .i64 0, .int .i64 0, .slice none 0 0], .iface 78 (.pointer (some ⟨b, 0, none⟩))]) (by simp [results, Tryz.results9, go_sem, c2]) rfl ⟨_, rfl, HV.out.zero3 B2 rfl _ _ _, ((hbw.setCell hz2 _).setCell hz2 _).setCell hz2 _⟩

/-- What Add gives at a good document: the document with a layer more, or why not. -/
def AddPost (W H : Int) (ls : List Lay.Layer) (E : Nat → Addr) (f : Nat × Int) (w : World) (e : Ending) (w' : World) : Prop :=
  (f.1 = 0 → DocNew W H w.heap.size ls w e w') ∧ (f.1 ≠ 0 → BadPost E f w e w')
set_option maxRecDepth 100000 in
set_option maxHeartbeats 4000000 in
theorem add_good (W H : Int) (A : Option Addr) (n c : Nat) (m : LM) (ms : List LM) (E : Nat → Addr) (f : Nat × Int) (w : World) (hA : AddrOk A) (hmA : AddrOk m.A) (hE : ErrsAt w E) (hL : Lays w w.heap.size A n ms) (hm : Reads w w.heap.size 4 m.A m.n (pxCells m.l.ps)) (hmn : m.n ≤ 1048576)
    (hG : Lay.Good W H (lsOf ms)) (hf : Lay.check W H (lsOf ms ++ [m.l]) = f) :
    Calls Tryz.prog 9 #[.agg #[.int .i64 W, .int .i64 H, .slice A n c], layV m] w (AddPost W H (lsOf ms ++ [m.l]) E f w) := by
  obtain ⟨i0, hi, hz0, hz1, hz2⟩ := info_parts layInfo
  have hok := layOK_of hG hL
  have hn8 : n ≤ 8 := by have := hG.n; rw [lsOf_len] at this; rw [hL.len]; exact this
  have hp : ∀ m ∈ ms, 0 < m.n ∧ m.n ≤ 1048576 := by
    intro m hm
    have h := hok m hm
    obtain ⟨h1, h2⟩ := h.wd
    obtain ⟨h3, h4⟩ := h.hg
    have h5 := h.n
    obtain ⟨z1, z2⟩ := mul_bounds (show 0 ≤ m.l.wide by omega) h2 (show 0 ≤ m.l.high by omega) h4
    have z3 := Int.mul_le_mul h1 h3 (by omega) (by omega)
    omega
  have HF := Lib.hid hf
  have HG := Lib.hid hG
  have HP := Lib.hid hp
  have HE := Lib.hid hE
  have HM := Lib.hid hm
  have HLN := Lib.hid hL.len
  have hb0 : ∀ o o2 o3, Below w.heap.size w (((w.alloc o).alloc o2).alloc o3) := fun o o2 o3 => by go_grown
  have HL := Lib.hid hL
  have HB0 := Lib.hid hb0
  clear hf hG hE hL hb0 hok hp hm
  unfold layV layCs
  go_enter Tryz.func9, Tryz.ntmps9
  go_wp2_with fail
  refine (check_good W H A n c ms _ (HL.out.step (HB0.out _ _ _)) HG.out).mono ?_
  rintro e w1 ⟨rfl, hb1⟩
  have B0 := (((Blk.new w 39 #[.int .i64 W, .int .i64 H, .slice A n c] rfl).alloc (.cells (layCs m).toArray 45)).alloc (.cells #[.int .i64 0, .int .i64 0, .slice none 0 0] 39)).below hb1 (by simp; omega)
  have B1 := ((Blk.new (w.alloc (.cells #[.int .i64 W, .int .i64 H, .slice A n c] 39)) 45 (layCs m).toArray rfl).alloc (.cells #[.int .i64 0, .int .i64 0, .slice none 0 0] 39)).below hb1 (by simp)
  have B2 := (Blk.new ((w.alloc (.cells #[.int .i64 W, .int .i64 H, .slice A n c] 39)).alloc (.cells (layCs m).toArray 45)) 39 #[.int .i64 0, .int .i64 0, .slice none 0 0] rfl).below hb1 (by simp)
  simp at B1 B2
  have hbw : Below w.heap.size w w1 := Below.trans (HB0.out _ _ _) (hb1.mono (by simp; omega))
  have l1 := B1.lt
  have l2 := B2.lt
  have c0 := B0.cell
  clear hb1
  go_wp2_with fail
  refine (ownDoc_all W H A n c ms w1 hA ((HL.out.below hbw (Nat.le_refl _)).more hbw.size) (by omega) HP.out).mono ?_
  rintro e w2 ⟨A', c', ns, rfl, hO, hns, hb2⟩
  have hnl : ns.length = n := by rw [same_lays hns, HLN.out]
  have HNL := Lib.hid hnl
  have HNS := Lib.hid hns
  have HO := Lib.hid hO
  have q8 : w2.cell? ⟨w.heap.size + 1, 8, none⟩ = some (.slice m.A m.n m.c) := ((B1.below hb2 B1.lt).cell 8).trans rfl
  have l8 := (B1.below hb2 B1.lt).lt
  have HLT := Lib.hid (fun (g : Nat) (hg : (Value.slice A' ns.length c').ownBlock = some g) => (HO.out.own.lt g hg).2)
  clear c0 hO hnl hns
  go_wp2_with fail
  obtain ⟨W3, hW3⟩ : ∃ W3, W3 = w2.alloc (.cells #[.int .i64 W, .int .i64 H, .slice A' ns.length c'] 39) := ⟨_, rfl⟩
  obtain ⟨gO, hgO⟩ : ∃ gO, gO = w2.heap.size := ⟨_, rfl⟩
  have b23 : Below w2.heap.size w2 W3 := by rw [hW3]; exact Below.alloc (Below.refl _ _) (Nat.le_refl _) _
  have b13 := hb2.trans (b23.mono hb2.size)
  have C1 := B1.below b13 B1.lt
  have C2 := B2.below b13 B2.lt
  have CO : Blk W3 gO 39 #[.int .i64 W, .int .i64 H, .slice A' ns.length c'] := by rw [hW3, hgO]; exact Blk.new _ _ _ rfl
  have HO3 := Lib.hid (HO.out.below b23 (Nat.le_refl _))
  have HBW := Lib.hid (hbw.trans (b13.mono hbw.size))
  have hgl : w1.heap.size ≤ gO := by rw [hgO]; exact hb2.size
  have HLO := Lib.hid (fun (g : Nat) (hg : (Value.slice A' ns.length c').ownBlock = some g) => (show g < gO by rw [hgO]; exact HLT.out g hg))
  have hgs : gO < W3.heap.size := CO.lt
  have HC1 := Lib.hid C1
  have HC2 := Lib.hid C2
  have HCO := Lib.hid CO
  rw [← hW3, ← hgO]
  clear hW3 hgO B0 B1 B2 hbw hb2 C1 C2 CO b13 b23
  refine (clonePx_all m.A m.n m.c m.l.ps W3 hmA ((HM.out.below HBW.out (Nat.le_refl _)).more HBW.out.size) hmn).mono ?_
  rintro e w4 ⟨Ap, cp, rfl, hop, hb4⟩
  have k1 := (HC1.out.below hb4 HC1.out.lt)
  have e1 : ∀ i, w4.cell? ⟨w.heap.size + 1, i, none⟩ = (#[.string m.l.name, .int .i64 m.l.x, .int .i64 m.l.y, .bool m.l.hidden, .int .i64 m.l.opacity, .int .i64 m.l.mode, .int .i64 m.l.wide, .int .i64 m.l.high, .slice m.A m.n m.c] : Array Value)[i]? := k1.cell
  have f1 := k1.free
  have g1 := k1.lt
  clear q8
  go_upto_region 6 with fail
  obtain ⟨W5, hW5⟩ : ∃ W5, W5 = w4.setCell ⟨w.heap.size + 1, 8, none⟩ (.slice Ap m.n cp) := ⟨_, rfl⟩
  have D1 : Blk W5 (w.heap.size + 1) 45 (layCs ⟨m.l, Ap, m.n, cp⟩).toArray := by rw [hW5]; have := k1.set_ 8 (.slice Ap m.n cp); simpa [layCs] using this
  have D2 : Blk W5 (w.heap.size + 1 + 1) 39 #[.int .i64 0, .int .i64 0, .slice none 0 0] := by rw [hW5]; exact (HC2.out.below hb4 HC2.out.lt).far (by simp) _
  have DO : Blk W5 gO 39 #[.int .i64 W, .int .i64 H, .slice A' ns.length c'] := by rw [hW5]; exact (HCO.out.below hb4 HCO.out.lt).far (by simp; omega) _
  have hO4 := HO3.out.below hb4 (Nat.le_refl _)
  have O5 : LaysO W5 w1.heap.size (.slice A' ns.length c') ns := by
    rw [hW5]
    exact hO4.farB (fun e => by have := (hO4.own.lt _ e).1; simp only at this; omega) (fun x hx => OffB.lay (hO4.px x hx) k1) _
  have hw4 : W3.heap.size ≤ w4.heap.size := hb4.size
  have hs5 : W5.heap.size = w4.heap.size := by rw [hW5]; simp [World.setCell]
  have hop5 : Own W5 W3.heap.size 4 (.slice Ap m.n cp) m.n (pxCells m.l.ps) := by
    rw [hW5]
    exact hop.setCell (fun e => by have := (hop.lt _ e).1; simp only at this; omega) _
  have P5 : Reads W5 W5.heap.size 4 Ap m.n (pxCells m.l.ps) := hop5.reads.2
  have hoff5 : OffAt Ap m.n (.slice A' ns.length c') := fun b o e hn e2 => by
    rw [e] at hop5
    have h1 := (hop5.lt b rfl).1
    have h2 := HLO.out b e2
    omega
  have b5 : Below w.heap.size w W5 := by rw [hW5]; exact ((HBW.out.trans (hb4.mono HBW.out.size)).setCell (by show w.heap.size ≤ w.heap.size + 1; omega) _)
  rw [← hW5]
  have hg5 : gO < W5.heap.size := DO.lt
  have hsz5 : w1.heap.size ≤ W5.heap.size := by omega
  have HO5 := Lib.hid O5
  have HP5 := Lib.hid P5
  have HF5 := Lib.hid hoff5
  have HB5 := Lib.hid b5
  have HD2 := Lib.hid D2
  have HDO := Lib.hid DO
  have hns4 : ns.length ≤ 4096 := by have := HNL.out; omega
  clear hW5 k1 e1 f1 hO4 O5 hop hop5 P5 hoff5 b5 hb4 hs5
  have r0 : ∀ i, W5.cell? ⟨w.heap.size + 1, i, none⟩ = (#[.string m.l.name, .int .i64 m.l.x, .int .i64 m.l.y, .bool m.l.hidden, .int .i64 m.l.opacity, .int .i64 m.l.mode, .int .i64 m.l.wide, .int .i64 m.l.high, .slice Ap m.n cp] : Array Value)[i]? := D1.cell
  have ro := DO.cell
  have hlD := D1.lt
  clear D1 DO D2
  go_wp2_with (at_builtin; refine wpList_append_S rfl (.tmp 24) (.tmp 26) 37 37 rfl (w1.heap.size) 45 i0 _ 9 96 Tryz.underlying37 hi hz0 hz1 hz2 rfl (by decide) (.slice A' ns.length c') (ns.length) (layCells ns) rfl (HO5.out.own.alloc _) (layCells_one _) (1) (layCs ⟨m.l, Ap, m.n, cp⟩) (Src.made Tryz.underlying37 (by first | rfl | simp) rfl (by intro u hu; exact layCells_one [⟨m.l, Ap, m.n, cp⟩] u (by rw [layCells_single]; exact hu))) (ns.length + 1) (by omega) (layCells ns ++ layCs ⟨m.l, Ap, m.n, cp⟩) (rfl) (by unfold maxLen; omega) (by omega) (by simp; omega) ?_; intro A2 c2 wn hownn hgn hatn; have n3 : some gO ≠ (Value.slice A' ns.length c').ownBlock := (fun e => by have := HLO.out _ e.symm; omega); have kO := (HDO.out.alloc (.cells (layCs ⟨m.l, Ap, m.n, cp⟩).toArray 45)).grown hgn n3; have ko := kO.cell; have kf := kO.free; have kl := kO.lt)
  have O6 := (HO5.out.alloc (.cells (layCs ⟨m.l, Ap, m.n, cp⟩).toArray 45)).snoc (m := ⟨m.l, Ap, m.n, cp⟩) hownn hgn hatn ((HP5.out.alloc (Nat.le_refl _) _).more (by simp)) HF5.out
  have n7 : ∀ G, G ≠ W5.heap.size + 1 → (∀ g, (Value.slice A' ns.length c').ownBlock = some g → g ≠ G) → (Value.slice A2 (ns.length + 1) c2).ownBlock ≠ some G := fun G h1 h2 e => by
    rcases hatn with h | h
    · exact h2 G (h.symm.trans e) rfl
    · have h3 := h.symm.trans e
      injection h3 with h3
      exact h1 (by rw [← h3]; simp)
  have nO : (Value.slice A2 (ns.length + 1) c2).ownBlock ≠ some gO := n7 gO (by omega) (fun g hg => by have := HLO.out g hg; omega)
  have hwn : W5.heap.size ≤ wn.heap.size := by have := hgn.size; simp at this; omega
  have b6 : Below w.heap.size w wn := (HB5.out.alloc (by have := HB5.out.size; omega) (.cells (layCs ⟨m.l, Ap, m.n, cp⟩).toArray 45)).grown hgn (by have := HB5.out.size; simp; omega) (fun g hg => by have := (HO5.out.own.lt g hg).1; omega)
  have k2 := (HD2.out.alloc (.cells (layCs ⟨m.l, Ap, m.n, cp⟩).toArray 45)).grown hgn (fun e => by have := (HO5.out.own.lt _ e.symm).1; omega)
  obtain ⟨W7, hW7⟩ : ∃ W7, W7 = wn.setCell ⟨gO, 2, none⟩ (.slice A2 (ns.length + 1) c2) := ⟨_, rfl⟩
  have O7 : LaysO W7 w1.heap.size (.slice A2 (ns.length + 1) c2) (ns ++ [⟨m.l, Ap, m.n, cp⟩]) := by rw [hW7]; exact O6.farB nO (fun x hx => OffB.blk (O6.px x hx) kO) _
  have K7 : Blk W7 gO 39 #[.int .i64 W, .int .i64 H, .slice A2 (ns.length + 1) c2] := by rw [hW7]; have := kO.set_ 2 (.slice A2 (ns.length + 1) c2); simpa using this
  have J7 : Blk W7 (w.heap.size + 1 + 1) 39 #[.int .i64 0, .int .i64 0, .slice none 0 0] := by rw [hW7]; exact k2.far (by simp; omega) _
  have b7 : Below w.heap.size w W7 := by rw [hW7]; exact b6.setCell (by have := HB5.out.size; show w.heap.size ≤ gO; omega) _
  have HL7 := Lib.hid (show Lays W7 W7.heap.size A2 (ns.length + 1) (ns ++ [⟨m.l, Ap, m.n, cp⟩]) from O7.lays)
  have HO7 := Lib.hid O7
  have HK7 := Lib.hid K7
  have HJ7 := Lib.hid J7
  have HB7 := Lib.hid b7
  have HN2 := Lib.hid (show (Value.slice A2 (ns.length + 1) c2).ownBlock ≠ some (w.heap.size + 1 + 1) from fun e => by have := (O7.own.lt _ e).1; omega)
  have HLS := Lib.hid (show lsOf (ns ++ [⟨m.l, Ap, m.n, cp⟩]) = lsOf ms ++ [m.l] by
    have := HNS.out
    simp only [lsOf, List.map_append] at this ⊢
    rw [this]
    rfl)
  rw [← hW7]
  have q7 := K7.cell
  clear hW7 hownn hgn hatn ko kf kl kO r0 ro O6 O7 K7 J7 b7 b6 k2 n7 nO n3
  go_wp2_with fail
  refine (check_any W H A2 (ns.length + 1) c2 (ns ++ [⟨m.l, Ap, m.n, cp⟩]) E W7 (HE.out.below HB7.out) HL7.out).mono ?_
  rw [HLS.out, HF.out]
  rintro e w8 ⟨v, rfl, hv, hb8⟩
  have K8 := HK7.out.below hb8 HK7.out.lt
  have J8 := HJ7.out.below hb8 HJ7.out.lt
  have O8 := HO7.out.below hb8 (Nat.le_refl _)
  have hbw8 := HB7.out.trans (hb8.mono HB7.out.size)
  have c8 := K8.cell
  have d8 := J8.cell
  have g8 := J8.free
  have l8' := J8.lt
  have hz2 : w.heap.size ≤ w.heap.size + 1 + 1 := by omega
  have HV := Lib.hid hv
  have HO8 := Lib.hid O8
  clear q7 hv hb8 O8
  by_cases h0 : f.1 = 0
  · have hvn : v = .nilIface := by
      have h := HV.out
      unfold ErrIs at h
      rw [if_pos h0] at h
      exact h
    subst hvn
    go_wp2_with fail
    refine bodyPost_ret (v := .tuple #[.agg #[.int .i64 W, .int .i64 H, .slice A2 (ns.length + 1) c2], .nilIface]) (by simp [results, Tryz.results9, go_sem, d8]) rfl ⟨fun _ => ⟨A2, c2, ns ++ [⟨m.l, Ap, m.n, cp⟩], by rw [List.length_append, List.length_singleton], ?_, HLS.out, ?_⟩, fun h => absurd h0 h⟩
    · rw [List.length_append, List.length_singleton]
      have hoff : ∀ x ∈ ns ++ [⟨m.l, Ap, m.n, cp⟩], OffB (w.heap.size + 1 + 1) x := fun x hx => OffB.blk (HO8.out.px x hx) J8
      exact (((HO8.out.farB HN2.out hoff _).farB HN2.out hoff _).farB HN2.out hoff _).mono (by omega)
    · exact ((hbw8.setCell hz2 _).setCell hz2 _).setCell hz2 _
  · rcases HV.out.iface h0 with ⟨a, rfl⟩ | ⟨b, rfl⟩
    · go_wp2_with fail
      exact bodyPost_ret (v := .tuple #[.agg #[.int .i64 0, .int .i64 0, .slice none 0 0], .iface 143 (.pointer (some a))]) (by simp [results, Tryz.results9, go_sem, d8]) rfl ⟨fun h => absurd h h0, fun _ => ⟨_, rfl, HV.out.zero3 J8 rfl _ _ _, ((hbw8.setCell hz2 _).setCell hz2 _).setCell hz2 _⟩⟩
    · go_wp2_with fail
      exact bodyPost_ret (v := .tuple #[.agg #[.int .i64 0, .int .i64 0, .slice none 0 0], .iface 78 (.pointer (some ⟨b, 0, none⟩))]) (by simp [results, Tryz.results9, go_sem, d8]) rfl ⟨fun h => absurd h h0, fun _ => ⟨_, rfl, HV.out.zero3 J8 rfl _ _ _, ((hbw8.setCell hz2 _).setCell hz2 _).setCell hz2 _⟩⟩
end Go.Proofs.YtmknacnmdlcieaaGreatDoor
